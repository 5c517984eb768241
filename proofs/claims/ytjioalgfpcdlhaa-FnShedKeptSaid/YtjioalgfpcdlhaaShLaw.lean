/- laws.FnShedKept over plain lists. By an AI agent. -/
import Derived.Test.YtjioalgfpcdlhaaShSpec
import Derived.Test.YtjioalgfpcdlhaaShx1
import Derived.Test.YtjioalgfpcdlhaaShx8
namespace Go.Proofs.Ytjioalgfpcdlhaa.ShLaw
open Go Go.RowKit Go.Proofs.Ytjioalgfpcdlhaa.Sh Go.Proofs.Ytjioalgfpcdlhaa.ShMain Go.Proofs.Ytjioalgfpcdlhaa.ShSpec Go.Proofs.YtjioalgfpcdlhaaW.PrintWords
set_option linter.unusedVariables false
set_option linter.unusedSimpArgs false
theorem and255 (x : Int) : 0 ≤ Go.bits .and .i64 x 255 ∧ Go.bits .and .i64 x 255 ≤ 255 := by
  have h : (BitVec.ofInt IntKind.i64.bits x &&& BitVec.ofInt IntKind.i64.bits 255).toNat ≤ 255 := by
    rw [BitVec.toNat_and]
    exact Nat.le_trans Nat.and_le_right (by decide)
  have e : Go.bits .and .i64 x 255 = IntKind.i64.wrap ((BitVec.ofInt IntKind.i64.bits x &&& BitVec.ofInt IntKind.i64.bits 255).toNat : Int) := rfl
  rw [e, IntKind.wrap_i64]
  omega
theorem byte_ok (b : List Int) (i h : Int) (hb : b.length ≤ 140737488351232) (hi : 0 ≤ i) : ∃ x i' h', spec_l1Byte.f b i h = some (x, i', h') ∧ 0 ≤ x ∧ x ≤ 255 ∧ 0 ≤ i' := by
  unfold spec_l1Byte.f
  by_cases c : i < (b.length : Int)
  · rw [if_pos c, if_pos hi]
    refine ⟨_, _, _, rfl, (and255 _).1, (and255 _).2, ?_⟩
    rw [w64 (by omega) (by omega)]; omega
  · rw [if_neg c]
    exact ⟨_, _, _, rfl, (and255 _).1, (and255 _).2, hi⟩
theorem below_ok (b : List Int) (i h n : Int) (hb : b.length ≤ 140737488351232) (hi : 0 ≤ i) : ∃ x i' h', spec_l1Below.f b i h n = some (x, i', h') ∧ 0 ≤ x ∧ (0 < n → x < n) ∧ (n ≤ 0 → x = 0) ∧ 0 ≤ i' := by
  unfold spec_l1Below.f
  by_cases c : n ≤ 0
  · rw [if_pos c]; exact ⟨_, _, _, rfl, by omega, by omega, by omega, hi⟩
  · rw [if_neg c]
    by_cases c2 : n ≤ 256
    · rw [if_pos c2]
      obtain ⟨x, i1, h1, e, x0, x1, hi1⟩ := byte_ok b i h hb hi
      rw [e]; simp only [Option.bind_some]; rw [if_neg (by omega)]
      refine ⟨_, _, _, rfl, ?_, fun _ => ?_, by omega, hi1⟩
      · rw [Int.tmod_eq_emod_of_nonneg x0]; exact Int.emod_nonneg _ (by omega)
      · rw [Int.tmod_eq_emod_of_nonneg x0]; exact Int.emod_lt_of_pos _ (by omega)
    · rw [if_neg c2]
      obtain ⟨x, i1, h1, e1, x0, x1, hi1⟩ := byte_ok b i h hb hi
      obtain ⟨y, i2, h2, e2, y0, y1, hi2⟩ := byte_ok b i1 h1 hb hi1
      obtain ⟨z, i3, h3, e3, z0, z1, hi3⟩ := byte_ok b i2 h2 hb hi2
      obtain ⟨v, i4, h4, e4, v0, v1, hi4⟩ := byte_ok b i3 h3 hb hi3
      rw [e1]; simp only [Option.bind_some]
      rw [e2]; simp only [Option.bind_some]
      rw [e3]; simp only [Option.bind_some]
      rw [e4]; simp only [Option.bind_some]
      rw [if_neg (by omega)]
      have p : wrap64 (wrap64 (wrap64 (wrap64 (x * 16777216) + wrap64 (y * 65536)) + wrap64 (z * 256)) + v) = x * 16777216 + y * 65536 + z * 256 + v := by
        rw [w64 (x := x * 16777216) (by omega) (by omega), w64 (x := y * 65536) (by omega) (by omega), w64 (x := z * 256) (by omega) (by omega), w64 (x := x * 16777216 + y * 65536) (by omega) (by omega),
          w64 (x := x * 16777216 + y * 65536 + z * 256) (by omega) (by omega), w64 (by omega) (by omega)]
      have q : 0 ≤ x * 16777216 + y * 65536 + z * 256 + v := by omega
      refine ⟨_, _, _, rfl, ?_, fun _ => ?_, by omega, hi4⟩
      · rw [p, Int.tmod_eq_emod_of_nonneg q]; exact Int.emod_nonneg _ (by omega)
      · rw [p, Int.tmod_eq_emod_of_nonneg q]; exact Int.emod_lt_of_pos _ (by omega)
theorem new_ok (b : List Int) (_hb : b.length ≤ 140737488351232) : ∃ h, Ev (fun k => spec_l1New.f k b) (b, 0, h) := by
  have go : ∀ (d : Nat) (x3 x4 : Int), 0 ≤ x4 → (b.length : Int) - x4 = d → ∃ h, Ev (fun k => spec_l1New.l0 k b x3 x4) (b, 0, h) := by
    intro d
    induction d with
    | zero =>
      intro x3 x4 h0 hd
      refine ⟨x3, Ev.step (fun k => ?_) (Ev.now _)⟩
      simp only [spec_l1New.l0]; rw [if_neg (by omega)]
    | succ d ih =>
      intro x3 x4 h0 hd
      by_cases c : x4 < 4000
      · obtain ⟨h, e⟩ := ih (Go.bits .and .i64 (wrap64 ((wrap64 ((wrap64 (x3 * 131)) + (wrap64 (rd b x4)))) + 7)) 1073741823) (x4 + 1) (by omega) (by omega)
        refine ⟨h, Ev.step (fun k => ?_) e⟩
        simp only [spec_l1New.l0]; rw [if_pos (by omega), if_pos c, if_pos h0, w64 (x := x4 + 1) (by omega) (by omega)]
      · refine ⟨x3, Ev.step (fun k => ?_) (Ev.now _)⟩
        simp only [spec_l1New.l0]; rw [if_pos (by omega), if_neg c]
  obtain ⟨h, e⟩ := go b.length (wrap64 (71933 + (b.length : Int))) 0 (by omega) (by omega)
  exact ⟨h, by unfold spec_l1New.f; exact e⟩
theorem pick_ok (b : List Int) (i h : Int) (l : List Int) (hb : b.length ≤ 140737488351232) (hi : 0 ≤ i) (hl : 0 < l.length) : ∃ x i' h', spec_l1PickInt.f b i h l = some (x, i', h') ∧ x ∈ l ∧ 0 ≤ i' := by
  unfold spec_l1PickInt.f
  obtain ⟨x, i1, h1, e, x0, x1, _, hi1⟩ := below_ok b i h (l.length : Int) hb hi
  rw [e]; simp only [Option.bind_some]
  have hx := x1 (by omega)
  rw [if_pos x0, if_pos hx]
  refine ⟨_, _, _, rfl, ?_, hi1⟩
  unfold rd
  rw [List.getD_eq_getElem?_getD, List.getElem?_eq_getElem (by omega)]
  exact List.getElem_mem _
/-- What is drawn: short lists. -/
theorem drawList_ok (b : List Int) (hb : b.length ≤ 140737488351232) (n : Nat) (hn : n ≤ 100) : ∀ (d i : Nat) (x5 : List S51) (x6 c h : Int), i + d = n → 0 ≤ c → x5.length ≤ i →
    ∃ L c' h', Ev (fun m => spec_l17Draw.l0 m (n : Int) x5 x6 (i : Int) b c h) (L, c', h') ∧ L.length ≤ n ∧ 0 ≤ c' := by
  intro d
  induction d with
  | zero =>
    intro i x5 x6 c h hi hc hx
    refine ⟨x5, c, h, Ev.step (fun m => ?_) (Ev.now _), by omega, hc⟩
    simp only [spec_l17Draw.l0]; rw [if_neg (by omega)]
  | succ d ih =>
    intro i x5 x6 c h hi hc hx
    obtain ⟨v1, c1, h1, e1, _, _, _, hc1⟩ := below_ok b c h 40 hb hc
    obtain ⟨v2, c2, h2, e2, _, _, _, hc2⟩ := below_ok b c1 h1 4 hb hc1
    obtain ⟨v3, c3, h3, e3, _, _, _, hc3⟩ := below_ok b c2 h2 8 hb hc2
    obtain ⟨L, c', h', e, hL, hc'⟩ := ih (i + 1) (x5 ++ [⟨x6, v1, v2⟩]) (wrap64 (x6 + v3)) c3 h3 (by omega) hc3 (by simp; omega)
    refine ⟨L, c', h', Ev.step (fun m => ?_) e, hL, hc'⟩
    simp only [spec_l17Draw.l0]
    rw [if_pos (by omega)]
    simp only [e1, e2, e3, Option.bind_some]
    rw [if_pos (by omega), w64 (x := (i : Int) + 1) (by omega) (by omega), show (i : Int) + 1 = ((i + 1 : Nat) : Int) by omega]
theorem size_ok (b : List Int) (hb : b.length ≤ 140737488351232) (n : Int) (hn : 2 ≤ n) (hn2 : n ≤ 1000) : ∃ z, spec_l1Size.f b n = some z ∧ 2 ≤ z ∧ z ≤ n := by
  unfold spec_l1Size.f
  rw [w64 (x := (b.length : Int) / 20) (by omega) (by omega), w64 (by omega) (by omega)]
  by_cases c : 2 + (b.length : Int) / 20 > n
  · rw [if_pos c]; exact ⟨_, rfl, by omega, by omega⟩
  · rw [if_neg c]; exact ⟨_, rfl, by omega, by omega⟩
theorem drawAny_ok (b code : List Int) (hb : b.length ≤ 140737488351232) (hcode : code.length ≤ 140737488351232) (c h : Int) (hc : 0 ≤ c) :
    ∃ L c' h', Ev (fun m => spec_l17DrawAny.f m b c h code) (L, c', h') ∧ L.length ≤ 300 ∧ 0 ≤ c' := by
  obtain ⟨z, ez, z1, z2⟩ := size_ok code hcode 24 (by omega) (by omega)
  obtain ⟨n, c1, h1, e1, n0, n1, _, hc1⟩ := below_ok b c h (z + 1) hb hc
  have hn := n1 (by omega)
  obtain ⟨t, c2, h2, e2, _, _, _, hc2⟩ := below_ok b c1 h1 20 hb hc1
  obtain ⟨L, c3, h3, eL, hL, hc3⟩ := drawList_ok b hb n.toNat (by omega) n.toNat 0 [] t c2 h2 (by omega) hc2 (by simp)
  rw [show ((n.toNat : Nat) : Int) = n by omega] at eL
  have eD : Ev (fun m => spec_l17Draw.f m b c1 h1 n) (L, c3, h3) := by
    unfold spec_l17Draw.f
    simp only [e2, Option.bind_some]
    exact eL
  obtain ⟨s, c4, h4, e4, _, _, _, hc4⟩ := below_ok b c3 h3 25 hb hc3
  have hL' : L.length ≤ 100 := by omega
  unfold spec_l17DrawAny.f
  simp only [ez, Option.bind_some, w64 (x := z + 1) (by omega) (by omega), e1]
  by_cases s0 : s = 0
  · obtain ⟨x, c5, h5, e5, _, hc5⟩ := pick_ok b c4 h4 [(-1), 0, 1000000000, 1000000001] hb hc4 (by simp)
    refine ⟨L ++ [⟨x, 0, 0⟩], c5, h5, Ev.bind eD ?_, ?_, hc5⟩
    · simp only [e4, Option.bind_some, if_pos s0, e5, if_pos (show L.length < 5864062014805 by omega)]
      exact Ev.now _
    · simp; omega
  · by_cases s1 : s = 1
    · by_cases hl : (L.length : Int) > 0
      · obtain ⟨x, c5, h5, e5, _, hc5⟩ := pick_ok b c4 h4 [(-1), 10000, 10001] hb hc4 (by simp)
        refine ⟨L.set (0 : Int).toNat ⟨(rd_T51 L 0).f0, x, (rd_T51 L 0).f2⟩, c5, h5, Ev.bind eD ?_, ?_, hc5⟩
        · simp only [e4, Option.bind_some, if_neg s0, if_pos s1, if_pos hl, e5, if_pos (show 0 < (L.length : Int) by omega)]
          exact Ev.now _
        · simp; omega
      · refine ⟨L, c4, h4, Ev.bind eD ?_, by omega, hc4⟩
        simp only [e4, Option.bind_some, if_neg s0, if_pos s1, if_neg hl]
        exact Ev.now _
    · by_cases s2 : s = 2
      · by_cases hl : (L.length : Int) > 0
        · obtain ⟨x, c5, h5, e5, _, hc5⟩ := pick_ok b c4 h4 [(-1), 3, 4] hb hc4 (by simp)
          refine ⟨L.set (0 : Int).toNat ⟨(rd_T51 L 0).f0, (rd_T51 L 0).f1, x⟩, c5, h5, Ev.bind eD ?_, ?_, hc5⟩
          · simp only [e4, Option.bind_some, if_neg s0, if_neg s1, if_pos s2, if_pos hl, e5, if_pos (show 0 < (L.length : Int) by omega)]
            exact Ev.now _
          · simp; omega
        · refine ⟨L, c4, h4, Ev.bind eD ?_, by omega, hc4⟩
          simp only [e4, Option.bind_some, if_neg s0, if_neg s1, if_pos s2, if_neg hl]
          exact Ev.now _
      · by_cases s3 : s = 3
        · obtain ⟨x, c5, h5, e5, x0, x1, _, hc5⟩ := below_ok b c4 h4 2 hb hc4
          have hx := x1 (by omega)
          refine ⟨List.replicate (200 + x).toNat z51, c5, h5, Ev.bind eD ?_, ?_, hc5⟩
          · simp only [e4, Option.bind_some, if_neg s0, if_neg s1, if_neg s2, if_pos s3, e5, w64 (x := 200 + x) (by omega) (by omega), if_pos (show 0 ≤ 200 + x by omega), if_pos (show (200 + x).toNat ≤ 11728124029610 by omega)]
            exact Ev.now _
          · simp; omega
        · refine ⟨L, c4, h4, Ev.bind eD ?_, by omega, hc4⟩
          simp only [e4, Option.bind_some, if_neg s0, if_neg s1, if_neg s2, if_neg s3]
          exact Ev.now _
/-- How many are of each class. -/
def cntOf (l : List S51) (k : Int) : Int := (l.countP fun a => decide (a.f2 = k) : Nat)
def cnts (l : List S51) : List Int := [cntOf l 0, cntOf l 1, cntOf l 2, cntOf l 3]
theorem cntOf_add (l : List S51) (a : S51) (k : Int) : cntOf (l ++ [a]) k = cntOf l k + if a.f2 = k then 1 else 0 := by
  unfold cntOf
  rw [List.countP_append, List.countP_singleton]
  by_cases h : a.f2 = k
  · simp [h]
  · simp [h]
theorem cntOf_le (l : List S51) (k : Int) : 0 ≤ cntOf l k ∧ cntOf l k ≤ l.length := by
  unfold cntOf
  have := List.countP_le_length (l := l) (p := fun a => decide (a.f2 = k))
  omega
theorem cnts_add (l : List S51) (a : S51) (h0 : 0 ≤ a.f2) (h3 : a.f2 ≤ 3) (hl : l.length ≤ 1000) : (cnts l).set a.f2.toNat (wrap64 (rd (cnts l) a.f2 + 1)) = cnts (l ++ [a]) := by
  have hb : ∀ k, wrap64 (cntOf l k + 1) = cntOf l k + 1 := fun k => by have := cntOf_le l k; exact w64 (by omega) (by omega)
  rcases (by omega : a.f2 = 0 ∨ a.f2 = 1 ∨ a.f2 = 2 ∨ a.f2 = 3) with h | h | h | h <;> simp [cnts, rd, h, cntOf_add, hb]
theorem take_snoc (l : List S51) (q : Nat) (r : S51) (rs : List S51) (h : l.drop q = r :: rs) : l.take (q + 1) = l.take q ++ [r] := by
  obtain ⟨h1, h2, h3⟩ := drop_cons z51 h
  rw [List.take_succ_eq_append_getElem h1]
  have : l[q] = r := by simpa [List.getD, h1] using h2
  rw [this]
theorem countAll (L out : List S51) (room : Int) (hl : L.length ≤ 200) (hL : ∀ a ∈ L, 0 ≤ a.f2 ∧ a.f2 ≤ 3) (res : Bool) (next : Ev (fun k => laws_FnShedKept.l1 k out room (cnts L) [0, 0, 0, 0] 0) res) : ∀ (rs : List S51) (q : Nat), L.drop q = rs → q + rs.length = L.length → Ev (fun k => laws_FnShedKept.l0 k L out room (cnts (L.take q)) [0, 0, 0, 0] (q : Int)) res := by
  intro rs
  induction rs with
  | nil =>
    intro q h hq
    refine Ev.step (fun k => ?_) next
    simp only [List.length_nil] at hq
    simp only [laws_FnShedKept.l0]
    rw [if_neg (by omega), List.take_of_length_le (by omega)]
  | cons r rs ih =>
    intro q h hq
    obtain ⟨h1, h2, h3⟩ := drop_cons z51 h
    have hr := hL r (by have : r ∈ L.drop q := by rw [h]; simp
                        exact List.mem_of_mem_drop this)
    have e := ih (q + 1) h3 (by simp at hq; omega)
    rw [take_snoc L q r rs h, ← cnts_add (L.take q) r hr.1 hr.2 (by rw [List.length_take]; omega)] at e
    refine Ev.step (fun k => ?_) e
    simp only [laws_FnShedKept.l0]
    rw [if_pos (by omega), if_pos (by omega), rdT, h2, if_pos hr.1, if_pos (by simp [cnts]; omega), w64 (x := (q : Int) + 1) (by omega) (by omega)]
    norm_cast
theorem countIn (out : List S51) (room : Int) (all : List Int) (hl : out.length ≤ 200) (hL : ∀ a ∈ out, 0 ≤ a.f2 ∧ a.f2 ≤ 3) (res : Bool) (next : Ev (fun k => laws_FnShedKept.l2 k out room all (cnts out) 1) res) : ∀ (rs : List S51) (q : Nat), out.drop q = rs → q + rs.length = out.length → Ev (fun k => laws_FnShedKept.l1 k out room all (cnts (out.take q)) (q : Int)) res := by
  intro rs
  induction rs with
  | nil =>
    intro q h hq
    refine Ev.step (fun k => ?_) next
    simp only [List.length_nil] at hq
    simp only [laws_FnShedKept.l1]
    rw [if_neg (by omega), List.take_of_length_le (by omega)]
  | cons r rs ih =>
    intro q h hq
    obtain ⟨h1, h2, h3⟩ := drop_cons z51 h
    have hr := hL r (by have : r ∈ out.drop q := by rw [h]; simp
                        exact List.mem_of_mem_drop this)
    have e := ih (q + 1) h3 (by simp at hq; omega)
    rw [take_snoc out q r rs h, ← cnts_add (out.take q) r hr.1 hr.2 (by rw [List.length_take]; omega)] at e
    refine Ev.step (fun k => ?_) e
    simp only [laws_FnShedKept.l1]
    rw [if_pos (by omega), if_pos (by omega), rdT, h2, if_neg (by omega), if_neg (by omega), if_pos hr.1, if_pos (by simp [cnts]; omega), w64 (x := (q : Int) + 1) (by omega) (by omega)]
    norm_cast
theorem check2 (out : List S51) (room : Int) (L : List S51) (hroom : (out.length : Int) = room) (hk : ∀ k : Int, 1 ≤ k → k ≤ 3 → cntOf out k > 0 → cntOf L (k - 1) ≤ cntOf out (k - 1)) : Ev (fun k => laws_FnShedKept.l2 k out room (cnts L) (cnts out) 1) true := by
  have rdc : ∀ (l : List S51) (k : Int), 0 ≤ k → k ≤ 3 → rd (cnts l) k = cntOf l k := fun l k h0 h3 => by
    rcases (by omega : k = 0 ∨ k = 1 ∨ k = 2 ∨ k = 3) with rfl | rfl | rfl | rfl <;> simp [cnts, rd]
  have len : ∀ l : List S51, (cnts l).length = 4 := fun l => by simp [cnts]
  have step : ∀ c : Int, 1 ≤ c → c ≤ 3 → Ev (fun k => laws_FnShedKept.l2 k out room (cnts L) (cnts out) (c + 1)) true → Ev (fun k => laws_FnShedKept.l2 k out room (cnts L) (cnts out) c) true := by
    intro c h1 h3 h
    refine Ev.step (fun k => ?_) h
    simp only [laws_FnShedKept.l2]
    rw [if_pos (by omega), if_pos (by omega), if_pos (by rw [len]; omega), rdc _ _ (by omega) h3, w64 (x := c + 1) (by omega) (by omega)]
    by_cases c2 : cntOf out c > 0
    · rw [if_pos c2, w64 (x := c - 1) (by omega) (by omega), if_pos (by omega), if_pos (by rw [len]; omega), if_pos (by rw [len]; omega), rdc _ _ (by omega) (by omega), rdc _ _ (by omega) (by omega), if_neg (by have := hk c h1 h3 c2; omega)]
    · rw [if_neg c2]
  refine step 1 (by omega) (by omega) (step 2 (by omega) (by omega) (step 3 (by omega) (by omega) (Ev.step (fun k => ?_) (Ev.now _))))
  simp only [laws_FnShedKept.l2]
  rw [if_neg (by omega)]
  simp [hroom]
theorem draw_ok (b : List Int) (hb : b.length ≤ 140737488351232) : ∃ L x y, Ev (fun m => spec_DrawShed.f m b) (L, x, y) ∧ L.length ≤ 300 := by
  obtain ⟨h, e0⟩ := new_ok b hb
  obtain ⟨L, c1, h1, e1, hL, hc1⟩ := drawAny_ok b b hb hb 0 h (by omega)
  obtain ⟨x, c2, h2, e2, _, hc2⟩ := pick_ok b c1 h1 [0, 5, 10, 10000, 10001, (-1), 7] hb hc1 (by simp)
  obtain ⟨y, c3, h3, e3, _, hc3⟩ := pick_ok b c2 h2 [0, 5, 8, 15, 30, 10000, 10001, (-1), 12] hb hc2 (by simp)
  refine ⟨L, x, y, ?_, hL⟩
  unfold spec_DrawShed.f
  refine Ev.bind e0 (Ev.bind e1 ?_)
  simp only [e2, e3, Option.bind_some]
  exact Ev.now _
theorem map_up (L : List S51) : (up 0 L.length).map (rd_T51 L) = L := by
  apply List.ext_getElem
  · simp [up_len]
  · intro i h1 h2
    have e := rd_up L.length 0 i (by omega) (by omega)
    have hi : i < (up 0 L.length).length := by rw [up_len]; exact h2
    have e2 : (up 0 L.length)[i] = (i : Int) := by
      have : rd (up 0 L.length) (i : Int) = (up 0 L.length)[i] := by simp [rd, List.getD, hi]
      rw [← this, e]; omega
    rw [List.getElem_map, e2, rdT]
    simp [List.getD, h2]
theorem picked_perm (L : List S51) (T : List Int) (hn : T.Nodup) (hT : ∀ v ∈ T, 0 ≤ v ∧ v < L.length) : (picked L T).Perm (T.map (rd_T51 L)) := by
  unfold picked
  refine List.Perm.map _ ((List.perm_ext_iff_of_nodup ?_ hn).2 fun v => ?_)
  · exact ((up_pw L.length 0).filter _).imp fun h e => by omega
  · rw [List.mem_filter, mem_up]
    constructor
    · rintro ⟨_, h⟩; simpa using h
    · intro h; have := hT v h; exact ⟨by omega, by simpa using h⟩
theorem cnt_perm (l l' : List S51) (h : l.Perm l') (k : Int) : cntOf l k = cntOf l' k := by
  unfold cntOf
  rw [h.countP_eq]
theorem kept (L : List S51) (ys : List Int) (R : Nat) (py : ys.Perm (up 0 L.length)) (sy : ys.Pairwise (tlt (clOf L))) (hR : R ≤ L.length) :
    (picked L (ys.take R)).length = R ∧ (∀ a ∈ picked L (ys.take R), a ∈ L) ∧ ∀ k : Int, cntOf (picked L (ys.take R)) k > 0 → cntOf L (k - 1) ≤ cntOf (picked L (ys.take R)) (k - 1) := by
  have hly : ys.length = L.length := by rw [py.length_eq, up_len]
  have nd : ys.Nodup := sy.imp fun h e => by subst e; exact tlt.irrefl h
  have hv : ∀ v ∈ ys, 0 ≤ v ∧ v < L.length := fun v h => by have := (mem_up _ _ _).1 (py.mem_iff.1 h); omega
  have hp := picked_perm L (ys.take R) (nd.sublist (List.take_sublist _ _)) fun v h => hv v (List.mem_of_mem_take h)
  have hL : L.Perm (ys.map (rd_T51 L)) := by
    have := (py.map (rd_T51 L)).symm
    rwa [map_up] at this
  refine ⟨?_, fun a ha => ?_, fun k hk => ?_⟩
  · rw [hp.length_eq, List.length_map, List.length_take]; omega
  · have := hp.mem_iff.1 ha
    rw [List.mem_map] at this
    obtain ⟨v, h1, rfl⟩ := this
    exact hL.mem_iff.2 (List.mem_map.2 ⟨v, List.mem_of_mem_take h1, rfl⟩)
  · rw [cnt_perm _ _ hp] at hk ⊢
    rw [cnt_perm _ _ hL]
    unfold cntOf at hk ⊢
    have hk' : 0 < ((ys.take R).map (rd_T51 L)).countP fun a => decide (a.f2 = k) := by omega
    rw [List.countP_pos_iff] at hk'
    obtain ⟨a, ha, hka⟩ := hk'
    rw [List.mem_map] at ha
    obtain ⟨v, hvt, rfl⟩ := ha
    have hcv : clOf L v = k := by simpa [clOf] using hka
    have hsplit : ys.map (rd_T51 L) = (ys.take R).map (rd_T51 L) ++ (ys.drop R).map (rd_T51 L) := by rw [← List.map_append, List.take_append_drop]
    rw [hsplit, List.countP_append]
    have h0 : ((ys.drop R).map (rd_T51 L)).countP (fun a => decide (a.f2 = k - 1)) = 0 := by
      rw [List.countP_eq_zero]
      intro a ha
      rw [List.mem_map] at ha
      obtain ⟨w, hw, rfl⟩ := ha
      have hlt : tlt (clOf L) v w := by
        have h2 := sy
        rw [← List.take_append_drop R ys, List.pairwise_append] at h2
        exact h2.2.2 v hvt w hw
      have : k ≤ clOf L w := by unfold tlt at hlt; omega
      simp only [decide_eq_true_eq]
      show ¬ clOf L w = k - 1
      omega
    rw [h0]
    omega
theorem small : Ev (fun m => impl_Shed.f m [⟨0, 0, 3⟩, ⟨0, 0, 0⟩] 1 2) ([⟨0, 0, 0⟩], true) := by
  have hok : OkS [⟨0, 0, 3⟩, ⟨0, 0, 0⟩] 1 2 := ⟨⟨by intro a ha; simp at ha; rcases ha with rfl | rfl <;> simp [ArrOk], by simp⟩, by omega, by omega⟩
  obtain ⟨ys, py, sy, e⟩ := (implShed [⟨0, 0, 3⟩, ⟨0, 0, 0⟩] 1 2 (by simp)).1 hok
  have hys : ys = [1, 0] := pw_unique sy (by simp [tlt, clOf, rd_T51]) (py.trans (by decide))
  subst hys
  exact e
theorem whole (b : List Int) (hb : b.length ≤ 140737488351232) : Ev (fun m => laws_FnShedKept.f m b) true := by
  unfold laws_FnShedKept.f laws_big.f
  simp only [Option.bind_some]
  by_cases hbig : (b.length : Int) > 1048576
  · rw [decide_eq_true hbig]; simp only [if_true]; exact Ev.now _
  · rw [decide_eq_false hbig]; simp only [Bool.false_eq_true, if_false]
    obtain ⟨L, x, y, hd, hl⟩ := draw_ok b hb
    refine Ev.bind hd ?_
    by_cases hok : OkS L x y
    · obtain ⟨ys, py, sy, e1⟩ := (implShed L x y (by omega)).1 hok
      have e2 := (specShed L x y (by omega)).1 hok ys py sy
      refine Ev.bind e1 (Ev.bind e2 ?_)
      simp only [bne_self_eq_false, Bool.false_eq_true, if_false]
      refine Ev.bind small ?_
      have hn := hok.1.2
      have hL : ∀ a ∈ L, 0 ≤ a.f2 ∧ a.f2 ≤ 3 := fun a ha => (hok.1.1 a ha).2.2
      obtain ⟨k1, k2, k3⟩ := kept L ys (room L.length x y) py sy (by unfold room; omega)
      generalize picked L (ys.take (room L.length x y)) = out at k1 k2 k3 ⊢
      have fin := countAll L out (room L.length x y) hn hL true (countIn out (room L.length x y) (cnts L) (by rw [k1]; unfold room; omega) (fun a ha => hL a (k2 a ha)) true (check2 out _ L (by omega) fun k h1 h3 h => k3 k h) out 0 (by simp) (by simp)) L 0 (by simp) (by simp)
      refine Ev.congr (f := fun m => laws_FnShedKept.j0 m L x y out true false) (fun m => by simp [rd_T51]) ?_
      have j2 : Ev (fun m => laws_FnShedKept.j2 m L out (room L.length x y)) true := by
        refine Ev.step (fun k => ?_) fin
        simp only [laws_FnShedKept.j2]
        rw [if_pos (by omega)]
        rfl
      have j1 : ∀ z : Int, (if z > (L.length : Int) then (L.length : Int) else z) = room L.length x y → Ev (fun m => laws_FnShedKept.j1 m L out z) true := by
        intro z hz
        refine Ev.step (fun k => ?_) j2
        simp only [laws_FnShedKept.j1]
        by_cases c : z > (L.length : Int)
        · rw [if_pos c] at hz ⊢; rw [hz]
        · rw [if_neg c] at hz ⊢; rw [hz]
      have hw : wrap64 (y - x) = y - x := w64 (by have := hok.2; omega) (by have := hok.2; omega)
      by_cases c : y - x < 0
      · refine Ev.step (f := fun m => laws_FnShedKept.j1 m L out 0) (fun k => ?_) (j1 0 ?_)
        · simp only [laws_FnShedKept.j0, Bool.false_eq_true, if_false, if_true]
          rw [hw, if_pos c]
        · rw [if_neg (by omega)]; unfold room; omega
      · refine Ev.step (f := fun m => laws_FnShedKept.j1 m L out (y - x)) (fun k => ?_) (j1 (y - x) ?_)
        · simp only [laws_FnShedKept.j0, Bool.false_eq_true, if_false, if_true]
          rw [hw, if_neg c]
        · unfold room
          by_cases c2 : y - x > (L.length : Int)
          · rw [if_pos c2]; omega
          · rw [if_neg c2]; omega
    · refine Ev.bind ((implShed L x y (by omega)).2 hok) (Ev.bind ((specShed L x y (by omega)).2 hok) ?_)
      simp only [bne_self_eq_false, Bool.false_eq_true, if_false]
      refine Ev.bind small ?_
      refine Ev.congr (f := fun m => laws_FnShedKept.j0 m L x y [] false false) (fun m => by simp [rd_T51]) ?_
      exact Ev.step (fun k => by simp only [laws_FnShedKept.j0, Bool.false_eq_true, if_false]; rfl) (Ev.now _)
end Go.Proofs.Ytjioalgfpcdlhaa.ShLaw
