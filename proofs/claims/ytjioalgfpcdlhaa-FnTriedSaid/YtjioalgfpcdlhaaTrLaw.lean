/- FnTried over plain lists. By an AI agent. -/
import Derived.Test.YtjioalgfpcdlhaaTrx8
import Derived.Test.YtjioalgfpcdlhaaTrMain
namespace Go.Proofs.Ytjioalgfpcdlhaa.TrLaw
set_option linter.unusedVariables false
set_option linter.unusedSimpArgs false
open Go Go.RowKit Go.Proofs.Ytjioalgfpcdlhaa.Tr Go.Proofs.Ytjioalgfpcdlhaa.TrMain Go.Proofs.YtjioalgfpcdlhaaW.PrintWords
theorem and255 (x : Int) : 0 ≤ Go.bits .and .i64 x 255 ∧ Go.bits .and .i64 x 255 ≤ 255 := by
  have h : (BitVec.ofInt IntKind.i64.bits x &&& BitVec.ofInt IntKind.i64.bits 255).toNat ≤ 255 := by
    rw [BitVec.toNat_and]
    exact Nat.le_trans Nat.and_le_right (by decide)
  have e : Go.bits .and .i64 x 255 = IntKind.i64.wrap ((BitVec.ofInt IntKind.i64.bits x &&& BitVec.ofInt IntKind.i64.bits 255).toNat : Int) := rfl
  rw [e, IntKind.wrap_i64]
  omega
theorem byte_ok (b : List Int) (i h : Int) (hb : b.length ≤ 140737488351232) (hi : 0 ≤ i) : ∃ x i' h', spec_l1Byte.f b i h = some (x, i', h') ∧ 0 ≤ x ∧ x ≤ 255 ∧ 0 ≤ i' := by
  unfold spec_l1Byte.f
  by_cases c : i < (b.length : Int)
  · rw [if_pos c, if_pos hi]
    refine ⟨_, _, _, rfl, (and255 _).1, (and255 _).2, ?_⟩
    rw [w64 (by omega) (by omega)]; omega
  · rw [if_neg c]
    exact ⟨_, _, _, rfl, (and255 _).1, (and255 _).2, hi⟩
theorem below_ok (b : List Int) (i h n : Int) (hb : b.length ≤ 140737488351232) (hi : 0 ≤ i) : ∃ x i' h', spec_l1Below.f b i h n = some (x, i', h') ∧ 0 ≤ x ∧ (0 < n → x < n) ∧ (n ≤ 0 → x = 0) ∧ 0 ≤ i' := by
  unfold spec_l1Below.f
  by_cases c : n ≤ 0
  · rw [if_pos c]; exact ⟨_, _, _, rfl, by omega, by omega, by omega, hi⟩
  · rw [if_neg c]
    by_cases c2 : n ≤ 256
    · rw [if_pos c2]
      obtain ⟨x, i1, h1, e, x0, x1, hi1⟩ := byte_ok b i h hb hi
      rw [e]; simp only [Option.bind_some]; rw [if_neg (by omega)]
      refine ⟨_, _, _, rfl, ?_, fun _ => ?_, by omega, hi1⟩
      · rw [Int.tmod_eq_emod_of_nonneg x0]; exact Int.emod_nonneg _ (by omega)
      · rw [Int.tmod_eq_emod_of_nonneg x0]; exact Int.emod_lt_of_pos _ (by omega)
    · rw [if_neg c2]
      obtain ⟨x, i1, h1, e1, x0, x1, hi1⟩ := byte_ok b i h hb hi
      obtain ⟨y, i2, h2, e2, y0, y1, hi2⟩ := byte_ok b i1 h1 hb hi1
      obtain ⟨z, i3, h3, e3, z0, z1, hi3⟩ := byte_ok b i2 h2 hb hi2
      obtain ⟨v, i4, h4, e4, v0, v1, hi4⟩ := byte_ok b i3 h3 hb hi3
      rw [e1]; simp only [Option.bind_some]
      rw [e2]; simp only [Option.bind_some]
      rw [e3]; simp only [Option.bind_some]
      rw [e4]; simp only [Option.bind_some]
      rw [if_neg (by omega)]
      have p : wrap64 (wrap64 (wrap64 (wrap64 (x * 16777216) + wrap64 (y * 65536)) + wrap64 (z * 256)) + v) = x * 16777216 + y * 65536 + z * 256 + v := by
        rw [w64 (x := x * 16777216) (by omega) (by omega), w64 (x := y * 65536) (by omega) (by omega), w64 (x := z * 256) (by omega) (by omega), w64 (x := x * 16777216 + y * 65536) (by omega) (by omega),
          w64 (x := x * 16777216 + y * 65536 + z * 256) (by omega) (by omega), w64 (by omega) (by omega)]
      have q : 0 ≤ x * 16777216 + y * 65536 + z * 256 + v := by omega
      refine ⟨_, _, _, rfl, ?_, fun _ => ?_, by omega, hi4⟩
      · rw [p, Int.tmod_eq_emod_of_nonneg q]; exact Int.emod_nonneg _ (by omega)
      · rw [p, Int.tmod_eq_emod_of_nonneg q]; exact Int.emod_lt_of_pos _ (by omega)
theorem new_ok (b : List Int) (_hb : b.length ≤ 140737488351232) : ∃ h, Ev (fun k => spec_l1New.f k b) (b, 0, h) := by
  have go : ∀ (d : Nat) (x3 x4 : Int), 0 ≤ x4 → (b.length : Int) - x4 = d → ∃ h, Ev (fun k => spec_l1New.l0 k b x3 x4) (b, 0, h) := by
    intro d
    induction d with
    | zero =>
      intro x3 x4 h0 hd
      refine ⟨x3, Ev.step (fun k => ?_) (Ev.now _)⟩
      simp only [spec_l1New.l0]; rw [if_neg (by omega)]
    | succ d ih =>
      intro x3 x4 h0 hd
      by_cases c : x4 < 4000
      · obtain ⟨h, e⟩ := ih (Go.bits .and .i64 (wrap64 ((wrap64 ((wrap64 (x3 * 131)) + (wrap64 (rd b x4)))) + 7)) 1073741823) (x4 + 1) (by omega) (by omega)
        refine ⟨h, Ev.step (fun k => ?_) e⟩
        simp only [spec_l1New.l0]; rw [if_pos (by omega), if_pos c, if_pos h0, w64 (x := x4 + 1) (by omega) (by omega)]
      · refine ⟨x3, Ev.step (fun k => ?_) (Ev.now _)⟩
        simp only [spec_l1New.l0]; rw [if_pos (by omega), if_neg c]
  obtain ⟨h, e⟩ := go b.length (wrap64 (71933 + (b.length : Int))) 0 (by omega) (by omega)
  exact ⟨h, by unfold spec_l1New.f; exact e⟩
theorem pick_ok (b : List Int) (i h : Int) (l : List Int) (hb : b.length ≤ 140737488351232) (hi : 0 ≤ i) (hl : 0 < l.length) : ∃ x i' h', spec_l1PickInt.f b i h l = some (x, i', h') ∧ x ∈ l ∧ 0 ≤ i' := by
  unfold spec_l1PickInt.f
  obtain ⟨x, i1, h1, e, x0, x1, _, hi1⟩ := below_ok b i h (l.length : Int) hb hi
  rw [e]; simp only [Option.bind_some]
  have hx := x1 (by omega)
  rw [if_pos x0, if_pos hx]
  refine ⟨_, _, _, rfl, ?_, hi1⟩
  unfold rd
  rw [List.getD_eq_getElem?_getD, List.getElem?_eq_getElem (by omega)]
  exact List.getElem_mem _
/-- What is drawn: short lists. -/
theorem drawList_ok (b : List Int) (hb : b.length ≤ 140737488351232) (n : Nat) (hn : n ≤ 100) : ∀ (d i : Nat) (x5 : List S51) (x6 c h : Int), i + d = n → 0 ≤ c → x5.length ≤ i →
    ∃ L c' h', Ev (fun m => spec_l17Draw.l0 m (n : Int) x5 x6 (i : Int) b c h) (L, c', h') ∧ L.length ≤ n ∧ 0 ≤ c' := by
  intro d
  induction d with
  | zero =>
    intro i x5 x6 c h hi hc hx
    refine ⟨x5, c, h, Ev.step (fun m => ?_) (Ev.now _), by omega, hc⟩
    simp only [spec_l17Draw.l0]; rw [if_neg (by omega)]
  | succ d ih =>
    intro i x5 x6 c h hi hc hx
    obtain ⟨v1, c1, h1, e1, _, _, _, hc1⟩ := below_ok b c h 40 hb hc
    obtain ⟨v2, c2, h2, e2, _, _, _, hc2⟩ := below_ok b c1 h1 4 hb hc1
    obtain ⟨v3, c3, h3, e3, _, _, _, hc3⟩ := below_ok b c2 h2 8 hb hc2
    obtain ⟨L, c', h', e, hL, hc'⟩ := ih (i + 1) (x5 ++ [⟨x6, v1, v2⟩]) (wrap64 (x6 + v3)) c3 h3 (by omega) hc3 (by simp; omega)
    refine ⟨L, c', h', Ev.step (fun m => ?_) e, hL, hc'⟩
    simp only [spec_l17Draw.l0]
    rw [if_pos (by omega)]
    simp only [e1, e2, e3, Option.bind_some]
    rw [if_pos (by omega), w64 (x := (i : Int) + 1) (by omega) (by omega), show (i : Int) + 1 = ((i + 1 : Nat) : Int) by omega]
theorem size_ok (b : List Int) (hb : b.length ≤ 140737488351232) (n : Int) (hn : 2 ≤ n) (hn2 : n ≤ 1000) : ∃ z, spec_l1Size.f b n = some z ∧ 2 ≤ z ∧ z ≤ n := by
  unfold spec_l1Size.f
  rw [w64 (x := (b.length : Int) / 20) (by omega) (by omega), w64 (by omega) (by omega)]
  by_cases c : 2 + (b.length : Int) / 20 > n
  · rw [if_pos c]; exact ⟨_, rfl, by omega, by omega⟩
  · rw [if_neg c]; exact ⟨_, rfl, by omega, by omega⟩
theorem drawAny_ok (b code : List Int) (hb : b.length ≤ 140737488351232) (hcode : code.length ≤ 140737488351232) (c h : Int) (hc : 0 ≤ c) :
    ∃ L c' h', Ev (fun m => spec_l17DrawAny.f m b c h code) (L, c', h') ∧ L.length ≤ 300 ∧ 0 ≤ c' := by
  obtain ⟨z, ez, z1, z2⟩ := size_ok code hcode 24 (by omega) (by omega)
  obtain ⟨n, c1, h1, e1, n0, n1, _, hc1⟩ := below_ok b c h (z + 1) hb hc
  have hn := n1 (by omega)
  obtain ⟨t, c2, h2, e2, _, _, _, hc2⟩ := below_ok b c1 h1 20 hb hc1
  obtain ⟨L, c3, h3, eL, hL, hc3⟩ := drawList_ok b hb n.toNat (by omega) n.toNat 0 [] t c2 h2 (by omega) hc2 (by simp)
  rw [show ((n.toNat : Nat) : Int) = n by omega] at eL
  have eD : Ev (fun m => spec_l17Draw.f m b c1 h1 n) (L, c3, h3) := by
    unfold spec_l17Draw.f
    simp only [e2, Option.bind_some]
    exact eL
  obtain ⟨s, c4, h4, e4, _, _, _, hc4⟩ := below_ok b c3 h3 25 hb hc3
  have hL' : L.length ≤ 100 := by omega
  unfold spec_l17DrawAny.f
  simp only [ez, Option.bind_some, w64 (x := z + 1) (by omega) (by omega), e1]
  by_cases s0 : s = 0
  · obtain ⟨x, c5, h5, e5, _, hc5⟩ := pick_ok b c4 h4 [(-1), 0, 1000000000, 1000000001] hb hc4 (by simp)
    refine ⟨L ++ [⟨x, 0, 0⟩], c5, h5, Ev.bind eD ?_, ?_, hc5⟩
    · simp only [e4, Option.bind_some, if_pos s0, e5, if_pos (show L.length < 5864062014805 by omega)]
      exact Ev.now _
    · simp; omega
  · by_cases s1 : s = 1
    · by_cases hl : (L.length : Int) > 0
      · obtain ⟨x, c5, h5, e5, _, hc5⟩ := pick_ok b c4 h4 [(-1), 10000, 10001] hb hc4 (by simp)
        refine ⟨L.set (0 : Int).toNat ⟨(rd_T51 L 0).f0, x, (rd_T51 L 0).f2⟩, c5, h5, Ev.bind eD ?_, ?_, hc5⟩
        · simp only [e4, Option.bind_some, if_neg s0, if_pos s1, if_pos hl, e5, if_pos (show 0 < (L.length : Int) by omega)]
          exact Ev.now _
        · simp; omega
      · refine ⟨L, c4, h4, Ev.bind eD ?_, by omega, hc4⟩
        simp only [e4, Option.bind_some, if_neg s0, if_pos s1, if_neg hl]
        exact Ev.now _
    · by_cases s2 : s = 2
      · by_cases hl : (L.length : Int) > 0
        · obtain ⟨x, c5, h5, e5, _, hc5⟩ := pick_ok b c4 h4 [(-1), 3, 4] hb hc4 (by simp)
          refine ⟨L.set (0 : Int).toNat ⟨(rd_T51 L 0).f0, (rd_T51 L 0).f1, x⟩, c5, h5, Ev.bind eD ?_, ?_, hc5⟩
          · simp only [e4, Option.bind_some, if_neg s0, if_neg s1, if_pos s2, if_pos hl, e5, if_pos (show 0 < (L.length : Int) by omega)]
            exact Ev.now _
          · simp; omega
        · refine ⟨L, c4, h4, Ev.bind eD ?_, by omega, hc4⟩
          simp only [e4, Option.bind_some, if_neg s0, if_neg s1, if_pos s2, if_neg hl]
          exact Ev.now _
      · by_cases s3 : s = 3
        · obtain ⟨x, c5, h5, e5, x0, x1, _, hc5⟩ := below_ok b c4 h4 2 hb hc4
          have hx := x1 (by omega)
          refine ⟨List.replicate (200 + x).toNat z51, c5, h5, Ev.bind eD ?_, ?_, hc5⟩
          · simp only [e4, Option.bind_some, if_neg s0, if_neg s1, if_neg s2, if_pos s3, e5, w64 (x := 200 + x) (by omega) (by omega), if_pos (show 0 ≤ 200 + x by omega), if_pos (show (200 + x).toNat ≤ 11728124029610 by omega)]
            exact Ev.now _
          · simp; omega
        · refine ⟨L, c4, h4, Ev.bind eD ?_, by omega, hc4⟩
          simp only [e4, Option.bind_some, if_neg s0, if_neg s1, if_neg s2, if_neg s3]
          exact Ev.now _
theorem draw_ok (b : List Int) (hb : b.length ≤ 140737488351232) : ∃ c sp L, Ev (fun m => spec_DrawTry.f m b) (c, sp, L) ∧ sp.length ≤ 10 ∧ L.length ≤ 300 := by
  obtain ⟨h, e0⟩ := new_ok b hb
  obtain ⟨L, c1, h1, e1, hL, hc1⟩ := drawAny_ok b b hb hb 0 h (by omega)
  obtain ⟨v2, c2, h2, e2, _, _, _, hc2⟩ := below_ok b c1 h1 3 hb hc1
  obtain ⟨v3, c3, h3, e3, _, _, _, hc3⟩ := below_ok b c2 h2 2 hb hc2
  obtain ⟨v4, c4, h4, e4, _, _, _, hc4⟩ := below_ok b c3 h3 3 hb hc3
  obtain ⟨s, c5, h5, e5, _, _, _, hc5⟩ := below_ok b c4 h4 25 hb hc4
  have fin : ∀ (sp : List Int) (i h : Int), 0 ≤ i → ∃ c, Ev (fun m => spec_DrawTry.j0 m L sp b i h) (c, sp, L) := by
    intro sp i h hi
    obtain ⟨x, c6, h6, e6, _, _⟩ := pick_ok b i h [0, 1, 2, 3, 5, 64, 65, (-1), 4] hb hi (by simp)
    refine ⟨x, Ev.step (fun m => ?_) (Ev.now _)⟩
    simp only [spec_DrawTry.j0, e6, Option.bind_some]
  unfold spec_DrawTry.f
  generalize hy : ([0, v2, wrap64 (v2 + v3), wrap64 ((wrap64 (v2 + v3)) + v4)] : List Int) = y
  have ly : y.length = 4 := by rw [← hy]; rfl
  by_cases s0 : s = 0
  · obtain ⟨c, ef⟩ := fin (y ++ [9]) c5 h5 hc5
    refine ⟨c, y ++ [9], L, Ev.bind e0 (Ev.bind e1 ?_), ?_, hL⟩
    · simp only [e2, e3, e4, Option.bind_some, hy, e5, if_pos s0, if_pos (show y.length < 17592186044416 by omega)]
      exact ef
    · simp; omega
  · by_cases s1 : s = 1
    · obtain ⟨c, ef⟩ := fin (y.set (0 : Int).toNat 1) c5 h5 hc5
      refine ⟨c, y.set (0 : Int).toNat 1, L, Ev.bind e0 (Ev.bind e1 ?_), ?_, hL⟩
      · simp only [e2, e3, e4, Option.bind_some, hy, e5, if_neg s0, if_pos s1, if_pos (show 0 < (y.length : Int) by omega)]
        exact ef
      · simp; omega
    · by_cases s2 : s = 2
      · obtain ⟨x, c6, h6, e6, _, hc6⟩ := pick_ok b c5 h5 [0, 64, 65] hb hc5 (by simp)
        obtain ⟨c, ef⟩ := fin (y.set (3 : Int).toNat x) c6 h6 hc6
        refine ⟨c, y.set (3 : Int).toNat x, L, Ev.bind e0 (Ev.bind e1 ?_), ?_, hL⟩
        · simp only [e2, e3, e4, Option.bind_some, hy, e5, if_neg s0, if_neg s1, if_pos s2, e6, if_pos (show 3 < (y.length : Int) by omega)]
          exact ef
        · simp; omega
      · obtain ⟨c, ef⟩ := fin y c5 h5 hc5
        refine ⟨c, y, L, Ev.bind e0 (Ev.bind e1 ?_), by omega, hL⟩
        simp only [e2, e3, e4, Option.bind_some, hy, e5, if_neg s0, if_neg s1, if_neg s2]
        exact ef
/-- The run only adds behind. -/
theorem run_prefix (c : Int) (sp : List Int) : ∀ (rs : List S51) (s : List Bool × List Int × List Int), ∃ t u, (tryRun c sp rs s).1 = s.1 ++ t ∧ (tryRun c sp rs s).2.1 = s.2.1 ++ u ∧ t.length = rs.length ∧ u.length = rs.length := by
  intro rs
  induction rs with
  | nil => intro s; exact ⟨[], [], by simp [tryRun], by simp [tryRun], rfl, rfl⟩
  | cons a rs ih =>
    intro s
    obtain ⟨t, u, h1, h2, h3, h4⟩ := ih (tryStep c sp s a)
    have e : tryRun c sp (a :: rs) s = tryRun c sp rs (tryStep c sp s a) := rfl
    rw [e]
    by_cases k : c - ((leftT a s.2.2).length : Int) > rd sp a.f2
    · have es : tryStep c sp s a = (s.1 ++ [true], s.2.1 ++ [((leftT a s.2.2).length : Int) + 1], leftT a s.2.2 ++ [a.f0 + a.f1]) := by unfold tryStep; rw [if_pos k]
      rw [es] at h1 h2 ⊢
      exact ⟨true :: t, _ :: u, by rw [h1]; simp, by rw [h2]; simp; rfl, by simp [h3], by simp [h4]⟩
    · have es : tryStep c sp s a = (s.1 ++ [false], s.2.1 ++ [((leftT a s.2.2).length : Int)], leftT a s.2.2) := by unfold tryStep; rw [if_neg k]
      rw [es] at h1 h2 ⊢
      exact ⟨false :: t, _ :: u, by rw [h1]; simp, by rw [h2]; simp; rfl, by simp [h3], by simp [h4]⟩
theorem leftT_left (a b : S51) (h : a.f0 ≤ b.f0) (e : List Int) : leftT b (leftT a e) = leftT b e := by
  unfold leftT
  rw [List.filter_filter]
  congr 1
  funext x
  by_cases c : x ≤ b.f0
  · simp [c]
  · have : ¬ x ≤ a.f0 := by omega
    simp [c, this]
/-- The ends of those of the first k that were let in. -/
def accE (l : List S51) (IN : List Bool) (k : Nat) : List Int := (List.range k).filterMap fun j => if IN.getD j false = true then some ((l.getD j z51).f0 + (l.getD j z51).f1) else none
theorem accE_succ (l : List S51) (IN : List Bool) (k : Nat) : accE l IN (k + 1) = accE l IN k ++ (if IN.getD k false = true then [(l.getD k z51).f0 + (l.getD k z51).f1] else []) := by
  unfold accE
  rw [List.range_succ, List.filterMap_append]
  congr 1
  by_cases c : IN.getD k false = true
  · rw [if_pos c]; simp only [List.filterMap_cons, List.filterMap_nil, if_pos c]
  · rw [if_neg c]; simp only [List.filterMap_cons, List.filterMap_nil, if_neg c]
theorem accE_le (l : List S51) (IN : List Bool) (k : Nat) : (accE l IN k).length ≤ k := by
  unfold accE
  have := List.length_filterMap_le (fun j => if IN.getD j false = true then some ((l.getD j z51).f0 + (l.getD j z51).f1) else none) (List.range k)
  simpa using this
section
variable (c : Int) (sp : List Int) (l : List S51) (IN : List Bool) (BU : List Int) (ok : Bool) (hl : l.length ≤ 200) (ha : ∀ a ∈ l, ArrOk a) (hIN : IN.length = l.length)
include hl ha hIN
theorem countLoop (i : Nat) (hi : i < l.length) (a : S51) (RES : Ev (fun m => laws_FnTried.l1 m c sp l IN BU ok (i : Int) ((leftT a (accE l IN i)).length : Int) (i : Int) a.f0 a.f1 a.f2) true) : ∀ (d k : Nat), k + d = i →
    Ev (fun m => laws_FnTried.l1 m c sp l IN BU ok (i : Int) ((leftT a (accE l IN k)).length : Int) (k : Int) a.f0 a.f1 a.f2) true := by
  intro d
  induction d with
  | zero =>
    intro k hk
    simp only [Nat.add_zero] at hk
    subst hk
    exact RES
  | succ d ih =>
    intro k hk
    have z := ih (k + 1) (by omega)
    have hb := accE_le l IN k
    have hb2 := leftT_le a (accE l IN k)
    obtain ⟨⟨a1, a2⟩, ⟨a3, a4⟩, _⟩ := ha _ (getD_mem z51 (show k < l.length by omega))
    rw [accE_succ] at z
    refine Ev.step (fun m => ?_) z
    simp only [laws_FnTried.l1]
    rw [if_pos (by omega), if_pos (by omega), if_pos (by omega), rdB, rdT, w64 (x := (k : Int) + 1) (by omega) (by omega), show (k : Int) + 1 = ((k + 1 : Nat) : Int) by omega]
    by_cases hk2 : IN.getD k false = true
    · rw [if_pos hk2, if_pos (by omega), if_pos hk2, w64 (x := (l.getD k z51).f0 + (l.getD k z51).f1) (by omega) (by omega)]
      by_cases h3 : (l.getD k z51).f0 + (l.getD k z51).f1 > a.f0
      · rw [if_pos h3, w64 (by omega) (by omega)]
        congr 1
        simp [leftT, List.filter_append, show ¬ (l.getD k z51).f0 + (l.getD k z51).f1 ≤ a.f0 by omega]
        rw [List.filter_cons_of_pos (by simp; have : ¬ (l.getD k z51).f0 + (l.getD k z51).f1 ≤ a.f0 := by omega
                                        simpa using this)]
        simp
      · rw [if_neg h3]
        congr 1
        have : (leftT a [(l.getD k z51).f0 + (l.getD k z51).f1]) = [] := by unfold leftT; rw [List.filter_cons_of_neg (by simpa using (by omega : (l.getD k z51).f0 + (l.getD k z51).f1 ≤ a.f0))]; rfl
        unfold leftT at this ⊢
        rw [List.filter_append, this, List.append_nil]
    · rw [if_neg hk2, if_neg hk2, List.append_nil]
theorem checkTry (hc : 0 ≤ c ∧ c ≤ 64) (hsp : sp.length = 4) (hs0 : ∀ i, i < 4 → 0 ≤ sp.getD i 0) (ht : Ticks l) (hBU : BU.length = l.length) : ∀ (rs : List S51) (q : Nat), l.drop q = rs → q + rs.length = l.length →
    ∀ s : List Bool × List Int × List Int, s.1.length = q → s.2.1.length = q → IN = (tryRun c sp rs s).1 → BU = (tryRun c sp rs s).2.1 → ((s.2.2.length : Int) ≤ c) →
    (∀ b : S51, (∀ i, i < q → (l.getD i z51).f0 ≤ b.f0) → leftT b s.2.2 = leftT b (accE l IN q)) →
    Ev (fun m => laws_FnTried.l0 m c sp l IN BU ok (q : Int)) true := by
  intro rs
  induction rs with
  | nil =>
    intro q hd hq s _ _ _ _ _ _
    simp only [List.length_nil, Nat.add_zero] at hq
    refine Ev.step (fun m => ?_) (Ev.now _)
    simp only [laws_FnTried.l0]
    rw [if_neg (by omega)]
    cases ok with
    | true => simp only [if_true]; rw [if_pos (by omega)]; simp; omega
    | false => simp
  | cons a rs ih =>
    intro q hd hq s h1 h2 hI hB he hinv
    obtain ⟨hlt, hg, hd'⟩ := drop_cons z51 hd
    simp only [List.length_cons] at hq
    obtain ⟨⟨a1, a2⟩, ⟨a3, a4⟩, ⟨a5, a6⟩⟩ := ha _ (by rw [← hg]; exact getD_mem z51 hlt : a ∈ l)
    have mono : ∀ i, i ≤ q → (l.getD i z51).f0 ≤ a.f0 := by
      intro i hi
      obtain ⟨d, hd2⟩ : ∃ d, i + d = q := ⟨q - i, by omega⟩
      clear hi
      induction d generalizing i with
      | zero => simp only [Nat.add_zero] at hd2; subst hd2; rw [hg]; exact Int.le_refl _
      | succ d ihd => exact Int.le_trans (ht i (by omega)) (ihd (i + 1) (by omega))
    have hL := hinv a (fun i hi => mono i (by omega))
    have hle := leftT_le a s.2.2
    have hw : wrap64 (c - ((leftT a s.2.2).length : Int)) = c - ((leftT a s.2.2).length : Int) := w64 (by omega) (by omega)
    have hsp0 : 0 ≤ rd sp a.f2 := by
      have := hs0 a.f2.toNat (by omega)
      simpa [rd] using this
    have erun : tryRun c sp (a :: rs) s = tryRun c sp rs (tryStep c sp s a) := rfl
    rw [erun] at hI hB
    obtain ⟨t, u, p1, p2, p3, p4⟩ := run_prefix c sp rs (tryStep c sp s a)
    -- the round
    have round : ∀ (b : Bool) (n : Int), (b = decide (c - ((leftT a s.2.2).length : Int) > rd sp a.f2)) → (n = ((leftT a s.2.2).length : Int) + (if b = true then 1 else 0)) → IN.getD q false = b → BU.getD q 0 = n →
        Ev (fun m => laws_FnTried.l0 m c sp l IN BU ok ((q + 1 : Nat) : Int)) true → Ev (fun m => laws_FnTried.l0 m c sp l IN BU ok (q : Int)) true := by
      intro b n hb hn gI gB nx
      have hn2 : n ≤ c := by
        cases b with
        | false => simp at hn; omega
        | true =>
          have := of_decide_eq_true hb.symm
          simp at hn; omega
      have tail : Ev (fun m => laws_FnTried.j3 m c sp l IN BU ok (q : Int) ((leftT a s.2.2).length : Int) n a.f0 a.f1 a.f2) true := by
        refine Ev.step (fun m => ?_) (Ev.step (g := fun m => laws_FnTried.j4 m c sp l IN BU ok (q : Int) false) (fun m => ?_) nx)
        · simp only [laws_FnTried.j3]
          rw [if_pos (by omega), if_pos (by omega), if_pos a5, if_pos (by omega), rdB, gI, hw, ← hb]
          simp only [bne_self_eq_false, Bool.false_eq_true, if_false]
          rw [if_pos (by omega), rdI, gB, if_pos rfl, decide_eq_false (by omega)]
        · simp only [laws_FnTried.j4, Bool.false_eq_true, if_false]
          rw [w64 (by omega) (by omega), show (q : Int) + 1 = ((q + 1 : Nat) : Int) by omega]
      have cnt : Ev (fun m => laws_FnTried.l1 m c sp l IN BU ok (q : Int) ((leftT a (accE l IN q)).length : Int) (q : Int) a.f0 a.f1 a.f2) true := by
        rw [← hL]
        refine Ev.step (fun m => ?_) tail
        simp only [laws_FnTried.l1]
        rw [if_neg (by omega), if_pos (by omega), if_pos (by omega), rdB, gI]
        cases b with
        | true =>
          rw [if_pos rfl, w64 (by omega) (by omega)]
          simp at hn; rw [hn]
        | false =>
          rw [if_neg (by simp)]
          simp at hn; rw [hn]
      have z := countLoop c sp l IN BU ok hl ha hIN q hlt a cnt q 0 (by omega)
      refine Ev.step (fun m => ?_) z
      simp only [laws_FnTried.l0]
      rw [if_pos (by omega), if_pos (by omega), if_pos (by omega), rdT, hg]
      rfl
    have hgI : ∀ b x, tryStep c sp s a = (s.1 ++ [b], x) → IN.getD q false = b := by
      intro b x es
      rw [hI, p1, es, ← h1, List.getD_eq_getElem?_getD]
      simp
    have hgB : ∀ y n z, tryStep c sp s a = (y, s.2.1 ++ [n], z) → BU.getD q 0 = n := by
      intro y n z es
      rw [hB, p2, es, ← h2, List.getD_eq_getElem?_getD]
      simp
    by_cases ck : c - ((leftT a s.2.2).length : Int) > rd sp a.f2
    · have es : tryStep c sp s a = (s.1 ++ [true], s.2.1 ++ [((leftT a s.2.2).length : Int) + 1], leftT a s.2.2 ++ [a.f0 + a.f1]) := by unfold tryStep; rw [if_pos ck]
      have gI := hgI _ _ es
      have gB := hgB _ _ _ es
      refine round true _ (by rw [decide_eq_true ck]) (by simp) gI gB (ih (q + 1) hd' (by omega) (tryStep c sp s a) (by rw [es]; simp; omega) (by rw [es]; simp; omega) hI hB (by rw [es]; simp; omega) (fun b hb => ?_))
      rw [es, accE_succ, gI, if_pos rfl]
      have hba : a.f0 ≤ b.f0 := by have := hb q (by omega); rwa [hg] at this
      have e2 := hinv b (fun i hi => hb i (by omega))
      show leftT b (leftT a s.2.2 ++ [a.f0 + a.f1]) = _
      unfold leftT at e2 ⊢
      rw [List.filter_append, List.filter_append, ← e2, hg]
      congr 1
      exact leftT_left a b hba s.2.2
    · have es : tryStep c sp s a = (s.1 ++ [false], s.2.1 ++ [((leftT a s.2.2).length : Int)], leftT a s.2.2) := by unfold tryStep; rw [if_neg ck]
      have gI := hgI _ _ es
      have gB := hgB _ _ _ es
      refine round false _ (by rw [decide_eq_false ck]) (by simp) gI gB (ih (q + 1) hd' (by omega) (tryStep c sp s a) (by rw [es]; simp; omega) (by rw [es]; simp; omega) hI hB (by rw [es]; simp; omega) (fun b hb => ?_))
      rw [es, accE_succ, gI, if_neg (by simp), List.append_nil]
      have hba : a.f0 ≤ b.f0 := by have := hb q (by omega); rwa [hg] at this
      rw [← hinv b (fun i hi => hb i (by omega))]
      exact leftT_left a b hba s.2.2
end
theorem same_ok (x : List Int) (hx : x.length ≤ 1000000000) : Ev (fun k => laws_sameInts.f k x x) true := by
  have go : ∀ (d : Nat) (i : Int), 0 ≤ i → (x.length : Int) - i = d → Ev (fun k => laws_sameInts.l0 k x x i) true := by
    intro d
    induction d with
    | zero =>
      intro i h0 hd
      refine Ev.step (fun k => ?_) (Ev.now true)
      simp only [laws_sameInts.l0]; rw [if_neg (by omega)]
    | succ d ih =>
      intro i h0 hd
      refine Ev.step (fun k => ?_) (ih (i + 1) (by omega) (by omega))
      simp only [laws_sameInts.l0, if_true]; rw [if_pos (by omega), if_pos h0, if_pos (by omega), w64 (by omega) (by omega)]
  refine Ev.congr (fun k => ?_) (go x.length 0 (by omega) (by omega))
  simp only [laws_sameInts.f, if_true]
/-- The small one. -/
theorem smallTry : Ev (fun m => impl_Try.f m 1 [0, 0, 0, 0] [⟨0, 5, 0⟩, ⟨4, 0, 0⟩, ⟨5, 0, 0⟩]) ([true, false, true], [1, 1, 1], true) := by
  have h := (implTry 1 [0, 0, 0, 0] [⟨0, 5, 0⟩, ⟨4, 0, 0⟩, ⟨5, 0, 0⟩] (by simp) (by simp)).1 ⟨⟨by omega, by omega⟩, rfl, rfl, ?_, by simp, ⟨?_, by simp⟩, ?_⟩
  · have e : tryRun 1 [0, 0, 0, 0] [⟨0, 5, 0⟩, ⟨4, 0, 0⟩, ⟨5, 0, 0⟩] ([], [], []) = ([true, false, true], [1, 1, 1], [5]) := by decide +kernel
    rw [e] at h
    exact h
  · intro i hi
    simp only [List.length_cons, List.length_nil] at hi
    rcases (by omega : i = 0 ∨ i = 1 ∨ i = 2) with rfl | rfl | rfl <;> simp
  · intro a h
    simp only [List.mem_cons, List.not_mem_nil, or_false] at h
    rcases h with rfl | rfl | rfl <;> simp [ArrOk]
  · intro i hi
    simp only [List.length_cons, List.length_nil] at hi
    rcases (by omega : i = 0 ∨ i = 1) with rfl | rfl <;> simp
def small (c : Int) (sp : List Int) (l : List S51) (IN : List Bool) (BU : List Int) (ok : Bool) (m : Nat) : Option Bool :=
  (laws_sameInts.f m [1, 1, 1] [1, 1, 1]).bind fun t => (if t = true then (if (IN.length : Int) > (l.length : Int) then (laws_FnTried.j0 m c sp l IN BU ok true) else (laws_FnTried.j0 m c sp l IN BU ok ((BU.length : Int) != (IN.length : Int)))) else (laws_FnTried.j0 m c sp l IN BU ok true))
theorem whole (b : List Int) (hb : b.length ≤ 140737488351232) : Ev (fun m => laws_FnTried.f m b) true := by
  unfold laws_FnTried.f laws_big.f
  simp only [Option.bind_some]
  by_cases hbig : (b.length : Int) > 1048576
  · rw [decide_eq_true hbig]; simp only [if_true]; exact Ev.now _
  · rw [decide_eq_false hbig]; simp only [Bool.false_eq_true, if_false]
    obtain ⟨c, sp, l, hd, hsp, hl⟩ := draw_ok b hb
    refine Ev.bind hd ?_
    by_cases hok : OkT c sp l
    · refine Ev.bind ((implTry c sp l (by omega) (by omega)).1 hok) (Ev.bind ((specTry c sp l (by omega) (by omega)).1 hok) ?_)
      simp only [bne_self_eq_false, Bool.false_eq_true, if_false]
      refine Ev.bind smallTry ?_
      obtain ⟨hc, h4, h0, hso, h64, ha, ht⟩ := hok
      obtain ⟨t, u, p1, p2, p3, p4⟩ := run_prefix c sp l ([], [], [])
      have l1 : (tryRun c sp l ([], [], [])).1.length = l.length := by rw [p1]; simpa using p3
      have l2 : (tryRun c sp l ([], [], [])).2.1.length = l.length := by rw [p2]; simpa using p4
      have s0 : sp.getD 0 0 ≤ sp.getD 1 0 := hso 0 (by omega)
      have s1 : sp.getD 1 0 ≤ sp.getD 2 0 := hso 1 (by omega)
      have s2 : sp.getD 2 0 ≤ sp.getD 3 0 := hso 2 (by omega)
      have z := checkTry c sp l (tryRun c sp l ([], [], [])).1 (tryRun c sp l ([], [], [])).2.1 true ha.2 ha.1 l1 hc h4 (fun i hi => by
        rcases (by omega : i = 0 ∨ i = 1 ∨ i = 2 ∨ i = 3) with rfl | rfl | rfl | rfl <;> omega) ht l2 l 0 (by simp) (by simp) ([], [], []) rfl rfl rfl rfl (by simp; omega) (fun b _ => by simp [leftT, accE])
      refine Ev.congr (f := small c sp l (tryRun c sp l ([], [], [])).1 (tryRun c sp l ([], [], [])).2.1 true) (fun m => by simp [rdOf, small]) (Ev.bind (same_ok [1, 1, 1] (by simp)) ?_)
      simp only [if_true]
      rw [l1, l2]
      simp only [if_neg (show ¬ (l.length : Int) > (l.length : Int) by omega), bne_self_eq_false]
      exact Ev.step (fun m => by simp only [laws_FnTried.j0, Bool.false_eq_true, if_false]; rfl) z
    · refine Ev.bind ((implTry c sp l (by omega) (by omega)).2 hok) (Ev.bind ((specTry c sp l (by omega) (by omega)).2 hok) ?_)
      simp only [bne_self_eq_false, Bool.false_eq_true, if_false]
      refine Ev.bind smallTry ?_
      refine Ev.congr (f := small c sp l [] [] false) (fun m => by simp [rdOf, small]) (Ev.bind (same_ok [1, 1, 1] (by simp)) ?_)
      simp only [if_true, List.length_nil]
      simp only [if_neg (show ¬ ((0 : Nat) : Int) > (l.length : Int) by omega), bne_self_eq_false]
      refine Ev.step (fun m => by simp only [laws_FnTried.j0, Bool.false_eq_true, if_false]) (Ev.step (g := fun m => laws_FnTried.l0 m c sp l [] [] false 0) (fun m => ?_) (Ev.now _))
      simp [laws_FnTried.l0]
end Go.Proofs.Ytjioalgfpcdlhaa.TrLaw
