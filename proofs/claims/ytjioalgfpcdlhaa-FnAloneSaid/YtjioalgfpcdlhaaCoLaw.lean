/- FnAlone over plain lists. By an AI agent. -/
import Derived.Test.YtjioalgfpcdlhaaCox7
import Derived.Test.YtjioalgfpcdlhaaCoMain
namespace Go.Proofs.Ytjioalgfpcdlhaa.CoLaw
set_option linter.unusedVariables false
set_option linter.unusedSimpArgs false
open Go Go.RowKit Go.Proofs.Ytjioalgfpcdlhaa.Co Go.Proofs.Ytjioalgfpcdlhaa.CoMain Go.Proofs.Ytjioalgfpcdlhaa.CoMath Go.Proofs.YtjioalgfpcdlhaaW.PrintWords
theorem and255 (x : Int) : 0 ≤ Go.bits .and .i64 x 255 ∧ Go.bits .and .i64 x 255 ≤ 255 := by
  have h : (BitVec.ofInt IntKind.i64.bits x &&& BitVec.ofInt IntKind.i64.bits 255).toNat ≤ 255 := by
    rw [BitVec.toNat_and]
    exact Nat.le_trans Nat.and_le_right (by decide)
  have e : Go.bits .and .i64 x 255 = IntKind.i64.wrap ((BitVec.ofInt IntKind.i64.bits x &&& BitVec.ofInt IntKind.i64.bits 255).toNat : Int) := rfl
  rw [e, IntKind.wrap_i64]
  omega
theorem byte_ok (b : List Int) (i h : Int) (hb : b.length ≤ 140737488351232) (hi : 0 ≤ i) : ∃ x i' h', spec_l1Byte.f b i h = some (x, i', h') ∧ 0 ≤ x ∧ x ≤ 255 ∧ 0 ≤ i' := by
  unfold spec_l1Byte.f
  by_cases c : i < (b.length : Int)
  · rw [if_pos c, if_pos hi]
    refine ⟨_, _, _, rfl, (and255 _).1, (and255 _).2, ?_⟩
    rw [w64 (by omega) (by omega)]; omega
  · rw [if_neg c]
    exact ⟨_, _, _, rfl, (and255 _).1, (and255 _).2, hi⟩
theorem below_ok (b : List Int) (i h n : Int) (hb : b.length ≤ 140737488351232) (hi : 0 ≤ i) : ∃ x i' h', spec_l1Below.f b i h n = some (x, i', h') ∧ 0 ≤ x ∧ (0 < n → x < n) ∧ (n ≤ 0 → x = 0) ∧ 0 ≤ i' := by
  unfold spec_l1Below.f
  by_cases c : n ≤ 0
  · rw [if_pos c]; exact ⟨_, _, _, rfl, by omega, by omega, by omega, hi⟩
  · rw [if_neg c]
    by_cases c2 : n ≤ 256
    · rw [if_pos c2]
      obtain ⟨x, i1, h1, e, x0, x1, hi1⟩ := byte_ok b i h hb hi
      rw [e]; simp only [Option.bind_some]; rw [if_neg (by omega)]
      refine ⟨_, _, _, rfl, ?_, fun _ => ?_, by omega, hi1⟩
      · rw [Int.tmod_eq_emod_of_nonneg x0]; exact Int.emod_nonneg _ (by omega)
      · rw [Int.tmod_eq_emod_of_nonneg x0]; exact Int.emod_lt_of_pos _ (by omega)
    · rw [if_neg c2]
      obtain ⟨x, i1, h1, e1, x0, x1, hi1⟩ := byte_ok b i h hb hi
      obtain ⟨y, i2, h2, e2, y0, y1, hi2⟩ := byte_ok b i1 h1 hb hi1
      obtain ⟨z, i3, h3, e3, z0, z1, hi3⟩ := byte_ok b i2 h2 hb hi2
      obtain ⟨v, i4, h4, e4, v0, v1, hi4⟩ := byte_ok b i3 h3 hb hi3
      rw [e1]; simp only [Option.bind_some]
      rw [e2]; simp only [Option.bind_some]
      rw [e3]; simp only [Option.bind_some]
      rw [e4]; simp only [Option.bind_some]
      rw [if_neg (by omega)]
      have p : wrap64 (wrap64 (wrap64 (wrap64 (x * 16777216) + wrap64 (y * 65536)) + wrap64 (z * 256)) + v) = x * 16777216 + y * 65536 + z * 256 + v := by
        rw [w64 (x := x * 16777216) (by omega) (by omega), w64 (x := y * 65536) (by omega) (by omega), w64 (x := z * 256) (by omega) (by omega), w64 (x := x * 16777216 + y * 65536) (by omega) (by omega),
          w64 (x := x * 16777216 + y * 65536 + z * 256) (by omega) (by omega), w64 (by omega) (by omega)]
      have q : 0 ≤ x * 16777216 + y * 65536 + z * 256 + v := by omega
      refine ⟨_, _, _, rfl, ?_, fun _ => ?_, by omega, hi4⟩
      · rw [p, Int.tmod_eq_emod_of_nonneg q]; exact Int.emod_nonneg _ (by omega)
      · rw [p, Int.tmod_eq_emod_of_nonneg q]; exact Int.emod_lt_of_pos _ (by omega)
theorem new_ok (b : List Int) (_hb : b.length ≤ 140737488351232) : ∃ h, Ev (fun k => spec_l1New.f k b) (b, 0, h) := by
  have go : ∀ (d : Nat) (x3 x4 : Int), 0 ≤ x4 → (b.length : Int) - x4 = d → ∃ h, Ev (fun k => spec_l1New.l0 k b x3 x4) (b, 0, h) := by
    intro d
    induction d with
    | zero =>
      intro x3 x4 h0 hd
      refine ⟨x3, Ev.step (fun k => ?_) (Ev.now _)⟩
      simp only [spec_l1New.l0]; rw [if_neg (by omega)]
    | succ d ih =>
      intro x3 x4 h0 hd
      by_cases c : x4 < 4000
      · obtain ⟨h, e⟩ := ih (Go.bits .and .i64 (wrap64 ((wrap64 ((wrap64 (x3 * 131)) + (wrap64 (rd b x4)))) + 7)) 1073741823) (x4 + 1) (by omega) (by omega)
        refine ⟨h, Ev.step (fun k => ?_) e⟩
        simp only [spec_l1New.l0]; rw [if_pos (by omega), if_pos c, if_pos h0, w64 (x := x4 + 1) (by omega) (by omega)]
      · refine ⟨x3, Ev.step (fun k => ?_) (Ev.now _)⟩
        simp only [spec_l1New.l0]; rw [if_pos (by omega), if_neg c]
  obtain ⟨h, e⟩ := go b.length (wrap64 (71933 + (b.length : Int))) 0 (by omega) (by omega)
  exact ⟨h, by unfold spec_l1New.f; exact e⟩
theorem pick_ok (b : List Int) (i h : Int) (l : List Int) (hb : b.length ≤ 140737488351232) (hi : 0 ≤ i) (hl : 0 < l.length) : ∃ x i' h', spec_l1PickInt.f b i h l = some (x, i', h') ∧ x ∈ l ∧ 0 ≤ i' := by
  unfold spec_l1PickInt.f
  obtain ⟨x, i1, h1, e, x0, x1, _, hi1⟩ := below_ok b i h (l.length : Int) hb hi
  rw [e]; simp only [Option.bind_some]
  have hx := x1 (by omega)
  rw [if_pos x0, if_pos hx]
  refine ⟨_, _, _, rfl, ?_, hi1⟩
  unfold rd
  rw [List.getD_eq_getElem?_getD, List.getElem?_eq_getElem (by omega)]
  exact List.getElem_mem _
theorem size_ok (b : List Int) (hb : b.length ≤ 140737488351232) (n : Int) (hn : 2 ≤ n) (hn2 : n ≤ 1000) : ∃ z, spec_l1Size.f b n = some z ∧ 2 ≤ z ∧ z ≤ n := by
  unfold spec_l1Size.f
  rw [w64 (x := (b.length : Int) / 20) (by omega) (by omega), w64 (by omega) (by omega)]
  by_cases c : 2 + (b.length : Int) / 20 > n
  · rw [if_pos c]; exact ⟨_, rfl, by omega, by omega⟩
  · rw [if_neg c]; exact ⟨_, rfl, by omega, by omega⟩
theorem same_ok (x : List Int) (hx : x.length ≤ 1000000000) : Ev (fun k => laws_sameInts.f k x x) true := by
  have go : ∀ (d : Nat) (i : Int), 0 ≤ i → (x.length : Int) - i = d → Ev (fun k => laws_sameInts.l0 k x x i) true := by
    intro d
    induction d with
    | zero =>
      intro i h0 hd
      refine Ev.step (fun k => ?_) (Ev.now true)
      simp only [laws_sameInts.l0]; rw [if_neg (by omega)]
    | succ d ih =>
      intro i h0 hd
      refine Ev.step (fun k => ?_) (ih (i + 1) (by omega) (by omega))
      simp only [laws_sameInts.l0, if_true]; rw [if_pos (by omega), if_pos h0, if_pos (by omega), w64 (by omega) (by omega)]
  refine Ev.congr (fun k => ?_) (go x.length 0 (by omega) (by omega))
  simp only [laws_sameInts.f, if_true]
def Fine (A : List S36) : Prop := A.length ≤ 100 ∧ ∀ a ∈ A, a.f0.length ≤ 100
theorem draw_ok (b : List Int) (hb : b.length ≤ 140737488351232) : ∃ A S R, Ev (fun m => spec_DrawContend.f m b) (A, S, R) ∧ Fine A := by
  have fin : ∀ (A : List S36) (i h : Int), 0 ≤ i → ∃ S R, Ev (fun m => spec_DrawContend.j2 m A b i h) (A, S, R) := by
    intro A i h hi
    obtain ⟨x, c6, h6, e6, _, hc6⟩ := pick_ok b i h [1, 2, 4, 8, 16, 17, 0, 3] hb hi (by simp)
    obtain ⟨y, c7, h7, e7, _, _⟩ := pick_ok b c6 h6 [0, 1, 3, 6, 60, 61, (-1), 5] hb hc6 (by simp)
    refine ⟨x, y, Ev.step (fun m => ?_) (Ev.now _)⟩
    simp only [spec_DrawContend.j2, e6, e7, Option.bind_some]
  have row : ∀ (A : List S36) (x7 : Int), A.length ≤ 60 → -1000 ≤ x7 → x7 ≤ 1000 →
      (∀ (cs : List Int) (i h : Int), cs.length ≤ 8 → 0 ≤ i → ∃ A' S R, Ev (fun m => spec_DrawContend.l0 m (A ++ [⟨cs⟩]) (x7 - 1) b i h) (A', S, R) ∧ Fine A') →
      ∀ (d : Nat) (cs : List Int) (i h : Int), cs.length + d ≤ 8 → 0 ≤ i → ∃ A' S R, Ev (fun m => spec_DrawContend.l1 m A x7 (d : Int) b i h cs) (A', S, R) ∧ Fine A' := by
    intro A x7 hA h1 h2 next d
    induction d with
    | zero =>
      intro cs i h hc hi
      obtain ⟨A', S, R, e, f⟩ := next cs i h (by omega) hi
      refine ⟨A', S, R, Ev.step (fun m => ?_) e, f⟩
      simp only [spec_DrawContend.l1]
      rw [if_neg (by omega), if_pos (by omega), w64 (by omega) (by omega)]
    | succ d ih =>
      intro cs i h hc hi
      obtain ⟨v, c1, h1', e1, _, _, _, hc1⟩ := below_ok b i h 1001 hb hi
      obtain ⟨A', S, R, e, f⟩ := ih (cs ++ [v]) c1 h1' (by simp; omega) hc1
      refine ⟨A', S, R, Ev.step (fun m => ?_) e, f⟩
      simp only [spec_DrawContend.l1]
      rw [if_pos (by omega)]
      simp only [e1, Option.bind_some]
      rw [if_pos (by omega), w64 (by omega) (by omega), show ((d + 1 : Nat) : Int) - 1 = (d : Int) by omega]
  have outer : ∀ (d : Nat) (A : List S36) (i h : Int), 0 ≤ i → 0 < A.length + d → A.length + d ≤ 50 → (∀ a ∈ A, a.f0.length ≤ 8) → ∃ A' S R, Ev (fun m => spec_DrawContend.l0 m A ((d : Int) - 1) b i h) (A', S, R) ∧ Fine A' := by
    intro d
    induction d with
    | zero =>
      intro A i h hi hpos hle hA
      obtain ⟨v, c1, h1, e1, _, _, _, hc1⟩ := below_ok b i h 25 hb hi
      by_cases v0 : v = 0
      · obtain ⟨x, c2, h2, e2, hx, hc2⟩ := pick_ok b c1 h1 [0, 40, 41] hb hc1 (by simp)
        have hx' : 0 ≤ x ∧ x ≤ 41 := by
          simp only [List.mem_cons, List.not_mem_nil, or_false] at hx
          rcases hx with rfl | rfl | rfl <;> omega
        obtain ⟨S, R, e⟩ := fin (List.replicate x.toNat z36) c2 h2 hc2
        refine ⟨_, S, R, Ev.step (fun m => ?_) e, by simp; omega, fun a ha => ?_⟩
        · simp only [spec_DrawContend.l0]
          rw [if_neg (by omega)]
          simp only [e1, Option.bind_some]
          rw [if_pos v0]
          simp only [e2, Option.bind_some]
          rw [if_pos hx'.1, if_pos (by omega)]
        · rw [(List.mem_replicate.1 ha).2]; simp [z36]
      · by_cases v1 : v = 1
        · obtain ⟨x, c2, h2, e2, hx, hc2⟩ := pick_ok b c1 h1 [(-1), 1001] hb hc1 (by simp)
          have h36 : ((rd_T36 A 0).f0).length ≤ 8 := hA _ (getD_mem z36 (by omega))
          obtain ⟨S, R, e⟩ := fin (A.set (0 : Int).toNat (⟨(((rd_T36 A 0).f0) ++ [x])⟩ : S36)) c2 h2 hc2
          refine ⟨_, S, R, Ev.step (fun m => ?_) e, by simp; omega, fun a ha => ?_⟩
          · simp only [spec_DrawContend.l0]
            rw [if_neg (by omega)]
            simp only [e1, Option.bind_some]
            rw [if_neg v0, if_pos v1, if_pos (by omega)]
            simp only [e2, Option.bind_some]
            rw [if_pos (by omega)]
          · rcases List.mem_or_eq_of_mem_set ha with h | rfl
            · exact Nat.le_trans (hA a h) (by omega)
            · simp; omega
        · obtain ⟨S, R, e⟩ := fin A c1 h1 hc1
          refine ⟨_, S, R, Ev.step (fun m => ?_) e, by omega, fun a ha => Nat.le_trans (hA a ha) (by omega)⟩
          simp only [spec_DrawContend.l0]
          rw [if_neg (by omega)]
          simp only [e1, Option.bind_some]
          rw [if_neg v0, if_neg v1]
    | succ d ih =>
      intro A i h hi hpos hle hA
      obtain ⟨v, c1, h1, e1, v0, v1, _, hc1⟩ := below_ok b i h 8 hb hi
      obtain ⟨A', S, R, e, f⟩ := row A (d : Int) (by omega) (by omega) (by omega) (fun cs i h hc hi => ih (A ++ [⟨cs⟩]) i h hi (by simp; omega) (by simp; omega) (fun a ha => by
        rcases List.mem_append.1 ha with h | h
        · exact hA a h
        · rw [List.mem_singleton.1 h]; exact hc)) v.toNat [] c1 h1 (by simp; have := v1 (by omega); omega) hc1
      rw [show ((v.toNat : Nat) : Int) = v by omega] at e
      refine ⟨A', S, R, Ev.step (fun m => ?_) e, f⟩
      simp only [spec_DrawContend.l0]
      rw [if_pos (by omega), show ((d + 1 : Nat) : Int) - 1 = (d : Int) by omega]
      simp only [e1, Option.bind_some]
  obtain ⟨h, e0⟩ := new_ok b hb
  obtain ⟨z, ez, z1, z2⟩ := size_ok b hb 12 (by omega) (by omega)
  obtain ⟨v, c1, h1, e1, v0, v1, _, hc1⟩ := below_ok b 0 h z hb (by omega)
  have := v1 (by omega)
  obtain ⟨A, S, R, e, f⟩ := outer (v.toNat + 1) [] c1 h1 hc1 (by simp) (by simp; omega) (by simp)
  refine ⟨A, S, R, Ev.bind e0 ?_, f⟩
  simp only [ez, Option.bind_some, e1]
  rwa [show ((v.toNat + 1 : Nat) : Int) - 1 = v by omega] at e
theorem inner (A : List S36) (S R : Int) (h : List Int) (i : Nat) (hi : i < A.length) (hA : A.length ≤ 40) (hl : h.length = A.length) (hS : 1 ≤ S) (g : CoMath.Good (co A) S A.length h R.toNat) (hn : ¬ h.getD i 0 < 0)
    (next : Ev (fun k => laws_FnAlone.l0 k A S R h ((i : Int) + 1)) true) : ∀ (d t : Nat), t + d = A.length → Ev (fun k => laws_FnAlone.l1 k A S R h (i : Int) (t : Int)) true := by
  intro d
  induction d with
  | zero =>
    intro t ht
    refine Ev.step (fun k => ?_) next
    simp only [laws_FnAlone.l1]
    rw [if_neg (by omega), w64 (by omega) (by omega)]
  | succ d ih =>
    intro t ht
    have ev : Ev (fun k => laws_FnAlone.j4 k A S R h (i : Int) (t : Int) false) true := by
      refine Ev.step (fun k => ?_) (ih (t + 1) (by omega))
      simp only [laws_FnAlone.j4, Bool.false_eq_true, if_false]
      rw [w64 (by omega) (by omega)]
      norm_cast
    refine Ev.step (fun k => ?_) ev
    rcases g.2 i hi with g1 | ⟨g1, g2, g3, g4⟩
    · exact absurd g1 hn
    have e1 : ((h.getD i 0).toNat : Int) = h.getD i 0 := by omega
    have ek : ∀ j : Nat, rd (co A j) (h.getD i 0) = (co A j).getD (h.getD i 0).toNat 0 := fun _ => rfl
    simp only [laws_FnAlone.l1]
    rw [if_pos (by omega)]
    by_cases c : (t : Int) = (i : Int)
    · rw [if_pos c]
    · rw [if_neg c, if_pos (by omega), rdI, rdI, e36, e36]
      have hne : t ≠ i := by omega
      by_cases c2 : h.getD t 0 < 0
      · rw [if_pos c2, if_pos (by omega), if_pos (by omega), if_pos (by omega)]
        by_cases c3 : h.getD i 0 < ((co A t).length : Int)
        · rw [if_pos c3, if_pos g1, if_neg (by omega), if_pos (by omega), if_pos g3, ek, ek]
          rw [beq_eq_false_iff_ne.2 (g4 t (by omega) hne (.inl c2) c3)]
        · rw [if_neg c3]
      · rw [if_neg c2, if_pos (by omega), if_pos (by omega)]
        by_cases c4 : h.getD t 0 ≥ h.getD i 0
        · rw [if_pos c4, if_pos (by omega)]
          by_cases c3 : h.getD i 0 < ((co A t).length : Int)
          · rw [if_pos c3, if_pos g1, if_neg (by omega), if_pos (by omega), if_pos g3, ek, ek]
            rw [beq_eq_false_iff_ne.2 (g4 t (by omega) hne (.inr c4) c3)]
          · rw [if_neg c3]
        · rw [if_neg c4]
theorem outerC (A : List S36) (S R : Int) (h : List Int) (hA : A.length ≤ 40) (hl : h.length = A.length) (hS : 1 ≤ S) (hR : 0 ≤ R) (g : CoMath.Good (co A) S A.length h R.toNat) : ∀ (d i : Nat), i + d = A.length → Ev (fun k => laws_FnAlone.l0 k A S R h (i : Int)) true := by
  intro d
  induction d with
  | zero =>
    intro i hi
    refine Ev.step (fun k => ?_) (Ev.now _)
    simp only [laws_FnAlone.l0]
    rw [if_neg (by omega), hl]
    simp
  | succ d ih =>
    intro i hi
    have next : Ev (fun k => laws_FnAlone.l0 k A S R h ((i : Int) + 1)) true := by exact_mod_cast ih (i + 1) (by omega)
    by_cases hn : h.getD i 0 < 0
    · refine Ev.step (fun k => ?_) next
      simp only [laws_FnAlone.l0]
      rw [if_pos (by omega), if_pos (by omega), rdI, if_pos hn, w64 (by omega) (by omega)]
    · rcases g.2 i (by omega) with g1 | ⟨g1, g2, g3, g4⟩
      · exact absurd g1 hn
      have e1 := inner A S R h i (by omega) hA hl hS g hn next A.length 0 (by omega)
      refine Ev.step (g := fun k => laws_FnAlone.l0 k A S R h (i : Int)) (f := fun k => laws_FnAlone.j2 k A S R h (i : Int) false) (fun k => ?_) (Ev.step (fun k => ?_) e1)
      · simp only [laws_FnAlone.l0]
        rw [if_pos (by omega), if_pos (by omega), rdI, if_neg hn, if_neg (by omega), if_pos (by omega), e36, decide_eq_false (by omega)]
      · simp only [laws_FnAlone.j2, Bool.false_eq_true, if_false]
        rfl
theorem small2 : Ev (fun m => impl_Contend.f m [⟨[1, 0]⟩, ⟨[1, 1]⟩] 2 2) ([1, 1], true) := by
  have h := (implContend [⟨[1, 0]⟩, ⟨[1, 1]⟩] 2 2 ⟨by simp, by simp⟩).1 ⟨⟨by simp, by simp⟩, ⟨by omega, by omega⟩, ⟨by omega, by omega⟩, ?_⟩
  · have e : runs (co [⟨[1, 0]⟩, ⟨[1, 1]⟩]) 2 ([⟨[1, 0]⟩, ⟨[1, 1]⟩] : List S36).length (2 : Int).toNat 0 (List.replicate ([⟨[1, 0]⟩, ⟨[1, 1]⟩] : List S36).length (-1)) = [1, 1] := by decide +kernel
    rw [e] at h
    exact h
  · intro a ha c hc
    simp only [List.mem_cons, List.not_mem_nil, or_false] at ha
    rcases ha with rfl | rfl <;> (simp only [List.mem_cons, List.not_mem_nil, or_false] at hc; rcases hc with rfl | rfl <;> simp [CoinOk])
def rest (A : List S36) (S R : Int) (h : List Int) (ok : Bool) (m : Nat) : Option Bool := (laws_sameInts.f m [1, 1] [1, 1]).bind fun t => laws_FnAlone.j0 m A S R h ok (!t)
theorem whole (b : List Int) (hb : b.length ≤ 140737488351232) : Ev (fun m => laws_FnAlone.f m b) true := by
  unfold laws_FnAlone.f laws_big.f
  simp only [Option.bind_some]
  by_cases hbig : (b.length : Int) > 1048576
  · rw [decide_eq_true hbig]; simp only [if_true]; exact Ev.now _
  · rw [decide_eq_false hbig]; simp only [Bool.false_eq_true, if_false]
    obtain ⟨A, S, R, hd, hf⟩ := draw_ok b hb
    have hs : Small A := ⟨by have := hf.1; omega, fun a ha => by have := hf.2 a ha; omega⟩
    refine Ev.bind hd ?_
    by_cases hok : OkC A S R
    · refine Ev.bind ((implContend A S R hs).1 hok) (Ev.bind ((specContend A S R hs).1 hok) ?_)
      simp only [bne_self_eq_false, Bool.false_eq_true, if_false]
      refine Ev.bind small2 ?_
      have g := good_runs (co := co A) (S := S) (n := A.length) R.toNat 0 (List.replicate A.length (-1)) good_start
      rw [Nat.zero_add] at g
      generalize runs (co A) S A.length R.toNat 0 (List.replicate A.length (-1)) = h at g ⊢
      simp only [if_true]
      refine Ev.congr (f := rest A S R h true) (fun m => rfl) (Ev.bind (same_ok [1, 1] (by simp)) ?_)
      refine Ev.step (fun m => ?_) (outerC A S R h (by have := hok.1; omega) g.1 hok.2.1.1 hok.2.2.1.1 g A.length 0 (by omega))
      simp [laws_FnAlone.j0]
    · refine Ev.bind ((implContend A S R hs).2 hok) (Ev.bind ((specContend A S R hs).2 hok) ?_)
      simp only [bne_self_eq_false, Bool.false_eq_true, if_false]
      refine Ev.bind small2 ?_
      simp only [if_true]
      refine Ev.congr (f := rest A S R [] false) (fun m => rfl) (Ev.bind (same_ok [1, 1] (by simp)) ?_)
      refine Ev.step (fun m => ?_) (Ev.now _)
      simp [laws_FnAlone.j0]
end Go.Proofs.Ytjioalgfpcdlhaa.CoLaw
