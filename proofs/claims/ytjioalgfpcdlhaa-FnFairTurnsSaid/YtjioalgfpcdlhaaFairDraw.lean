/- What FnFairTurns draws. By an AI agent. -/
import Derived.Test.YtjioalgfpcdlhaaFairx2
namespace Go.Proofs.Ytjioalgfpcdlhaa.FairDraw
open Go Go.RowKit Go.Proofs.Ytjioalgfpcdlhaa.Fair Go.Proofs.YtjioalgfpcdlhaaW.PrintWords
theorem w64 {x : Int} (h1 : -9223372036854775808 ≤ x) (h2 : x ≤ 9223372036854775807) : wrap64 x = x := by unfold wrap64; omega
theorem and255 (x : Int) : 0 ≤ Go.bits .and .i64 x 255 ∧ Go.bits .and .i64 x 255 ≤ 255 := by
  have h : (BitVec.ofInt IntKind.i64.bits x &&& BitVec.ofInt IntKind.i64.bits 255).toNat ≤ 255 := by
    rw [BitVec.toNat_and]
    exact Nat.le_trans Nat.and_le_right (by decide)
  have e : Go.bits .and .i64 x 255 = IntKind.i64.wrap ((BitVec.ofInt IntKind.i64.bits x &&& BitVec.ofInt IntKind.i64.bits 255).toNat : Int) := rfl
  rw [e, IntKind.wrap_i64]
  omega
theorem byte_ok (b : List Int) (i h : Int) (hb : b.length ≤ 140737488351232) (hi : 0 ≤ i) : ∃ x i' h', spec_l1Byte.f b i h = some (x, i', h') ∧ 0 ≤ x ∧ x ≤ 255 ∧ 0 ≤ i' := by
  unfold spec_l1Byte.f
  by_cases c : i < (b.length : Int)
  · rw [if_pos c, if_pos hi]
    refine ⟨_, _, _, rfl, (and255 _).1, (and255 _).2, ?_⟩
    rw [w64 (by omega) (by omega)]; omega
  · rw [if_neg c]
    exact ⟨_, _, _, rfl, (and255 _).1, (and255 _).2, hi⟩
theorem below_ok (b : List Int) (i h n : Int) (hb : b.length ≤ 140737488351232) (hi : 0 ≤ i) : ∃ x i' h', spec_l1Below.f b i h n = some (x, i', h') ∧ 0 ≤ x ∧ (0 < n → x < n) ∧ (n ≤ 0 → x = 0) ∧ 0 ≤ i' := by
  unfold spec_l1Below.f
  by_cases c : n ≤ 0
  · rw [if_pos c]; exact ⟨_, _, _, rfl, by omega, by omega, by omega, hi⟩
  · rw [if_neg c]
    by_cases c2 : n ≤ 256
    · rw [if_pos c2]
      obtain ⟨x, i1, h1, e, x0, x1, hi1⟩ := byte_ok b i h hb hi
      rw [e]; simp only [Option.bind_some]; rw [if_neg (by omega)]
      refine ⟨_, _, _, rfl, ?_, fun _ => ?_, by omega, hi1⟩
      · rw [Int.tmod_eq_emod_of_nonneg x0]; exact Int.emod_nonneg _ (by omega)
      · rw [Int.tmod_eq_emod_of_nonneg x0]; exact Int.emod_lt_of_pos _ (by omega)
    · rw [if_neg c2]
      obtain ⟨x, i1, h1, e1, x0, x1, hi1⟩ := byte_ok b i h hb hi
      obtain ⟨y, i2, h2, e2, y0, y1, hi2⟩ := byte_ok b i1 h1 hb hi1
      obtain ⟨z, i3, h3, e3, z0, z1, hi3⟩ := byte_ok b i2 h2 hb hi2
      obtain ⟨v, i4, h4, e4, v0, v1, hi4⟩ := byte_ok b i3 h3 hb hi3
      rw [e1]; simp only [Option.bind_some]
      rw [e2]; simp only [Option.bind_some]
      rw [e3]; simp only [Option.bind_some]
      rw [e4]; simp only [Option.bind_some]
      rw [if_neg (by omega)]
      have p : wrap64 (wrap64 (wrap64 (wrap64 (x * 16777216) + wrap64 (y * 65536)) + wrap64 (z * 256)) + v) = x * 16777216 + y * 65536 + z * 256 + v := by
        rw [w64 (x := x * 16777216) (by omega) (by omega), w64 (x := y * 65536) (by omega) (by omega), w64 (x := z * 256) (by omega) (by omega), w64 (x := x * 16777216 + y * 65536) (by omega) (by omega),
          w64 (x := x * 16777216 + y * 65536 + z * 256) (by omega) (by omega), w64 (by omega) (by omega)]
      have q : 0 ≤ x * 16777216 + y * 65536 + z * 256 + v := by omega
      refine ⟨_, _, _, rfl, ?_, fun _ => ?_, by omega, hi4⟩
      · rw [p, Int.tmod_eq_emod_of_nonneg q]; exact Int.emod_nonneg _ (by omega)
      · rw [p, Int.tmod_eq_emod_of_nonneg q]; exact Int.emod_lt_of_pos _ (by omega)
theorem new_ok (b : List Int) (_hb : b.length ≤ 140737488351232) : ∃ h, Ev (fun k => spec_l1New.f k b) (b, 0, h) := by
  have go : ∀ (d : Nat) (x3 x4 : Int), 0 ≤ x4 → (b.length : Int) - x4 = d → ∃ h, Ev (fun k => spec_l1New.l0 k b x3 x4) (b, 0, h) := by
    intro d
    induction d with
    | zero =>
      intro x3 x4 h0 hd
      refine ⟨x3, Ev.step (fun k => ?_) (Ev.now _)⟩
      simp only [spec_l1New.l0]; rw [if_neg (by omega)]
    | succ d ih =>
      intro x3 x4 h0 hd
      by_cases c : x4 < 4000
      · obtain ⟨h, e⟩ := ih (Go.bits .and .i64 (wrap64 ((wrap64 ((wrap64 (x3 * 131)) + (wrap64 (rd b x4)))) + 7)) 1073741823) (x4 + 1) (by omega) (by omega)
        refine ⟨h, Ev.step (fun k => ?_) e⟩
        simp only [spec_l1New.l0]; rw [if_pos (by omega), if_pos c, if_pos h0, w64 (x := x4 + 1) (by omega) (by omega)]
      · refine ⟨x3, Ev.step (fun k => ?_) (Ev.now _)⟩
        simp only [spec_l1New.l0]; rw [if_pos (by omega), if_neg c]
  obtain ⟨h, e⟩ := go b.length (wrap64 (71933 + (b.length : Int))) 0 (by omega) (by omega)
  exact ⟨h, by unfold spec_l1New.f; exact e⟩
theorem pick_ok (b : List Int) (i h : Int) (l : List Int) (hb : b.length ≤ 140737488351232) (hi : 0 ≤ i) (hl : 0 < l.length) : ∃ x i' h', spec_l1PickInt.f b i h l = some (x, i', h') ∧ x ∈ l ∧ 0 ≤ i' := by
  unfold spec_l1PickInt.f
  obtain ⟨x, i1, h1, e, x0, x1, _, hi1⟩ := below_ok b i h (l.length : Int) hb hi
  rw [e]; simp only [Option.bind_some]
  have hx := x1 (by omega)
  rw [if_pos x0, if_pos hx]
  refine ⟨_, _, _, rfl, ?_, hi1⟩
  unfold rd
  rw [List.getD_eq_getElem?_getD, List.getElem?_eq_getElem (by omega)]
  exact List.getElem_mem _
/-- What is drawn: some rows, none of them long. -/
theorem draw_ok (b : List Int) (hb : b.length ≤ 140737488351232) : ∃ Q T, Ev (fun k => spec_DrawFair.f k b) (Q, T) ∧ Q.length ≤ 100 ∧ ∀ r ∈ Q, r.length ≤ 100 := by
  have fin : ∀ (Q : List (List Int)) (i h : Int), 0 ≤ i → ∃ T, Ev (fun k => spec_DrawFair.j2 k Q b i h) (Q, T) := by
    intro Q i h hi
    obtain ⟨x, i1, h1, e, _, _⟩ := pick_ok b i h [0, 1, 5, 12, 500, 501, (-1), 9] hb hi (by simp)
    refine ⟨x, ?_⟩
    refine Ev.step (fun k => ?_) (Ev.now _)
    simp only [spec_DrawFair.j2, e, Option.bind_some]
  have row : ∀ (m : Nat), (∀ (Q : List (List Int)) (i h : Int), 0 ≤ i → Q.length + m ≤ 50 → (∀ r ∈ Q, r.length ≤ 100) → ∃ Q' T, Ev (fun k => spec_DrawFair.l0 k Q (m : Int) b i h) (Q', T) ∧ Q'.length ≤ 100 ∧ ∀ r ∈ Q', r.length ≤ 100) →
      ∀ (d : Nat) (Q : List (List Int)) (x : List Int) (i h : Int), 0 ≤ i → Q.length + (m + 1) ≤ 50 → (∀ r ∈ Q, r.length ≤ 100) → x.length + d ≤ 50 → ∃ Q' T, Ev (fun k => spec_DrawFair.l1 k Q ((m : Int) + 1) x (d : Int) b i h) (Q', T) ∧ Q'.length ≤ 100 ∧ ∀ r ∈ Q', r.length ≤ 100 := by
    intro m IH d
    induction d with
    | zero =>
      intro Q x i h hi hQ hr hx
      obtain ⟨Q', T, e, p⟩ := IH (Q ++ [x]) i h hi (by simp; omega) (by intro r hr'; rcases List.mem_append.1 hr' with z | z; exact hr r z; simp at z; subst z; omega)
      refine ⟨Q', T, ?_, p⟩
      refine Ev.step (fun k => ?_) e
      simp only [spec_DrawFair.l1]; rw [if_neg (by omega), if_pos (by omega), w64 (x := (m : Int) + 1 - 1) (by omega) (by omega), show (m : Int) + 1 - 1 = m by omega]
    | succ d ih =>
      intro Q x i h hi hQ hr hx
      obtain ⟨y, i1, h1, e1, _, _, _, hi1⟩ := below_ok b i h 100 hb hi
      obtain ⟨Q', T, e, p⟩ := ih Q (x ++ [y]) i1 h1 hi1 hQ hr (by simp; omega)
      refine ⟨Q', T, ?_, p⟩
      refine Ev.step (fun k => ?_) e
      simp only [spec_DrawFair.l1]; rw [if_pos (by omega)]; simp only [e1, Option.bind_some]; rw [if_pos (by omega), w64 (by omega) (by omega), show ((d + 1 : Nat) : Int) - 1 = d by omega]
  have outer : ∀ (m : Nat) (Q : List (List Int)) (i h : Int), 0 ≤ i → Q.length + m ≤ 50 → (∀ r ∈ Q, r.length ≤ 100) → ∃ Q' T, Ev (fun k => spec_DrawFair.l0 k Q (m : Int) b i h) (Q', T) ∧ Q'.length ≤ 100 ∧ ∀ r ∈ Q', r.length ≤ 100 := by
    intro m
    induction m with
    | zero =>
      intro Q i h hi hQ hr
      obtain ⟨y, i1, h1, e1, _, _, _, hi1⟩ := below_ok b i h 30 hb hi
      by_cases c0 : y = 0
      · obtain ⟨z, i2, h2, e2, z0, z1, _, hi2⟩ := below_ok b i1 h1 2 hb hi1
        have hz := z1 (by omega)
        obtain ⟨T, e⟩ := fin (Q ++ [List.replicate (60 + z).toNat 0]) i2 h2 hi2
        refine ⟨Q ++ [List.replicate (60 + z).toNat 0], T, ?_, by simp; omega, ?_⟩
        · refine Ev.step (fun k => ?_) e
          simp only [spec_DrawFair.l0]; rw [if_neg (by omega)]; simp only [e1, Option.bind_some]; rw [if_pos c0]; simp only [e2, Option.bind_some]; rw [w64 (x := 60 + z) (by omega) (by omega), if_pos (by omega), if_pos (by omega), if_pos (by omega)]
        · intro r hr'; rcases List.mem_append.1 hr' with z | z
          · exact hr r z
          · simp at z; subst z; simp; omega
      · by_cases c1 : y = 1
        · obtain ⟨z, i2, h2, e2, z0, z1, _, hi2⟩ := below_ok b i1 h1 2 hb hi1
          have hz := z1 (by omega)
          obtain ⟨T, e⟩ := fin (List.replicate (8 + z).toNat []) i2 h2 hi2
          refine ⟨List.replicate (8 + z).toNat [], T, ?_, by simp; omega, ?_⟩
          · refine Ev.step (fun k => ?_) e
            simp only [spec_DrawFair.l0]; rw [if_neg (by omega)]; simp only [e1, Option.bind_some]; rw [if_neg c0, if_pos c1]; simp only [e2, Option.bind_some]; rw [w64 (x := 8 + z) (by omega) (by omega), if_pos (by omega), if_pos (by omega)]
          · intro r hr'; rw [List.eq_of_mem_replicate hr']; simp
        · obtain ⟨T, e⟩ := fin Q i1 h1 hi1
          refine ⟨_, T, ?_, by omega, hr⟩
          refine Ev.step (fun k => ?_) e
          simp only [spec_DrawFair.l0]; rw [if_neg (by omega)]; simp only [e1, Option.bind_some]; rw [if_neg c0, if_neg c1]
    | succ m ih =>
      intro Q i h hi hQ hr
      obtain ⟨y, i1, h1, e1, y0, y1, _, hi1⟩ := below_ok b i h 8 hb hi
      have hy := y1 (by omega)
      obtain ⟨Q', T, e, p⟩ := row m ih y.toNat Q [] i1 h1 hi1 hQ hr (by simp; omega)
      rw [show ((y.toNat : Nat) : Int) = y by omega] at e
      refine ⟨Q', T, Ev.step (fun k => ?_) e, p⟩
      simp only [spec_DrawFair.l0]; rw [if_pos (by omega)]; simp only [e1, Option.bind_some]; rw [show ((m + 1 : Nat) : Int) = (m : Int) + 1 by omega]
  obtain ⟨h, e0⟩ := new_ok b hb
  obtain ⟨y, i1, h1, e1, y0, y1, _, hi1⟩ := below_ok b 0 h 5 hb (by omega)
  have hy := y1 (by omega)
  obtain ⟨Q, T, e, p⟩ := outer y.toNat [] i1 h1 hi1 (by simp; omega) (by simp)
  refine ⟨Q, T, ?_, p⟩
  unfold spec_DrawFair.f
  refine Ev.bind e0 ?_
  simp only [e1, Option.bind_some]
  rw [show ((y.toNat : Nat) : Int) = y by omega] at e
  exact e
end Go.Proofs.Ytjioalgfpcdlhaa.FairDraw
