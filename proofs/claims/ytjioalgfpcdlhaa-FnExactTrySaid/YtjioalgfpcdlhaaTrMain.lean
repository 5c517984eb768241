/- impl.Try and spec.Try over plain lists. By an AI agent. -/
import Derived.Test.YtjioalgfpcdlhaaTrx2
import Derived.Test.YtjioalgfpcdlhaaTrx3
import Derived.Test.YtjioalgfpcdlhaaTrx4
import Derived.Test.YtjioalgfpcdlhaaTrx7
namespace Go.Proofs.Ytjioalgfpcdlhaa.TrMain
set_option linter.unusedVariables false
set_option linter.unusedSimpArgs false
open Go Go.RowKit Go.Proofs.Ytjioalgfpcdlhaa.Tr Go.Proofs.YtjioalgfpcdlhaaW.PrintWords
theorem w64 {x : Int} (h1 : -9223372036854775808 ≤ x) (h2 : x ≤ 9223372036854775807) : wrap64 x = x := by unfold wrap64; omega
theorem in_at (a b c : Int) : impl_in.f a b c = some (decide (b ≤ a) && decide (a ≤ c)) := by
  unfold impl_in.f
  by_cases h : a ≥ b
  · rw [if_pos h, decide_eq_true (show b ≤ a from h)]; simp
  · rw [if_neg h, decide_eq_false (show ¬ b ≤ a from h)]; simp
theorem in_at2 (a b c : Int) : spec_l1In.f a b c = some (decide (b ≤ a) && decide (a ≤ c)) := by
  unfold spec_l1In.f
  by_cases h : a ≥ b
  · rw [if_pos h, decide_eq_true (show b ≤ a from h)]; simp
  · rw [if_neg h, decide_eq_false (show ¬ b ≤ a from h)]; simp
theorem rdT (l : List S51) (i : Nat) : rd_T51 l (i : Int) = l.getD i z51 := by simp [rd_T51]
theorem rdI (l : List Int) (i : Nat) : rd l (i : Int) = l.getD i 0 := by simp [rd]
theorem rdB (l : List Bool) (i : Nat) : rdOf false l (i : Int) = l.getD i false := by simp [rdOf]
theorem drop_cons {α : Type _} {l : List α} {q : Nat} {r : α} {rs : List α} (d : α) (h : l.drop q = r :: rs) : q < l.length ∧ l.getD q d = r ∧ l.drop (q + 1) = rs := by
  have hl : q < l.length := by
    by_cases c : q < l.length
    · exact c
    · rw [List.drop_eq_nil_of_le (by omega)] at h; cases h
  rw [List.drop_eq_getElem_cons hl] at h
  injection h with h1 h2
  exact ⟨hl, by rw [List.getD_eq_getElem?_getD, List.getElem?_eq_getElem hl]; exact h1, h2⟩
theorem getD_mem {α : Type _} {l : List α} {i : Nat} (d : α) (h : i < l.length) : l.getD i d ∈ l := by
  rw [List.getD_eq_getElem?_getD, List.getElem?_eq_getElem h]
  exact List.getElem_mem _

def ArrOk (a : S51) : Prop := (0 ≤ a.f0 ∧ a.f0 ≤ 1000000000) ∧ (0 ≤ a.f1 ∧ a.f1 ≤ 10000) ∧ (0 ≤ a.f2 ∧ a.f2 ≤ 3)
def ArrsOk (l : List S51) : Prop := (∀ a ∈ l, ArrOk a) ∧ l.length ≤ 200
def Ticks (l : List S51) : Prop := ∀ i, i + 1 < l.length → (l.getD i z51).f0 ≤ (l.getD (i + 1) z51).f0
def Sorted (l : List Int) : Prop := ∀ i, i + 1 < l.length → l.getD i 0 ≤ l.getD (i + 1) 0

theorem arrivalsOk_ev (l : List S51) (hl : l.length ≤ 2000000) : (ArrsOk l → Ev (fun m => impl_arrivalsOk.f m l) true) ∧ (¬ ArrsOk l → Ev (fun m => impl_arrivalsOk.f m l) false) := by
  have good : ∀ (rs : List S51) (q : Nat), l.drop q = rs → q + rs.length = l.length → (∀ a ∈ rs, ArrOk a) → Ev (fun m => impl_arrivalsOk.l0 m l l (l.length : Int) (q : Int)) (decide ((l.length : Int) ≤ 200)) := by
    intro rs
    induction rs with
    | nil =>
      intro q hd hq _
      refine Ev.step (fun m => ?_) (Ev.now _)
      simp only [impl_arrivalsOk.l0]; rw [if_neg (by simp at hq; omega)]
    | cons a rs ih =>
      intro q hd hq h
      obtain ⟨hlt, hg, hd'⟩ := drop_cons z51 hd
      obtain ⟨⟨a1, a2⟩, ⟨a3, a4⟩, ⟨a5, a6⟩⟩ := h a (by simp)
      refine Ev.step (fun m => ?_) (Ev.step (g := fun m => impl_arrivalsOk.j1 m l l (l.length : Int) (q : Int) false) (fun m => ?_) (ih (q + 1) hd' (by simp at hq; omega) (fun x hx => h x (by simp [hx]))))
      · simp only [impl_arrivalsOk.l0]
        rw [if_pos (by omega), if_pos (by omega), if_pos (by omega), rdT, hg]
        simp [in_at, a1, a2, a3, a4, a5, a6]
      · simp only [impl_arrivalsOk.j1, Bool.false_eq_true, if_false]
        rw [w64 (by omega) (by omega), show (q : Int) + 1 = ((q + 1 : Nat) : Int) by omega]
  have bad : ∀ (rs : List S51) (q : Nat), l.drop q = rs → q + rs.length = l.length → (∃ a ∈ rs, ¬ ArrOk a) → Ev (fun m => impl_arrivalsOk.l0 m l l (l.length : Int) (q : Int)) false := by
    intro rs
    induction rs with
    | nil => intro q _ _ h; obtain ⟨a, h, _⟩ := h; simp at h
    | cons a rs ih =>
      intro q hd hq h
      obtain ⟨hlt, hg, hd'⟩ := drop_cons z51 hd
      by_cases ha : ArrOk a
      · have h' : ∃ a ∈ rs, ¬ ArrOk a := by
          obtain ⟨x, hx, hn⟩ := h
          rcases List.mem_cons.1 hx with rfl | hx
          · exact absurd ha hn
          · exact ⟨x, hx, hn⟩
        obtain ⟨⟨a1, a2⟩, ⟨a3, a4⟩, ⟨a5, a6⟩⟩ := ha
        refine Ev.step (fun m => ?_) (Ev.step (g := fun m => impl_arrivalsOk.j1 m l l (l.length : Int) (q : Int) false) (fun m => ?_) (ih (q + 1) hd' (by simp at hq; omega) h'))
        · simp only [impl_arrivalsOk.l0]
          rw [if_pos (by omega), if_pos (by omega), if_pos (by omega), rdT, hg]
          simp [in_at, a1, a2, a3, a4, a5, a6]
        · simp only [impl_arrivalsOk.j1, Bool.false_eq_true, if_false]
          rw [w64 (by omega) (by omega), show (q : Int) + 1 = ((q + 1 : Nat) : Int) by omega]
      · refine Ev.step (fun m => ?_) (Ev.step (g := fun m => impl_arrivalsOk.j1 m l l (l.length : Int) (q : Int) true) (fun m => ?_) (Ev.now _))
        · simp only [impl_arrivalsOk.l0]
          rw [if_pos (by omega), if_pos (by omega), if_pos (by omega), rdT, hg, in_at, in_at, in_at]
          simp only [Option.bind_some]
          unfold ArrOk at ha
          by_cases c1 : 0 ≤ a.f0 ∧ a.f0 ≤ 1000000000
          · by_cases c2 : 0 ≤ a.f1 ∧ a.f1 ≤ 10000
            · have c3 : ¬ (0 ≤ a.f2 ∧ a.f2 ≤ 3) := fun c3 => ha ⟨c1, c2, c3⟩
              have e : (decide (0 ≤ a.f2) && decide (a.f2 ≤ 3)) = false := by simp; omega
              rw [e]; simp [c1.1, c1.2, c2.1, c2.2]
            · have e : (decide (0 ≤ a.f1) && decide (a.f1 ≤ 10000)) = false := by simp; omega
              rw [e]; simp [c1.1, c1.2]
          · have e : (decide (0 ≤ a.f0) && decide (a.f0 ≤ 1000000000)) = false := by simp; omega
            rw [e]; simp
        · simp [impl_arrivalsOk.j1]
  have e0 : ∀ m, impl_arrivalsOk.f m l = impl_arrivalsOk.l0 m l l (l.length : Int) ((0 : Nat) : Int) := fun m => rfl
  refine ⟨fun h => Ev.congr e0 ?_, fun h => Ev.congr e0 ?_⟩
  · have := good l 0 (by simp) (by simp) h.1
    rwa [decide_eq_true (show (l.length : Int) ≤ 200 from by have := h.2; omega)] at this
  · by_cases hb : ∃ a ∈ l, ¬ ArrOk a
    · exact bad l 0 (by simp) (by simp) hb
    · have ha : ∀ a ∈ l, ArrOk a := fun a ha => Classical.byContradiction fun hn => hb ⟨a, ha, hn⟩
      have := good l 0 (by simp) (by simp) ha
      have hn : ¬ l.length ≤ 200 := fun z => h ⟨ha, z⟩
      rwa [decide_eq_false (show ¬ (l.length : Int) ≤ 200 by omega)] at this
theorem arrivals_ev (l : List S51) (hl : l.length ≤ 2000000) : (ArrsOk l → Ev (fun m => spec_l17Arrivals.f m l) true) ∧ (¬ ArrsOk l → Ev (fun m => spec_l17Arrivals.f m l) false) := by
  have one : ∀ a : S51, spec_l17Arrival.f a.f0 a.f1 a.f2 = some ((decide (0 ≤ a.f0) && decide (a.f0 ≤ 1000000000)) && ((decide (0 ≤ a.f1) && decide (a.f1 ≤ 10000)) && (decide (0 ≤ a.f2) && decide (a.f2 ≤ 3)))) := by
    intro a
    unfold spec_l17Arrival.f spec_l4Tick.f
    rw [in_at2, in_at2, in_at2]
    simp only [Option.bind_some]
    cases (decide (0 ≤ a.f0) && decide (a.f0 ≤ 1000000000)) <;> cases (decide (0 ≤ a.f1) && decide (a.f1 ≤ 10000)) <;> simp
  have yes : ∀ a : S51, ArrOk a → spec_l17Arrival.f a.f0 a.f1 a.f2 = some true := by
    intro a ha
    rw [one]
    obtain ⟨⟨a1, a2⟩, ⟨a3, a4⟩, ⟨a5, a6⟩⟩ := ha
    simp [a1, a2, a3, a4, a5, a6]
  have no : ∀ a : S51, ¬ ArrOk a → spec_l17Arrival.f a.f0 a.f1 a.f2 = some false := by
    intro a ha
    rw [one]
    congr 1
    rw [Bool.eq_false_iff]
    intro h
    simp only [Bool.and_eq_true, decide_eq_true_eq] at h
    exact ha h
  have good : ∀ (rs : List S51) (q : Nat), l.drop q = rs → q + rs.length = l.length → (∀ a ∈ rs, ArrOk a) → Ev (fun m => spec_l17Arrivals.l0 m l (q : Int)) (decide ((l.length : Int) ≤ 200)) := by
    intro rs
    induction rs with
    | nil =>
      intro q hd hq _
      refine Ev.step (fun m => ?_) (Ev.now _)
      simp only [spec_l17Arrivals.l0]; rw [if_neg (by simp at hq; omega)]
    | cons a rs ih =>
      intro q hd hq h
      obtain ⟨hlt, hg, hd'⟩ := drop_cons z51 hd
      refine Ev.step (fun m => ?_) (ih (q + 1) hd' (by simp at hq; omega) (fun x hx => h x (by simp [hx])))
      simp only [spec_l17Arrivals.l0]
      rw [if_pos (by omega), if_pos (by omega), rdT, hg, yes a (h a (by simp))]
      simp only [Option.bind_some, if_true]
      rw [w64 (by omega) (by omega), show (q : Int) + 1 = ((q + 1 : Nat) : Int) by omega]
  have bad : ∀ (rs : List S51) (q : Nat), l.drop q = rs → q + rs.length = l.length → (∃ a ∈ rs, ¬ ArrOk a) → Ev (fun m => spec_l17Arrivals.l0 m l (q : Int)) false := by
    intro rs
    induction rs with
    | nil => intro q _ _ h; obtain ⟨a, h, _⟩ := h; simp at h
    | cons a rs ih =>
      intro q hd hq h
      obtain ⟨hlt, hg, hd'⟩ := drop_cons z51 hd
      by_cases ha : ArrOk a
      · have h' : ∃ a ∈ rs, ¬ ArrOk a := by
          obtain ⟨x, hx, hn⟩ := h
          rcases List.mem_cons.1 hx with rfl | hx
          · exact absurd ha hn
          · exact ⟨x, hx, hn⟩
        refine Ev.step (fun m => ?_) (ih (q + 1) hd' (by simp at hq; omega) h')
        simp only [spec_l17Arrivals.l0]
        rw [if_pos (by omega), if_pos (by omega), rdT, hg, yes a ha]
        simp only [Option.bind_some, if_true]
        rw [w64 (by omega) (by omega), show (q : Int) + 1 = ((q + 1 : Nat) : Int) by omega]
      · refine Ev.step (fun m => ?_) (Ev.now _)
        simp only [spec_l17Arrivals.l0]
        rw [if_pos (by omega), if_pos (by omega), rdT, hg, no a ha]
        simp
  have e0 : ∀ m, spec_l17Arrivals.f m l = spec_l17Arrivals.l0 m l ((0 : Nat) : Int) := fun m => rfl
  refine ⟨fun h => Ev.congr e0 ?_, fun h => Ev.congr e0 ?_⟩
  · have := good l 0 (by simp) (by simp) h.1
    rwa [decide_eq_true (show (l.length : Int) ≤ 200 from by have := h.2; omega)] at this
  · by_cases hb : ∃ a ∈ l, ¬ ArrOk a
    · exact bad l 0 (by simp) (by simp) hb
    · have ha : ∀ a ∈ l, ArrOk a := fun a ha => Classical.byContradiction fun hn => hb ⟨a, ha, hn⟩
      have := good l 0 (by simp) (by simp) ha
      have hn : ¬ l.length ≤ 200 := fun z => h ⟨ha, z⟩
      rwa [decide_eq_false (show ¬ (l.length : Int) ≤ 200 by omega)] at this
theorem less_at (a b : Int) : cmp_Less_int.f a b = some (decide (a < b)) := by simp [cmp_Less_int.f, cmp_isNaN_int.f]
theorem comp_at (a b : Int) : ∃ c, cmp_Compare_int.f a b = some c ∧ (c < 0 ↔ a < b) := by
  unfold cmp_Compare_int.f cmp_isNaN_int.f
  simp only [bne_self_eq_false, Option.bind_some, Bool.false_eq_true, if_false]
  by_cases c1 : a < b
  · rw [if_pos c1]; exact ⟨_, rfl, by omega⟩
  · rw [if_neg c1]
    by_cases c2 : a > b
    · rw [if_pos c2]; exact ⟨_, rfl, by omega⟩
    · rw [if_neg c2]; exact ⟨_, rfl, by omega⟩
theorem sorted_ev (l : List Int) (hl : l.length ≤ 2000000) : (Sorted l → Ev (fun m => slices_IsSorted_int_int.f m l) true) ∧ (¬ Sorted l → Ev (fun m => slices_IsSorted_int_int.f m l) false) := by
  have good : ∀ (i : Nat), i < l.length → (∀ j, j + 1 ≤ i → l.getD j 0 ≤ l.getD (j + 1) 0) → Ev (fun m => slices_IsSorted_int_int.l0 m l (i : Int)) true := by
    intro i
    induction i with
    | zero =>
      intro _ _
      refine Ev.step (fun m => ?_) (Ev.now _)
      simp only [slices_IsSorted_int_int.l0]; rw [if_neg (by omega)]
    | succ i ih =>
      intro hi h
      refine Ev.step (fun m => ?_) (ih (by omega) (fun j hj => h j (by omega)))
      simp only [slices_IsSorted_int_int.l0]
      rw [w64 (by omega) (by omega), show ((i + 1 : Nat) : Int) - 1 = (i : Int) by omega, if_pos (by omega), if_pos (by omega), if_pos (by omega), if_pos (by omega), if_pos (by omega), less_at, rdI, rdI]
      have := h i (by omega)
      simp only [Option.bind_some]
      rw [decide_eq_false (by omega)]; simp
  have bad : ∀ (i : Nat), i < l.length → (∃ j, j + 1 ≤ i ∧ ¬ l.getD j 0 ≤ l.getD (j + 1) 0) → Ev (fun m => slices_IsSorted_int_int.l0 m l (i : Int)) false := by
    intro i
    induction i with
    | zero => intro _ h; obtain ⟨j, h, _⟩ := h; omega
    | succ i ih =>
      intro hi h
      by_cases c : l.getD (i + 1) 0 < l.getD i 0
      · refine Ev.step (fun m => ?_) (Ev.now _)
        simp only [slices_IsSorted_int_int.l0]
        rw [w64 (by omega) (by omega), show ((i + 1 : Nat) : Int) - 1 = (i : Int) by omega, if_pos (by omega), if_pos (by omega), if_pos (by omega), if_pos (by omega), if_pos (by omega), less_at, rdI, rdI]
        simp only [Option.bind_some]
        rw [decide_eq_true c]; simp
      · have h' : ∃ j, j + 1 ≤ i ∧ ¬ l.getD j 0 ≤ l.getD (j + 1) 0 := by
          obtain ⟨j, h1, h2⟩ := h
          by_cases e : j = i
          · subst e; omega
          · exact ⟨j, by omega, h2⟩
        refine Ev.step (fun m => ?_) (ih (by omega) h')
        simp only [slices_IsSorted_int_int.l0]
        rw [w64 (by omega) (by omega), show ((i + 1 : Nat) : Int) - 1 = (i : Int) by omega, if_pos (by omega), if_pos (by omega), if_pos (by omega), if_pos (by omega), if_pos (by omega), less_at, rdI, rdI]
        simp only [Option.bind_some]
        rw [decide_eq_false c]; simp
  by_cases hn : l.length = 0
  · have hs : Sorted l := fun i hi => by omega
    refine ⟨fun _ => ?_, fun h => absurd hs h⟩
    unfold slices_IsSorted_int_int.f
    rw [hn]
    refine Ev.step (fun m => ?_) (Ev.now _)
    simp only [slices_IsSorted_int_int.l0]; rw [w64 (by omega) (by omega), if_neg (by omega)]
  · have e0 : ∀ m, slices_IsSorted_int_int.f m l = slices_IsSorted_int_int.l0 m l ((l.length - 1 : Nat) : Int) := by
      intro m
      unfold slices_IsSorted_int_int.f
      rw [w64 (by omega) (by omega), show (l.length : Int) - 1 = ((l.length - 1 : Nat) : Int) by omega]
    refine ⟨fun h => Ev.congr e0 (good _ (by omega) (fun j hj => h j (by omega))), fun h => Ev.congr e0 (bad _ (by omega) ?_)⟩
    refine Classical.byContradiction fun k => h fun i hi => Classical.byContradiction fun z => k ⟨i, by omega, z⟩
theorem ticks_ev (l : List S51) (hl : l.length ≤ 2000000) : (Ticks l → Ev (fun m => impl_Arrival.f m l) true) ∧ (¬ Ticks l → Ev (fun m => impl_Arrival.f m l) false) := by
  have one : ∀ a b : S51, ∃ c, impl_Try_1.f a.f0 a.f1 a.f2 b.f0 b.f1 b.f2 = some c ∧ (c < 0 ↔ a.f0 < b.f0) := by
    intro a b
    obtain ⟨c, e, h⟩ := comp_at a.f0 b.f0
    exact ⟨c, by simp [impl_Try_1.f, e], h⟩
  have good : ∀ (i : Nat), i < l.length → (∀ j, j + 1 ≤ i → (l.getD j z51).f0 ≤ (l.getD (j + 1) z51).f0) → Ev (fun m => impl_Arrival.l0 m l (i : Int)) true := by
    intro i
    induction i with
    | zero =>
      intro _ _
      refine Ev.step (fun m => ?_) (Ev.now _)
      simp only [impl_Arrival.l0]; rw [if_neg (by omega)]
    | succ i ih =>
      intro hi h
      obtain ⟨c, e, hc⟩ := one (l.getD (i + 1) z51) (l.getD i z51)
      have := h i (by omega)
      refine Ev.step (fun m => ?_) (ih (by omega) (fun j hj => h j (by omega)))
      simp only [impl_Arrival.l0]
      rw [w64 (by omega) (by omega), show ((i + 1 : Nat) : Int) - 1 = (i : Int) by omega, if_pos (by omega), if_pos (by omega), if_pos (by omega), if_pos (by omega), if_pos (by omega), rdT, rdT, e]
      simp only [Option.bind_some]
      rw [if_neg (by omega)]
  have bad : ∀ (i : Nat), i < l.length → (∃ j, j + 1 ≤ i ∧ ¬ (l.getD j z51).f0 ≤ (l.getD (j + 1) z51).f0) → Ev (fun m => impl_Arrival.l0 m l (i : Int)) false := by
    intro i
    induction i with
    | zero => intro _ h; obtain ⟨j, h, _⟩ := h; omega
    | succ i ih =>
      intro hi h
      obtain ⟨c, e, hc⟩ := one (l.getD (i + 1) z51) (l.getD i z51)
      by_cases c1 : (l.getD (i + 1) z51).f0 < (l.getD i z51).f0
      · refine Ev.step (fun m => ?_) (Ev.now _)
        simp only [impl_Arrival.l0]
        rw [w64 (by omega) (by omega), show ((i + 1 : Nat) : Int) - 1 = (i : Int) by omega, if_pos (by omega), if_pos (by omega), if_pos (by omega), if_pos (by omega), if_pos (by omega), rdT, rdT, e]
        simp only [Option.bind_some]
        rw [if_pos (hc.2 c1)]
      · have h' : ∃ j, j + 1 ≤ i ∧ ¬ (l.getD j z51).f0 ≤ (l.getD (j + 1) z51).f0 := by
          obtain ⟨j, h1, h2⟩ := h
          by_cases e : j = i
          · subst e; omega
          · exact ⟨j, by omega, h2⟩
        refine Ev.step (fun m => ?_) (ih (by omega) h')
        simp only [impl_Arrival.l0]
        rw [w64 (by omega) (by omega), show ((i + 1 : Nat) : Int) - 1 = (i : Int) by omega, if_pos (by omega), if_pos (by omega), if_pos (by omega), if_pos (by omega), if_pos (by omega), rdT, rdT, e]
        simp only [Option.bind_some]
        rw [if_neg (fun z => c1 (hc.1 z))]
  by_cases hn : l.length = 0
  · have hs : Ticks l := fun i hi => by omega
    refine ⟨fun _ => ?_, fun h => absurd hs h⟩
    unfold impl_Arrival.f
    rw [hn]
    refine Ev.step (fun m => ?_) (Ev.now _)
    simp only [impl_Arrival.l0]; rw [w64 (by omega) (by omega), if_neg (by omega)]
  · have e0 : ∀ m, impl_Arrival.f m l = impl_Arrival.l0 m l ((l.length - 1 : Nat) : Int) := by
      intro m
      unfold impl_Arrival.f
      rw [w64 (by omega) (by omega), show (l.length : Int) - 1 = ((l.length - 1 : Nat) : Int) by omega]
    refine ⟨fun h => Ev.congr e0 (good _ (by omega) (fun j hj => h j (by omega))), fun h => Ev.congr e0 (bad _ (by omega) ?_)⟩
    refine Classical.byContradiction fun k => h fun i hi => Classical.byContradiction fun z => k ⟨i, by omega, z⟩
/-- One arrival: what was answered, how many are busy, when each ends. -/
def leftT (a : S51) (ends : List Int) : List Int := ends.filter fun e => !decide (e ≤ a.f0)
def tryStep (c : Int) (sp : List Int) (s : List Bool × List Int × List Int) (a : S51) : List Bool × List Int × List Int :=
  if c - ((leftT a s.2.2).length : Int) > rd sp a.f2 then (s.1 ++ [true], s.2.1 ++ [((leftT a s.2.2).length : Int) + 1], leftT a s.2.2 ++ [a.f0 + a.f1])
  else (s.1 ++ [false], s.2.1 ++ [((leftT a s.2.2).length : Int)], leftT a s.2.2)
def tryRun (c : Int) (sp : List Int) (l : List S51) (s : List Bool × List Int × List Int) : List Bool × List Int × List Int := l.foldl (tryStep c sp) s
theorem leftT_le (a : S51) (e : List Int) : (leftT a e).length ≤ e.length := List.length_filter_le _ _
theorem implRun (c : Int) (sp : List Int) (l : List S51) (hc : 0 ≤ c ∧ c ≤ 64) (hsp : sp.length = 4) (hl : l.length ≤ 200) : ∀ (rs : List S51) (q : Nat), l.drop q = rs → q + rs.length = l.length → (∀ a ∈ rs, ArrOk a) →
    ∀ s : List Bool × List Int × List Int, s.1.length ≤ q → s.2.1.length ≤ q → s.2.2.length ≤ q →
    Ev (fun m => impl_Try.l0 m c sp s.1 s.2.1 s.2.2 l (l.length : Int) (q : Int)) ((tryRun c sp rs s).1, (tryRun c sp rs s).2.1, true) := by
  intro rs
  induction rs with
  | nil =>
    intro q hd hq _ s _ _ _
    refine Ev.step (fun m => ?_) (Ev.now _)
    simp only [impl_Try.l0]; rw [if_neg (by simp at hq; omega)]; rfl
  | cons a rs ih =>
    intro q hd hq h s h1 h2 h3
    obtain ⟨hlt, hg, hd'⟩ := drop_cons z51 hd
    obtain ⟨⟨a1, a2⟩, ⟨a3, a4⟩, ⟨a5, a6⟩⟩ := h a (by simp)
    have hle := leftT_le a s.2.2
    have hw : wrap64 (c - ((leftT a s.2.2).length : Int)) = c - ((leftT a s.2.2).length : Int) := w64 (by omega) (by omega)
    have e1 : (s.2.2.filter fun e_ => !decide (e_ ≤ a.f0)) = leftT a s.2.2 := rfl
    simp only [tryRun, List.foldl_cons]
    by_cases ck : c - ((leftT a s.2.2).length : Int) > rd sp a.f2
    · have z := ih (q + 1) hd' (by simp at hq; omega) (fun x hx => h x (by simp [hx])) (s.1 ++ [true], s.2.1 ++ [((leftT a s.2.2).length : Int) + 1], leftT a s.2.2 ++ [a.f0 + a.f1]) (by simp; omega) (by simp; omega) (by simp; omega)
      have es : tryStep c sp s a = (s.1 ++ [true], s.2.1 ++ [((leftT a s.2.2).length : Int) + 1], leftT a s.2.2 ++ [a.f0 + a.f1]) := by unfold tryStep; rw [if_pos ck]
      rw [es]
      refine Ev.step (fun m => ?_) z
      simp only [impl_Try.l0]
      rw [if_pos (by omega), if_pos (by omega), if_pos (by omega), if_pos (by omega), rdT, hg, e1]
      simp only [Option.bind_some]
      rw [if_pos a5, if_pos (by omega), hw, if_pos ck, if_pos (by omega), if_pos (by omega), if_pos (by omega), decide_eq_true ck, w64 (x := a.f0 + a.f1) (by omega) (by omega), w64 (x := (q : Int) + 1) (by omega) (by omega), show (q : Int) + 1 = ((q + 1 : Nat) : Int) by omega]
      simp
    · have z := ih (q + 1) hd' (by simp at hq; omega) (fun x hx => h x (by simp [hx])) (s.1 ++ [false], s.2.1 ++ [((leftT a s.2.2).length : Int)], leftT a s.2.2) (by simp; omega) (by simp; omega) (by simp; omega)
      have es : tryStep c sp s a = (s.1 ++ [false], s.2.1 ++ [((leftT a s.2.2).length : Int)], leftT a s.2.2) := by unfold tryStep; rw [if_neg ck]
      rw [es]
      refine Ev.step (fun m => ?_) z
      simp only [impl_Try.l0]
      rw [if_pos (by omega), if_pos (by omega), if_pos (by omega), if_pos (by omega), rdT, hg, e1]
      simp only [Option.bind_some]
      rw [if_pos a5, if_pos (by omega), hw, if_neg ck, if_pos (by omega), if_pos (by omega), decide_eq_false ck, w64 (x := (q : Int) + 1) (by omega) (by omega), show (q : Int) + 1 = ((q + 1 : Nat) : Int) by omega]
/-- What both take. -/
def OkT (c : Int) (sp : List Int) (l : List S51) : Prop := (0 ≤ c ∧ c ≤ 64) ∧ sp.length = 4 ∧ sp.getD 0 0 = 0 ∧ Sorted sp ∧ sp.getD 3 0 ≤ 64 ∧ ArrsOk l ∧ Ticks l
theorem implTry (c : Int) (sp : List Int) (l : List S51) (hs : sp.length ≤ 2000000) (hl : l.length ≤ 2000000) :
    (OkT c sp l → Ev (fun m => impl_Try.f m c sp l) ((tryRun c sp l ([], [], [])).1, (tryRun c sp l ([], [], [])).2.1, true)) ∧ (¬ OkT c sp l → Ev (fun m => impl_Try.f m c sp l) ([], [], false)) := by
  have jt : Ev (fun m => impl_Try.j0 m c sp l true) ([], [], false) := Ev.step (fun m => by simp only [impl_Try.j0, if_true]) (Ev.now _)
  have r0 : rd sp 0 = sp.getD 0 0 := rdI sp 0
  have r3 : rd sp 3 = sp.getD 3 0 := rdI sp 3
  refine ⟨fun h => ?_, fun h => ?_⟩
  · obtain ⟨hc, h4, h0, hso, h64, ha, ht⟩ := h
    unfold impl_Try.f
    rw [in_at, decide_eq_true hc.1, decide_eq_true hc.2]
    simp only [Option.bind_some, Bool.and_self, if_true]
    simp only [if_pos (show (sp.length : Int) = 4 by omega), if_pos (show 0 < (sp.length : Int) by omega), r0, if_pos h0]
    refine Ev.bind ((sorted_ev sp hs).1 hso) ?_
    simp only [if_true, if_pos (show 3 < (sp.length : Int) by omega), r3, if_neg (show ¬ sp.getD 3 0 > 64 by omega)]
    refine Ev.bind ((arrivalsOk_ev l hl).1 ha) ?_
    simp only [if_true]
    refine Ev.bind ((ticks_ev l hl).1 ht) ?_
    simp only [Bool.not_true]
    refine Ev.step (fun m => ?_) (implRun c sp l hc h4 ha.2 l 0 (by simp) (by simp) ha.1 ([], [], []) (by simp) (by simp) (by simp))
    simp only [impl_Try.j0, Bool.false_eq_true, if_false]; rfl
  · unfold impl_Try.f
    rw [in_at]
    simp only [Option.bind_some]
    by_cases hc : 0 ≤ c ∧ c ≤ 64
    · rw [decide_eq_true hc.1, decide_eq_true hc.2]
      simp only [Bool.and_self, if_true]
      by_cases h4 : sp.length = 4
      · simp only [if_pos (show (sp.length : Int) = 4 by omega), if_pos (show 0 < (sp.length : Int) by omega), r0]
        by_cases h0 : sp.getD 0 0 = 0
        · simp only [if_pos h0]
          by_cases hso : Sorted sp
          · refine Ev.bind ((sorted_ev sp hs).1 hso) ?_
            simp only [if_true, if_pos (show 3 < (sp.length : Int) by omega), r3]
            by_cases h64 : sp.getD 3 0 ≤ 64
            · simp only [if_neg (show ¬ sp.getD 3 0 > 64 by omega)]
              by_cases ha : ArrsOk l
              · refine Ev.bind ((arrivalsOk_ev l hl).1 ha) ?_
                simp only [if_true]
                have ht : ¬ Ticks l := fun ht => h ⟨hc, h4, h0, hso, h64, ha, ht⟩
                refine Ev.bind ((ticks_ev l hl).2 ht) ?_
                simp only [Bool.not_false]; exact jt
              · refine Ev.bind ((arrivalsOk_ev l hl).2 ha) ?_
                simp only [Bool.false_eq_true, if_false]; exact jt
            · simp only [if_pos (show sp.getD 3 0 > 64 by omega)]; exact jt
          · refine Ev.bind ((sorted_ev sp hs).2 hso) ?_
            simp only [Bool.false_eq_true, if_false]; exact jt
        · simp only [if_neg h0]; exact jt
      · simp only [if_neg (show ¬ (sp.length : Int) = 4 by omega)]; exact jt
    · have e : (decide (0 ≤ c) && decide (c ≤ 64)) = false := by simp; omega
      rw [e]; simp only [Bool.false_eq_true, if_false]; exact jt
/-- The spare row as the reference asks it. -/
def SpareOk (sp : List Int) : Prop := sp.length = 4 ∧ sp.getD 0 0 = 0 ∧ Sorted sp ∧ sp.getD 3 0 ≤ 64
theorem spare_ev (sp : List Int) (hs : sp.length ≤ 2000000) : (SpareOk sp → Ev (fun m => spec_l17Spare.f m sp) true) ∧ (¬ SpareOk sp → Ev (fun m => spec_l17Spare.f m sp) false) := by
  -- one place is right
  let Good (i : Nat) : Prop := (0 ≤ sp.getD i 0 ∧ sp.getD i 0 ≤ 64) ∧ (i = 0 → sp.getD i 0 = 0) ∧ (0 < i → sp.getD (i - 1) 0 ≤ sp.getD i 0)
  have step : ∀ (i : Nat), i < sp.length → ∀ m, spec_l17Spare.l0 (m + 1) sp (i : Int) = spec_l17Spare.j1 m sp (i : Int) (decide (¬ Good i)) := by
    intro i hi m
    simp only [spec_l17Spare.l0]
    rw [if_pos (by omega), if_pos (by omega), in_at2, rdI]
    simp only [Option.bind_some]
    by_cases c1 : 0 ≤ sp.getD i 0 ∧ sp.getD i 0 ≤ 64
    · rw [decide_eq_true c1.1, decide_eq_true c1.2]
      simp only [Bool.and_self, if_true]
      by_cases c2 : i = 0
      · subst c2
        rw [if_pos (by omega)]
        by_cases c3 : sp.getD 0 0 = 0
        · rw [if_pos c3, if_neg (by omega), decide_eq_false (show ¬ ¬ Good 0 from fun h => h ⟨c1, fun _ => c3, fun h => by omega⟩)]
        · rw [if_neg c3, decide_eq_true (show ¬ Good 0 from fun h => c3 (h.2.1 rfl))]
      · rw [if_neg (by omega), if_pos (by omega), w64 (by omega) (by omega), if_pos (by omega), if_pos (by omega), show (i : Int) - 1 = ((i - 1 : Nat) : Int) by omega, rdI]
        congr 1
        by_cases c3 : sp.getD (i - 1) 0 ≤ sp.getD i 0
        · rw [decide_eq_false (by omega), decide_eq_false (show ¬ ¬ Good i from fun h => h ⟨c1, fun h => absurd h c2, fun _ => c3⟩)]
        · rw [decide_eq_true (by omega), decide_eq_true (show ¬ Good i from fun h => c3 (h.2.2 (by omega)))]
    · have e : (decide (0 ≤ sp.getD i 0) && decide (sp.getD i 0 ≤ 64)) = false := by
        rw [Bool.eq_false_iff]; intro z; simp only [Bool.and_eq_true, decide_eq_true_eq] at z; exact c1 z
      rw [e, decide_eq_true (show ¬ Good i from fun h => c1 h.1)]
      simp
  have good : ∀ (d i : Nat), i + d = sp.length → (∀ j, i ≤ j → j < sp.length → Good j) → Ev (fun m => spec_l17Spare.l0 m sp (i : Int)) ((sp.length : Int) == 4) := by
    intro d
    induction d with
    | zero =>
      intro i hi _
      refine Ev.step (fun m => ?_) (Ev.now _)
      simp only [spec_l17Spare.l0]; rw [if_neg (by omega)]
    | succ d ih =>
      intro i hi h
      refine Ev.step (step i (by omega)) (Ev.step (fun m => ?_) (ih (i + 1) (by omega) (fun j h1 h2 => h j (by omega) h2)))
      rw [decide_eq_false (fun z => z (h i (by omega) (by omega)))]
      simp only [spec_l17Spare.j1, Bool.false_eq_true, if_false]
      rw [w64 (by omega) (by omega), show (i : Int) + 1 = ((i + 1 : Nat) : Int) by omega]
  have bad : ∀ (d i : Nat), i + d = sp.length → (∃ j, i ≤ j ∧ j < sp.length ∧ ¬ Good j) → Ev (fun m => spec_l17Spare.l0 m sp (i : Int)) false := by
    intro d
    induction d with
    | zero => intro i hi h; obtain ⟨j, h1, h2, _⟩ := h; omega
    | succ d ih =>
      intro i hi h
      by_cases c : Good i
      · have h' : ∃ j, i + 1 ≤ j ∧ j < sp.length ∧ ¬ Good j := by
          obtain ⟨j, h1, h2, h3⟩ := h
          by_cases e : j = i
          · subst e; exact absurd c h3
          · exact ⟨j, by omega, h2, h3⟩
        refine Ev.step (step i (by omega)) (Ev.step (fun m => ?_) (ih (i + 1) (by omega) h'))
        rw [decide_eq_false (fun z => z c)]
        simp only [spec_l17Spare.j1, Bool.false_eq_true, if_false]
        rw [w64 (by omega) (by omega), show (i : Int) + 1 = ((i + 1 : Nat) : Int) by omega]
      · refine Ev.step (step i (by omega)) (Ev.step (fun m => ?_) (Ev.now _))
        rw [decide_eq_true c]
        simp [spec_l17Spare.j1]
  have e0 : ∀ m, spec_l17Spare.f m sp = spec_l17Spare.l0 m sp ((0 : Nat) : Int) := fun m => rfl
  refine ⟨fun h => Ev.congr e0 ?_, fun h => Ev.congr e0 ?_⟩
  · obtain ⟨h4, h0, hso, h64⟩ := h
    have s0 : sp.getD 0 0 ≤ sp.getD 1 0 := hso 0 (by omega)
    have s1 : sp.getD 1 0 ≤ sp.getD 2 0 := hso 1 (by omega)
    have s2 : sp.getD 2 0 ≤ sp.getD 3 0 := hso 2 (by omega)
    have z := good sp.length 0 (by omega) (fun j _ hj => by
      rcases (by omega : j = 0 ∨ j = 1 ∨ j = 2 ∨ j = 3) with rfl | rfl | rfl | rfl
      · exact ⟨⟨by omega, by omega⟩, fun _ => h0, fun h => by omega⟩
      · exact ⟨⟨by omega, by omega⟩, fun h => by omega, fun _ => s0⟩
      · exact ⟨⟨by omega, by omega⟩, fun h => by omega, fun _ => s1⟩
      · exact ⟨⟨by omega, by omega⟩, fun h => by omega, fun _ => s2⟩)
    rw [show ((sp.length : Int) == 4) = true by simp; omega] at z
    exact z
  · by_cases hb : ∃ j, 0 ≤ j ∧ j < sp.length ∧ ¬ Good j
    · exact bad sp.length 0 (by omega) hb
    · have hg : ∀ j, 0 ≤ j → j < sp.length → Good j := fun j h1 h2 => Classical.byContradiction fun hn => hb ⟨j, h1, h2, hn⟩
      have z := good sp.length 0 (by omega) hg
      have h4 : ¬ sp.length = 4 := fun h4 => h ⟨h4, (hg 0 (by omega) (by omega)).2.1 rfl, fun i hi => by
        have := (hg (i + 1) (by omega) hi).2.2 (by omega)
        simpa using this, (hg 3 (by omega) (by omega)).1.2⟩
      rw [show ((sp.length : Int) == 4) = false by rw [beq_eq_false_iff_ne]; omega] at z
      exact z
/-- The reference's inner loop: the ends that are leftT. -/
theorem specLeft (c : Int) (sp : List Int) (l : List S51) (i : Nat) (a : S51) (x9 : List Bool) (x10 ends : List Int) (he : ends.length ≤ 1000) (res : List Bool × List Int × Bool) :
    ∀ (rs : List Int) (q : Nat) (acc : List Int), ends.drop q = rs → q + rs.length = ends.length → acc.length ≤ q → Ev (fun m => spec_Try.l1 m c sp l x9 x10 ends (i : Int) (acc ++ leftT a rs) (ends.length : Int) a.f0 a.f1 a.f2) res →
      Ev (fun m => spec_Try.l1 m c sp l x9 x10 ends (i : Int) acc (q : Int) a.f0 a.f1 a.f2) res := by
  intro rs
  induction rs with
  | nil =>
    intro q acc hd hq _ h
    simp only [List.length_nil, Nat.add_zero] at hq
    subst hq
    simpa [leftT] using h
  | cons e rs ih =>
    intro q acc hd hq ha h
    obtain ⟨hlt, hg, hd'⟩ := drop_cons 0 hd
    by_cases c1 : e ≤ a.f0
    · have el : leftT a (e :: rs) = leftT a rs := by simp [leftT, c1]
      rw [el] at h
      refine Ev.step (fun m => ?_) (ih (q + 1) acc hd' (by simp at hq; omega) (by omega) h)
      simp only [spec_Try.l1]
      rw [if_pos (by omega), if_pos (by omega), rdI, hg, if_neg (by omega), w64 (by omega) (by omega), show (q : Int) + 1 = ((q + 1 : Nat) : Int) by omega]
    · have el : leftT a (e :: rs) = e :: leftT a rs := by simp [leftT, c1]
      rw [el] at h
      refine Ev.step (fun m => ?_) (ih (q + 1) (acc ++ [e]) hd' (by simp at hq; omega) (by simp; omega) (by simpa using h))
      simp only [spec_Try.l1]
      rw [if_pos (by omega), if_pos (by omega), rdI, hg, if_pos (by omega), if_pos (by omega), w64 (by omega) (by omega), show (q : Int) + 1 = ((q + 1 : Nat) : Int) by omega]
/-- The reference's rounds: to the end, or to the first tick that is below the one before it. -/
theorem specRun (c : Int) (sp : List Int) (l : List S51) (hc : 0 ≤ c ∧ c ≤ 64) (hsp : sp.length = 4) (hl : l.length ≤ 200) : ∀ (rs : List S51) (q : Nat), l.drop q = rs → q + rs.length = l.length → (∀ a ∈ rs, ArrOk a) →
    ∀ s : List Bool × List Int × List Int, s.1.length ≤ q → s.2.1.length ≤ q → s.2.2.length ≤ q →
    ((∀ i, q ≤ i → 0 < i → i < l.length → (l.getD (i - 1) z51).f0 ≤ (l.getD i z51).f0) → Ev (fun m => spec_Try.l0 m c sp l s.1 s.2.1 s.2.2 (q : Int)) ((tryRun c sp rs s).1, (tryRun c sp rs s).2.1, true)) ∧
    ((∃ i, q ≤ i ∧ 0 < i ∧ i < l.length ∧ ¬ (l.getD (i - 1) z51).f0 ≤ (l.getD i z51).f0) → Ev (fun m => spec_Try.l0 m c sp l s.1 s.2.1 s.2.2 (q : Int)) ([], [], false)) := by
  intro rs
  induction rs with
  | nil =>
    intro q hd hq _ s _ _ _
    simp only [List.length_nil, Nat.add_zero] at hq
    refine ⟨fun _ => Ev.step (fun m => ?_) (Ev.now _), fun h => ?_⟩
    · simp only [spec_Try.l0]; rw [if_neg (by omega)]; rfl
    · obtain ⟨i, h1, _, h2, _⟩ := h; omega
  | cons a rs ih =>
    intro q hd hq h s h1 h2 h3
    obtain ⟨hlt, hg, hd'⟩ := drop_cons z51 hd
    obtain ⟨⟨a1, a2⟩, ⟨a3, a4⟩, ⟨a5, a6⟩⟩ := h a (by simp)
    have hle := leftT_le a s.2.2
    simp only [List.length_cons] at hq
    have head : ∀ (b : Bool), (b = true ↔ 0 < q ∧ ¬ (l.getD (q - 1) z51).f0 ≤ a.f0) → ∀ m, spec_Try.l0 (m + 1) c sp l s.1 s.2.1 s.2.2 (q : Int) = spec_Try.j2 m c sp l s.1 s.2.1 s.2.2 (q : Int) b a.f0 a.f1 a.f2 := by
      intro b hb m
      simp only [spec_Try.l0]
      rw [if_pos (by omega), if_pos (by omega), rdT, hg]
      by_cases c0 : q = 0
      · subst c0
        rw [if_neg (by omega)]
        have : b = false := by
          cases b with
          | false => rfl
          | true => exact absurd (hb.1 rfl).1 (by omega)
        rw [this]
      · rw [if_pos (by omega), w64 (by omega) (by omega), if_pos (by omega), if_pos (by omega), show (q : Int) - 1 = ((q - 1 : Nat) : Int) by omega, rdT]
        congr 1
        cases b with
        | true => have := (hb.1 rfl).2; rw [decide_eq_true (by omega)]
        | false =>
          by_cases z : (l.getD (q - 1) z51).f0 ≤ a.f0
          · rw [decide_eq_false (by omega)]
          · exact absurd (hb.2 ⟨by omega, z⟩) (by simp)
    by_cases cb : 0 < q ∧ ¬ (l.getD (q - 1) z51).f0 ≤ a.f0
    · refine ⟨fun hh => ?_, fun _ => ?_⟩
      · have := hh q (by omega) cb.1 hlt
        rw [hg] at this
        exact absurd this cb.2
      · refine Ev.step (head true ⟨fun _ => cb, fun _ => rfl⟩) (Ev.step (fun m => ?_) (Ev.now _))
        simp [spec_Try.j2]
    · have hw : wrap64 (c - ((leftT a s.2.2).length : Int)) = c - ((leftT a s.2.2).length : Int) := w64 (by omega) (by omega)
      have body : ∀ res, Ev (fun m => spec_Try.l0 m c sp l (tryStep c sp s a).1 (tryStep c sp s a).2.1 (tryStep c sp s a).2.2 ((q + 1 : Nat) : Int)) res → Ev (fun m => spec_Try.l0 m c sp l s.1 s.2.1 s.2.2 (q : Int)) res := by
        intro res z
        refine Ev.step (head false (by simp only [Bool.false_eq_true, false_iff]; exact cb)) (Ev.step (g := fun m => spec_Try.j2 m c sp l s.1 s.2.1 s.2.2 (q : Int) false a.f0 a.f1 a.f2) (fun m => ?_) (specLeft c sp l q a s.1 s.2.1 s.2.2 (by omega) res s.2.2 0 [] (by simp) (by simp) (by simp) ?_))
        · simp only [spec_Try.j2, Bool.false_eq_true, if_false]; rfl
        · rw [List.nil_append]
          by_cases ck : c - ((leftT a s.2.2).length : Int) > rd sp a.f2
          · have es : tryStep c sp s a = (s.1 ++ [true], s.2.1 ++ [((leftT a s.2.2).length : Int) + 1], leftT a s.2.2 ++ [a.f0 + a.f1]) := by unfold tryStep; rw [if_pos ck]
            rw [es] at z
            refine Ev.step (fun m => ?_) z
            simp only [spec_Try.l1]
            rw [if_neg (by omega), if_pos a5, if_pos (by omega), hw, if_pos ck, if_pos (by omega)]
            simp only [Option.bind_some]
            rw [if_pos (by omega), if_pos (by omega), decide_eq_true ck, w64 (x := a.f0 + a.f1) (by omega) (by omega), w64 (x := (q : Int) + 1) (by omega) (by omega), show (q : Int) + 1 = ((q + 1 : Nat) : Int) by omega]
            simp
          · have es : tryStep c sp s a = (s.1 ++ [false], s.2.1 ++ [((leftT a s.2.2).length : Int)], leftT a s.2.2) := by unfold tryStep; rw [if_neg ck]
            rw [es] at z
            refine Ev.step (fun m => ?_) z
            simp only [spec_Try.l1]
            rw [if_neg (by omega), if_pos a5, if_pos (by omega), hw, if_neg ck, if_pos (by omega), if_pos (by omega), decide_eq_false ck, w64 (x := (q : Int) + 1) (by omega) (by omega), show (q : Int) + 1 = ((q + 1 : Nat) : Int) by omega]
      have lens : (tryStep c sp s a).1.length ≤ q + 1 ∧ (tryStep c sp s a).2.1.length ≤ q + 1 ∧ (tryStep c sp s a).2.2.length ≤ q + 1 := by
        unfold tryStep
        split <;> simp <;> omega
      obtain ⟨i1, i2⟩ := ih (q + 1) hd' (by omega) (fun x hx => h x (by simp [hx])) (tryStep c sp s a) lens.1 lens.2.1 lens.2.2
      refine ⟨fun hh => body _ (i1 fun i q1 q2 q3 => hh i (by omega) q2 q3), fun hh => body _ (i2 ?_)⟩
      obtain ⟨i, q1, q2, q3, q4⟩ := hh
      by_cases e : i = q
      · subst e; rw [hg] at q4; exact absurd ⟨q2, q4⟩ cb
      · exact ⟨i, by omega, q2, q3, q4⟩
theorem specTry (c : Int) (sp : List Int) (l : List S51) (hs : sp.length ≤ 2000000) (hl : l.length ≤ 2000000) :
    (OkT c sp l → Ev (fun m => spec_Try.f m c sp l) ((tryRun c sp l ([], [], [])).1, (tryRun c sp l ([], [], [])).2.1, true)) ∧ (¬ OkT c sp l → Ev (fun m => spec_Try.f m c sp l) ([], [], false)) := by
  have jt : Ev (fun m => spec_Try.j0 m c sp l true) ([], [], false) := Ev.step (fun m => by simp only [spec_Try.j0, if_true]) (Ev.now _)
  refine ⟨fun h => ?_, fun h => ?_⟩
  · obtain ⟨hc, h4, h0, hso, h64, ha, ht⟩ := h
    unfold spec_Try.f
    rw [in_at2, decide_eq_true hc.1, decide_eq_true hc.2]
    simp only [Option.bind_some, Bool.and_self, if_true]
    refine Ev.bind ((spare_ev sp hs).1 ⟨h4, h0, hso, h64⟩) ?_
    simp only [if_true]
    refine Ev.bind ((arrivals_ev l hl).1 ha) ?_
    simp only [Bool.not_true]
    refine Ev.step (fun m => ?_) ((specRun c sp l hc h4 ha.2 l 0 (by simp) (by simp) ha.1 ([], [], []) (by simp) (by simp) (by simp)).1 ?_)
    · simp only [spec_Try.j0, Bool.false_eq_true, if_false]; rfl
    · intro i _ h1 h2
      have := ht (i - 1) (by omega)
      rwa [show i - 1 + 1 = i by omega] at this
  · unfold spec_Try.f
    rw [in_at2]
    simp only [Option.bind_some]
    by_cases hc : 0 ≤ c ∧ c ≤ 64
    · rw [decide_eq_true hc.1, decide_eq_true hc.2]
      simp only [Bool.and_self, if_true]
      by_cases hsp : SpareOk sp
      · obtain ⟨h4, h0, hso, h64⟩ := hsp
        refine Ev.bind ((spare_ev sp hs).1 ⟨h4, h0, hso, h64⟩) ?_
        simp only [if_true]
        by_cases ha : ArrsOk l
        · refine Ev.bind ((arrivals_ev l hl).1 ha) ?_
          simp only [Bool.not_true]
          refine Ev.step (fun m => ?_) ((specRun c sp l hc h4 ha.2 l 0 (by simp) (by simp) ha.1 ([], [], []) (by simp) (by simp) (by simp)).2 ?_)
          · simp only [spec_Try.j0, Bool.false_eq_true, if_false]; rfl
          · refine Classical.byContradiction fun z => h ⟨hc, h4, h0, hso, h64, ha, fun i hi => Classical.byContradiction fun y => z ⟨i + 1, by omega, by omega, hi, by simpa using y⟩⟩
        · refine Ev.bind ((arrivals_ev l hl).2 ha) ?_
          simp only [Bool.not_false]; exact jt
      · refine Ev.bind ((spare_ev sp hs).2 hsp) ?_
        simp only [Bool.false_eq_true, if_false]; exact jt
    · have e : (decide (0 ≤ c) && decide (c ≤ 64)) = false := by simp; omega
      rw [e]; simp only [Bool.false_eq_true, if_false]; exact jt
end Go.Proofs.Ytjioalgfpcdlhaa.TrMain
