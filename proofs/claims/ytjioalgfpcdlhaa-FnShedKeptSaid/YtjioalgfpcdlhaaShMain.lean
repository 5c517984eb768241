/- impl.Shed over plain lists: the stable sort of slices, symMerge with its rotations, and what is shed. By an AI agent. -/
import Derived.Test.YtjioalgfpcdlhaaShx6
import Derived.Test.YtjioalgfpcdlhaaShx7
namespace Go.Proofs.Ytjioalgfpcdlhaa.ShMain
open Go Go.RowKit Go.Proofs.Ytjioalgfpcdlhaa.Sh Go.Proofs.YtjioalgfpcdlhaaW.PrintWords
set_option linter.unusedVariables false
set_option linter.unusedSimpArgs false
set_option linter.unusedSectionVars false
theorem w64 {x : Int} (h1 : -9223372036854775808 ≤ x) (h2 : x ≤ 9223372036854775807) : wrap64 x = x := by unfold wrap64; omega
theorem in_at (a b c : Int) : impl_in.f a b c = some (decide (b ≤ a) && decide (a ≤ c)) := by
  unfold impl_in.f
  by_cases h : a ≥ b
  · rw [if_pos h, decide_eq_true (show b ≤ a from h)]; simp
  · rw [if_neg h, decide_eq_false (show ¬ b ≤ a from h)]; simp
theorem in_at2 (a b c : Int) : spec_l1In.f a b c = some (decide (b ≤ a) && decide (a ≤ c)) := by
  unfold spec_l1In.f
  by_cases h : a ≥ b
  · rw [if_pos h, decide_eq_true (show b ≤ a from h)]; simp
  · rw [if_neg h, decide_eq_false (show ¬ b ≤ a from h)]; simp
theorem rdT (l : List S51) (i : Nat) : rd_T51 l (i : Int) = l.getD i z51 := by simp [rd_T51]
theorem rdI (l : List Int) (i : Nat) : rd l (i : Int) = l.getD i 0 := by simp [rd]
theorem rdB (l : List Bool) (i : Nat) : rdOf false l (i : Int) = l.getD i false := by simp [rdOf]
theorem drop_cons {α : Type _} {l : List α} {q : Nat} {r : α} {rs : List α} (d : α) (h : l.drop q = r :: rs) : q < l.length ∧ l.getD q d = r ∧ l.drop (q + 1) = rs := by
  have hl : q < l.length := by
    by_cases c : q < l.length
    · exact c
    · rw [List.drop_eq_nil_of_le (by omega)] at h; cases h
  rw [List.drop_eq_getElem_cons hl] at h
  injection h with h1 h2
  exact ⟨hl, by rw [List.getD_eq_getElem?_getD, List.getElem?_eq_getElem hl]; exact h1, h2⟩
theorem getD_mem {α : Type _} {l : List α} {i : Nat} (d : α) (h : i < l.length) : l.getD i d ∈ l := by
  rw [List.getD_eq_getElem?_getD, List.getElem?_eq_getElem h]
  exact List.getElem_mem _

def ArrOk (a : S51) : Prop := (0 ≤ a.f0 ∧ a.f0 ≤ 1000000000) ∧ (0 ≤ a.f1 ∧ a.f1 ≤ 10000) ∧ (0 ≤ a.f2 ∧ a.f2 ≤ 3)
def ArrsOk (l : List S51) : Prop := (∀ a ∈ l, ArrOk a) ∧ l.length ≤ 200
def Ticks (l : List S51) : Prop := ∀ i, i + 1 < l.length → (l.getD i z51).f0 ≤ (l.getD (i + 1) z51).f0
def Sorted (l : List Int) : Prop := ∀ i, i + 1 < l.length → l.getD i 0 ≤ l.getD (i + 1) 0

theorem arrivalsOk_ev (l : List S51) (hl : l.length ≤ 2000000) : (ArrsOk l → Ev (fun m => impl_arrivalsOk.f m l) true) ∧ (¬ ArrsOk l → Ev (fun m => impl_arrivalsOk.f m l) false) := by
  have good : ∀ (rs : List S51) (q : Nat), l.drop q = rs → q + rs.length = l.length → (∀ a ∈ rs, ArrOk a) → Ev (fun m => impl_arrivalsOk.l0 m l l (l.length : Int) (q : Int)) (decide ((l.length : Int) ≤ 200)) := by
    intro rs
    induction rs with
    | nil =>
      intro q hd hq _
      refine Ev.step (fun m => ?_) (Ev.now _)
      simp only [impl_arrivalsOk.l0]; rw [if_neg (by simp at hq; omega)]
    | cons a rs ih =>
      intro q hd hq h
      obtain ⟨hlt, hg, hd'⟩ := drop_cons z51 hd
      obtain ⟨⟨a1, a2⟩, ⟨a3, a4⟩, ⟨a5, a6⟩⟩ := h a (by simp)
      refine Ev.step (fun m => ?_) (Ev.step (g := fun m => impl_arrivalsOk.j1 m l l (l.length : Int) (q : Int) false) (fun m => ?_) (ih (q + 1) hd' (by simp at hq; omega) (fun x hx => h x (by simp [hx]))))
      · simp only [impl_arrivalsOk.l0]
        rw [if_pos (by omega), if_pos (by omega), if_pos (by omega), rdT, hg]
        simp [in_at, a1, a2, a3, a4, a5, a6]
      · simp only [impl_arrivalsOk.j1, Bool.false_eq_true, if_false]
        rw [w64 (by omega) (by omega), show (q : Int) + 1 = ((q + 1 : Nat) : Int) by omega]
  have bad : ∀ (rs : List S51) (q : Nat), l.drop q = rs → q + rs.length = l.length → (∃ a ∈ rs, ¬ ArrOk a) → Ev (fun m => impl_arrivalsOk.l0 m l l (l.length : Int) (q : Int)) false := by
    intro rs
    induction rs with
    | nil => intro q _ _ h; obtain ⟨a, h, _⟩ := h; simp at h
    | cons a rs ih =>
      intro q hd hq h
      obtain ⟨hlt, hg, hd'⟩ := drop_cons z51 hd
      by_cases ha : ArrOk a
      · have h' : ∃ a ∈ rs, ¬ ArrOk a := by
          obtain ⟨x, hx, hn⟩ := h
          rcases List.mem_cons.1 hx with rfl | hx
          · exact absurd ha hn
          · exact ⟨x, hx, hn⟩
        obtain ⟨⟨a1, a2⟩, ⟨a3, a4⟩, ⟨a5, a6⟩⟩ := ha
        refine Ev.step (fun m => ?_) (Ev.step (g := fun m => impl_arrivalsOk.j1 m l l (l.length : Int) (q : Int) false) (fun m => ?_) (ih (q + 1) hd' (by simp at hq; omega) h'))
        · simp only [impl_arrivalsOk.l0]
          rw [if_pos (by omega), if_pos (by omega), if_pos (by omega), rdT, hg]
          simp [in_at, a1, a2, a3, a4, a5, a6]
        · simp only [impl_arrivalsOk.j1, Bool.false_eq_true, if_false]
          rw [w64 (by omega) (by omega), show (q : Int) + 1 = ((q + 1 : Nat) : Int) by omega]
      · refine Ev.step (fun m => ?_) (Ev.step (g := fun m => impl_arrivalsOk.j1 m l l (l.length : Int) (q : Int) true) (fun m => ?_) (Ev.now _))
        · simp only [impl_arrivalsOk.l0]
          rw [if_pos (by omega), if_pos (by omega), if_pos (by omega), rdT, hg, in_at, in_at, in_at]
          simp only [Option.bind_some]
          unfold ArrOk at ha
          by_cases c1 : 0 ≤ a.f0 ∧ a.f0 ≤ 1000000000
          · by_cases c2 : 0 ≤ a.f1 ∧ a.f1 ≤ 10000
            · have c3 : ¬ (0 ≤ a.f2 ∧ a.f2 ≤ 3) := fun c3 => ha ⟨c1, c2, c3⟩
              have e : (decide (0 ≤ a.f2) && decide (a.f2 ≤ 3)) = false := by simp; omega
              rw [e]; simp [c1.1, c1.2, c2.1, c2.2]
            · have e : (decide (0 ≤ a.f1) && decide (a.f1 ≤ 10000)) = false := by simp; omega
              rw [e]; simp [c1.1, c1.2]
          · have e : (decide (0 ≤ a.f0) && decide (a.f0 ≤ 1000000000)) = false := by simp; omega
            rw [e]; simp
        · simp [impl_arrivalsOk.j1]
  have e0 : ∀ m, impl_arrivalsOk.f m l = impl_arrivalsOk.l0 m l l (l.length : Int) ((0 : Nat) : Int) := fun m => rfl
  refine ⟨fun h => Ev.congr e0 ?_, fun h => Ev.congr e0 ?_⟩
  · have := good l 0 (by simp) (by simp) h.1
    rwa [decide_eq_true (show (l.length : Int) ≤ 200 from by have := h.2; omega)] at this
  · by_cases hb : ∃ a ∈ l, ¬ ArrOk a
    · exact bad l 0 (by simp) (by simp) hb
    · have ha : ∀ a ∈ l, ArrOk a := fun a ha => Classical.byContradiction fun hn => hb ⟨a, ha, hn⟩
      have := good l 0 (by simp) (by simp) ha
      have hn : ¬ l.length ≤ 200 := fun z => h ⟨ha, z⟩
      rwa [decide_eq_false (show ¬ (l.length : Int) ≤ 200 by omega)] at this
theorem arrivals_ev (l : List S51) (hl : l.length ≤ 2000000) : (ArrsOk l → Ev (fun m => spec_l17Arrivals.f m l) true) ∧ (¬ ArrsOk l → Ev (fun m => spec_l17Arrivals.f m l) false) := by
  have one : ∀ a : S51, spec_l17Arrival.f a.f0 a.f1 a.f2 = some ((decide (0 ≤ a.f0) && decide (a.f0 ≤ 1000000000)) && ((decide (0 ≤ a.f1) && decide (a.f1 ≤ 10000)) && (decide (0 ≤ a.f2) && decide (a.f2 ≤ 3)))) := by
    intro a
    unfold spec_l17Arrival.f spec_l4Tick.f
    rw [in_at2, in_at2, in_at2]
    simp only [Option.bind_some]
    cases (decide (0 ≤ a.f0) && decide (a.f0 ≤ 1000000000)) <;> cases (decide (0 ≤ a.f1) && decide (a.f1 ≤ 10000)) <;> simp
  have yes : ∀ a : S51, ArrOk a → spec_l17Arrival.f a.f0 a.f1 a.f2 = some true := by
    intro a ha
    rw [one]
    obtain ⟨⟨a1, a2⟩, ⟨a3, a4⟩, ⟨a5, a6⟩⟩ := ha
    simp [a1, a2, a3, a4, a5, a6]
  have no : ∀ a : S51, ¬ ArrOk a → spec_l17Arrival.f a.f0 a.f1 a.f2 = some false := by
    intro a ha
    rw [one]
    congr 1
    rw [Bool.eq_false_iff]
    intro h
    simp only [Bool.and_eq_true, decide_eq_true_eq] at h
    exact ha h
  have good : ∀ (rs : List S51) (q : Nat), l.drop q = rs → q + rs.length = l.length → (∀ a ∈ rs, ArrOk a) → Ev (fun m => spec_l17Arrivals.l0 m l (q : Int)) (decide ((l.length : Int) ≤ 200)) := by
    intro rs
    induction rs with
    | nil =>
      intro q hd hq _
      refine Ev.step (fun m => ?_) (Ev.now _)
      simp only [spec_l17Arrivals.l0]; rw [if_neg (by simp at hq; omega)]
    | cons a rs ih =>
      intro q hd hq h
      obtain ⟨hlt, hg, hd'⟩ := drop_cons z51 hd
      refine Ev.step (fun m => ?_) (ih (q + 1) hd' (by simp at hq; omega) (fun x hx => h x (by simp [hx])))
      simp only [spec_l17Arrivals.l0]
      rw [if_pos (by omega), if_pos (by omega), rdT, hg, yes a (h a (by simp))]
      simp only [Option.bind_some, if_true]
      rw [w64 (by omega) (by omega), show (q : Int) + 1 = ((q + 1 : Nat) : Int) by omega]
  have bad : ∀ (rs : List S51) (q : Nat), l.drop q = rs → q + rs.length = l.length → (∃ a ∈ rs, ¬ ArrOk a) → Ev (fun m => spec_l17Arrivals.l0 m l (q : Int)) false := by
    intro rs
    induction rs with
    | nil => intro q _ _ h; obtain ⟨a, h, _⟩ := h; simp at h
    | cons a rs ih =>
      intro q hd hq h
      obtain ⟨hlt, hg, hd'⟩ := drop_cons z51 hd
      by_cases ha : ArrOk a
      · have h' : ∃ a ∈ rs, ¬ ArrOk a := by
          obtain ⟨x, hx, hn⟩ := h
          rcases List.mem_cons.1 hx with rfl | hx
          · exact absurd ha hn
          · exact ⟨x, hx, hn⟩
        refine Ev.step (fun m => ?_) (ih (q + 1) hd' (by simp at hq; omega) h')
        simp only [spec_l17Arrivals.l0]
        rw [if_pos (by omega), if_pos (by omega), rdT, hg, yes a ha]
        simp only [Option.bind_some, if_true]
        rw [w64 (by omega) (by omega), show (q : Int) + 1 = ((q + 1 : Nat) : Int) by omega]
      · refine Ev.step (fun m => ?_) (Ev.now _)
        simp only [spec_l17Arrivals.l0]
        rw [if_pos (by omega), if_pos (by omega), rdT, hg, no a ha]
        simp
  have e0 : ∀ m, spec_l17Arrivals.f m l = spec_l17Arrivals.l0 m l ((0 : Nat) : Int) := fun m => rfl
  refine ⟨fun h => Ev.congr e0 ?_, fun h => Ev.congr e0 ?_⟩
  · have := good l 0 (by simp) (by simp) h.1
    rwa [decide_eq_true (show (l.length : Int) ≤ 200 from by have := h.2; omega)] at this
  · by_cases hb : ∃ a ∈ l, ¬ ArrOk a
    · exact bad l 0 (by simp) (by simp) hb
    · have ha : ∀ a ∈ l, ArrOk a := fun a ha => Classical.byContradiction fun hn => hb ⟨a, ha, hn⟩
      have := good l 0 (by simp) (by simp) ha
      have hn : ¬ l.length ≤ 200 := fun z => h ⟨ha, z⟩
      rwa [decide_eq_false (show ¬ (l.length : Int) ≤ 200 by omega)] at this
theorem comp_at (a b : Int) : ∃ c, cmp_Compare_int.f a b = some c ∧ (c < 0 ↔ a < b) := by
  unfold cmp_Compare_int.f cmp_isNaN_int.f
  simp only [bne_self_eq_false, Option.bind_some, Bool.false_eq_true, if_false]
  by_cases c1 : a < b
  · rw [if_pos c1]; exact ⟨_, rfl, by omega⟩
  · rw [if_neg c1]
    by_cases c2 : a > b
    · rw [if_pos c2]; exact ⟨_, rfl, by omega⟩
    · rw [if_neg c2]; exact ⟨_, rfl, by omega⟩
/-! Index form of lists. -/
theorem rd_set {xs : List Int} {i j v : Int} (h0 : 0 ≤ i) (h1 : i < xs.length) (hj : 0 ≤ j) : rd (xs.set i.toNat v) j = if j = i then v else rd xs j := by
  unfold rd
  by_cases h : j = i
  · subst h
    rw [if_pos rfl]
    simp [List.getD, show j.toNat < xs.length by omega]
  · rw [if_neg h]
    have hne : i.toNat ≠ j.toNat := by omega
    simp [List.getD, List.getElem?_set_ne hne]
def swp (xs : List Int) (i j : Int) : List Int := (xs.set i.toNat (rd xs j)).set j.toNat (rd xs i)
theorem swp_len (xs : List Int) (i j : Int) : (swp xs i j).length = xs.length := by simp [swp]
theorem rd_swp {xs : List Int} {i j t : Int} (h0 : 0 ≤ i) (h1 : i < xs.length) (g0 : 0 ≤ j) (g1 : j < xs.length) (ht : 0 ≤ t) :
    rd (swp xs i j) t = if t = i then rd xs j else if t = j then rd xs i else rd xs t := by
  unfold swp
  rw [rd_set g0 (by simpa using g1) ht, rd_set h0 h1 ht]
  by_cases c1 : t = i
  · subst c1
    by_cases c2 : t = j
    · subst c2; simp
    · simp [c2]
  · simp [c1]
theorem count_set (l : List Int) (i : Nat) (v a : Int) (h : i < l.length) : (l.set i v).count a + (if l.getD i 0 = a then 1 else 0) = l.count a + (if v = a then 1 else 0) := by
  induction l generalizing i with
  | nil => simp at h
  | cons x l ih =>
    cases i with
    | zero =>
      simp only [List.set_cons_zero, List.count_cons, List.getD_cons_zero, beq_iff_eq]
      omega
    | succ i =>
      have := ih i (by simpa using h)
      simp only [List.set_cons_succ, List.count_cons, List.getD_cons_succ, beq_iff_eq]
      omega
theorem swp_perm {xs : List Int} {i j : Int} (h0 : 0 ≤ i) (h1 : i < xs.length) (g0 : 0 ≤ j) (g1 : j < xs.length) : (swp xs i j).Perm xs := by
  rw [List.perm_iff_count]
  intro a
  have e1 := count_set xs i.toNat (rd xs j) a (by omega)
  have e2 := count_set (xs.set i.toNat (rd xs j)) j.toNat (rd xs i) a (by simp; omega)
  have e3 : (xs.set i.toNat (rd xs j)).getD j.toNat 0 = if j = i then rd xs j else rd xs j := rd_set h0 h1 g0 |>.trans (by by_cases c : j = i <;> simp [c])
  have e4 : (if j = i then rd xs j else rd xs j) = rd xs j := by split <;> rfl
  rw [e3, e4] at e2
  unfold swp
  have e5 : xs.getD i.toNat 0 = rd xs i := rfl
  rw [e5] at e1
  omega
theorem ext_rd {xs ys : List Int} (hl : xs.length = ys.length) (h : ∀ t : Int, 0 ≤ t → t < xs.length → rd xs t = rd ys t) : xs = ys := by
  apply List.ext_getElem hl
  intro i h1 h2
  have := h i (by omega) (by omega)
  simpa [rd, List.getD, h1, h2] using this
/-- `ys` is `xs` with what stands in [a, b) in another order. -/
structure Mix (xs ys : List Int) (a b : Int) : Prop where
  len : ys.length = xs.length
  perm : ys.Perm xs
  out : ∀ t, 0 ≤ t → t < a ∨ b ≤ t → rd ys t = rd xs t
  inn : ∀ t, a ≤ t → t < b → ∃ u, a ≤ u ∧ u < b ∧ rd ys t = rd xs u
theorem Mix.refl (xs : List Int) (a b : Int) : Mix xs xs a b := ⟨rfl, .refl _, fun _ _ _ => rfl, fun t h1 h2 => ⟨t, h1, h2, rfl⟩⟩
theorem Mix.trans {xs ys zs : List Int} {a b : Int} (h : Mix xs ys a b) (g : Mix ys zs a b) : Mix xs zs a b :=
  ⟨g.len.trans h.len, g.perm.trans h.perm, fun t h0 ht => (g.out t h0 ht).trans (h.out t h0 ht), fun t h1 h2 => by
    obtain ⟨u, u1, u2, e⟩ := g.inn t h1 h2
    obtain ⟨v, v1, v2, e'⟩ := h.inn u u1 u2
    exact ⟨v, v1, v2, e.trans e'⟩⟩
theorem Mix.wide {xs ys : List Int} {a b a' b' : Int} (h : Mix xs ys a b) (h0 : 0 ≤ a') (h1 : a' ≤ a) (h2 : b ≤ b') : Mix xs ys a' b' :=
  ⟨h.len, h.perm, fun t t0 ht => h.out t t0 (by omega), fun t t1 t2 => by
    by_cases c : a ≤ t ∧ t < b
    · obtain ⟨u, u1, u2, e⟩ := h.inn t c.1 c.2
      exact ⟨u, by omega, by omega, e⟩
    · exact ⟨t, t1, t2, h.out t (by omega) (by omega)⟩⟩
theorem Mix.swp {xs : List Int} {i j a b : Int} (ha : 0 ≤ a) (hb : b ≤ xs.length) (i0 : a ≤ i) (i1 : i < b) (j0 : a ≤ j) (j1 : j < b) : Mix xs (swp xs i j) a b :=
  ⟨swp_len _ _ _, swp_perm (by omega) (by omega) (by omega) (by omega), fun t t0 ht => by
    rw [rd_swp (by omega) (by omega) (by omega) (by omega) t0, if_neg (by omega), if_neg (by omega)], fun t t1 t2 => by
    rw [rd_swp (by omega) (by omega) (by omega) (by omega) (by omega)]
    by_cases c : t = i
    · exact ⟨j, j0, j1, by rw [if_pos c]⟩
    · by_cases c' : t = j
      · exact ⟨i, i0, i1, by rw [if_neg c, if_pos c']⟩
      · exact ⟨t, t1, t2, by rw [if_neg c, if_neg c']⟩⟩
/-- The order by class, then by number. -/
def tlt (cl : Int → Int) (x y : Int) : Prop := cl x < cl y ∨ cl x = cl y ∧ x < y
theorem tlt.trans {cl : Int → Int} {x y z : Int} (h : tlt cl x y) (g : tlt cl y z) : tlt cl x z := by
  unfold tlt at *; omega
theorem tlt.irrefl {cl : Int → Int} {x : Int} (h : tlt cl x x) : False := by
  unfold tlt at h; omega
theorem tlt.tri {cl : Int → Int} (x y : Int) (h : x ≠ y) : tlt cl x y ∨ tlt cl y x := by
  unfold tlt; omega
def Srt (cl : Int → Int) (xs : List Int) (a b : Int) : Prop := ∀ i j, a ≤ i → i < j → j < b → tlt cl (rd xs i) (rd xs j)
theorem Srt.sub {cl : Int → Int} {xs : List Int} {a b a' b' : Int} (h : Srt cl xs a b) (h1 : a ≤ a') (h2 : b' ≤ b) : Srt cl xs a' b' :=
  fun i j hi hij hj => h i j (by omega) hij (by omega)
theorem Srt.same {cl : Int → Int} {xs ys : List Int} {a b : Int} (h : Srt cl xs a b) (e : ∀ t, a ≤ t → t < b → rd ys t = rd xs t) : Srt cl ys a b :=
  fun i j hi hij hj => by rw [e i hi (by omega), e j (by omega) hj]; exact h i j hi hij hj
/-- Where classes are alike the left one has the lesser number. -/
def Cross (cl : Int → Int) (xs : List Int) (a m b : Int) : Prop := ∀ i j, a ≤ i → i < m → m ≤ j → j < b → cl (rd xs i) = cl (rd xs j) → rd xs i < rd xs j
theorem Cross.lt {cl : Int → Int} {xs : List Int} {a m b i j : Int} (h : Cross cl xs a m b) (h1 : a ≤ i) (h2 : i < m) (h3 : m ≤ j) (h4 : j < b) : cl (rd xs j) < cl (rd xs i) ↔ tlt cl (rd xs j) (rd xs i) := by
  constructor
  · exact fun h => .inl h
  · rintro (h' | ⟨h', g⟩)
    · exact h'
    · have := h i j h1 h2 h3 h4 h'.symm; omega
theorem Cross.nlt {cl : Int → Int} {xs : List Int} {a m b i j : Int} (h : Cross cl xs a m b) (h1 : a ≤ i) (h2 : i < m) (h3 : m ≤ j) (h4 : j < b) : ¬ cl (rd xs j) < cl (rd xs i) ↔ tlt cl (rd xs i) (rd xs j) := by
  have hc := h i j h1 h2 h3 h4
  unfold tlt
  omega
/-- `ys` is `xs` with the n cells from a on and those from b on in each other's place. -/
structure Swapped (xs ys : List Int) (a b n : Int) : Prop where
  len : ys.length = xs.length
  perm : ys.Perm xs
  at_ : ∀ t, 0 ≤ t → rd ys t = if a ≤ t ∧ t < a + n then rd xs (t - a + b) else if b ≤ t ∧ t < b + n then rd xs (t - b + a) else rd xs t
theorem Swapped.zero (xs : List Int) (a b : Int) : Swapped xs xs a b 0 := ⟨rfl, .refl _, fun t _ => by rw [if_neg (by omega), if_neg (by omega)]⟩
theorem Swapped.succ {xs ys : List Int} {a b n : Int} (h : Swapped xs ys a b n) (ha : 0 ≤ a) (hn : 0 ≤ n) (hab : a + n < b) (hb : b + n < xs.length) : Swapped xs (swp ys (a + n) (b + n)) a b (n + 1) := by
  have hl := h.len
  refine ⟨(swp_len _ _ _).trans h.len, (swp_perm (by omega) (by omega) (by omega) (by omega)).trans h.perm, fun t t0 => ?_⟩
  rw [rd_swp (by omega) (by omega) (by omega) (by omega) t0, h.at_ t t0, h.at_ _ (by omega), h.at_ _ (by omega)]
  by_cases c1 : t = a + n
  · subst c1
    rw [if_pos rfl, if_neg (by omega), if_neg (by omega), if_pos (by omega)]
    congr 1; omega
  · rw [if_neg c1]
    by_cases c2 : t = b + n
    · subst c2
      rw [if_pos rfl, if_neg (by omega), if_neg (by omega), if_neg (by omega), if_pos (by omega)]
      congr 1; omega
    · rw [if_neg c2]
      by_cases c3 : a ≤ t ∧ t < a + n
      · rw [if_pos c3, if_pos (by omega)]
      · rw [if_neg c3, if_neg (c := a ≤ t ∧ t < a + (n + 1)) (by omega)]
        by_cases c4 : b ≤ t ∧ t < b + n
        · rw [if_pos c4, if_pos (by omega)]
        · rw [if_neg c4, if_neg (by omega)]
/-- `ys` is `xs` with [m, b) ahead of [a, m). -/
structure Rotd (xs ys : List Int) (a m b : Int) : Prop where
  len : ys.length = xs.length
  perm : ys.Perm xs
  at_ : ∀ t, 0 ≤ t → rd ys t = if a ≤ t ∧ t < a + (b - m) then rd xs (t + (m - a)) else if a + (b - m) ≤ t ∧ t < b then rd xs (t - (b - m)) else rd xs t
theorem Rotd.last {xs ys : List Int} {m i : Int} (h : Swapped xs ys (m - i) m i) (h0 : 0 ≤ i) : Rotd xs ys (m - i) m (m + i) := by
  refine ⟨h.len, h.perm, fun t t0 => ?_⟩
  rw [h.at_ t t0]
  repeat' split
  all_goals first | (exfalso; omega) | rfl | (congr 1; omega)
theorem Rotd.left {xs ys zs : List Int} {m i j : Int} (h : Swapped xs ys (m - i) m j) (hr : Rotd ys zs (m - (i - j)) m (m + j)) (hj : 0 ≤ j) (hij : j < i) (hm : 0 ≤ m - i) : Rotd xs zs (m - i) m (m + j) := by
  refine ⟨hr.len.trans h.len, hr.perm.trans h.perm, fun t t0 => ?_⟩
  rw [hr.at_ t t0]
  split
  · rw [h.at_ _ (by omega)]
    repeat' split
    all_goals first | (exfalso; omega) | rfl | (congr 1; omega)
  split
  · rw [h.at_ _ (by omega)]
    repeat' split
    all_goals first | (exfalso; omega) | rfl | (congr 1; omega)
  · rw [h.at_ _ (by omega)]
    repeat' split
    all_goals first | (exfalso; omega) | rfl | (congr 1; omega)
theorem Rotd.right {xs ys zs : List Int} {m i j : Int} (h : Swapped xs ys (m - i) (m + j - i) i) (hr : Rotd ys zs (m - i) m (m + (j - i))) (hi : 0 ≤ i) (hij : i < j) (hm : 0 ≤ m - i) : Rotd xs zs (m - i) m (m + j) := by
  refine ⟨hr.len.trans h.len, hr.perm.trans h.perm, fun t t0 => ?_⟩
  rw [hr.at_ t t0]
  split
  · rw [h.at_ _ (by omega)]
    repeat' split
    all_goals first | (exfalso; omega) | rfl | (congr 1; omega)
  split
  · rw [h.at_ _ (by omega)]
    repeat' split
    all_goals first | (exfalso; omega) | rfl | (congr 1; omega)
  · rw [h.at_ _ (by omega)]
    repeat' split
    all_goals first | (exfalso; omega) | rfl | (congr 1; omega)
theorem Rotd.mix {xs ys : List Int} {a m b : Int} (h : Rotd xs ys a m b) (ha : 0 ≤ a) (h1 : a ≤ m) (h2 : m ≤ b) : Mix xs ys a b :=
  ⟨h.len, h.perm, fun t t0 ht => by rw [h.at_ t t0, if_neg (by omega), if_neg (by omega)], fun t t1 t2 => by
    rw [h.at_ t (by omega)]
    by_cases c : t < a + (b - m)
    · exact ⟨t + (m - a), by omega, by omega, by rw [if_pos (by omega)]⟩
    · exact ⟨t - (b - m), by omega, by omega, by rw [if_neg (by omega), if_pos (by omega)]⟩⟩
theorem Rotd.same {xs ys : List Int} {s m e t : Int} (h : Rotd xs ys s m e) (h1 : s ≤ m) (h2 : m ≤ e) (t0 : 0 ≤ t) (ht : t < s ∨ e ≤ t) : rd ys t = rd xs t := by
  rw [h.at_ t t0, if_neg (by omega), if_neg (by omega)]
theorem Rotd.lo {xs ys : List Int} {s m e t : Int} (h : Rotd xs ys s m e) (t0 : 0 ≤ t) (h1 : s ≤ t) (h2 : t < s + (e - m)) : rd ys t = rd xs (t + (m - s)) := by
  rw [h.at_ t t0, if_pos ⟨h1, h2⟩]
theorem Rotd.hi {xs ys : List Int} {s m e t : Int} (h : Rotd xs ys s m e) (t0 : 0 ≤ t) (h1 : s + (e - m) ≤ t) (h2 : t < e) : rd ys t = rd xs (t - (e - m)) := by
  rw [h.at_ t t0, if_neg (by omega), if_pos ⟨h1, h2⟩]
theorem Rotd.none_ (xs : List Int) {s m e : Int} (h : s = m ∨ m = e) : Rotd xs xs s m e :=
  ⟨rfl, .refl _, fun t t0 => by
    repeat' split
    all_goals first | (exfalso; omega) | rfl | (congr 1; omega)⟩
theorem Rotd.stepR {xs ys : List Int} {a k : Int} (h : Rotd xs ys a (a + 1) (k + 1)) (ha : 0 ≤ a) (hk : a ≤ k) (hb : k + 1 < xs.length) : Rotd xs (swp ys k (k + 1)) a (a + 1) (k + 2) := by
  have hl := h.len
  refine ⟨(swp_len _ _ _).trans h.len, (swp_perm (by omega) (by omega) (by omega) (by omega)).trans h.perm, fun t t0 => ?_⟩
  rw [rd_swp (by omega) (by omega) (by omega) (by omega) t0, h.at_ t t0, h.at_ _ (by omega), h.at_ _ (by omega)]
  repeat' split
  all_goals first | (exfalso; omega) | rfl | (congr 1; omega)
theorem Rotd.stepL {xs ys : List Int} {m k : Int} (h : Rotd xs ys k m (m + 1)) (hk : 0 < k) (hm : k ≤ m) (hb : m < xs.length) : Rotd xs (swp ys k (k - 1)) (k - 1) m (m + 1) := by
  have hl := h.len
  refine ⟨(swp_len _ _ _).trans h.len, (swp_perm (by omega) (by omega) (by omega) (by omega)).trans h.perm, fun t t0 => ?_⟩
  rw [rd_swp (by omega) (by omega) (by omega) (by omega) t0, h.at_ t t0, h.at_ _ (by omega), h.at_ _ (by omega)]
  repeat' split
  all_goals first | (exfalso; omega) | rfl | (congr 1; omega)
/-- One element goes right, past all that are less. -/
theorem one_left {cl : Int → Int} {xs ys : List Int} {a i b : Int} (h : Rotd xs ys a (a + 1) i) (ha : 0 ≤ a) (hi : a + 1 ≤ i) (hb : i ≤ b) (hs : Srt cl xs (a + 1) b)
    (h1 : ∀ t, a + 1 ≤ t → t < i → tlt cl (rd xs t) (rd xs a)) (h2 : ∀ t, i ≤ t → t < b → tlt cl (rd xs a) (rd xs t)) : Srt cl ys a b := by
  intro p q hp hpq hq
  by_cases c1 : p < a + (i - (a + 1))
  · rw [h.lo (by omega) hp c1]
    by_cases c2 : q < a + (i - (a + 1))
    · rw [h.lo (by omega) (by omega) c2]; exact hs _ _ (by omega) (by omega) (by omega)
    · by_cases c3 : q < i
      · rw [h.hi (by omega) (by omega) c3, show q - (i - (a + 1)) = a by omega]; exact h1 _ (by omega) (by omega)
      · rw [h.same (by omega) (by omega) (by omega) (by omega)]; exact hs _ _ (by omega) (by omega) (by omega)
  · by_cases c3 : p < i
    · rw [h.hi (by omega) (by omega) c3, show p - (i - (a + 1)) = a by omega, h.same (by omega) (by omega) (by omega) (by omega)]; exact h2 _ (by omega) (by omega)
    · rw [h.same (by omega) (by omega) (by omega) (by omega), h.same (by omega) (by omega) (by omega) (by omega)]; exact hs _ _ (by omega) (by omega) (by omega)
theorem one_right {cl : Int → Int} {xs ys : List Int} {a i m : Int} (h : Rotd xs ys i m (m + 1)) (ha : 0 ≤ a) (hi : a ≤ i) (hm : i ≤ m) (hs : Srt cl xs a m)
    (h1 : ∀ t, a ≤ t → t < i → tlt cl (rd xs t) (rd xs m)) (h2 : ∀ t, i ≤ t → t < m → tlt cl (rd xs m) (rd xs t)) : Srt cl ys a (m + 1) := by
  intro p q hp hpq hq
  by_cases c1 : p < i
  · rw [h.same (by omega) (by omega) (by omega) (by omega)]
    by_cases c2 : q < i
    · rw [h.same (by omega) (by omega) (by omega) (by omega)]; exact hs _ _ (by omega) (by omega) (by omega)
    · by_cases c3 : q < i + 1
      · rw [h.lo (by omega) (by omega) (by omega), show q + (m - i) = m by omega]; exact h1 _ (by omega) (by omega)
      · rw [h.hi (by omega) (by omega) (by omega)]; exact hs _ _ (by omega) (by omega) (by omega)
  · by_cases c3 : p < i + 1
    · rw [h.lo (by omega) (by omega) (by omega), show p + (m - i) = m by omega, h.hi (by omega) (by omega) (by omega)]; exact h2 _ (by omega) (by omega)
    · rw [h.hi (by omega) (by omega) (by omega), h.hi (by omega) (by omega) (by omega)]; exact hs _ _ (by omega) (by omega) (by omega)
/-- What a cut of two sorted parts must be good for: [a, s) and [m, e) are less than [s, m) and [e, b). -/
structure Cut (cl : Int → Int) (xs : List Int) (a s m e b : Int) : Prop where
  a1b2 : ∀ i j, a ≤ i → i < s → e ≤ j → j < b → tlt cl (rd xs i) (rd xs j)
  b1a2 : ∀ i j, m ≤ i → i < e → s ≤ j → j < m → tlt cl (rd xs i) (rd xs j)
theorem cut_of {cl : Int → Int} {xs : List Int} {a m b mid s s0 r0 : Int} (hA : Srt cl xs a m) (hB : Srt cl xs m b) (hab : a < m) (hmb : m < b) (hmid : mid = (a + b) / 2)
    (h0 : m > mid ∧ s0 = mid + m - b ∧ r0 = mid ∨ ¬ m > mid ∧ s0 = a ∧ r0 = m) (hs0 : s0 ≤ s) (hs1 : s ≤ r0)
    (h1 : ∀ c, s0 ≤ c → c < s → tlt cl (rd xs c) (rd xs (mid + m - 1 - c))) (h2 : ∀ c, s ≤ c → c < r0 → tlt cl (rd xs (mid + m - 1 - c)) (rd xs c)) : Cut cl xs a s m (mid + m - s) b := by
  refine ⟨fun i j i0 i1 j0 j1 => ?_, fun i j i0 i1 j0 j1 => ?_⟩
  · have h := h1 (s - 1) (by omega) (by omega)
    have h3 : tlt cl (rd xs i) (rd xs (mid + m - 1 - (s - 1))) := by
      by_cases c : i = s - 1
      · rw [c]; exact h
      · exact (hA i (s - 1) i0 (by omega) (by omega)).trans h
    by_cases c : j = mid + m - 1 - (s - 1)
    · rw [c]; exact h3
    · exact h3.trans (hB _ j (by omega) (by omega) j1)
  · have h := h2 s (by omega) (by omega)
    have h3 : tlt cl (rd xs i) (rd xs s) := by
      by_cases c : i = mid + m - 1 - s
      · rw [c]; exact h
      · exact (hB i _ i0 (by omega) (by omega)).trans h
    by_cases c : j = s
    · rw [c]; exact h3
    · exact h3.trans (hA s j (by omega) (by omega) j1)
theorem lower {cl : Int → Int} {xs ys : List Int} {a s m e mid b : Int} (hr : Rotd xs ys s m e) (ha : 0 ≤ a) (h1 : a ≤ s) (h2 : s ≤ m) (h3 : m ≤ e) (h4 : e ≤ b) (hm : s + (e - m) = mid) (hA : Srt cl xs a m) (hB : Srt cl xs m b) (hc : Cross cl xs a m b) :
    Srt cl ys a s ∧ Srt cl ys s mid ∧ Cross cl ys a s mid := by
  refine ⟨?_, ?_, ?_⟩
  · exact (hA.sub (Int.le_refl _) h2).same fun t t1 t2 => hr.same h2 h3 (by omega) (by omega)
  · intro i j i0 ij j1
    rw [hr.lo (by omega) i0 (by omega), hr.lo (by omega) (by omega) (by omega)]
    exact hB _ _ (by omega) (by omega) (by omega)
  · intro i j i0 i1 j0 j1
    rw [hr.same h2 h3 (by omega) (by omega), hr.lo (by omega) j0 (by omega)]
    exact hc _ _ i0 (by omega) (by omega) (by omega)
theorem upper {cl : Int → Int} {xs ys : List Int} {a s m e mid b : Int} (hr : Rotd xs ys s m e) (ha : 0 ≤ a) (h1 : a ≤ s) (h2 : s ≤ m) (h3 : m ≤ e) (h4 : e ≤ b) (hm : s + (e - m) = mid) (hA : Srt cl xs a m) (hB : Srt cl xs m b) (hc : Cross cl xs a m b) :
    Srt cl ys mid e ∧ Srt cl ys e b ∧ Cross cl ys mid e b := by
  refine ⟨?_, ?_, ?_⟩
  · intro i j i0 ij j1
    rw [hr.hi (by omega) (by omega) (by omega), hr.hi (by omega) (by omega) (by omega)]
    exact hA _ _ (by omega) (by omega) (by omega)
  · exact (hB.sub h3 (Int.le_refl _)).same fun t t1 t2 => hr.same h2 h3 (by omega) (by omega)
  · intro i j i0 i1 j0 j1
    rw [hr.hi (by omega) (by omega) i1, hr.same h2 h3 (by omega) (by omega)]
    exact hc _ _ (by omega) (by omega) (by omega) (by omega)
theorem Cross.same {cl : Int → Int} {xs ys : List Int} {a m b : Int} (h : Cross cl xs a m b) (e : ∀ t, a ≤ t → t < b → rd ys t = rd xs t) : Cross cl ys a m b :=
  fun i j i0 i1 j0 j1 => by rw [e i i0 (by omega), e j (by omega) j1]; exact h i j i0 i1 j0 j1
/-- Both parts sorted in themselves: the whole is. -/
theorem joined {cl : Int → Int} {xs ys zs ws : List Int} {a s m e mid b : Int} (hr : Rotd xs ys s m e) (hC : Cut cl xs a s m e b) (hA : Srt cl xs a m) (hB : Srt cl xs m b) (ha : 0 ≤ a) (h1 : a ≤ s) (h2 : s ≤ m) (h3 : m ≤ e) (h4 : e ≤ b) (hm : s + (e - m) = mid)
    (hz : Mix ys zs a mid) (hw : Mix zs ws mid b) (sz : Srt cl zs a mid) (sw : Srt cl ws mid b) : Mix xs ws a b ∧ Srt cl ws a b := by
  refine ⟨((hr.mix (by omega) h2 h3).wide ha h1 h4).trans ((hz.wide ha (Int.le_refl _) (by omega)).trans (hw.wide ha (by omega) (Int.le_refl _))), ?_⟩
  intro i j i0 ij j1
  by_cases c1 : j < mid
  · rw [hw.out i (by omega) (by omega), hw.out j (by omega) (by omega)]; exact sz i j i0 ij c1
  · by_cases c2 : mid ≤ i
    · exact sw i j c2 ij j1
    · rw [hw.out i (by omega) (by omega)]
      obtain ⟨u, u0, u1, eu⟩ := hz.inn i i0 (by omega)
      obtain ⟨v', v0, v1, ev⟩ := hw.inn j (by omega) j1
      rw [eu, ev, hz.out v' (by omega) (by omega)]
      by_cases c3 : u < s
      · rw [hr.same h2 h3 (by omega) (by omega)]
        by_cases c4 : v' < e
        · rw [hr.hi (by omega) (by omega) c4]; exact hA _ _ (by omega) (by omega) (by omega)
        · rw [hr.same h2 h3 (by omega) (by omega)]; exact hC.a1b2 _ _ u0 c3 (by omega) v1
      · rw [hr.lo (by omega) (by omega) (by omega)]
        by_cases c4 : v' < e
        · rw [hr.hi (by omega) (by omega) c4]; exact hC.b1a2 _ _ (by omega) (by omega) (by omega) (by omega)
        · rw [hr.same h2 h3 (by omega) (by omega)]; exact hB _ _ (by omega) (by omega) v1
theorem Srt.one {cl : Int → Int} {xs : List Int} {a b : Int} (h : b ≤ a + 1) : Srt cl xs a b := fun i j _ _ _ => by omega
/-- Where classes are alike the numbers stand in their order. -/
def InOrd (cl : Int → Int) (xs : List Int) (a b : Int) : Prop := ∀ i j, a ≤ i → i < j → j < b → cl (rd xs i) = cl (rd xs j) → rd xs i < rd xs j
theorem InOrd.cmp {cl : Int → Int} {X xs ys : List Int} {a b i j : Int} (ho : InOrd cl X a b) (hm : Mix X xs a i) (hr : Rotd xs ys j i (i + 1)) (ha : 0 ≤ a) (h1 : a < j) (h2 : j ≤ i) (h3 : i < b) :
    (cl (rd ys j) < cl (rd ys (j - 1)) ↔ tlt cl (rd xs i) (rd xs (j - 1))) ∧ (¬ cl (rd ys j) < cl (rd ys (j - 1)) ↔ tlt cl (rd xs (j - 1)) (rd xs i)) := by
  rw [hr.lo (by omega) (Int.le_refl _) (by omega), hr.same (by omega) (by omega) (by omega) (by omega), show j + (i - j) = i by omega, hm.out i (by omega) (by omega)]
  obtain ⟨u, u0, u1, e⟩ := hm.inn (j - 1) (by omega) (by omega)
  rw [e]
  have h := ho u i u0 u1 h3
  unfold tlt
  omega
/-- A run of blocks, the last one may be shorter. -/
structure Blk (cl : Int → Int) (xs : List Int) (lo hi : Int) : Prop where
  srt : Srt cl xs lo hi
  seg : ∀ t, lo ≤ t → t < hi → lo ≤ rd xs t ∧ rd xs t < hi
theorem Blk.same {cl : Int → Int} {xs ys : List Int} {lo hi : Int} (h : Blk cl xs lo hi) (e : ∀ t, lo ≤ t → t < hi → rd ys t = rd xs t) : Blk cl ys lo hi :=
  ⟨h.srt.same e, fun t t0 t1 => by rw [e t t0 t1]; exact h.seg t t0 t1⟩
theorem Blk.cross {cl : Int → Int} {xs : List Int} {a m b : Int} (h : Blk cl xs a m) (g : Blk cl xs m b) : Cross cl xs a m b :=
  fun i j i0 i1 j0 j1 _ => by have h1 := h.seg i i0 i1; have h2 := g.seg j j0 j1; omega
theorem Blk.merged {cl : Int → Int} {xs ys : List Int} {a m b : Int} (h : Blk cl xs a m) (g : Blk cl xs m b) (hm : a ≤ m) (hb : m ≤ b) (hx : Mix xs ys a b) (hs : Srt cl ys a b) : Blk cl ys a b :=
  ⟨hs, fun t t0 t1 => by
    obtain ⟨u, u0, u1, e⟩ := hx.inn t t0 t1
    rw [e]
    by_cases c : u < m
    · have := h.seg u u0 c; omega
    · have := g.seg u (by omega) u1; omega⟩
inductive Tiled (cl : Int → Int) (bs : Int) (xs : List Int) : Int → Int → Prop
  | last {lo hi : Int} : lo ≤ hi → hi < lo + bs → Blk cl xs lo hi → Tiled cl bs xs lo hi
  | cons {lo hi : Int} : lo + bs ≤ hi → Blk cl xs lo (lo + bs) → Tiled cl bs xs (lo + bs) hi → Tiled cl bs xs lo hi
theorem Tiled.same {cl : Int → Int} {bs : Int} {xs ys : List Int} {lo hi : Int} (h : Tiled cl bs xs lo hi) (hb : 0 < bs) : (∀ t, lo ≤ t → t < hi → rd ys t = rd xs t) → Tiled cl bs ys lo hi := by
  induction h with
  | last h1 h2 h3 => exact fun e => .last h1 h2 (h3.same e)
  | cons h1 h2 h3 ih => exact fun e => .cons h1 (h2.same fun t t0 t1 => e t t0 (by omega)) (ih fun t t0 t1 => e t (by omega) t1)
theorem Tiled.le {cl : Int → Int} {bs : Int} {xs : List Int} {lo hi : Int} (h : Tiled cl bs xs lo hi) (hb : 0 < bs) : lo ≤ hi := by
  cases h <;> omega
theorem Tiled.one {cl : Int → Int} {bs : Int} {xs : List Int} {hi : Int} (h : Tiled cl bs xs 0 hi) (hb : hi ≤ bs) (h0 : 0 < bs) : Blk cl xs 0 hi := by
  cases h with
  | last h1 h2 h3 => exact h3
  | cons h1 h2 h3 => rw [show hi = 0 + bs by omega]; exact h2
theorem Blk.empty (cl : Int → Int) (xs : List Int) (a : Int) : Blk cl xs a a := ⟨fun _ _ _ _ _ => by omega, fun _ _ _ => by omega⟩
/-- Sorted from end to end, and the same elements: the same list. -/
theorem Srt.pw {cl : Int → Int} {xs : List Int} (h : Srt cl xs 0 xs.length) : xs.Pairwise (tlt cl) := by
  rw [List.pairwise_iff_getElem]
  intro i j hi hj hij
  have := h i j (by omega) (by omega) (by omega)
  simpa [rd, List.getD, hi, hj] using this
theorem pw_unique {cl : Int → Int} : ∀ {xs ys : List Int}, xs.Pairwise (tlt cl) → ys.Pairwise (tlt cl) → xs.Perm ys → xs = ys
  | [], ys, _, _, hp => (List.nil_perm.1 hp).symm
  | x :: xs, [], _, _, hp => by simp at hp
  | x :: xs, y :: ys, hx, hy, hp => by
    have e : x = y := by
      by_cases e : x = y
      · exact e
      · have h1 : x ∈ y :: ys := hp.mem_iff.1 (by simp)
        have h2 : y ∈ x :: xs := hp.mem_iff.2 (by simp)
        have h1 : x ∈ ys := by simpa [e] using h1
        have h2 : y ∈ xs := by simpa [Ne.symm e] using h2
        exact (tlt.irrefl (((List.pairwise_cons.1 hx).1 y h2).trans ((List.pairwise_cons.1 hy).1 x h1))).elim
    subst e
    rw [pw_unique (List.pairwise_cons.1 hx).2 (List.pairwise_cons.1 hy).2 ((List.perm_cons x).1 hp)]
section
variable {cl : Int → Int} {n : Int} [C_ : Inhabited ExtCl.Clos]
def ClsOk [C_ : Inhabited ExtCl.Clos] (cl : Int → Int) (n : Int) : Prop := ∀ x y, 0 ≤ x → x < n → 0 ≤ y → y < n → ∃ c, ExtCl.cls x y = some c ∧ (c < 0 ↔ cl x < cl y)
def Vals (n : Int) (xs : List Int) : Prop := ∀ v ∈ xs, 0 ≤ v ∧ v < n
theorem Vals.perm {xs ys : List Int} (h : Vals n xs) (hp : ys.Perm xs) : Vals n ys := fun v hv => h v (hp.mem_iff.1 hv)
theorem rd_mem {xs : List Int} {i : Int} (h0 : 0 ≤ i) (h1 : i < xs.length) : rd xs i ∈ xs := by
  unfold rd
  rw [List.getD_eq_getElem?_getD, List.getElem?_eq_getElem (by omega)]
  exact List.getElem_mem _
theorem cmp_step {xs : List Int} {i j : Int} (hC : ClsOk cl n) (hV : Vals n xs) (i0 : 0 ≤ i) (i1 : i < xs.length) (j0 : 0 ≤ j) (j1 : j < xs.length) : ∃ c, ExtCl.cls (rd xs i) (rd xs j) = some c ∧ (c < 0 ↔ cl (rd xs i) < cl (rd xs j)) :=
  hC _ _ (hV _ (rd_mem i0 i1)).1 (hV _ (rd_mem i0 i1)).2 (hV _ (rd_mem j0 j1)).1 (hV _ (rd_mem j0 j1)).2
theorem mid_at {i j : Int} (h0 : 0 ≤ i) (h1 : 0 ≤ j) (h2 : i ≤ 1000000) (h3 : j ≤ 1000000) : wrap64 ((IntKind.u64.wrap (wrap64 (i + j))) / 2) = (i + j) / 2 := by
  rw [w64 (x := i + j) (by omega) (by omega), IntKind.wrap_u64, Int.emod_eq_of_lt (by omega) (by omega), w64 (by omega) (by omega)]
theorem swapRange_ev {xs : List Int} {a b m : Int} (hl : xs.length ≤ 1000000) (ha : 0 ≤ a) (hm : 0 ≤ m) (hab : a + m ≤ b) (hb : b + m ≤ xs.length) : ∃ ys, Swapped xs ys a b m ∧ Ev (fun k => slices_swapRangeCmpFunc_int.f k xs a b m) ys := by
  have go : ∀ (d : Nat) (i : Int) (ys : List Int), 0 ≤ i → i + d = m → Swapped xs ys a b i → ∃ zs, Swapped xs zs a b m ∧ Ev (fun k => slices_swapRangeCmpFunc_int.l0 k ys a b m i) zs := by
    intro d
    induction d with
    | zero =>
      intro i ys h0 hd h
      have : i = m := by omega
      subst this
      refine ⟨ys, h, Ev.step (fun k => ?_) (Ev.now _)⟩
      simp only [slices_swapRangeCmpFunc_int.l0]; rw [if_neg (by omega)]
    | succ d ih =>
      intro i ys h0 hd h
      have hly := h.len
      obtain ⟨zs, hz, ez⟩ := ih (i + 1) (swp ys (a + i) (b + i)) (by omega) (by omega) (h.succ ha h0 (by omega) (by omega))
      refine ⟨zs, hz, Ev.step (fun k => ?_) ez⟩
      simp only [slices_swapRangeCmpFunc_int.l0]
      rw [if_pos (by omega), w64 (x := b + i) (by omega) (by omega), w64 (x := a + i) (by omega) (by omega), w64 (x := i + 1) (by omega) (by omega), if_pos (by omega), if_pos (by omega), if_pos (by omega), if_pos (by omega)]
      rfl
  obtain ⟨ys, hy, ey⟩ := go m.toNat 0 xs (by omega) (by omega) (Swapped.zero xs a b)
  exact ⟨ys, hy, ey⟩
theorem rotate_ev : ∀ (d : Nat) {xs : List Int} {m i j : Int}, (i + j).toNat ≤ d → xs.length ≤ 1000000 → 0 < i → 0 < j → 0 ≤ m - i → m + j ≤ xs.length → ∃ ys, Rotd xs ys (m - i) m (m + j) ∧ Ev (fun k => slices_rotateCmpFunc_int.l0 k xs m i j) ys := by
  intro d
  induction d with
  | zero => intro xs m i j hd; omega
  | succ d ih =>
    intro xs m i j hd hl hi hj hm hb
    by_cases c1 : i = j
    · subst c1
      obtain ⟨ys, hy, ey⟩ := swapRange_ev (xs := xs) (a := m - i) (b := m) (m := i) hl hm (by omega) (by omega) (by omega)
      refine ⟨ys, Rotd.last hy (by omega), Ev.step (f := fun k => (slices_swapRangeCmpFunc_int.f k xs (m - i) m i).bind fun t => some t) (fun k => ?_) (Ev.bind ey (Ev.now _))⟩
      simp only [slices_rotateCmpFunc_int.l0, if_true]
      rw [w64 (x := m - i) (by omega) (by omega)]
    · by_cases c2 : i > j
      · obtain ⟨ys, hy, ey⟩ := swapRange_ev (xs := xs) (a := m - i) (b := m) (m := j) hl hm (by omega) (by omega) (by omega)
        have hly := hy.len
        obtain ⟨zs, hz, ez⟩ := ih (xs := ys) (m := m) (i := i - j) (j := j) (by omega) (by omega) (by omega) hj (by omega) (by omega)
        refine ⟨zs, Rotd.left hy hz (by omega) c2 hm, Ev.step (f := fun k => (slices_swapRangeCmpFunc_int.f k xs (m - i) m j).bind fun t => slices_rotateCmpFunc_int.l0 k t m (i - j) j) (fun k => ?_) (Ev.bind ey ez)⟩
        simp only [slices_rotateCmpFunc_int.l0]
        rw [if_neg c1, if_pos c2, w64 (x := m - i) (by omega) (by omega), w64 (x := i - j) (by omega) (by omega)]
      · obtain ⟨ys, hy, ey⟩ := swapRange_ev (xs := xs) (a := m - i) (b := m + j - i) (m := i) hl hm (by omega) (by omega) (by omega)
        have hly := hy.len
        obtain ⟨zs, hz, ez⟩ := ih (xs := ys) (m := m) (i := i) (j := j - i) (by omega) (by omega) hi (by omega) (by omega) (by omega)
        refine ⟨zs, Rotd.right hy hz (by omega) (by omega) hm, Ev.step (f := fun k => (slices_swapRangeCmpFunc_int.f k xs (m - i) (m + j - i) i).bind fun t => slices_rotateCmpFunc_int.l0 k t m i (j - i)) (fun k => ?_) (Ev.bind ey ez)⟩
        simp only [slices_rotateCmpFunc_int.l0]
        rw [if_neg c1, if_neg c2, w64 (x := m - i) (by omega) (by omega), w64 (x := m + j) (by omega) (by omega), w64 (x := m + j - i) (by omega) (by omega), w64 (x := j - i) (by omega) (by omega)]
theorem rotate_at {xs : List Int} {a m b : Int} (hl : xs.length ≤ 1000000) (ha : 0 ≤ a) (h1 : a < m) (h2 : m < b) (hb : b ≤ xs.length) : ∃ ys, Rotd xs ys a m b ∧ Ev (fun k => slices_rotateCmpFunc_int.f k xs a m b) ys := by
  obtain ⟨ys, hy, ey⟩ := rotate_ev (m - a + (b - m)).toNat (xs := xs) (m := m) (i := m - a) (j := b - m) (Nat.le_refl _) hl (by omega) (by omega) (by omega) (by omega)
  rw [show m - (m - a) = a by omega, show m + (b - m) = b by omega] at hy
  refine ⟨ys, hy, Ev.congr (fun k => ?_) ey⟩
  simp only [slices_rotateCmpFunc_int.f]
  rw [w64 (x := m - a) (by omega) (by omega), w64 (x := b - m) (by omega) (by omega)]
/-- What a merge leaves. -/
def Done (cl : Int → Int) (xs ys : List Int) (a b : Int) : Prop := Mix xs ys a b ∧ Srt cl ys a b
theorem sym_l1 {xs : List Int} {a i : Int} (hl : xs.length ≤ 1000000) (ha : 0 ≤ a) (hb : i ≤ xs.length) : ∀ (d : Nat) (q : Int) (ys : List Int), a ≤ q → q + d = i - 1 → Rotd xs ys a (a + 1) (q + 1) → ∃ zs, Rotd xs zs a (a + 1) i ∧ Ev (fun k => slices_symMergeCmpFunc_int.l1 k ys i q) zs := by
  intro d
  induction d with
  | zero =>
    intro q ys h0 hd h
    rw [show q + 1 = i by omega] at h
    refine ⟨ys, h, Ev.step (fun k => ?_) (Ev.now _)⟩
    simp only [slices_symMergeCmpFunc_int.l1]
    rw [w64 (x := i - 1) (by omega) (by omega), if_neg (by omega)]
  | succ d ih =>
    intro q ys h0 hd h
    have hly := h.len
    obtain ⟨zs, hz, ez⟩ := ih (q + 1) (swp ys q (q + 1)) (by omega) (by omega) (by have := h.stepR ha h0 (by omega); rwa [show q + 2 = q + 1 + 1 by omega] at this)
    refine ⟨zs, hz, Ev.step (fun k => ?_) ez⟩
    simp only [slices_symMergeCmpFunc_int.l1]
    rw [w64 (x := i - 1) (by omega) (by omega), w64 (x := q + 1) (by omega) (by omega), if_pos (by omega), if_pos (by omega), if_pos (by omega), if_pos (by omega), if_pos (by omega)]
    rfl
theorem sym_l0 {xs : List Int} {a b : Int} (hC : ClsOk cl n) (hV : Vals n xs) (hl : xs.length ≤ 1000000) (ha : 0 ≤ a) (hb : b ≤ xs.length) (hs : Srt cl xs (a + 1) b) (hc : Cross cl xs a (a + 1) b) : ∀ (d : Nat) (i j : Int), (j - i).toNat ≤ d → a + 1 ≤ i → i ≤ j → j ≤ b →
    (∀ t, a + 1 ≤ t → t < i → tlt cl (rd xs t) (rd xs a)) → (∀ t, j ≤ t → t < b → tlt cl (rd xs a) (rd xs t)) → ∃ zs, Done cl xs zs a b ∧ Ev (fun k => slices_symMergeCmpFunc_int.l0 k xs a i j) zs := by
  intro d
  induction d with
  | zero =>
    intro i j hd h0 h1 h2 lo hi
    have : i = j := by omega
    subst this
    obtain ⟨zs, hz, ez⟩ := sym_l1 (xs := xs) (a := a) (i := i) hl ha (by omega) (i - 1 - a).toNat a xs (Int.le_refl _) (by omega) (Rotd.none_ xs (.inr rfl))
    refine ⟨zs, ⟨(hz.mix ha (by omega) (by omega)).wide ha (Int.le_refl _) (by omega), one_left hz ha h0 h2 hs lo hi⟩, Ev.step (fun k => ?_) ez⟩
    simp only [slices_symMergeCmpFunc_int.l0]
    rw [if_neg (by omega)]
  | succ d ih =>
    intro i j hd h0 h1 h2 lo hi
    by_cases c : i < j
    · obtain ⟨r, er, hr⟩ := cmp_step (i := (i + j) / 2) (j := a) hC hV (by omega) (by omega) ha (by omega)
      rw [hc.lt (Int.le_refl _) (by omega) (by omega) (by omega)] at hr
      by_cases c2 : r < 0
      · obtain ⟨zs, hz, ez⟩ := ih ((i + j) / 2 + 1) j (by omega) (by omega) (by omega) h2 (fun t t0 t1 => by
          by_cases e : t = (i + j) / 2
          · rw [e]; exact hr.1 c2
          · exact (hs t ((i + j) / 2) t0 (by omega) (by omega)).trans (hr.1 c2)) hi
        refine ⟨zs, hz, Ev.step (fun k => ?_) ez⟩
        simp only [slices_symMergeCmpFunc_int.l0]
        rw [if_pos c, mid_at (by omega) (by omega) (by omega) (by omega), if_pos (by omega), if_pos (by omega), if_pos ha, if_pos (by omega), er, w64 (x := (i + j) / 2 + 1) (by omega) (by omega)]
        simp only [Option.bind_some]
        rw [if_pos c2]
      · have hlt : tlt cl (rd xs a) (rd xs ((i + j) / 2)) := (hc.nlt (Int.le_refl _) (by omega) (by omega) (by omega)).1 (fun h => c2 (hr.2 ((hc.lt (Int.le_refl _) (by omega) (by omega) (by omega)).1 h)))
        obtain ⟨zs, hz, ez⟩ := ih i ((i + j) / 2) (by omega) h0 (by omega) (by omega) lo (fun t t0 t1 => by
          by_cases e : t = (i + j) / 2
          · rw [e]; exact hlt
          · exact hlt.trans (hs ((i + j) / 2) t (by omega) (by omega) t1))
        refine ⟨zs, hz, Ev.step (fun k => ?_) ez⟩
        simp only [slices_symMergeCmpFunc_int.l0]
        rw [if_pos c, mid_at (by omega) (by omega) (by omega) (by omega), if_pos (by omega), if_pos (by omega), if_pos ha, if_pos (by omega), er]
        simp only [Option.bind_some]
        rw [if_neg c2]
    · exact (show _ from by
        have : i = j := by omega
        subst this
        obtain ⟨zs, hz, ez⟩ := sym_l1 (xs := xs) (a := a) (i := i) hl ha (by omega) (i - 1 - a).toNat a xs (Int.le_refl _) (by omega) (Rotd.none_ xs (.inr rfl))
        refine ⟨zs, ⟨(hz.mix ha (by omega) (by omega)).wide ha (Int.le_refl _) (by omega), one_left hz ha h0 h2 hs lo hi⟩, Ev.step (fun k => ?_) ez⟩
        simp only [slices_symMergeCmpFunc_int.l0]
        rw [if_neg (by omega)])
theorem sym_l3 {xs : List Int} {m i : Int} (hl : xs.length ≤ 1000000) (hi : 0 ≤ i) (hb : m < xs.length) : ∀ (d : Nat) (q : Int) (ys : List Int), q ≤ m → i + d = q → Rotd xs ys q m (m + 1) → ∃ zs, Rotd xs zs i m (m + 1) ∧ Ev (fun k => slices_symMergeCmpFunc_int.l3 k ys i q) zs := by
  intro d
  induction d with
  | zero =>
    intro q ys h0 hd h
    have : i = q := by omega
    subst this
    refine ⟨ys, h, Ev.step (fun k => ?_) (Ev.now _)⟩
    simp only [slices_symMergeCmpFunc_int.l3]
    rw [if_neg (by omega)]
  | succ d ih =>
    intro q ys h0 hd h
    have hly := h.len
    obtain ⟨zs, hz, ez⟩ := ih (q - 1) (swp ys q (q - 1)) (by omega) (by omega) (h.stepL (by omega) h0 hb)
    refine ⟨zs, hz, Ev.step (fun k => ?_) ez⟩
    simp only [slices_symMergeCmpFunc_int.l3]
    rw [if_pos (by omega), w64 (x := q - 1) (by omega) (by omega), if_pos (by omega), if_pos (by omega), if_pos (by omega), if_pos (by omega)]
    rfl
theorem sym_l2 {xs : List Int} {a m : Int} (hC : ClsOk cl n) (hV : Vals n xs) (hl : xs.length ≤ 1000000) (ha : 0 ≤ a) (hb : m + 1 ≤ xs.length) (hs : Srt cl xs a m) (hc : Cross cl xs a m (m + 1)) : ∀ (d : Nat) (i j : Int), (j - i).toNat ≤ d → a ≤ i → i ≤ j → j ≤ m →
    (∀ t, a ≤ t → t < i → tlt cl (rd xs t) (rd xs m)) → (∀ t, j ≤ t → t < m → tlt cl (rd xs m) (rd xs t)) → ∃ zs, Done cl xs zs a (m + 1) ∧ Ev (fun k => slices_symMergeCmpFunc_int.l2 k xs m i j) zs := by
  intro d
  have fin : ∀ i, a ≤ i → i ≤ m → (∀ t, a ≤ t → t < i → tlt cl (rd xs t) (rd xs m)) → (∀ t, i ≤ t → t < m → tlt cl (rd xs m) (rd xs t)) → ∃ zs, Done cl xs zs a (m + 1) ∧ Ev (fun k => slices_symMergeCmpFunc_int.l2 k xs m i i) zs := by
    intro i h0 h2 lo hi
    obtain ⟨zs, hz, ez⟩ := sym_l3 (xs := xs) (m := m) (i := i) hl (by omega) (by omega) (m - i).toNat m xs (Int.le_refl _) (by omega) (Rotd.none_ xs (.inl rfl))
    refine ⟨zs, ⟨(hz.mix (by omega) (by omega) (by omega)).wide ha h0 (Int.le_refl _), one_right hz ha h0 h2 hs lo hi⟩, Ev.step (fun k => ?_) ez⟩
    simp only [slices_symMergeCmpFunc_int.l2]
    rw [if_neg (by omega)]
  induction d with
  | zero =>
    intro i j hd h0 h1 h2 lo hi
    have : i = j := by omega
    subst this
    exact fin i h0 h2 lo hi
  | succ d ih =>
    intro i j hd h0 h1 h2 lo hi
    by_cases c : i < j
    · obtain ⟨r, er, hr⟩ := cmp_step (i := m) (j := (i + j) / 2) hC hV (by omega) (by omega) (by omega) (by omega)
      by_cases c2 : r < 0
      · have hlt := (hc.lt (i := (i + j) / 2) (j := m) (by omega) (by omega) (by omega) (by omega)).1 (hr.1 c2)
        obtain ⟨zs, hz, ez⟩ := ih i ((i + j) / 2) (by omega) h0 (by omega) (by omega) lo (fun t t0 t1 => by
          by_cases e : t = (i + j) / 2
          · rw [e]; exact hlt
          · exact hlt.trans (hs ((i + j) / 2) t (by omega) (by omega) t1))
        refine ⟨zs, hz, Ev.step (fun k => ?_) ez⟩
        simp only [slices_symMergeCmpFunc_int.l2]
        rw [if_pos c, mid_at (by omega) (by omega) (by omega) (by omega), if_pos (by omega), if_pos (by omega), if_pos (by omega), if_pos (by omega), er]
        simp only [Option.bind_some]
        rw [if_pos c2]
      · have hlt := (hc.nlt (i := (i + j) / 2) (j := m) (by omega) (by omega) (by omega) (by omega)).1 (fun h => c2 (hr.2 h))
        obtain ⟨zs, hz, ez⟩ := ih ((i + j) / 2 + 1) j (by omega) (by omega) (by omega) h2 (fun t t0 t1 => by
          by_cases e : t = (i + j) / 2
          · rw [e]; exact hlt
          · exact (hs t ((i + j) / 2) t0 (by omega) (by omega)).trans hlt) hi
        refine ⟨zs, hz, Ev.step (fun k => ?_) ez⟩
        simp only [slices_symMergeCmpFunc_int.l2]
        rw [if_pos c, mid_at (by omega) (by omega) (by omega) (by omega), if_pos (by omega), if_pos (by omega), if_pos (by omega), if_pos (by omega), er, w64 (x := (i + j) / 2 + 1) (by omega) (by omega)]
        simp only [Option.bind_some]
        rw [if_neg c2]
    · have : i = j := by omega
      subst this
      exact fin i h0 h2 lo hi
end
section
variable {cl : Int → Int} {n : Int} [C_ : Inhabited ExtCl.Clos]
theorem Cross.rest {xs ys : List Int} {a m b : Int} (h : Cross cl xs a m b) (e : ∀ t, a ≤ t → t < b → rd ys t = rd xs t) : Cross cl ys a m b := h.same e
/-- The search for the place of the cut, and what is done there. -/
theorem sym_l4 {xs : List Int} {a m b mid s0 r0 : Int} (hC : ClsOk cl n) (hV : Vals n xs) (hl : xs.length ≤ 1000000) (ha : 0 ≤ a) (hab : a < m) (hmb : m < b) (hb : b ≤ xs.length) (hmid : mid = (a + b) / 2)
    (hA : Srt cl xs a m) (hB : Srt cl xs m b) (hc : Cross cl xs a m b) (h0 : m > mid ∧ s0 = mid + m - b ∧ r0 = mid ∨ ¬ m > mid ∧ s0 = a ∧ r0 = m)
    (rest : ∀ s, s0 ≤ s → s ≤ r0 → Cut cl xs a s m (mid + m - s) b → ∃ zs, Done cl xs zs a b ∧ Ev (fun k => if s < m then slices_symMergeCmpFunc_int.j6 k xs a m b mid s (mid + m - s) (decide (m < mid + m - s)) else slices_symMergeCmpFunc_int.j6 k xs a m b mid s (mid + m - s) false) zs) :
    ∀ (d : Nat) (s r : Int), (r - s).toNat ≤ d → s0 ≤ s → s ≤ r → r ≤ r0 → (∀ c, s0 ≤ c → c < s → tlt cl (rd xs c) (rd xs (mid + m - 1 - c))) → (∀ c, r ≤ c → c < r0 → tlt cl (rd xs (mid + m - 1 - c)) (rd xs c)) →
    ∃ zs, Done cl xs zs a b ∧ Ev (fun k => slices_symMergeCmpFunc_int.l4 k xs a m b mid (mid + m) s r (mid + m - 1)) zs := by
  intro d
  have fin : ∀ s, s0 ≤ s → s ≤ r0 → (∀ c, s0 ≤ c → c < s → tlt cl (rd xs c) (rd xs (mid + m - 1 - c))) → (∀ c, s ≤ c → c < r0 → tlt cl (rd xs (mid + m - 1 - c)) (rd xs c)) → ∃ zs, Done cl xs zs a b ∧ Ev (fun k => slices_symMergeCmpFunc_int.l4 k xs a m b mid (mid + m) s s (mid + m - 1)) zs := by
    intro s h1 h2 lo hi
    obtain ⟨zs, hz, ez⟩ := rest s h1 h2 (cut_of hA hB hab hmb hmid h0 h1 h2 lo hi)
    refine ⟨zs, hz, Ev.step (fun k => ?_) ez⟩
    simp only [slices_symMergeCmpFunc_int.l4]
    rw [if_neg (by omega), w64 (x := mid + m - s) (by omega) (by omega)]
  induction d with
  | zero =>
    intro s r hd h1 h2 h3 lo hi
    have : s = r := by omega
    subst this
    exact fin s h1 h3 lo hi
  | succ d ih =>
    intro s r hd h1 h2 h3 lo hi
    by_cases c : s < r
    · generalize hh : (s + r) / 2 = h
      have g1 : s ≤ h := by omega
      have g2 : h < r := by omega
      obtain ⟨q, eq, hq⟩ := cmp_step (i := mid + m - 1 - h) (j := h) hC hV (by omega) (by omega) (by omega) (by omega)
      have k1 : a ≤ h := by omega
      have k2 : h < m := by omega
      have k3 : m ≤ mid + m - 1 - h := by omega
      have k4 : mid + m - 1 - h < b := by omega
      by_cases c2 : q < 0
      · have hlt := (hc.lt k1 k2 k3 k4).1 (hq.1 c2)
        obtain ⟨zs, hz, ez⟩ := ih s h (by omega) h1 g1 (by omega) lo (fun t t0 t1 => by
          by_cases e : t = h
          · rw [e]; exact hlt
          · by_cases e2 : t < r
            · exact ((hB (mid + m - 1 - t) (mid + m - 1 - h) (by omega) (by omega) (by omega)).trans hlt).trans (hA h t (by omega) (by omega) (by omega))
            · exact hi t (by omega) t1)
        refine ⟨zs, hz, Ev.step (fun k => ?_) ez⟩
        simp only [slices_symMergeCmpFunc_int.l4]
        rw [if_pos c, mid_at (by omega) (by omega) (by omega) (by omega), hh, w64 (x := mid + m - 1 - h) (by omega) (by omega), if_pos (by omega), if_pos (by omega), if_pos (by omega), if_pos (by omega), eq]
        simp only [Option.bind_some]
        rw [if_pos c2]
      · have hlt := (hc.nlt k1 k2 k3 k4).1 (fun h => c2 (hq.2 h))
        obtain ⟨zs, hz, ez⟩ := ih (h + 1) r (by omega) (by omega) (by omega) h3 (fun t t0 t1 => by
          by_cases e : t = h
          · rw [e]; exact hlt
          · by_cases e2 : t < s
            · exact lo t t0 e2
            · exact ((hA t h (by omega) (by omega) (by omega)).trans hlt).trans (hB (mid + m - 1 - h) (mid + m - 1 - t) (by omega) (by omega) (by omega))) hi
        refine ⟨zs, hz, Ev.step (fun k => ?_) ez⟩
        simp only [slices_symMergeCmpFunc_int.l4]
        rw [if_pos c, mid_at (by omega) (by omega) (by omega) (by omega), hh, w64 (x := mid + m - 1 - h) (by omega) (by omega), if_pos (by omega), if_pos (by omega), if_pos (by omega), if_pos (by omega), eq, w64 (x := h + 1) (by omega) (by omega)]
        simp only [Option.bind_some]
        rw [if_neg c2]
    · have : s = r := by omega
      subst this
      exact fin s h1 h3 lo hi
theorem sym_ev : ∀ (d : Nat) {xs : List Int} {a m b : Int}, (b - a).toNat ≤ d → ClsOk cl n → Vals n xs → xs.length ≤ 1000000 → 0 ≤ a → a < m → m < b → b ≤ xs.length → Srt cl xs a m → Srt cl xs m b → Cross cl xs a m b →
    ∃ zs, Done cl xs zs a b ∧ Ev (fun k => slices_symMergeCmpFunc_int.f k xs a m b) zs := by
  intro d
  induction d with
  | zero => intro xs a m b hd; omega
  | succ d ih =>
    intro xs a m b hd hC hV hl ha hab hmb hb hA hB hc
    by_cases c1 : m - a = 1
    · have hm : m = a + 1 := by omega
      subst hm
      obtain ⟨zs, hz, ez⟩ := sym_l0 hC hV hl ha hb hB hc (b - (a + 1)).toNat (a + 1) b (by omega) (Int.le_refl _) (by omega) (Int.le_refl _) (fun t _ _ => by omega) (fun t _ _ => by omega)
      refine ⟨zs, hz, Ev.step (fun k => ?_) ez⟩
      simp only [slices_symMergeCmpFunc_int.f]
      rw [w64 (x := a + 1 - a) (by omega) (by omega), if_pos c1]
    · by_cases c2 : b - m = 1
      · have hm : b = m + 1 := by omega
        subst hm
        obtain ⟨zs, hz, ez⟩ := sym_l2 hC hV hl ha hb hA hc (m - a).toNat a m (by omega) (Int.le_refl _) (by omega) (Int.le_refl _) (fun t _ _ => by omega) (fun t _ _ => by omega)
        refine ⟨zs, hz, Ev.step (fun k => ?_) ez⟩
        simp only [slices_symMergeCmpFunc_int.f]
        rw [w64 (x := m - a) (by omega) (by omega), if_neg c1, w64 (x := m + 1 - m) (by omega) (by omega), if_pos c2]
      · generalize hmid : (a + b) / 2 = mid
        have rest : ∀ s0 r0, (m > mid ∧ s0 = mid + m - b ∧ r0 = mid ∨ ¬ m > mid ∧ s0 = a ∧ r0 = m) → ∀ s, s0 ≤ s → s ≤ r0 → Cut cl xs a s m (mid + m - s) b → ∃ zs, Done cl xs zs a b ∧ Ev (fun k => if s < m then slices_symMergeCmpFunc_int.j6 k xs a m b mid s (mid + m - s) (decide (m < mid + m - s)) else slices_symMergeCmpFunc_int.j6 k xs a m b mid s (mid + m - s) false) zs := by
          intro s0 r0 h0 s h1 h2 hcut
          have q1 : a ≤ s := by omega
          have q2 : s ≤ m := by omega
          have q3 : m ≤ mid + m - s := by omega
          have q4 : mid + m - s ≤ b := by omega
          have q5 : s + (mid + m - s - m) = mid := by omega
          generalize he : mid + m - s = e at hcut q3 q4 q5 ⊢
          -- the rotation
          obtain ⟨ys, hy, ey⟩ : ∃ ys, Rotd xs ys s m e ∧ ∀ zs, Ev (fun k => slices_symMergeCmpFunc_int.j7 k ys a b mid s e) zs → Ev (fun k => if s < m then slices_symMergeCmpFunc_int.j6 k xs a m b mid s e (decide (m < e)) else slices_symMergeCmpFunc_int.j6 k xs a m b mid s e false) zs := by
            by_cases r1 : s < m ∧ m < e
            · obtain ⟨ys, hy, ey⟩ := rotate_at (xs := xs) (a := s) (m := m) (b := e) hl (by omega) r1.1 r1.2 (by omega)
              refine ⟨ys, hy, fun zs ez => ?_⟩
              simp only [if_pos r1.1, decide_eq_true r1.2]
              refine Ev.step (f := fun k => (slices_rotateCmpFunc_int.f k xs s m e).bind fun t => slices_symMergeCmpFunc_int.j7 k t a b mid s e) (fun k => ?_) (Ev.bind ey ez)
              simp only [slices_symMergeCmpFunc_int.j6, if_true]
            · refine ⟨xs, Rotd.none_ xs (by omega), fun zs ez => ?_⟩
              have e0 : ∀ k, (if s < m then slices_symMergeCmpFunc_int.j6 k xs a m b mid s e (decide (m < e)) else slices_symMergeCmpFunc_int.j6 k xs a m b mid s e false) = slices_symMergeCmpFunc_int.j6 k xs a m b mid s e false := by
                intro k
                by_cases r2 : s < m
                · rw [if_pos r2, decide_eq_false (by omega)]
                · rw [if_neg r2]
              refine Ev.congr (fun k => e0 k) (Ev.step (fun k => ?_) ez)
              simp only [slices_symMergeCmpFunc_int.j6]
              rw [if_neg (by simp)]
          have hly := hy.len
          obtain ⟨p1, p2, p3⟩ := lower hy ha q1 q2 q3 q4 q5 hA hB hc
          obtain ⟨u1, u2, u3⟩ := upper hy ha q1 q2 q3 q4 q5 hA hB hc
          have hVy := hV.perm hy.perm
          -- the lower part
          obtain ⟨zs, hz, sz, ez⟩ : ∃ zs, Mix ys zs a mid ∧ Srt cl zs a mid ∧ ∀ ws, Ev (fun k => slices_symMergeCmpFunc_int.j9 k zs b mid e) ws → Ev (fun k => slices_symMergeCmpFunc_int.j7 k ys a b mid s e) ws := by
            by_cases r1 : a < s ∧ s < mid
            · obtain ⟨zs, ⟨hz, sz⟩, ez⟩ := ih (xs := ys) (a := a) (m := s) (b := mid) (by omega) hC hVy (by omega) ha r1.1 r1.2 (by omega) p1 p2 p3
              refine ⟨zs, hz, sz, fun ws ew => ?_⟩
              refine Ev.step (f := fun k => slices_symMergeCmpFunc_int.j8 k ys a b mid s e true) (fun k => ?_) (Ev.step (f := fun k => (slices_symMergeCmpFunc_int.f k ys a s mid).bind fun t => slices_symMergeCmpFunc_int.j9 k t b mid e) (fun k => ?_) (Ev.bind ez ew))
              · simp only [slices_symMergeCmpFunc_int.j7]
                rw [if_pos r1.1, decide_eq_true r1.2]
              · simp only [slices_symMergeCmpFunc_int.j8, if_true]
            · refine ⟨ys, Mix.refl _ _ _, ?_, fun ws ew => ?_⟩
              · by_cases r2 : a < s
                · have : s = mid := by omega
                  rw [← this]; exact p1
                · have : a = s := by omega
                  rw [this]; exact p2
              · refine Ev.step (f := fun k => slices_symMergeCmpFunc_int.j8 k ys a b mid s e false) (fun k => ?_) (Ev.step (fun k => ?_) ew)
                · simp only [slices_symMergeCmpFunc_int.j7]
                  by_cases r2 : a < s
                  · rw [if_pos r2, decide_eq_false (by omega)]
                  · rw [if_neg r2]
                · simp only [slices_symMergeCmpFunc_int.j8]
                  rw [if_neg (by simp)]
          have hlz := hz.len
          have hVz := hVy.perm hz.perm
          have same : ∀ t, mid ≤ t → t < b → rd zs t = rd ys t := fun t t0 _ => hz.out t (by omega) (.inr t0)
          have v1 : Srt cl zs mid e := u1.same fun t t0 t1 => same t t0 (by omega)
          have v2 : Srt cl zs e b := u2.same fun t t0 t1 => same t (by omega) t1
          have v3 : Cross cl zs mid e b := u3.same same
          -- the upper part
          obtain ⟨ws, hw, sw, ew⟩ : ∃ ws, Mix zs ws mid b ∧ Srt cl ws mid b ∧ Ev (fun k => slices_symMergeCmpFunc_int.j9 k zs b mid e) ws := by
            by_cases r1 : mid < e
            · by_cases r2 : e < b
              · obtain ⟨ws, ⟨hw, sw⟩, ew⟩ := ih (xs := zs) (a := mid) (m := e) (b := b) (by omega) hC hVz (by omega) (by omega) r1 r2 (by omega) v1 v2 v3
                refine ⟨ws, hw, sw, Ev.step (f := fun k => (slices_symMergeCmpFunc_int.f k zs mid e b).bind fun t => some t) (fun k => ?_) (Ev.bind ew (Ev.now _))⟩
                simp only [slices_symMergeCmpFunc_int.j9]
                rw [if_pos r1, if_pos r2]
              · have : e = b := by omega
                refine ⟨zs, Mix.refl _ _ _, by rw [← this]; exact v1, Ev.step (fun k => ?_) (Ev.now _)⟩
                simp only [slices_symMergeCmpFunc_int.j9]
                rw [if_pos r1, if_neg r2]
            · have : mid = e := by omega
              refine ⟨zs, Mix.refl _ _ _, by rw [this]; exact v2, Ev.step (fun k => ?_) (Ev.now _)⟩
              simp only [slices_symMergeCmpFunc_int.j9]
              rw [if_neg r1]
          obtain ⟨j1, j2⟩ := joined hy hcut hA hB ha q1 q2 q3 q4 q5 hz hw sz sw
          exact ⟨ws, ⟨j1, j2⟩, ey ws (ez ws ew)⟩
        by_cases c3 : m > mid
        · obtain ⟨zs, hz, ez⟩ := sym_l4 (s0 := mid + m - b) (r0 := mid) hC hV hl ha hab hmb hb hmid.symm hA hB hc (.inl ⟨c3, rfl, rfl⟩) (rest _ _ (.inl ⟨c3, rfl, rfl⟩)) (mid - (mid + m - b)).toNat (mid + m - b) mid (Nat.le_refl _) (Int.le_refl _) (by omega) (Int.le_refl _) (fun t _ _ => by omega) (fun t _ _ => by omega)
          refine ⟨zs, hz, Ev.step (f := fun k => slices_symMergeCmpFunc_int.j4 k xs a m b mid (mid + m) (mid + m - b) mid) (fun k => ?_) (Ev.step (fun k => ?_) ez)⟩
          · simp only [slices_symMergeCmpFunc_int.f]
            rw [w64 (x := m - a) (by omega) (by omega), if_neg c1, w64 (x := b - m) (by omega) (by omega), if_neg c2, mid_at (by omega) (by omega) (by omega) (by omega), hmid, if_pos c3, w64 (x := mid + m) (by omega) (by omega), w64 (x := mid + m - b) (by omega) (by omega)]
          · simp only [slices_symMergeCmpFunc_int.j4]
            rw [w64 (x := mid + m - 1) (by omega) (by omega)]
        · obtain ⟨zs, hz, ez⟩ := sym_l4 (s0 := a) (r0 := m) hC hV hl ha hab hmb hb hmid.symm hA hB hc (.inr ⟨c3, rfl, rfl⟩) (rest _ _ (.inr ⟨c3, rfl, rfl⟩)) (m - a).toNat a m (Nat.le_refl _) (Int.le_refl _) (by omega) (Int.le_refl _) (fun t _ _ => by omega) (fun t _ _ => by omega)
          refine ⟨zs, hz, Ev.step (f := fun k => slices_symMergeCmpFunc_int.j4 k xs a m b mid (mid + m) a m) (fun k => ?_) (Ev.step (fun k => ?_) ez)⟩
          · simp only [slices_symMergeCmpFunc_int.f]
            rw [w64 (x := m - a) (by omega) (by omega), if_neg c1, w64 (x := b - m) (by omega) (by omega), if_neg c2, mid_at (by omega) (by omega) (by omega) (by omega), hmid, if_neg c3, w64 (x := mid + m) (by omega) (by omega)]
          · simp only [slices_symMergeCmpFunc_int.j4]
            rw [w64 (x := mid + m - 1) (by omega) (by omega)]
end
section
variable {cl : Int → Int} {n : Int} [C_ : Inhabited ExtCl.Clos]
theorem ins_ev {X : List Int} {a b : Int} (hC : ClsOk cl n) (hV : Vals n X) (hl : X.length ≤ 1000000) (ha : 0 ≤ a) (ha2 : a ≤ X.length) (hb : b ≤ X.length) (ho : InOrd cl X a b) : ∃ zs, Mix X zs a b ∧ Srt cl zs a b ∧ Ev (fun k => slices_insertionSortCmpFunc_int.f k X a b) zs := by
  have go : ∀ (d : Nat) (i : Int) (xs : List Int), a + 1 ≤ i → i + d = b → Mix X xs a i → Srt cl xs a i → ∃ zs, Mix X zs a b ∧ Srt cl zs a b ∧ Ev (fun k => slices_insertionSortCmpFunc_int.l0 k xs a b i) zs := by
    intro d
    induction d with
    | zero =>
      intro i xs h0 hd hm hs
      have : i = b := by omega
      subst this
      refine ⟨xs, hm, hs, Ev.step (fun k => ?_) (Ev.now _)⟩
      simp only [slices_insertionSortCmpFunc_int.l0]; rw [if_neg (by omega)]
    | succ d ih =>
      intro i xs h0 hd hm hs
      have hlx := hm.len
      have hVx := hV.perm hm.perm
      have inner : ∀ (e : Nat) (j : Int) (ys : List Int), a + e = j → j ≤ i → Rotd xs ys j i (i + 1) → (∀ t, j ≤ t → t < i → tlt cl (rd xs i) (rd xs t)) → ∃ zs, Mix X zs a b ∧ Srt cl zs a b ∧ Ev (fun k => slices_insertionSortCmpFunc_int.l1 k ys a b i j) zs := by
        intro e
        have fin : ∀ (j : Int) (ys : List Int), a ≤ j → j ≤ i → Rotd xs ys j i (i + 1) → (∀ t, j ≤ t → t < i → tlt cl (rd xs i) (rd xs t)) → (∀ t, a ≤ t → t < j → tlt cl (rd xs t) (rd xs i)) → ∃ zs, Mix X zs a b ∧ Srt cl zs a b ∧ Ev (fun k => slices_insertionSortCmpFunc_int.l0 k ys a b (i + 1)) zs := by
          intro j ys j0 j1 hr hi lo
          exact ih (i + 1) ys (by omega) (by omega) ((hm.wide ha (Int.le_refl _) (by omega)).trans ((hr.mix (by omega) j1 (by omega)).wide ha j0 (Int.le_refl _))) (one_right hr ha j0 j1 hs lo hi)
        induction e with
        | zero =>
          intro j ys he hj hr hi
          obtain ⟨zs, hz, sz, ez⟩ := fin j ys (by omega) hj hr hi (fun t _ _ => by omega)
          refine ⟨zs, hz, sz, Ev.step (fun k => ?_) ez⟩
          simp only [slices_insertionSortCmpFunc_int.l1]
          rw [if_neg (by omega), w64 (x := i + 1) (by omega) (by omega)]
        | succ e ihe =>
          intro j ys he hj hr hi
          have hly := hr.len
          obtain ⟨c1, c2⟩ := ho.cmp hm hr ha (by omega) hj (by omega)
          obtain ⟨r, er, hrr⟩ := cmp_step (i := j) (j := j - 1) hC (hVx.perm hr.perm) (by omega) (by omega) (by omega) (by omega)
          by_cases c : r < 0
          · have hlt := c1.1 (hrr.1 c)
            obtain ⟨zs, hz, sz, ez⟩ := ihe (j - 1) (swp ys j (j - 1)) (by omega) (by omega) (hr.stepL (by omega) hj (by omega)) (fun t t0 t1 => by
              by_cases e : t = j - 1
              · rw [e]; exact hlt
              · exact hi t (by omega) t1)
            refine ⟨zs, hz, sz, Ev.step (fun k => ?_) ez⟩
            simp only [slices_insertionSortCmpFunc_int.l1]
            rw [if_pos (by omega), if_pos (by omega), if_pos (by omega), w64 (x := j - 1) (by omega) (by omega), if_pos (by omega), if_pos (by omega), er]
            simp only [Option.bind_some]
            rw [if_pos c]
            rfl
          · have hlt := c2.1 (fun h => c (hrr.2 h))
            obtain ⟨zs, hz, sz, ez⟩ := fin j ys (by omega) hj hr hi (fun t t0 t1 => by
              by_cases e : t = j - 1
              · rw [e]; exact hlt
              · exact (hs t (j - 1) t0 (by omega) (by omega)).trans hlt)
            refine ⟨zs, hz, sz, Ev.step (fun k => ?_) ez⟩
            simp only [slices_insertionSortCmpFunc_int.l1]
            rw [if_pos (by omega), if_pos (by omega), if_pos (by omega), w64 (x := j - 1) (by omega) (by omega), if_pos (by omega), if_pos (by omega), er, w64 (x := i + 1) (by omega) (by omega)]
            simp only [Option.bind_some]
            rw [if_neg c]
      obtain ⟨zs, hz, sz, ez⟩ := inner (i - a).toNat i xs (by omega) (Int.le_refl _) (Rotd.none_ xs (.inl rfl)) (fun t _ _ => by omega)
      refine ⟨zs, hz, sz, Ev.step (fun k => ?_) ez⟩
      simp only [slices_insertionSortCmpFunc_int.l0]
      rw [if_pos (by omega)]
  by_cases c : a + 1 ≤ b
  · obtain ⟨zs, hz, sz, ez⟩ := go (b - (a + 1)).toNat (a + 1) X (Int.le_refl _) (by omega) (Mix.refl _ _ _) (Srt.one (Int.le_refl _))
    refine ⟨zs, hz, sz, Ev.congr (fun k => ?_) ez⟩
    simp only [slices_insertionSortCmpFunc_int.f]
    rw [w64 (x := a + 1) (by omega) (by omega)]
  · refine ⟨X, Mix.refl _ _ _, Srt.one (by omega), Ev.step (fun k => ?_) (Ev.now _)⟩
    simp only [slices_insertionSortCmpFunc_int.f, slices_insertionSortCmpFunc_int.l0]
    rw [w64 (x := a + 1) (by omega) (by omega), if_neg (by omega)]
def IdOn (xs : List Int) (a b : Int) : Prop := ∀ t, a ≤ t → t < b → rd xs t = t
theorem IdOn.ord {xs : List Int} {a b : Int} (h : IdOn xs a b) : InOrd cl xs a b := fun i j i0 ij j1 _ => by rw [h i i0 (by omega), h j (by omega) j1]; exact ij
theorem IdOn.blk {xs ys : List Int} {a b : Int} (h : IdOn xs a b) (hm : Mix xs ys a b) (hs : Srt cl ys a b) : Blk cl ys a b :=
  ⟨hs, fun t t0 t1 => by
    obtain ⟨u, u0, u1, e⟩ := hm.inn t t0 t1
    rw [e, h u u0 u1]
    exact ⟨u0, u1⟩⟩
theorem phase1 (N : Int) : ∀ (d : Nat) {xs : List Int} {a : Int}, ClsOk cl n → Vals n xs → xs.length = N → N ≤ 100000 → (N - a).toNat ≤ d → 0 ≤ a → a ≤ N → IdOn xs a N →
    ∃ ys, Mix xs ys a N ∧ Tiled cl 20 ys a N ∧ ∀ res, Ev (fun k => slices_stableCmpFunc_int.l1 k ys N 20) res → Ev (fun k => slices_stableCmpFunc_int.l0 k xs N 20 a (a + 20)) res := by
  intro d
  have last : ∀ {xs : List Int} {a : Int}, ClsOk cl n → Vals n xs → xs.length = N → N ≤ 100000 → 0 ≤ a → a ≤ N → N < a + 20 → IdOn xs a N →
      ∃ ys, Mix xs ys a N ∧ Tiled cl 20 ys a N ∧ ∀ res, Ev (fun k => slices_stableCmpFunc_int.l1 k ys N 20) res → Ev (fun k => slices_stableCmpFunc_int.l0 k xs N 20 a (a + 20)) res := by
    intro xs a hC hV hl hN h0 h1 h2 hid
    obtain ⟨ys, hy, sy, ey⟩ := ins_ev (X := xs) (a := a) (b := N) hC hV (by omega) h0 (by omega) (by omega) hid.ord
    refine ⟨ys, hy, .last h1 h2 (hid.blk hy sy), fun res er => ?_⟩
    refine Ev.step (f := fun k => (slices_insertionSortCmpFunc_int.f k xs a N).bind fun t => slices_stableCmpFunc_int.l1 k t N 20) (fun k => ?_) (Ev.bind ey er)
    simp only [slices_stableCmpFunc_int.l0]
    rw [if_neg (by omega)]
  induction d with
  | zero =>
    intro xs a hC hV hl hN hd h0 h1 hid
    exact last hC hV hl hN h0 h1 (by omega) hid
  | succ d ih =>
    intro xs a hC hV hl hN hd h0 h1 hid
    by_cases c : a + 20 ≤ N
    · obtain ⟨ys, hy, sy, ey⟩ := ins_ev (X := xs) (a := a) (b := a + 20) hC hV (by omega) h0 (by omega) (by omega) (IdOn.ord (fun t t0 t1 => hid t t0 (by omega)))
      have hly := hy.len
      have by_ : Blk cl ys a (a + 20) := IdOn.blk (xs := xs) (fun t t0 t1 => hid t t0 (by omega)) hy sy
      obtain ⟨zs, hz, tz, ez⟩ := ih (xs := ys) (a := a + 20) hC (hV.perm hy.perm) (by omega) hN (by omega) (by omega) c (fun t t0 t1 => by rw [hy.out t (by omega) (.inr t0)]; exact hid t (by omega) t1)
      refine ⟨zs, (hy.wide h0 (Int.le_refl _) c).trans (hz.wide h0 (by omega) (Int.le_refl _)), .cons c (by_.same fun t t0 t1 => hz.out t (by omega) (.inl t1)) tz, fun res er => ?_⟩
      refine Ev.step (f := fun k => (slices_insertionSortCmpFunc_int.f k xs a (a + 20)).bind fun t => slices_stableCmpFunc_int.l0 k t N 20 (a + 20) (a + 20 + 20)) (fun k => ?_) (Ev.bind ey (ez res er))
      simp only [slices_stableCmpFunc_int.l0]
      rw [if_pos c, w64 (x := a + 20 + 20) (by omega) (by omega)]
    · exact last hC hV hl hN h0 h1 (by omega) hid
theorem pass_ev (N bs : Int) (hbs : 0 < bs) (hbs2 : bs ≤ 1000000) : ∀ (d : Nat) {xs : List Int} {a : Int}, ClsOk cl n → Vals n xs → xs.length = N → N ≤ 100000 → (N - a).toNat ≤ d → 0 ≤ a → Tiled cl bs xs a N →
    ∃ ys, Mix xs ys a N ∧ Tiled cl (2 * bs) ys a N ∧ ∀ res, Ev (fun k => slices_stableCmpFunc_int.l1 k ys N (bs * 2)) res → Ev (fun k => slices_stableCmpFunc_int.l2 k xs N bs a (a + 2 * bs)) res := by
  intro d
  have last : ∀ {xs : List Int} {a : Int}, ClsOk cl n → Vals n xs → xs.length = N → N ≤ 100000 → 0 ≤ a → N < a + 2 * bs → Tiled cl bs xs a N →
      ∃ ys, Mix xs ys a N ∧ Tiled cl (2 * bs) ys a N ∧ ∀ res, Ev (fun k => slices_stableCmpFunc_int.l1 k ys N (bs * 2)) res → Ev (fun k => slices_stableCmpFunc_int.l2 k xs N bs a (a + 2 * bs)) res := by
    intro xs a hC hV hl hN h0 h2 ht
    cases ht with
    | last g1 g2 g3 =>
      refine ⟨xs, Mix.refl _ _ _, .last g1 h2 g3, fun res er => Ev.step (fun k => ?_) er⟩
      simp only [slices_stableCmpFunc_int.l2]
      rw [if_neg (by omega), w64 (x := a + bs) (by omega) (by omega), if_neg (by omega), w64 (x := bs * 2) (by omega) (by omega)]
    | cons g1 g2 g3 =>
      by_cases c : a + bs < N
      · cases g3 with
        | last f1 f2 f3 =>
          obtain ⟨ys, ⟨hy, sy⟩, ey⟩ := sym_ev (N - a).toNat (xs := xs) (a := a) (m := a + bs) (b := N) (by omega) hC hV (by omega) h0 (by omega) c (by omega) g2.srt f3.srt (g2.cross f3)
          refine ⟨ys, hy, .last (by omega) h2 (g2.merged f3 (by omega) (by omega) hy sy), fun res er => ?_⟩
          refine Ev.step (f := fun k => (slices_symMergeCmpFunc_int.f k xs a (a + bs) N).bind fun t => slices_stableCmpFunc_int.l1 k t N (bs * 2)) (fun k => ?_) (Ev.bind ey er)
          simp only [slices_stableCmpFunc_int.l2]
          rw [if_neg (by omega), w64 (x := a + bs) (by omega) (by omega), if_pos c, w64 (x := bs * 2) (by omega) (by omega)]
        | cons f1 f2 f3 => omega
      · have e : N = a + bs := by omega
        refine ⟨xs, Mix.refl _ _ _, .last (by omega) h2 (by rw [e]; exact g2), fun res er => Ev.step (fun k => ?_) er⟩
        simp only [slices_stableCmpFunc_int.l2]
        rw [if_neg (by omega), w64 (x := a + bs) (by omega) (by omega), if_neg c, w64 (x := bs * 2) (by omega) (by omega)]
  induction d with
  | zero =>
    intro xs a hC hV hl hN hd h0 ht
    exact last hC hV hl hN h0 (by have := ht.le hbs; omega) ht
  | succ d ih =>
    intro xs a hC hV hl hN hd h0 ht
    by_cases c : a + 2 * bs ≤ N
    · cases ht with
      | last g1 g2 g3 => omega
      | cons g1 g2 g3 =>
        cases g3 with
        | last f1 f2 f3 => omega
        | cons f1 f2 f3 =>
          obtain ⟨ys, ⟨hy, sy⟩, ey⟩ := sym_ev (2 * bs).toNat (xs := xs) (a := a) (m := a + bs) (b := a + bs + bs) (by omega) hC hV (by omega) h0 (by omega) (by omega) (by omega) g2.srt f2.srt (g2.cross f2)
          have hly := hy.len
          have by_ := g2.merged f2 (by omega) (by omega) hy sy
          obtain ⟨zs, hz, tz, ez⟩ := ih (xs := ys) (a := a + bs + bs) hC (hV.perm hy.perm) (by omega) hN (by omega) (by omega) (f3.same hbs fun t t0 t1 => hy.out t (by omega) (.inr t0))
          have e2 : a + 2 * bs = a + bs + bs := by omega
          refine ⟨zs, (hy.wide h0 (Int.le_refl _) (by omega)).trans (hz.wide h0 (by omega) (Int.le_refl _)), .cons c (by rw [e2]; exact by_.same fun t t0 t1 => hz.out t (by omega) (.inl t1)) (by rw [e2]; exact tz), fun res er => ?_⟩
          refine Ev.step (f := fun k => (slices_symMergeCmpFunc_int.f k xs a (a + bs) (a + bs + bs)).bind fun t => slices_stableCmpFunc_int.l2 k t N bs (a + bs + bs) (a + bs + bs + 2 * bs)) (fun k => ?_) (Ev.bind ey (ez res er))
          simp only [slices_stableCmpFunc_int.l2]
          rw [if_pos c, w64 (x := a + bs) (by omega) (by omega), w64 (x := 2 * bs) (by omega) (by omega), w64 (x := a + 2 * bs + 2 * bs) (by omega) (by omega), e2]
    · exact last hC hV hl hN h0 (by omega) ht
theorem passes (N : Int) : ∀ (d : Nat) {xs : List Int} {bs : Int}, ClsOk cl n → Vals n xs → xs.length = N → N ≤ 100000 → (N - bs).toNat ≤ d → 0 < bs → bs ≤ 200000 → Tiled cl bs xs 0 N →
    ∃ ys, Mix xs ys 0 N ∧ Srt cl ys 0 N ∧ Ev (fun k => slices_stableCmpFunc_int.l1 k xs N bs) ys := by
  intro d
  have last : ∀ {xs : List Int} {bs : Int}, 0 < bs → N ≤ bs → Tiled cl bs xs 0 N → ∃ ys, Mix xs ys 0 N ∧ Srt cl ys 0 N ∧ Ev (fun k => slices_stableCmpFunc_int.l1 k xs N bs) ys := by
    intro xs bs h0 h1 ht
    refine ⟨xs, Mix.refl _ _ _, (ht.one h1 h0).srt, Ev.step (fun k => ?_) (Ev.now _)⟩
    simp only [slices_stableCmpFunc_int.l1]
    rw [if_neg (by omega)]
  induction d with
  | zero => exact fun hC hV hl hN hd h0 h1 ht => last h0 (by omega) ht
  | succ d ih =>
    intro xs bs hC hV hl hN hd h0 h1 ht
    by_cases c : bs < N
    · obtain ⟨ys, hy, ty, ey⟩ := pass_ev N bs h0 (by omega) N.toNat (xs := xs) (a := 0) hC hV hl hN (by omega) (Int.le_refl _) ht
      have hly := hy.len
      obtain ⟨zs, hz, sz, ez⟩ := ih (xs := ys) (bs := 2 * bs) hC (hV.perm hy.perm) (by omega) hN (by omega) (by omega) (by omega) ty
      refine ⟨zs, hy.trans hz, sz, Ev.step (f := fun k => slices_stableCmpFunc_int.l2 k xs N bs 0 (0 + 2 * bs)) (fun k => ?_) (ey zs (by rw [show bs * 2 = 2 * bs by omega]; exact ez))⟩
      simp only [slices_stableCmpFunc_int.l1]
      rw [if_pos c, w64 (x := 2 * bs) (by omega) (by omega), show (0 : Int) + 2 * bs = 2 * bs by omega]
    · exact last h0 (by omega) ht
theorem stable_ev {xs : List Int} (hC : ClsOk cl n) (hV : Vals n xs) (hl : xs.length ≤ 100000) (hid : IdOn xs 0 xs.length) : ∃ ys, ys.Perm xs ∧ ys.Pairwise (tlt cl) ∧ Ev (fun k => slices_SortStableFunc_int_int.f k xs) ys := by
  obtain ⟨ys, hy, ty, ey⟩ := phase1 (cl := cl) (xs.length : Int) xs.length (xs := xs) (a := 0) hC hV rfl (by omega) (by omega) (Int.le_refl _) (by omega) hid
  have hly := hy.len
  obtain ⟨zs, hz, sz, ez⟩ := passes (cl := cl) (xs.length : Int) xs.length (xs := ys) (bs := 20) hC (hV.perm hy.perm) (by omega) (by omega) (by omega) (by omega) (by omega) ty
  have hlz := hz.len
  refine ⟨zs, hz.perm.trans hy.perm, Srt.pw (by rw [show (zs.length : Int) = xs.length by omega]; exact sz), ?_⟩
  have e1 := ey zs ez
  refine Ev.congr (f := fun k => (slices_stableCmpFunc_int.f k xs xs.length).bind fun t => some t) (fun k => rfl) (Ev.bind (a := zs) ?_ (Ev.now _))
  exact e1
end
/-- The numbers from i on, d of them. -/
def up : Int → Nat → List Int
  | _, 0 => []
  | i, d + 1 => i :: up (i + 1) d
theorem up_len (d : Nat) : ∀ i, (up i d).length = d := by
  induction d with
  | zero => intro i; rfl
  | succ d ih => intro i; simp [up, ih]
theorem mem_up (d : Nat) : ∀ (i v : Int), v ∈ up i d ↔ i ≤ v ∧ v < i + d := by
  induction d with
  | zero => intro i v; simp [up]
  | succ d ih =>
    intro i v
    simp only [up, List.mem_cons, ih]
    omega
theorem up_pw (d : Nat) : ∀ i, (up i d).Pairwise (· < ·) := by
  induction d with
  | zero => intro i; exact .nil
  | succ d ih =>
    intro i
    refine List.pairwise_cons.2 ⟨fun v hv => ?_, ih _⟩
    have := (mem_up d _ _).1 hv
    omega
theorem rd_up (d : Nat) : ∀ (i t : Int), 0 ≤ t → t < d → rd (up i d) t = i + t := by
  induction d with
  | zero => intro i t h0 h1; omega
  | succ d ih =>
    intro i t h0 h1
    by_cases c : t = 0
    · subst c; simp [rd, up]
    · have e := ih (i + 1) (t - 1) (by omega) (by omega)
      have e2 : t.toNat = (t - 1).toNat + 1 := by omega
      have e3 : rd (up i (d + 1)) t = rd (up (i + 1) d) (t - 1) := by
        unfold rd; rw [e2]; simp [up]
      rw [e3, e]; omega
theorem lt_unique {xs ys : List Int} (hx : xs.Pairwise (· < ·)) (hy : ys.Pairwise (· < ·)) (hm : ∀ v, v ∈ xs ↔ v ∈ ys) : xs = ys := by
  have f : ∀ l : List Int, l.Pairwise (· < ·) → l.Pairwise (tlt fun _ => 0) := fun l h => h.imp fun h => .inr ⟨rfl, h⟩
  have nd : ∀ l : List Int, l.Pairwise (· < ·) → l.Nodup := fun l h => h.imp fun h e => by omega
  exact pw_unique (f _ hx) (f _ hy) ((List.perm_ext_iff_of_nodup (nd _ hx) (nd _ hy)).2 hm)
/-- The class of a call by its number. -/
def clOf (L : List S51) (i : Int) : Int := (rd_T51 L i).f2
/-- Those of T, in their order. -/
def picked (L : List S51) (T : List Int) : List S51 := ((up 0 L.length).filter fun i => decide (i ∈ T)).map (rd_T51 L)
theorem compS (a b : Int) : ∃ c, cmp_Compare_int.f a b = some c ∧ (c < 0 ↔ a < b) := comp_at a b
theorem clsOk (L : List S51) : @ClsOk (ExtCl.at_ fun p q => impl_Shed_1.f p q L) (clOf L) L.length := by
  intro x y x0 x1 y0 y1
  obtain ⟨c, e, h⟩ := compS (rd_T51 L x).f2 (rd_T51 L y).f2
  refine ⟨c, ?_, h⟩
  show impl_Shed_1.f x y L = some c
  unfold impl_Shed_1.f
  rw [if_pos x0, if_pos x1, if_pos y0, if_pos y1, e]
  rfl
def OkS (L : List S51) (busy most : Int) : Prop := ArrsOk L ∧ (0 ≤ busy ∧ busy ≤ 10000) ∧ (0 ≤ most ∧ most ≤ 10000)
def room (n : Nat) (busy most : Int) : Nat := min n (max 0 (most - busy)).toNat
theorem implOut (L : List S51) (hl : L.length ≤ 200) : ∀ (rs : List Int) (S : List Int) (q : Nat) (acc : List S51), S.drop q = rs → q + rs.length = S.length → S.length ≤ 200 → acc.length ≤ q → (∀ v ∈ rs, 0 ≤ v ∧ v < L.length) →
    Ev (fun k => impl_Shed.l1 k L acc S (S.length : Int) (q : Int)) (acc ++ rs.map (rd_T51 L), true) := by
  intro rs
  induction rs with
  | nil =>
    intro S q acc h hq hS ha hv
    refine Ev.step (fun k => ?_) (Ev.now _)
    simp only [impl_Shed.l1, List.length_nil] at hq ⊢
    rw [if_neg (by omega)]
    simp
  | cons r rs ih =>
    intro S q acc h hq hS ha hv
    obtain ⟨h1, h2, h3⟩ := drop_cons 0 h
    have hr := hv r (by simp)
    have e := ih S (q + 1) (acc ++ [rd_T51 L r]) h3 (by simp at hq; omega) hS (by simp; omega) (fun v hv' => hv v (by simp [hv']))
    rw [List.append_assoc] at e
    refine Ev.step (fun k => ?_) e
    simp only [impl_Shed.l1]
    rw [if_pos (by omega), if_pos (by omega), if_pos (by omega), rdI, h2, if_pos hr.1, if_pos hr.2, if_pos (by omega), w64 (by omega) (by omega)]
    norm_cast
theorem implFill (L : List S51) (busy most : Int) (hl : L.length ≤ 200) (res : List S51 × Bool) (h : Ev (fun k => impl_Shed.l0 k busy most L (up 0 L.length) (L.length : Int) (L.length : Int)) res) : ∀ (d : Nat) (i : Int) (xs : List Int), i + d = L.length → 0 ≤ i → xs.length = L.length → IdOn xs 0 i →
    Ev (fun k => impl_Shed.l0 k busy most L xs (L.length : Int) i) res := by
  intro d
  induction d with
  | zero =>
    intro i xs hd h0 hx hid
    have e : xs = up 0 L.length := ext_rd (by rw [up_len]; exact hx) fun t t0 t1 => by
      rw [hid t t0 (by omega), rd_up _ _ _ t0 (by omega)]; omega
    subst e
    rw [show i = (L.length : Int) by omega]
    exact h
  | succ d ih =>
    intro i xs hd h0 hx hid
    have e := ih (i + 1) (xs.set i.toNat i) (by omega) (by omega) (by simpa using hx) (fun t t0 t1 => by
      rw [rd_set h0 (by omega) t0]
      by_cases c : t = i
      · rw [if_pos c]; exact c.symm
      · rw [if_neg c]; exact hid t t0 (by omega))
    refine Ev.step (fun k => ?_) e
    simp only [impl_Shed.l0]
    rw [if_pos (by omega), if_pos h0, if_pos (by omega), w64 (by omega) (by omega)]
theorem implShed (L : List S51) (busy most : Int) (hl : L.length ≤ 2000000) :
    (OkS L busy most → ∃ ys : List Int, ys.Perm (up 0 L.length) ∧ ys.Pairwise (tlt (clOf L)) ∧ Ev (fun k => impl_Shed.f k L busy most) (picked L (ys.take (room L.length busy most)), true)) ∧ (¬ OkS L busy most → Ev (fun k => impl_Shed.f k L busy most) ([], false)) := by
  have hA := arrivalsOk_ev L hl
  constructor
  · rintro ⟨ha, hb, hm⟩
    have hn := ha.2
    letI C_ : Inhabited ExtCl.Clos := ExtCl.at_ fun p q => impl_Shed_1.f p q L
    have hV : Vals (L.length : Int) (up 0 L.length) := fun v hv => by have := (mem_up _ _ _).1 hv; omega
    obtain ⟨ys, py, sy, ey⟩ := stable_ev (cl := clOf L) (n := L.length) (xs := up 0 L.length) (clsOk L) hV (by rw [up_len]; omega) (fun t t0 t1 => by rw [up_len] at t1; rw [rd_up _ _ _ t0 t1]; omega)
    refine ⟨ys, py, sy, ?_⟩
    have hly : ys.length = L.length := by rw [py.length_eq, up_len]
    have hr : mn ((up 0 L.length).length : Int) (mx 0 (wrap64 (most - busy))) = (room L.length busy most : Int) := by
      rw [up_len, w64 (by omega) (by omega)]
      unfold mn mx room
      omega
    have hr2 : room L.length busy most ≤ L.length := by unfold room; omega
    generalize hT : ys.take (room L.length busy most) = T at *
    have hTl : T.length = room L.length busy most := by rw [← hT, List.length_take]; omega
    have hTm : ∀ v ∈ T, 0 ≤ v ∧ v < L.length := fun v hv => by
      have h1 : v ∈ ys := by rw [← hT] at hv; exact List.mem_of_mem_take hv
      exact hV v (py.mem_iff.1 h1)
    -- the sorted cut
    generalize hS : (T.mergeSort fun x y => decide (x ≤ y)) = S
    have pS : S.Perm T := by rw [← hS]; exact List.mergeSort_perm _ _
    have ndT : T.Nodup := by
      have : ys.Nodup := sy.imp fun h e => by subst e; exact tlt.irrefl h
      rw [← hT]; exact this.sublist (List.take_sublist _ _)
    have wS : S.Pairwise (· < ·) := by
      have h1 : S.Pairwise (fun a b => decide (a ≤ b) = true) := by
        rw [← hS]
        exact List.pairwise_mergeSort (fun a b c h1 h2 => by simp at *; omega) (fun a b => by simp; omega) T
      have h2 : S.Nodup := pS.nodup_iff.2 ndT
      exact (h1.and h2).imp fun ⟨a, b⟩ => by simp at a; omega
    have eS : S = (up 0 L.length).filter fun i => decide (i ∈ T) := lt_unique wS ((up_pw _ _).filter _) fun v => by
      rw [List.mem_filter, mem_up, pS.mem_iff]
      constructor
      · intro h; have := hTm v h; exact ⟨by omega, by simpa using h⟩
      · rintro ⟨_, h⟩; simpa using h
    have hSl : S.length = T.length := pS.length_eq
    have e1 := implOut L hn S S 0 [] (by simp) (by simp) (by omega) (by simp) (fun v hv => hTm v (pS.mem_iff.1 hv))
    have ep : picked L T = S.map (rd_T51 L) := by unfold picked; rw [← eS]
    have e2 : Ev (fun k => impl_Shed.l0 k busy most L (up 0 L.length) (L.length : Int) (L.length : Int)) (picked L T, true) := by
      refine Ev.step (f := fun k => (slices_SortStableFunc_int_int.f (C_ := ExtCl.at_ (fun p_ q_ => impl_Shed_1.f p_ q_ L)) k (up 0 L.length)).bind fun t => impl_Shed.l1 k L [] ((t.take (room L.length busy most)).mergeSort fun x y => decide (x ≤ y)) ((t.take (room L.length busy most)).length : Int) 0) (fun k => ?_) (Ev.bind ey ?_)
      · simp only [impl_Shed.l0]
        rw [if_neg (by omega)]
        refine congrArg _ (funext fun t => ?_)
        rw [hr, if_pos (by omega), if_pos (by rw [up_len]; omega)]
        simp only [Option.bind_some, slices_Sort_int_int.f, Int.toNat_natCast]
        rw [if_pos (by rw [List.length_take]; omega)]
        rfl
      · simp only [hT, hS]
        rw [ep, ← hSl]
        exact e1
    have e3 := implFill L busy most hn _ e2 L.length 0 (List.replicate L.length 0) (by omega) (Int.le_refl _) (by simp) (fun t _ _ => by omega)
    unfold impl_Shed.f
    refine Ev.bind (hA.1 ha) ?_
    simp only [if_true, in_at, Option.bind_some]
    rw [decide_eq_true hb.1, decide_eq_true hb.2, decide_eq_true hm.1, decide_eq_true hm.2]
    simp only [Bool.and_self, if_true, Bool.not_true]
    refine Ev.step (fun k => ?_) e3
    simp only [impl_Shed.j0]
    rw [if_neg (by simp), if_pos (by omega), if_pos (by omega)]
    simp
  · intro h
    have bad : Ev (fun k => impl_Shed.j0 k busy most L true) ([], false) := Ev.step (fun k => by simp only [impl_Shed.j0, if_true]) (Ev.now _)
    unfold impl_Shed.f
    by_cases ha : ArrsOk L
    · refine Ev.bind (hA.1 ha) ?_
      simp only [if_true, in_at, Option.bind_some]
      by_cases hb : 0 ≤ busy ∧ busy ≤ 10000
      · rw [decide_eq_true hb.1, decide_eq_true hb.2]
        simp only [Bool.and_self, if_true]
        have hm : ¬ (0 ≤ most ∧ most ≤ 10000) := fun hm => h ⟨ha, hb, hm⟩
        rw [show (decide (0 ≤ most) && decide (most ≤ 10000)) = false by simp; omega]
        exact bad
      · rw [show (decide (0 ≤ busy) && decide (busy ≤ 10000)) = false by simp; omega]
        simp only [Bool.false_eq_true, if_false]
        exact bad
    · refine Ev.bind (hA.2 ha) ?_
      simp only [Bool.false_eq_true, if_false]
      exact bad
end Go.Proofs.Ytjioalgfpcdlhaa.ShMain
