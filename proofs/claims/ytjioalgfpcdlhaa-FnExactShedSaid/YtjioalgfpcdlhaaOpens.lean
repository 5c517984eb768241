/- An argument that can be read, told in the printed words (Kd.C, Kd.K): for ints, bools, strings, slices, structs, one in another. By an AI agent. -/
import Derived.Test.YtjioalgfpcdlhaaWWords
import Derived.Deep.Slices
import Derived.ChangeArms
import Derived.DataReads
namespace Go.Proofs.Ytjioalgfpcdlhaa.Opens
open Go Go.RowKit Go.Deep Go.Proofs.YtjioalgfpcdlhaaW.PrintWords
set_option linter.unusedVariables false

/-- Whatever reads as data of type t reads as a value of d with Q. -/
def Opens {α : Type} (P : Program) (t : TypeId) (d : Kd α) (Q : α → Prop) : Prop :=
  ∀ {H : Type} {enc : TypeId × Value → H} {w : World} {base : Nat} {spare : Nat → Bool} {held : Bool} {fuel : Nat} {cs : List Value} {x : DataW H × List MemPlace},
    DataW.trod enc P w base spare held fuel t cs = some x → ∃ v, d.K w v cs ∧ Q v
theorem opens_int {P : Program} {t : TypeId} {k : IntKind} (ht : P.underlying t = some (.int k)) : Opens P t (Kd.int k) (fun n => (Lit.int k n).wf = true) := by
  intro H enc w base spare held fuel cs x h
  obtain ⟨n, rfl, _, hw⟩ := DataW.trod_int ht h
  exact ⟨n, rfl, hw⟩
theorem opens_string {P : Program} {t : TypeId} (ht : P.underlying t = some .string) : Opens P t Kd.string (fun s => s.size ≤ maxLen) := by
  intro H enc w base spare held fuel cs x h
  obtain ⟨s, rfl, _, hw⟩ := DataW.trod_string ht h
  exact ⟨s, rfl, hw⟩
theorem opens_bool {P : Program} {t : TypeId} (ht : P.underlying t = some .bool) : Opens P t Kd.bool (fun _ => True) := by
  intro H enc w base spare held fuel cs x h
  obtain ⟨b, rfl, _⟩ := DataW.trod_bool ht h
  exact ⟨b, rfl, trivial⟩
theorem opens_slice {α : Type} {P : Program} {t e : TypeId} {d : Kd α} {Q : α → Prop} (e' : Nat) (ht : P.underlying t = some (.slice e)) (hC : P.cellsOf e = d.sz) (he : Opens P e d Q) : Opens P t (Kd.slice e' d) (fun xs => (∀ x ∈ xs, Q x) ∧ xs.length ≤ maxLen) := by
  intro H enc w base spare held fuel cs x h
  rcases open_slice ht h with ⟨rfl, _⟩ | ⟨a, len, cap, m, n, D, Pl, rfl, _, hl, hm, hmm, _, hi⟩
  · exact ⟨[], ⟨none, 0, rfl, by simp, rfl, by simp, fun hp => absurd hp (by simp)⟩, by simp, by simp⟩
  · have hlm : len ≤ m := by rw [hmm]; split <;> omega
    have hx : ∀ k, k ≤ len → ∃ xs : List α, xs.length = k ∧ ∀ i v, xs[i]? = some v → (∃ c, c.length = d.sz ∧ d.K w v c ∧ ∀ j u, c[j]? = some u → w.cell? (a.add (i * d.sz + j)) = some u) ∧ Q v := by
      intro k
      induction k with
      | zero => intro _; exact ⟨[], rfl, fun i v h => by simp at h⟩
      | succ k ih =>
        intro hk
        obtain ⟨xs, hl, hp⟩ := ih (by omega)
        obtain ⟨cs', hc, ht'⟩ := hi k (by omega)
        rw [hC] at hc
        obtain ⟨v, hK, hQ⟩ := he ht'
        obtain ⟨_, hcl, hat⟩ := World.cells?_some hc
        refine ⟨xs ++ [v], by simp [hl], fun i u hu => ?_⟩
        rcases Nat.lt_or_ge i xs.length with h1 | h1
        · rw [List.getElem?_append_left h1] at hu
          exact hp i u hu
        · have hik : i = k := by
            have := (List.getElem?_eq_some_iff.1 hu).1
            simp at this
            omega
          subst hik
          rw [List.getElem?_append_right h1, hl, Nat.sub_self] at hu
          have huv : v = u := by simpa using hu
          subst huv
          refine ⟨⟨cs', hcl, hK, fun j u hu => ?_⟩, hQ⟩
          have hj : j < d.sz := by have := (List.getElem?_eq_some_iff.1 hu).1; omega
          rw [← Go.Deep.add_add, hat j hj, hu]
    obtain ⟨xs, hxl, hp⟩ := hx len (Nat.le_refl _)
    subst hxl
    refine ⟨xs, ⟨some a, cap, rfl, hl, rfl, by simp only [maxLen] at hm; omega, fun _ => ⟨a, rfl, fun j p hj => (hp j p hj).1⟩⟩, fun v hv => ?_, by omega⟩
    obtain ⟨i, hi1, hi2⟩ := List.getElem_of_mem hv
    exact (hp i v (by rw [List.getElem?_eq_getElem hi1, hi2])).2
theorem opens_struct1 {α β : Type} {P : Program} {t : TypeId} {f0 : Field} {d : Kd α} {Q : α → Prop} {f : β → α} (g : α → β) (hg : ∀ x, f (g x) = x) (ht : P.underlying t = some (.struct #[f0])) (h0 : f0.offset = 0) (hs0 : P.cellsOf f0.type = d.sz) (hs : P.cellsOf t = d.sz)
    (he : Opens P f0.type d Q) : Opens P t (Kd.iso d f) (fun x => Q (f x)) := by
  intro H enc w base spare held fuel cs x h
  obtain ⟨xs, n, _, _, hl, hxl, hf⟩ := DataW.trod_struct ht h
  have h1 := hf 0 f0 rfl
  rw [h0, hs0, List.drop_zero, List.take_of_length_le (by omega)] at h1
  have hx0 : xs[0]? = some (xs[0]'(by simp at hxl; omega)) := List.getElem?_eq_getElem _
  obtain ⟨v, hK, hQ⟩ := he (h1.trans hx0)
  exact ⟨g v, by show d.K w (f (g v)) cs; rw [hg]; exact hK, by show Q (f (g v)); rw [hg]; exact hQ⟩
theorem opens_struct3 {α β γ S : Type} {P : Program} {t : TypeId} {f0 f1 f2 : Field} {a : Kd α} {b : Kd β} {c : Kd γ} {Qa : α → Prop} {Qb : β → Prop} {Qc : γ → Prop} {f : S → α × β × γ} (g : α × β × γ → S) (hg : ∀ x, f (g x) = x) (ht : P.underlying t = some (.struct #[f0, f1, f2]))
    (h0 : f0.offset = 0) (h1 : f1.offset = a.sz) (h2 : f2.offset = a.sz + b.sz) (hs0 : P.cellsOf f0.type = a.sz) (hs1 : P.cellsOf f1.type = b.sz) (hs2 : P.cellsOf f2.type = c.sz) (hs : P.cellsOf t = a.sz + (b.sz + c.sz))
    (ha : Opens P f0.type a Qa) (hb : Opens P f1.type b Qb) (hc : Opens P f2.type c Qc) : Opens P t (Kd.iso (Kd.pair a (Kd.pair b c)) f) (fun x => Qa (f x).1 ∧ Qb (f x).2.1 ∧ Qc (f x).2.2) := by
  intro H enc w base spare held fuel cs x h
  obtain ⟨xs, n, _, _, hl, hxl, hf⟩ := DataW.trod_struct ht h
  have hx : ∀ i, i < 3 → ∃ y, xs[i]? = some y := fun i hi => ⟨xs[i]'(by simp at hxl; omega), List.getElem?_eq_getElem _⟩
  obtain ⟨y0, e0⟩ := hx 0 (by omega)
  obtain ⟨y1, e1⟩ := hx 1 (by omega)
  obtain ⟨y2, e2⟩ := hx 2 (by omega)
  have g0 := (hf 0 f0 rfl).trans e0
  have g1 := (hf 1 f1 rfl).trans e1
  have g2 := (hf 2 f2 rfl).trans e2
  rw [h0, hs0, List.drop_zero] at g0
  rw [h1, hs1] at g1
  rw [h2, hs2] at g2
  obtain ⟨v0, K0, q0⟩ := ha g0
  obtain ⟨v1, K1, q1⟩ := hb g1
  obtain ⟨v2, K2, q2⟩ := hc g2
  rw [List.take_of_length_le (by rw [List.length_drop]; omega)] at K2
  refine ⟨g (v0, v1, v2), ?_, by show Qa (f (g (v0, v1, v2))).1 ∧ _; rw [hg]; exact ⟨q0, q1, q2⟩⟩
  show (Kd.pair a (Kd.pair b c)).K w (f (g (v0, v1, v2))) cs
  rw [hg]
  refine ⟨cs.take a.sz, cs.drop a.sz, (List.take_append_drop a.sz cs).symm, K0, (cs.drop a.sz).take b.sz, cs.drop (a.sz + b.sz), ?_, K1, K2⟩
  rw [← List.drop_drop]
  exact (List.take_append_drop b.sz (cs.drop a.sz)).symm
end Go.Proofs.Ytjioalgfpcdlhaa.Opens
