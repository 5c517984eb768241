/- FnExactContend: for every argument impl.Contend answers as spec.Contend does, and shares nothing. By an AI agent. -/
import Derived.Test.YtjioalgfpcdlhaaRows
import Derived.Test.YtjioalgfpcdlhaaCoExact
import Derived.Test.YtjioalgfpcdlhaaOpens
import Derived.WalkKit
import Derived.ProofKit
import Derived.OpenShut
import Derived.ShutString
import Derived.ChangeOld
import Derived.Below
import Derived.SizedLaws
namespace Go.Proofs.Ytjioalgfpcdlhaa.fnExactContend
open Go Go.ChangeShapes Go.WideShapes Go.ChangeAt Go.RowKit
open Go.ChangeMaps (open_string shut_string)
open Go.Proofs.Ytjioalgfpcdlhaa.Opens Go.Proofs.Ytjioalgfpcdlhaa.Co Go.Proofs.YtjioalgfpcdlhaaW.PrintWords
set_option linter.unusedVariables false
theorem own : ownKnob Try.prog.godebug = none := by kernel_rfl
theorem laidOut : laidOutB Try.prog = true := by kernel_rfl
theorem weak {α : Type} {P : Program} {t : TypeId} {d : Kd α} {Q : α → Prop} (h : Opens P t d Q) : Opens P t d (fun _ => True) := by
  intro H enc w base spare held fuel cs x hx
  obtain ⟨v, hK, _⟩ := h hx
  exact ⟨v, hK, trivial⟩
def Ok75 (x : S75) : Prop := x.f0.length ≤ maxLen
theorem opens75 : Opens Try.prog 75 k75 Ok75 := by
  have h : Opens Try.prog 75 k75 (fun x => (∀ y ∈ x.f0, (Lit.int .i64 y).wf = true) ∧ x.f0.length ≤ maxLen) :=
    opens_struct1 (d := Kd.slice 3 (Kd.int .i64)) (f := fun x : S75 => x.f0) (fun p : List Int => (⟨p⟩ : S75)) (fun _ => rfl) Try.underlying75 rfl (by kernel_rfl) (by kernel_rfl) (opens_slice 3 Try.underlying27 (by kernel_rfl) (opens_int Try.underlying3))
  intro H enc w base spare held fuel cs x hx
  obtain ⟨v, hK, _, hl⟩ := h hx
  exact ⟨v, hK, hl⟩
set_option maxRecDepth 100000 in
theorem lifted (os : Os) (started : os.Started) (H : Type) (enc : TypeId × Value → H) :
    ReturnsInHanded {} Try.checked os 5 .any (Rows.fnExactContendSpec.pre6 enc Try.prog Try.f5 Rows.fnExactContendRow.domain false) (Rows.fnExactContendSpec.post enc Try.prog Try.f5 false true false false) := by
  refine returnsInHanded_of_change_sized (C := Try.checked) own started (by kernel_rfl) Try.func5
    (ChangeSpec.witness6 (enc := enc) (C := Try.checked) false ⟨#[], #[.slice none 0 0, .int .i64 0, .int .i64 0], []⟩ 8 (by kernel_rfl) (by kernel_rfl) (by kernel_rfl) (by kernel_rfl)) ?_
  intro W base args ds gs before hval0 hW hcnd hsz0 _
  have hval : ∀ (j : Nat) t v, Try.f5.params[j]? = some t → args[j]? = some v → Value.okWide Try.prog W .any base t v := hval0
  have hW' := hW
  obtain ⟨p, q, hA0, hV, rfl, hfz, hnd⟩ := hW
  have hA : DataW.TrodAll enc Try.prog W 0 (fun _ => true) true Try.f5.params.toList args.toList ds p := hA0
  rw [Try.params5] at hA hval
  obtain ⟨v0, v1, v2, d0, d1, d2, p0, p1, p2, rfl, rfl, rfl, h0, h1, h2⟩ := trodAll_three hA
  obtain ⟨rfl, rfl⟩ := trodVars_none hV
  have lt : ∀ {t v d p}, DataW.Trod enc Try.prog W 0 (fun _ => true) true t v d p → ∀ x ∈ p, x.block < W.heap.size := by
    intro t v d p h
    obtain ⟨m, hm⟩ := h
    exact DataW.trod_lt m _ _ _ hm
  obtain ⟨a0, len0, cap0, rfl⟩ := okWide_slice Try.underlying37 (hval 0 37 v0 rfl rfl)
  obtain ⟨n1, rfl⟩ := okWide_int Try.underlying3 (hval 1 3 v1 rfl rfl)
  obtain ⟨n2, rfl⟩ := okWide_int Try.underlying3 (hval 2 3 v2 rfl rfl)
  obtain ⟨l0, hl0, hc0, hC0, hm0, ho0⟩ : ∃ l : List S75, len0 = l.length ∧ l.length ≤ cap0 ∧ Kd.C k75 W a0 l.length l ∧ l.length ≤ maxLen ∧ ∀ x ∈ l, Ok75 x := by
    obtain ⟨m, hm⟩ := h0
    obtain ⟨l, ⟨A, c, e, hle, hC⟩, hq, hml⟩ := opens_slice 75 Try.underlying37 (by kernel_rfl) opens75 hm
    simp [Value.cells] at e
    obtain ⟨rfl, rfl, rfl⟩ := e
    exact ⟨l, rfl, hle, hC, hml, hq⟩
  subst hl0
  obtain ⟨k, hk⟩ := (CoExact.whole l0 n1 n2 (by simp only [maxLen] at hm0; omega) (fun x hx => by have := ho0 x hx; simp only [Ok75, maxLen] at this; omega)).rounds
  refine (laws_FnExactContend.calls k a0 cap0 l0 n1 n2 true W hC0 hc0 hk).mono fun e W' ⟨he, bel⟩ => ?_
  subst he
  exact ⟨_, rfl, _, _, _, [], _, [], hW', trodAll_mk1 (shut_bool Try.underlying4 _), trodAll_mk3 (Below.trod laidOut (by kernel_rfl) (of_decide_eq_true (by kernel_rfl)) h0 bel (lt h0)) (Below.trod laidOut (by kernel_rfl) (of_decide_eq_true (by kernel_rfl)) h1 bel (lt h1)) (Below.trod laidOut (by kernel_rfl) (of_decide_eq_true (by kernel_rfl)) h2 bel (lt h2)), rfl, bel.frame _, fun h => by cases h⟩
theorem over : Rows.fnExactContendRow.holds Try.pinned (OpenSpec.ofChange Rows.fnExactContendSpec) :=
  OpenClaim.holds_of_wide 5 Try.f5 rfl rfl rfl rfl rfl rfl rfl ⟨rfl, rfl, rfl, rfl, rfl⟩ rfl rfl rfl rfl rfl (by kernel_rfl) Try.func5 (by kernel_rfl)
    (of_decide_eq_true (by kernel_rfl)) (by unfold Func.isWrapper; first | (rw [if_pos (by decide +kernel)]; kernel_rfl) | (rw [if_neg (by decide +kernel)]; exact ⟨rfl, rfl⟩))
    (fun os started H enc _ => lifted os started H enc)
theorem proved : Rows.FnExactContendSaid := over
#print axioms proved
end Go.Proofs.Ytjioalgfpcdlhaa.fnExactContend
namespace Go.Proofs.Ytjioalgfpcdlhaa
/-- The row, under a short name, for the claim. -/
theorem fnExactContend_holds : Rows.FnExactContendSaid := fnExactContend.proved
end Go.Proofs.Ytjioalgfpcdlhaa
