/- FnExactShed: for every argument impl.Shed answers as spec.Shed does, and shares nothing. By an AI agent. -/
import Derived.Test.YtjioalgfpcdlhaaRows
import Derived.Test.YtjioalgfpcdlhaaShExact
import Derived.Test.YtjioalgfpcdlhaaOpens
import Derived.WalkKit
import Derived.ProofKit
import Derived.OpenShut
import Derived.ShutString
import Derived.ChangeOld
import Derived.Below
import Derived.SizedLaws
namespace Go.Proofs.Ytjioalgfpcdlhaa.fnExactShed
open Go Go.ChangeShapes Go.WideShapes Go.ChangeAt Go.RowKit
open Go.ChangeMaps (open_string shut_string)
open Go.Proofs.Ytjioalgfpcdlhaa.Opens Go.Proofs.Ytjioalgfpcdlhaa.Sh Go.Proofs.YtjioalgfpcdlhaaW.PrintWords
set_option linter.unusedVariables false
theorem own : ownKnob Try.prog.godebug = none := by kernel_rfl
theorem laidOut : laidOutB Try.prog = true := by kernel_rfl
theorem weak {α : Type} {P : Program} {t : TypeId} {d : Kd α} {Q : α → Prop} (h : Opens P t d Q) : Opens P t d (fun _ => True) := by
  intro H enc w base spare held fuel cs x hx
  obtain ⟨v, hK, _⟩ := h hx
  exact ⟨v, hK, trivial⟩
theorem opens87 : Opens Try.prog 87 k87 (fun _ => True) :=
  weak (opens_struct3 (a := Kd.int .i64) (b := Kd.int .i64) (c := Kd.int .i64) (f := fun x : S87 => (x.f0, x.f1, x.f2)) (fun p : Int × Int × Int => (⟨p.1, p.2.1, p.2.2⟩ : S87)) (fun _ => rfl) Try.underlying87 rfl rfl rfl
    (by kernel_rfl) (by kernel_rfl) (by kernel_rfl) (by kernel_rfl) (opens_int Try.underlying3) (opens_int Try.underlying3) (opens_int Try.underlying3))
set_option maxRecDepth 100000 in
theorem lifted (os : Os) (started : os.Started) (H : Type) (enc : TypeId × Value → H) :
    ReturnsInHanded {} Try.checked os 9 .any (Rows.fnExactShedSpec.pre6 enc Try.prog Try.f9 Rows.fnExactShedRow.domain false) (Rows.fnExactShedSpec.post enc Try.prog Try.f9 false true false false) := by
  refine returnsInHanded_of_change_sized (C := Try.checked) own started (by kernel_rfl) Try.func9
    (ChangeSpec.witness6 (enc := enc) (C := Try.checked) false ⟨#[], #[.slice none 0 0, .int .i64 0, .int .i64 0], []⟩ 8 (by kernel_rfl) (by kernel_rfl) (by kernel_rfl) (by kernel_rfl)) ?_
  intro W base args ds gs before hval0 hW hcnd hsz0 _
  have hval : ∀ (j : Nat) t v, Try.f9.params[j]? = some t → args[j]? = some v → Value.okWide Try.prog W .any base t v := hval0
  have hW' := hW
  obtain ⟨p, q, hA0, hV, rfl, hfz, hnd⟩ := hW
  have hA : DataW.TrodAll enc Try.prog W 0 (fun _ => true) true Try.f9.params.toList args.toList ds p := hA0
  rw [Try.params9] at hA hval
  obtain ⟨v0, v1, v2, d0, d1, d2, p0, p1, p2, rfl, rfl, rfl, h0, h1, h2⟩ := trodAll_three hA
  obtain ⟨rfl, rfl⟩ := trodVars_none hV
  have lt : ∀ {t v d p}, DataW.Trod enc Try.prog W 0 (fun _ => true) true t v d p → ∀ x ∈ p, x.block < W.heap.size := by
    intro t v d p h
    obtain ⟨m, hm⟩ := h
    exact DataW.trod_lt m _ _ _ hm
  obtain ⟨a0, len0, cap0, rfl⟩ := okWide_slice Try.underlying52 (hval 0 52 v0 rfl rfl)
  obtain ⟨n1, rfl⟩ := okWide_int Try.underlying3 (hval 1 3 v1 rfl rfl)
  obtain ⟨n2, rfl⟩ := okWide_int Try.underlying3 (hval 2 3 v2 rfl rfl)
  obtain ⟨l0, hl0, hc0, hC0, hm0⟩ : ∃ l : List S87, len0 = l.length ∧ l.length ≤ cap0 ∧ Kd.C k87 W a0 l.length l ∧ l.length ≤ maxLen := by
    obtain ⟨m, hm⟩ := h0
    obtain ⟨l, ⟨A, c, e, hle, hC⟩, _, hml⟩ := opens_slice 87 Try.underlying52 (by kernel_rfl) opens87 hm
    simp [Value.cells] at e
    obtain ⟨rfl, rfl, rfl⟩ := e
    exact ⟨l, rfl, hle, hC, hml⟩
  subst hl0
  obtain ⟨k, hk⟩ := (ShExact.whole l0 n1 n2 (by simp only [maxLen] at hm0; omega)).rounds
  refine (laws_FnExactShed.calls k a0 cap0 l0 n1 n2 true W hC0 hc0 hk).mono fun e W' ⟨he, bel⟩ => ?_
  subst he
  exact ⟨_, rfl, _, _, _, [], _, [], hW', trodAll_mk1 (shut_bool Try.underlying4 _), trodAll_mk3 (Below.trod laidOut (by kernel_rfl) (of_decide_eq_true (by kernel_rfl)) h0 bel (lt h0)) (Below.trod laidOut (by kernel_rfl) (of_decide_eq_true (by kernel_rfl)) h1 bel (lt h1)) (Below.trod laidOut (by kernel_rfl) (of_decide_eq_true (by kernel_rfl)) h2 bel (lt h2)), rfl, bel.frame _, fun h => by cases h⟩
theorem over : Rows.fnExactShedRow.holds Try.pinned (OpenSpec.ofChange Rows.fnExactShedSpec) :=
  OpenClaim.holds_of_wide 9 Try.f9 rfl rfl rfl rfl rfl rfl rfl ⟨rfl, rfl, rfl, rfl, rfl⟩ rfl rfl rfl rfl rfl (by kernel_rfl) Try.func9 (by kernel_rfl)
    (of_decide_eq_true (by kernel_rfl)) (by unfold Func.isWrapper; first | (rw [if_pos (by decide +kernel)]; kernel_rfl) | (rw [if_neg (by decide +kernel)]; exact ⟨rfl, rfl⟩))
    (fun os started H enc _ => lifted os started H enc)
theorem proved : Rows.FnExactShedSaid := over
#print axioms proved
end Go.Proofs.Ytjioalgfpcdlhaa.fnExactShed
namespace Go.Proofs.Ytjioalgfpcdlhaa
/-- The row, under a short name, for the claim. -/
theorem fnExactShed_holds : Rows.FnExactShedSaid := fnExactShed.proved
end Go.Proofs.Ytjioalgfpcdlhaa
