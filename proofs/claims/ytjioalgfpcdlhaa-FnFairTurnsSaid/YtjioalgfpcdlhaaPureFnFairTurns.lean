import Derived.Test.YtjioalgfpcdlhaaFairx5
import Derived.Test.YtjioalgfpcdlhaaFairLaw
namespace Go.Proofs.Ytjioalgfpcdlhaa.Pure
open Go.RowKit Go.Proofs.Ytjioalgfpcdlhaa.Fair Go.Proofs.YtjioalgfpcdlhaaW.PrintWords Go.Proofs.YtjioalgfpcdlhaaW.PrintLast

/-- YOURS: ∀ (l0 : List Int), l0.length ≤ maxLen → l0.length * 1 ≤ 140737488351232 → (∀ x ∈ l0, (Lit.int .u8 x).wf = true) → ∃ k, laws_FnFairTurns.f k l0 = some true
What it reaches (each with k first where it has rounds; `.mono`: more rounds tell the same; `.l0`, ..: its loops, with `.mono_l`): laws_big.f, spec_l1New.f, spec_l1Byte.f, spec_l1Below.f, spec_l1PickInt.f, spec_DrawFair.f, impl_in.f, impl_Fair.f, spec_l1In.f, spec_Fair.f, laws_sameInts.f, laws_FnFairTurns.f -/
theorem FnFairTurns : laws_FnFairTurns.Pure := by
  exact fun b _ hb _ => (FairLaw.whole b (by simpa using hb)).rounds

end Go.Proofs.Ytjioalgfpcdlhaa.Pure
