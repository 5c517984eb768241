import Derived.Test.YtjioalgfpcdlhaaTrx8
import Derived.Test.YtjioalgfpcdlhaaTrLaw
namespace Go.Proofs.Ytjioalgfpcdlhaa.Pure
open Go.RowKit Go.Proofs.Ytjioalgfpcdlhaa.Tr Go.Proofs.YtjioalgfpcdlhaaW.PrintWords Go.Proofs.YtjioalgfpcdlhaaW.PrintLast

/-- YOURS: ∀ (l0 : List Int), l0.length ≤ maxLen → l0.length * 1 ≤ 140737488351232 → (∀ x ∈ l0, (Lit.int .u8 x).wf = true) → ∃ k, laws_FnTried.f k l0 = some true
What it reaches (each with k first where it has rounds; `.mono`: more rounds tell the same; `.l0`, ..: its loops, with `.mono_l`): laws_big.f, laws_sameInts.f, spec_l1New.f, spec_l1Byte.f, spec_l1Below.f, spec_l1PickInt.f, spec_l1Size.f, spec_l17Draw.f, spec_l17DrawAny.f, spec_DrawTry.f, impl_in.f, cmp_isNaN_int.f, cmp_Less_int.f, slices_IsSorted_int_int.f, impl_arrivalsOk.f, cmp_Compare_int.f, impl_Try_1.f, impl_Arrival.f, slices_IndexFunc_int_int.f, slices_DeleteFunc_int_int.f, impl_Try.f, spec_l1In.f, spec_l17Spare.f, spec_l4Tick.f, spec_l17Arrival.f, spec_l17Arrivals.f, spec_Try.f, laws_FnTried.f -/
theorem FnTried : laws_FnTried.Pure := by
  exact fun b _ hb _ => (TrLaw.whole b (by simpa using hb)).rounds

end Go.Proofs.Ytjioalgfpcdlhaa.Pure
