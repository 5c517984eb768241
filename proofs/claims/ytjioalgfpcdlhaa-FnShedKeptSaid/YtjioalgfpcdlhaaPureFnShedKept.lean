/- FnShedKept: of drawn calls that ask at once as many are let in as there is room for, none of a greater class while one of a lesser is refused. By an AI agent. -/
import Derived.Test.YtjioalgfpcdlhaaShx8
import Derived.Test.YtjioalgfpcdlhaaShLaw
namespace Go.Proofs.Ytjioalgfpcdlhaa.Pure
open Go.RowKit Go.Proofs.Ytjioalgfpcdlhaa.Sh Go.Proofs.YtjioalgfpcdlhaaW.PrintWords Go.Proofs.YtjioalgfpcdlhaaW.PrintLast

/-- YOURS: ∀ (l0 : List Int), l0.length ≤ maxLen → l0.length * 1 ≤ 140737488351232 → (∀ x ∈ l0, (Lit.int .u8 x).wf = true) → ∃ k, laws_FnShedKept.f k l0 = some true
What it reaches (each with k first where it has rounds; `.mono`: more rounds tell the same; `.l0`, ..: its loops, with `.mono_l`): laws_big.f, spec_l1New.f, spec_l1Byte.f, spec_l1Below.f, spec_l1PickInt.f, spec_l1Size.f, spec_l17Draw.f, spec_l17DrawAny.f, spec_DrawShed.f, impl_in.f, impl_arrivalsOk.f, cmp_isNaN_int.f, cmp_Compare_int.f, impl_Shed_1.f, slices_insertionSortCmpFunc_int.f, slices_swapRangeCmpFunc_int.f, slices_rotateCmpFunc_int.f, slices_symMergeCmpFunc_int.f, slices_stableCmpFunc_int.f, slices_SortStableFunc_int_int.f, slices_Sort_int_int.f, impl_Shed.f, spec_l1In.f, spec_l4Tick.f, spec_l17Arrival.f, spec_l17Arrivals.f, spec_Shed.f, laws_FnShedKept.f -/
theorem FnShedKept : laws_FnShedKept.Pure := by
  exact fun b _ hb _ => (ShLaw.whole b (by simpa using hb)).rounds

end Go.Proofs.Ytjioalgfpcdlhaa.Pure
