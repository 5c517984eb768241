import Derived.Test.YtjioalgfpcdlhaaCox7
import Derived.Test.YtjioalgfpcdlhaaCoLaw
namespace Go.Proofs.Ytjioalgfpcdlhaa.Pure
open Go.RowKit Go.Proofs.Ytjioalgfpcdlhaa.Co Go.Proofs.YtjioalgfpcdlhaaW.PrintWords Go.Proofs.YtjioalgfpcdlhaaW.PrintLast

/-- YOURS: ∀ (l0 : List Int), l0.length ≤ maxLen → l0.length * 1 ≤ 140737488351232 → (∀ x ∈ l0, (Lit.int .u8 x).wf = true) → ∃ k, laws_FnAlone.f k l0 = some true
What it reaches (each with k first where it has rounds; `.mono`: more rounds tell the same; `.l0`, ..: its loops, with `.mono_l`): laws_big.f, laws_sameInts.f, spec_l1New.f, spec_l1Byte.f, spec_l1Below.f, spec_l1PickInt.f, spec_l1Size.f, spec_DrawContend.f, impl_in.f, bits_Mul32.f, bits_Mul64.f, bits_Mul.f, slices_Repeat_int_int.f, impl_Contend.f, spec_l1In.f, spec_Contend.f, laws_FnAlone.f -/
theorem FnAlone : laws_FnAlone.Pure := by
  exact fun b _ hb _ => (CoLaw.whole b (by simpa using hb)).rounds

end Go.Proofs.Ytjioalgfpcdlhaa.Pure
