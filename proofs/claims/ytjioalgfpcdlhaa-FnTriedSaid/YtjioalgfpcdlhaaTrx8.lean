-- written by a program of this session, wip/tools/myprint.py
import Derived.Test.YtjioalgfpcdlhaaTrx0
import Derived.Test.YtjioalgfpcdlhaaTrx1
import Derived.Test.YtjioalgfpcdlhaaTrx2
import Derived.Test.YtjioalgfpcdlhaaTrx4
import Derived.Test.YtjioalgfpcdlhaaTrx7
namespace Go.Proofs.Ytjioalgfpcdlhaa.Tr
open Go.RowKit Go.Proofs.YtjioalgfpcdlhaaW.PrintWords Go.Proofs.YtjioalgfpcdlhaaW.PrintLast Go.Proofs.YtjioalgfpcdlhaaW.PrintMore
attribute [local go_sem] max2_int min2_int max_two min_two max_three min_three max_four min_four   -- for this text's walks alone
set_option linter.unusedVariables false
set_option linter.unusedSimpArgs false

/-! ### laws_FnTried: function 6 -/
mutual
def laws_FnTried.j0 : Nat → Int → List Int → List (S51) → List Bool → List Int → Bool → Bool → Option (Bool)
 | 0, _, _, _, _, _, _, _ => none
 | k + 1, x3, x4, x5, x6, x7, x8, x100 => if x100 = true then (some false) else (laws_FnTried.l0 k x3 x4 x5 x6 x7 x8 0)
def laws_FnTried.l0 : Nat → Int → List Int → List (S51) → List Bool → List Int → Bool → Int → Option (Bool)
 | 0, _, _, _, _, _, _, _ => none
 | k + 1, x3, x4, x5, x6, x7, x8, x15 => if x15 < (x6.length : Int) then (if 0 ≤ x15 then (if x15 < (x5.length : Int) then (laws_FnTried.l1 k x3 x4 x5 x6 x7 x8 x15 0 0 ((rd_T51 x5 x15).f0) ((rd_T51 x5 x15).f1) ((rd_T51 x5 x15).f2)) else (none)) else (none)) else (if x8 = true then (if (x6.length : Int) = (x5.length : Int) then (some ((x7.length : Int) == (x5.length : Int))) else (some false)) else (some true))
def laws_FnTried.l1 : Nat → Int → List Int → List (S51) → List Bool → List Int → Bool → Int → Int → Int → Int → Int → Int → Option (Bool)
 | 0, _, _, _, _, _, _, _, _, _, _, _, _ => none
 | k + 1, x3, x4, x5, x6, x7, x8, x15, x17, x18, x380000, x380001, x380002 => if x18 < x15 then (if 0 ≤ x18 then (if x18 < (x6.length : Int) then (if rdOf false x6 x18 = true then (if x18 < (x5.length : Int) then (if (wrap64 (((rd_T51 x5 x18).f0) + ((rd_T51 x5 x18).f1))) > x380000 then (laws_FnTried.l1 k x3 x4 x5 x6 x7 x8 x15 (wrap64 (x17 + 1)) (wrap64 (x18 + 1)) x380000 x380001 x380002) else (laws_FnTried.l1 k x3 x4 x5 x6 x7 x8 x15 x17 (wrap64 (x18 + 1)) x380000 x380001 x380002)) else (none)) else (laws_FnTried.l1 k x3 x4 x5 x6 x7 x8 x15 x17 (wrap64 (x18 + 1)) x380000 x380001 x380002)) else (none)) else (none)) else (if 0 ≤ x15 then (if x15 < (x6.length : Int) then (if rdOf false x6 x15 = true then (laws_FnTried.j3 k x3 x4 x5 x6 x7 x8 x15 x17 (wrap64 (x17 + 1)) x380000 x380001 x380002) else (laws_FnTried.j3 k x3 x4 x5 x6 x7 x8 x15 x17 x17 x380000 x380001 x380002)) else (none)) else (none))
def laws_FnTried.j3 : Nat → Int → List Int → List (S51) → List Bool → List Int → Bool → Int → Int → Int → Int → Int → Int → Option (Bool)
 | 0, _, _, _, _, _, _, _, _, _, _, _, _ => none
 | k + 1, x3, x4, x5, x6, x7, x8, x15, x17, x19, x380000, x380001, x380002 => if 0 ≤ x15 then (if x15 < (x6.length : Int) then (if 0 ≤ x380002 then (if x380002 < (x4.length : Int) then (if ((rdOf false x6 x15) != (decide ((wrap64 (x3 - x17)) > (rd x4 x380002)))) = true then (laws_FnTried.j4 k x3 x4 x5 x6 x7 x8 x15 true) else (if x15 < (x7.length : Int) then (if (rd x7 x15) = x19 then (laws_FnTried.j4 k x3 x4 x5 x6 x7 x8 x15 (decide (x19 > x3))) else (laws_FnTried.j4 k x3 x4 x5 x6 x7 x8 x15 true)) else (none))) else (none)) else (none)) else (none)) else (none)
def laws_FnTried.j4 : Nat → Int → List Int → List (S51) → List Bool → List Int → Bool → Int → Bool → Option (Bool)
 | 0, _, _, _, _, _, _, _, _ => none
 | k + 1, x3, x4, x5, x6, x7, x8, x15, x171 => if x171 = true then (some false) else (laws_FnTried.l0 k x3 x4 x5 x6 x7 x8 (wrap64 (x15 + 1)))
end
def laws_FnTried.f (k : Nat) (l0 : List Int) : Option (Bool) := (laws_big.f l0).bind fun t336 => (if t336 = true then (some true) else ((spec_DrawTry.f k l0).bind fun bt337 => ((impl_Try.f k bt337.1 bt337.2.1 bt337.2.2).bind fun bt344 => ((spec_Try.f k bt337.1 bt337.2.1 bt337.2.2).bind fun bt351 => (if (bt344.2.2 != bt351.2.2) = true then (some false) else ((impl_Try.f k 1 (([0, 0, 0, 0] : List Int)) (([(⟨0, 5, 0⟩ : S51), (⟨4, 0, 0⟩ : S51), (⟨5, 0, 0⟩ : S51)] : List (S51)))).bind fun bt364 => (if bt364.2.2 = true then (if (bt364.1.length : Int) = 3 then (if 0 < (bt364.1.length : Int) then (if rdOf false bt364.1 0 = true then (if 1 < (bt364.1.length : Int) then (if rdOf false bt364.1 1 = true then (laws_FnTried.j0 k bt337.1 bt337.2.1 bt337.2.2 bt344.1 bt344.2.1 bt344.2.2 true) else (if 2 < (bt364.1.length : Int) then (if rdOf false bt364.1 2 = true then ((laws_sameInts.f k bt364.2.1 (([1, 1, 1] : List Int))).bind fun t377 => (if t377 = true then (if (bt344.1.length : Int) > (bt337.2.2.length : Int) then (laws_FnTried.j0 k bt337.1 bt337.2.1 bt337.2.2 bt344.1 bt344.2.1 bt344.2.2 true) else (laws_FnTried.j0 k bt337.1 bt337.2.1 bt337.2.2 bt344.1 bt344.2.1 bt344.2.2 ((bt344.2.1.length : Int) != (bt344.1.length : Int)))) else (laws_FnTried.j0 k bt337.1 bt337.2.1 bt337.2.2 bt344.1 bt344.2.1 bt344.2.2 true))) else (laws_FnTried.j0 k bt337.1 bt337.2.1 bt337.2.2 bt344.1 bt344.2.1 bt344.2.2 true)) else (none))) else (none)) else (laws_FnTried.j0 k bt337.1 bt337.2.1 bt337.2.2 bt344.1 bt344.2.1 bt344.2.2 true)) else (none)) else (laws_FnTried.j0 k bt337.1 bt337.2.1 bt337.2.2 bt344.1 bt344.2.1 bt344.2.2 true)) else (laws_FnTried.j0 k bt337.1 bt337.2.1 bt337.2.2 bt344.1 bt344.2.1 bt344.2.2 true))))))))
theorem laws_FnTried.mono_l : ∀ k, (∀ y0 y1 y2 y3 y4 y5 y6, LeO (laws_FnTried.j0 k y0 y1 y2 y3 y4 y5 y6) (laws_FnTried.j0 (k + 1) y0 y1 y2 y3 y4 y5 y6)) ∧ (∀ y0 y1 y2 y3 y4 y5 y6, LeO (laws_FnTried.l0 k y0 y1 y2 y3 y4 y5 y6) (laws_FnTried.l0 (k + 1) y0 y1 y2 y3 y4 y5 y6)) ∧ (∀ y0 y1 y2 y3 y4 y5 y6 y7 y8 y9 y10 y11, LeO (laws_FnTried.l1 k y0 y1 y2 y3 y4 y5 y6 y7 y8 y9 y10 y11) (laws_FnTried.l1 (k + 1) y0 y1 y2 y3 y4 y5 y6 y7 y8 y9 y10 y11)) ∧ (∀ y0 y1 y2 y3 y4 y5 y6 y7 y8 y9 y10 y11, LeO (laws_FnTried.j3 k y0 y1 y2 y3 y4 y5 y6 y7 y8 y9 y10 y11) (laws_FnTried.j3 (k + 1) y0 y1 y2 y3 y4 y5 y6 y7 y8 y9 y10 y11)) ∧ (∀ y0 y1 y2 y3 y4 y5 y6 y7, LeO (laws_FnTried.j4 k y0 y1 y2 y3 y4 y5 y6 y7) (laws_FnTried.j4 (k + 1) y0 y1 y2 y3 y4 y5 y6 y7))
 | 0 => ⟨fun _ _ _ _ _ _ _ r h => by simp [laws_FnTried.j0] at h, fun _ _ _ _ _ _ _ r h => by simp [laws_FnTried.l0] at h, fun _ _ _ _ _ _ _ _ _ _ _ _ r h => by simp [laws_FnTried.l1] at h, fun _ _ _ _ _ _ _ _ _ _ _ _ r h => by simp [laws_FnTried.j3] at h, fun _ _ _ _ _ _ _ _ r h => by simp [laws_FnTried.j4] at h⟩
 | k + 1 => by
  obtain ⟨ih0, ih1, ih2, ih3, ih4⟩ := laws_FnTried.mono_l k
  refine ⟨?_, ?_, ?_, ?_, ?_⟩
  ·intro y0 y1 y2 y3 y4 y5 y6
   unfold laws_FnTried.j0
   repeat' first
   | (with_reducible exact ih0 _ _ _ _ _ _ _)
   | (with_reducible exact ih1 _ _ _ _ _ _ _)
   | (with_reducible exact ih2 _ _ _ _ _ _ _ _ _ _ _ _)
   | (with_reducible exact ih3 _ _ _ _ _ _ _ _ _ _ _ _)
   | (with_reducible exact ih4 _ _ _ _ _ _ _ _)
   | (with_reducible exact impl_Try.mono _ _ _ _)
   | (with_reducible exact laws_sameInts.mono _ _ _)
   | (with_reducible exact spec_DrawTry.mono _ _)
   | (with_reducible exact spec_Try.mono _ _ _ _)
   | (with_reducible exact LeO.refl _)
   | (with_reducible exact LeO.none _)
   | (with_reducible refine LeO.ite ?_ ?_)
   | (with_reducible refine LeO.bind ?_ (fun _ => ?_))
   | exact ih0 _ _ _ _ _ _ _
   | exact ih1 _ _ _ _ _ _ _
   | exact ih2 _ _ _ _ _ _ _ _ _ _ _ _
   | exact ih3 _ _ _ _ _ _ _ _ _ _ _ _
   | exact ih4 _ _ _ _ _ _ _ _
   | exact impl_Try.mono _ _ _ _
   | exact laws_sameInts.mono _ _ _
   | exact spec_DrawTry.mono _ _
   | exact spec_Try.mono _ _ _ _
   | exact LeO.none _
   | refine LeO.ite ?_ ?_
   | refine LeO.bind ?_ (fun _ => ?_)
  ·intro y0 y1 y2 y3 y4 y5 y6
   unfold laws_FnTried.l0
   repeat' first
   | (with_reducible exact ih0 _ _ _ _ _ _ _)
   | (with_reducible exact ih1 _ _ _ _ _ _ _)
   | (with_reducible exact ih2 _ _ _ _ _ _ _ _ _ _ _ _)
   | (with_reducible exact ih3 _ _ _ _ _ _ _ _ _ _ _ _)
   | (with_reducible exact ih4 _ _ _ _ _ _ _ _)
   | (with_reducible exact impl_Try.mono _ _ _ _)
   | (with_reducible exact laws_sameInts.mono _ _ _)
   | (with_reducible exact spec_DrawTry.mono _ _)
   | (with_reducible exact spec_Try.mono _ _ _ _)
   | (with_reducible exact LeO.refl _)
   | (with_reducible exact LeO.none _)
   | (with_reducible refine LeO.ite ?_ ?_)
   | (with_reducible refine LeO.bind ?_ (fun _ => ?_))
   | exact ih0 _ _ _ _ _ _ _
   | exact ih1 _ _ _ _ _ _ _
   | exact ih2 _ _ _ _ _ _ _ _ _ _ _ _
   | exact ih3 _ _ _ _ _ _ _ _ _ _ _ _
   | exact ih4 _ _ _ _ _ _ _ _
   | exact impl_Try.mono _ _ _ _
   | exact laws_sameInts.mono _ _ _
   | exact spec_DrawTry.mono _ _
   | exact spec_Try.mono _ _ _ _
   | exact LeO.none _
   | refine LeO.ite ?_ ?_
   | refine LeO.bind ?_ (fun _ => ?_)
  ·intro y0 y1 y2 y3 y4 y5 y6 y7 y8 y9 y10 y11
   unfold laws_FnTried.l1
   repeat' first
   | (with_reducible exact ih0 _ _ _ _ _ _ _)
   | (with_reducible exact ih1 _ _ _ _ _ _ _)
   | (with_reducible exact ih2 _ _ _ _ _ _ _ _ _ _ _ _)
   | (with_reducible exact ih3 _ _ _ _ _ _ _ _ _ _ _ _)
   | (with_reducible exact ih4 _ _ _ _ _ _ _ _)
   | (with_reducible exact impl_Try.mono _ _ _ _)
   | (with_reducible exact laws_sameInts.mono _ _ _)
   | (with_reducible exact spec_DrawTry.mono _ _)
   | (with_reducible exact spec_Try.mono _ _ _ _)
   | (with_reducible exact LeO.refl _)
   | (with_reducible exact LeO.none _)
   | (with_reducible refine LeO.ite ?_ ?_)
   | (with_reducible refine LeO.bind ?_ (fun _ => ?_))
   | exact ih0 _ _ _ _ _ _ _
   | exact ih1 _ _ _ _ _ _ _
   | exact ih2 _ _ _ _ _ _ _ _ _ _ _ _
   | exact ih3 _ _ _ _ _ _ _ _ _ _ _ _
   | exact ih4 _ _ _ _ _ _ _ _
   | exact impl_Try.mono _ _ _ _
   | exact laws_sameInts.mono _ _ _
   | exact spec_DrawTry.mono _ _
   | exact spec_Try.mono _ _ _ _
   | exact LeO.none _
   | refine LeO.ite ?_ ?_
   | refine LeO.bind ?_ (fun _ => ?_)
  ·intro y0 y1 y2 y3 y4 y5 y6 y7 y8 y9 y10 y11
   unfold laws_FnTried.j3
   repeat' first
   | (with_reducible exact ih0 _ _ _ _ _ _ _)
   | (with_reducible exact ih1 _ _ _ _ _ _ _)
   | (with_reducible exact ih2 _ _ _ _ _ _ _ _ _ _ _ _)
   | (with_reducible exact ih3 _ _ _ _ _ _ _ _ _ _ _ _)
   | (with_reducible exact ih4 _ _ _ _ _ _ _ _)
   | (with_reducible exact impl_Try.mono _ _ _ _)
   | (with_reducible exact laws_sameInts.mono _ _ _)
   | (with_reducible exact spec_DrawTry.mono _ _)
   | (with_reducible exact spec_Try.mono _ _ _ _)
   | (with_reducible exact LeO.refl _)
   | (with_reducible exact LeO.none _)
   | (with_reducible refine LeO.ite ?_ ?_)
   | (with_reducible refine LeO.bind ?_ (fun _ => ?_))
   | exact ih0 _ _ _ _ _ _ _
   | exact ih1 _ _ _ _ _ _ _
   | exact ih2 _ _ _ _ _ _ _ _ _ _ _ _
   | exact ih3 _ _ _ _ _ _ _ _ _ _ _ _
   | exact ih4 _ _ _ _ _ _ _ _
   | exact impl_Try.mono _ _ _ _
   | exact laws_sameInts.mono _ _ _
   | exact spec_DrawTry.mono _ _
   | exact spec_Try.mono _ _ _ _
   | exact LeO.none _
   | refine LeO.ite ?_ ?_
   | refine LeO.bind ?_ (fun _ => ?_)
  ·intro y0 y1 y2 y3 y4 y5 y6 y7
   unfold laws_FnTried.j4
   repeat' first
   | (with_reducible exact ih0 _ _ _ _ _ _ _)
   | (with_reducible exact ih1 _ _ _ _ _ _ _)
   | (with_reducible exact ih2 _ _ _ _ _ _ _ _ _ _ _ _)
   | (with_reducible exact ih3 _ _ _ _ _ _ _ _ _ _ _ _)
   | (with_reducible exact ih4 _ _ _ _ _ _ _ _)
   | (with_reducible exact impl_Try.mono _ _ _ _)
   | (with_reducible exact laws_sameInts.mono _ _ _)
   | (with_reducible exact spec_DrawTry.mono _ _)
   | (with_reducible exact spec_Try.mono _ _ _ _)
   | (with_reducible exact LeO.refl _)
   | (with_reducible exact LeO.none _)
   | (with_reducible refine LeO.ite ?_ ?_)
   | (with_reducible refine LeO.bind ?_ (fun _ => ?_))
   | exact ih0 _ _ _ _ _ _ _
   | exact ih1 _ _ _ _ _ _ _
   | exact ih2 _ _ _ _ _ _ _ _ _ _ _ _
   | exact ih3 _ _ _ _ _ _ _ _ _ _ _ _
   | exact ih4 _ _ _ _ _ _ _ _
   | exact impl_Try.mono _ _ _ _
   | exact laws_sameInts.mono _ _ _
   | exact spec_DrawTry.mono _ _
   | exact spec_Try.mono _ _ _ _
   | exact LeO.none _
   | refine LeO.ite ?_ ?_
   | refine LeO.bind ?_ (fun _ => ?_)
theorem laws_FnTried.mono : ∀ a0 k, LeO (laws_FnTried.f k a0) (laws_FnTried.f (k + 1) a0) := by
 intro a0 k
 obtain ⟨ih0, ih1, ih2, ih3, ih4⟩ := laws_FnTried.mono_l k
 unfold laws_FnTried.f
 repeat' first
  | (with_reducible exact ih0 _ _ _ _ _ _ _)
  | (with_reducible exact ih1 _ _ _ _ _ _ _)
  | (with_reducible exact ih2 _ _ _ _ _ _ _ _ _ _ _ _)
  | (with_reducible exact ih3 _ _ _ _ _ _ _ _ _ _ _ _)
  | (with_reducible exact ih4 _ _ _ _ _ _ _ _)
  | (with_reducible exact impl_Try.mono _ _ _ _)
  | (with_reducible exact laws_sameInts.mono _ _ _)
  | (with_reducible exact spec_DrawTry.mono _ _)
  | (with_reducible exact spec_Try.mono _ _ _ _)
  | (with_reducible exact LeO.refl _)
  | (with_reducible exact LeO.none _)
  | (with_reducible refine LeO.ite ?_ ?_)
  | (with_reducible refine LeO.bind ?_ (fun _ => ?_))
  | exact ih0 _ _ _ _ _ _ _
  | exact ih1 _ _ _ _ _ _ _
  | exact ih2 _ _ _ _ _ _ _ _ _ _ _ _
  | exact ih3 _ _ _ _ _ _ _ _ _ _ _ _
  | exact ih4 _ _ _ _ _ _ _ _
  | exact impl_Try.mono _ _ _ _
  | exact laws_sameInts.mono _ _ _
  | exact spec_DrawTry.mono _ _
  | exact spec_Try.mono _ _ _ _
  | exact LeO.none _
  | refine LeO.ite ?_ ?_
  | refine LeO.bind ?_ (fun _ => ?_)
set_option maxHeartbeats 8000000 in
set_option maxRecDepth 100000 in
theorem laws_FnTried.calls (k : Nat) (A0 : Option Addr) (c0 : Nat) (l0 : List Int) (r : Bool) (w : World) (hr0 : Kd.C (Kd.int .u8) w A0 l0.length l0) (hc0 : l0.length ≤ c0) (h : laws_FnTried.f k l0 = some r) :
 Calls Try.prog 6 #[.slice A0 l0.length c0] w fun e w' => e = .returned (.bool r) ∧ Below w.heap.size w w' := by
 have hu51 := Try.underlying51
 have HR0 := Aside0.mk hr0
 have HC0 := Aside0.mk hc0
 clear hr0 hc0
 have HB := Aside0.mk (Below.refl w.heap.size w)
 have H : ((laws_big.f l0).bind fun t336 => (if t336 = true then (some true) else ((spec_DrawTry.f k l0).bind fun bt337 => ((impl_Try.f k bt337.1 bt337.2.1 bt337.2.2).bind fun bt344 => ((spec_Try.f k bt337.1 bt337.2.1 bt337.2.2).bind fun bt351 => (if (bt344.2.2 != bt351.2.2) = true then (some false) else ((impl_Try.f k 1 (([0, 0, 0, 0] : List Int)) (([(⟨0, 5, 0⟩ : S51), (⟨4, 0, 0⟩ : S51), (⟨5, 0, 0⟩ : S51)] : List (S51)))).bind fun bt364 => (if bt364.2.2 = true then (if (bt364.1.length : Int) = 3 then (if 0 < (bt364.1.length : Int) then (if rdOf false bt364.1 0 = true then (if 1 < (bt364.1.length : Int) then (if rdOf false bt364.1 1 = true then (laws_FnTried.j0 k bt337.1 bt337.2.1 bt337.2.2 bt344.1 bt344.2.1 bt344.2.2 true) else (if 2 < (bt364.1.length : Int) then (if rdOf false bt364.1 2 = true then ((laws_sameInts.f k bt364.2.1 (([1, 1, 1] : List Int))).bind fun t377 => (if t377 = true then (if (bt344.1.length : Int) > (bt337.2.2.length : Int) then (laws_FnTried.j0 k bt337.1 bt337.2.1 bt337.2.2 bt344.1 bt344.2.1 bt344.2.2 true) else (laws_FnTried.j0 k bt337.1 bt337.2.1 bt337.2.2 bt344.1 bt344.2.1 bt344.2.2 ((bt344.2.1.length : Int) != (bt344.1.length : Int)))) else (laws_FnTried.j0 k bt337.1 bt337.2.1 bt337.2.2 bt344.1 bt344.2.1 bt344.2.2 true))) else (laws_FnTried.j0 k bt337.1 bt337.2.1 bt337.2.2 bt344.1 bt344.2.1 bt344.2.2 true)) else (none))) else (none)) else (laws_FnTried.j0 k bt337.1 bt337.2.1 bt337.2.2 bt344.1 bt344.2.1 bt344.2.2 true)) else (none)) else (laws_FnTried.j0 k bt337.1 bt337.2.1 bt337.2.2 bt344.1 bt344.2.1 bt344.2.2 true)) else (laws_FnTried.j0 k bt337.1 bt337.2.1 bt337.2.2 bt344.1 bt344.2.1 bt344.2.2 true))))))))) = some r := h
 clear h
 replace H := Option.bind_eq_some_iff.mp H
 obtain ⟨t336, A20, H⟩ := H
 replace H : (if t336 = true then (some true) else ((spec_DrawTry.f k l0).bind fun bt337 => ((impl_Try.f k bt337.1 bt337.2.1 bt337.2.2).bind fun bt344 => ((spec_Try.f k bt337.1 bt337.2.1 bt337.2.2).bind fun bt351 => (if (bt344.2.2 != bt351.2.2) = true then (some false) else ((impl_Try.f k 1 (([0, 0, 0, 0] : List Int)) (([(⟨0, 5, 0⟩ : S51), (⟨4, 0, 0⟩ : S51), (⟨5, 0, 0⟩ : S51)] : List (S51)))).bind fun bt364 => (if bt364.2.2 = true then (if (bt364.1.length : Int) = 3 then (if 0 < (bt364.1.length : Int) then (if rdOf false bt364.1 0 = true then (if 1 < (bt364.1.length : Int) then (if rdOf false bt364.1 1 = true then (laws_FnTried.j0 k bt337.1 bt337.2.1 bt337.2.2 bt344.1 bt344.2.1 bt344.2.2 true) else (if 2 < (bt364.1.length : Int) then (if rdOf false bt364.1 2 = true then ((laws_sameInts.f k bt364.2.1 (([1, 1, 1] : List Int))).bind fun t377 => (if t377 = true then (if (bt344.1.length : Int) > (bt337.2.2.length : Int) then (laws_FnTried.j0 k bt337.1 bt337.2.1 bt337.2.2 bt344.1 bt344.2.1 bt344.2.2 true) else (laws_FnTried.j0 k bt337.1 bt337.2.1 bt337.2.2 bt344.1 bt344.2.1 bt344.2.2 ((bt344.2.1.length : Int) != (bt344.1.length : Int)))) else (laws_FnTried.j0 k bt337.1 bt337.2.1 bt337.2.2 bt344.1 bt344.2.1 bt344.2.2 true))) else (laws_FnTried.j0 k bt337.1 bt337.2.1 bt337.2.2 bt344.1 bt344.2.1 bt344.2.2 true)) else (none))) else (none)) else (laws_FnTried.j0 k bt337.1 bt337.2.1 bt337.2.2 bt344.1 bt344.2.1 bt344.2.2 true)) else (none)) else (laws_FnTried.j0 k bt337.1 bt337.2.1 bt337.2.2 bt344.1 bt344.2.1 bt344.2.2 true)) else (laws_FnTried.j0 k bt337.1 bt337.2.1 bt337.2.2 bt344.1 bt344.2.1 bt344.2.2 true)))))))) = some r := H
 have A2 := Aside0.mk A20
 clear A20
 by_cases c3 : t336 = true
 ·subst c3
  have H1 : (some true) = some r := by rw [if_pos rfl] at H; exact H
  clear H
  have H := H1
  clear H1
  obtain rfl := Option.some.inj H
  go_enter Try.func6, Try.ntmps6
  go_wp2_with (first | (go_at_call 10; (with_reducible refine (laws_big.calls _ _ l0 true _ ?side1 ?side2 A2.out).mono ?_); (case side1 => repeat (first | exact HR0.out | (with_reducible refine Kd.C_alloc ?_ _) | (with_reducible refine Kd.C_drewN ?_ _) | (with_reducible refine Kd.C_drew ?_))); (case side2 => exact HC0.out); rintro e w' ⟨rfl, ⟨nd, rfl⟩⟩; (try first | exact ⟨rfl, _, World.drewN_drewN _ _ _⟩ | exact ⟨rfl, _, Eq.trans (World.drewN_drewN _ _ _) (congrArg (World.drewN _) (Nat.add_assoc _ _ _))⟩)))
  repeat (go_quiet (first | (go_at_call 10; (with_reducible refine (laws_big.calls _ _ l0 true _ ?side1 ?side2 A2.out).mono ?_); (case side1 => repeat (first | exact HR0.out | (with_reducible refine Kd.C_alloc ?_ _) | (with_reducible refine Kd.C_drewN ?_ _) | (with_reducible refine Kd.C_drew ?_))); (case side2 => exact HC0.out); rintro e w' ⟨rfl, ⟨nd, rfl⟩⟩; (try first | exact ⟨rfl, _, World.drewN_drewN _ _ _⟩ | exact ⟨rfl, _, Eq.trans (World.drewN_drewN _ _ _) (congrArg (World.drewN _) (Nat.add_assoc _ _ _))⟩))); try go_wp2_with (first | (go_at_call 10; (with_reducible refine (laws_big.calls _ _ l0 true _ ?side1 ?side2 A2.out).mono ?_); (case side1 => repeat (first | exact HR0.out | (with_reducible refine Kd.C_alloc ?_ _) | (with_reducible refine Kd.C_drewN ?_ _) | (with_reducible refine Kd.C_drew ?_))); (case side2 => exact HC0.out); rintro e w' ⟨rfl, ⟨nd, rfl⟩⟩; (try first | exact ⟨rfl, _, World.drewN_drewN _ _ _⟩ | exact ⟨rfl, _, Eq.trans (World.drewN_drewN _ _ _) (congrArg (World.drewN _) (Nat.add_assoc _ _ _))⟩))))
  go_ret
  exact ⟨by first | rfl | (simp [errW_none, errW_some] <;> rfl) | (simp [*, errW_none, errW_some] <;> rfl), by repeat (first | (with_reducible first | exact HB.out | apply below_alloc | apply pw_below_drewN | apply below_drew1) | exact HB.out)⟩
 ·replace c3 := Bool.eq_false_iff.mpr c3
  subst c3
  have H1 : ((spec_DrawTry.f k l0).bind fun bt337 => ((impl_Try.f k bt337.1 bt337.2.1 bt337.2.2).bind fun bt344 => ((spec_Try.f k bt337.1 bt337.2.1 bt337.2.2).bind fun bt351 => (if (bt344.2.2 != bt351.2.2) = true then (some false) else ((impl_Try.f k 1 (([0, 0, 0, 0] : List Int)) (([(⟨0, 5, 0⟩ : S51), (⟨4, 0, 0⟩ : S51), (⟨5, 0, 0⟩ : S51)] : List (S51)))).bind fun bt364 => (if bt364.2.2 = true then (if (bt364.1.length : Int) = 3 then (if 0 < (bt364.1.length : Int) then (if rdOf false bt364.1 0 = true then (if 1 < (bt364.1.length : Int) then (if rdOf false bt364.1 1 = true then (laws_FnTried.j0 k bt337.1 bt337.2.1 bt337.2.2 bt344.1 bt344.2.1 bt344.2.2 true) else (if 2 < (bt364.1.length : Int) then (if rdOf false bt364.1 2 = true then ((laws_sameInts.f k bt364.2.1 (([1, 1, 1] : List Int))).bind fun t377 => (if t377 = true then (if (bt344.1.length : Int) > (bt337.2.2.length : Int) then (laws_FnTried.j0 k bt337.1 bt337.2.1 bt337.2.2 bt344.1 bt344.2.1 bt344.2.2 true) else (laws_FnTried.j0 k bt337.1 bt337.2.1 bt337.2.2 bt344.1 bt344.2.1 bt344.2.2 ((bt344.2.1.length : Int) != (bt344.1.length : Int)))) else (laws_FnTried.j0 k bt337.1 bt337.2.1 bt337.2.2 bt344.1 bt344.2.1 bt344.2.2 true))) else (laws_FnTried.j0 k bt337.1 bt337.2.1 bt337.2.2 bt344.1 bt344.2.1 bt344.2.2 true)) else (none))) else (none)) else (laws_FnTried.j0 k bt337.1 bt337.2.1 bt337.2.2 bt344.1 bt344.2.1 bt344.2.2 true)) else (none)) else (laws_FnTried.j0 k bt337.1 bt337.2.1 bt337.2.2 bt344.1 bt344.2.1 bt344.2.2 true)) else (laws_FnTried.j0 k bt337.1 bt337.2.1 bt337.2.2 bt344.1 bt344.2.1 bt344.2.2 true))))))) = some r := by rw [if_neg (show ¬ (false = true) by decide)] at H; exact H
  clear H
  have H := H1
  clear H1
  replace H := Option.bind_eq_some_iff.mp H
  obtain ⟨⟨t337, t338, t339⟩, A40, H⟩ := H
  replace H : ((impl_Try.f k t337 t338 t339).bind fun bt344 => ((spec_Try.f k t337 t338 t339).bind fun bt351 => (if (bt344.2.2 != bt351.2.2) = true then (some false) else ((impl_Try.f k 1 (([0, 0, 0, 0] : List Int)) (([(⟨0, 5, 0⟩ : S51), (⟨4, 0, 0⟩ : S51), (⟨5, 0, 0⟩ : S51)] : List (S51)))).bind fun bt364 => (if bt364.2.2 = true then (if (bt364.1.length : Int) = 3 then (if 0 < (bt364.1.length : Int) then (if rdOf false bt364.1 0 = true then (if 1 < (bt364.1.length : Int) then (if rdOf false bt364.1 1 = true then (laws_FnTried.j0 k t337 t338 t339 bt344.1 bt344.2.1 bt344.2.2 true) else (if 2 < (bt364.1.length : Int) then (if rdOf false bt364.1 2 = true then ((laws_sameInts.f k bt364.2.1 (([1, 1, 1] : List Int))).bind fun t377 => (if t377 = true then (if (bt344.1.length : Int) > (t339.length : Int) then (laws_FnTried.j0 k t337 t338 t339 bt344.1 bt344.2.1 bt344.2.2 true) else (laws_FnTried.j0 k t337 t338 t339 bt344.1 bt344.2.1 bt344.2.2 ((bt344.2.1.length : Int) != (bt344.1.length : Int)))) else (laws_FnTried.j0 k t337 t338 t339 bt344.1 bt344.2.1 bt344.2.2 true))) else (laws_FnTried.j0 k t337 t338 t339 bt344.1 bt344.2.1 bt344.2.2 true)) else (none))) else (none)) else (laws_FnTried.j0 k t337 t338 t339 bt344.1 bt344.2.1 bt344.2.2 true)) else (none)) else (laws_FnTried.j0 k t337 t338 t339 bt344.1 bt344.2.1 bt344.2.2 true)) else (laws_FnTried.j0 k t337 t338 t339 bt344.1 bt344.2.1 bt344.2.2 true)))))) = some r := H
  have A4 := Aside0.mk A40
  clear A40
  replace H := Option.bind_eq_some_iff.mp H
  obtain ⟨⟨t344, t345, t346⟩, A50, H⟩ := H
  replace H : ((spec_Try.f k t337 t338 t339).bind fun bt351 => (if (t346 != bt351.2.2) = true then (some false) else ((impl_Try.f k 1 (([0, 0, 0, 0] : List Int)) (([(⟨0, 5, 0⟩ : S51), (⟨4, 0, 0⟩ : S51), (⟨5, 0, 0⟩ : S51)] : List (S51)))).bind fun bt364 => (if bt364.2.2 = true then (if (bt364.1.length : Int) = 3 then (if 0 < (bt364.1.length : Int) then (if rdOf false bt364.1 0 = true then (if 1 < (bt364.1.length : Int) then (if rdOf false bt364.1 1 = true then (laws_FnTried.j0 k t337 t338 t339 t344 t345 t346 true) else (if 2 < (bt364.1.length : Int) then (if rdOf false bt364.1 2 = true then ((laws_sameInts.f k bt364.2.1 (([1, 1, 1] : List Int))).bind fun t377 => (if t377 = true then (if (t344.length : Int) > (t339.length : Int) then (laws_FnTried.j0 k t337 t338 t339 t344 t345 t346 true) else (laws_FnTried.j0 k t337 t338 t339 t344 t345 t346 ((t345.length : Int) != (t344.length : Int)))) else (laws_FnTried.j0 k t337 t338 t339 t344 t345 t346 true))) else (laws_FnTried.j0 k t337 t338 t339 t344 t345 t346 true)) else (none))) else (none)) else (laws_FnTried.j0 k t337 t338 t339 t344 t345 t346 true)) else (none)) else (laws_FnTried.j0 k t337 t338 t339 t344 t345 t346 true)) else (laws_FnTried.j0 k t337 t338 t339 t344 t345 t346 true))))) = some r := H
  have A5 := Aside0.mk A50
  clear A50
  replace H := Option.bind_eq_some_iff.mp H
  obtain ⟨⟨t351, t352, t353⟩, A60, H⟩ := H
  replace H : (if (t346 != t353) = true then (some false) else ((impl_Try.f k 1 (([0, 0, 0, 0] : List Int)) (([(⟨0, 5, 0⟩ : S51), (⟨4, 0, 0⟩ : S51), (⟨5, 0, 0⟩ : S51)] : List (S51)))).bind fun bt364 => (if bt364.2.2 = true then (if (bt364.1.length : Int) = 3 then (if 0 < (bt364.1.length : Int) then (if rdOf false bt364.1 0 = true then (if 1 < (bt364.1.length : Int) then (if rdOf false bt364.1 1 = true then (laws_FnTried.j0 k t337 t338 t339 t344 t345 t346 true) else (if 2 < (bt364.1.length : Int) then (if rdOf false bt364.1 2 = true then ((laws_sameInts.f k bt364.2.1 (([1, 1, 1] : List Int))).bind fun t377 => (if t377 = true then (if (t344.length : Int) > (t339.length : Int) then (laws_FnTried.j0 k t337 t338 t339 t344 t345 t346 true) else (laws_FnTried.j0 k t337 t338 t339 t344 t345 t346 ((t345.length : Int) != (t344.length : Int)))) else (laws_FnTried.j0 k t337 t338 t339 t344 t345 t346 true))) else (laws_FnTried.j0 k t337 t338 t339 t344 t345 t346 true)) else (none))) else (none)) else (laws_FnTried.j0 k t337 t338 t339 t344 t345 t346 true)) else (none)) else (laws_FnTried.j0 k t337 t338 t339 t344 t345 t346 true)) else (laws_FnTried.j0 k t337 t338 t339 t344 t345 t346 true)))) = some r := H
  have A6 := Aside0.mk A60
  clear A60
  by_cases c7 : (t346 != t353) = true
  ·rw [if_pos c7] at H
   have c7b0 : (t346 != t353) = true := c7
   (try (have c7b1 : decide (t346 = t353) = false := by simpa using c7))
   (try (have c7b2 : (t346 == t353) = false := by simpa using c7))
   (try (have c7b3 : ¬ (t346 = t353) := by simpa using c7))
   clear c7
   obtain rfl := Option.some.inj H
   go_enter Try.func6, Try.ntmps6
   go_wp2_with (first | (go_at_call 10; (with_reducible refine (laws_big.calls _ _ l0 false _ ?side1 ?side2 A2.out).mono ?_); (case side1 => repeat (first | exact HR0.out | (with_reducible refine Kd.C_alloc ?_ _) | (with_reducible refine Kd.C_drewN ?_ _) | (with_reducible refine Kd.C_drew ?_))); (case side2 => exact HC0.out); rintro e w' ⟨rfl, ⟨nd, rfl⟩⟩; (try first | exact ⟨rfl, _, World.drewN_drewN _ _ _⟩ | exact ⟨rfl, _, Eq.trans (World.drewN_drewN _ _ _) (congrArg (World.drewN _) (Nat.add_assoc _ _ _))⟩)) | (go_at_call 25; (with_reducible refine (spec_DrawTry.calls k _ _ l0 t337 t338 t339 _ ?side1 ?side2 A4.out).mono ?_); (case side1 => repeat (first | exact HR0.out | (with_reducible refine Kd.C_alloc ?_ _) | (with_reducible refine Kd.C_drewN ?_ _) | (with_reducible refine Kd.C_drew ?_))); (case side2 => exact HC0.out); rintro e w8 ⟨v340, v342, rfl, ho0, ho1, hb⟩; have n0_ := Aside0.mk (Kd.R_lower ho0 (below_size (by repeat (first | (with_reducible first | exact HB.out | apply below_alloc | apply pw_below_drewN | apply below_drew1) | exact HB.out)))); have n1_ := Aside0.mk (Kd.R_lower ho1 (below_size (by repeat (first | (with_reducible first | exact HB.out | apply below_alloc | apply pw_below_drewN | apply below_drew1) | exact HB.out)))); have n2_ := Aside0.mk (below_step (by repeat (first | (with_reducible first | exact HB.out | apply below_alloc | apply pw_below_drewN | apply below_drew1) | exact HB.out)) hb); clear HB; have HO341 := n0_; have HO343 := n1_; have HB := n2_; clear n0_ n1_ n2_; (try clear hb); (try clear hb2); (try clear hk); (try clear hi); (try clear ho0); (try clear ho1); obtain ⟨Ao9, co9, eo9⟩ := Kd.R_slice HO341.out; subst eo9; obtain ⟨Ao10, co10, eo10⟩ := Kd.R_slice HO343.out; subst eo10) | (go_at_call 26; (with_reducible refine (impl_Try.calls k t337 _ _ t338 _ _ t339 t344 t345 t346 _ ?side1 ?side2 ?side3 ?side4 A5.out).mono ?_); (case side1 => repeat (first | exact (Kd.R_reads' HO341.out).2.2 | (with_reducible refine Kd.C_alloc ?_ _) | (with_reducible refine Kd.C_drewN ?_ _) | (with_reducible refine Kd.C_drew ?_))); (case side2 => exact (Kd.R_reads' HO341.out).2.1); (case side3 => repeat (first | exact (Kd.R_reads' HO343.out).2.2 | (with_reducible refine Kd.C_alloc ?_ _) | (with_reducible refine Kd.C_drewN ?_ _) | (with_reducible refine Kd.C_drew ?_))); (case side4 => exact (Kd.R_reads' HO343.out).2.1); rintro e w11 ⟨v347, v349, rfl, ho0, ho1, hb⟩; have n0_ := Aside0.mk (Kd.R_elder' (by (with_reducible repeat (first | apply Kd.R_alloc | apply Kd.R_drewN | apply Kd.R_drew)); exact HO341.out) (Kd.R_base ho1) hb); have n1_ := Aside0.mk (Kd.R_below (by (with_reducible repeat (first | apply Kd.R_alloc | apply Kd.R_drewN | apply Kd.R_drew)); exact HO343.out) hb); have n2_ := Aside0.mk (Kd.R_lower ho0 (below_size (by repeat (first | (with_reducible first | exact HB.out | apply below_alloc | apply pw_below_drewN | apply below_drew1) | exact HB.out)))); have n3_ := Aside0.mk (Kd.R_lower (Kd.R_new' ho1 (Kd.R_lt (by (with_reducible repeat (first | apply Kd.R_alloc | apply Kd.R_drewN | apply Kd.R_drew)); exact HO341.out))) (below_size (by repeat (first | (with_reducible first | exact HB.out | apply below_alloc | apply pw_below_drewN | apply below_drew1) | exact HB.out)))); have n4_ := Aside0.mk (below_step (by repeat (first | (with_reducible first | exact HB.out | apply below_alloc | apply pw_below_drewN | apply below_drew1) | exact HB.out)) hb); clear HO341; clear HO343; clear HB; have HO341 := n0_; have HO343 := n1_; have HO348 := n2_; have HO350 := n3_; have HB := n4_; clear n0_ n1_ n2_ n3_ n4_; (try clear hb); (try clear hb2); (try clear hk); (try clear hi); (try clear ho0); (try clear ho1)) | (go_at_call 27; (with_reducible refine (spec_Try.calls k t337 _ _ t338 _ _ t339 t351 t352 t353 _ ?side1 ?side2 ?side3 ?side4 A6.out).mono ?_); (case side1 => repeat (first | exact (Kd.R_reads' HO341.out).2.2 | (with_reducible refine Kd.C_alloc ?_ _) | (with_reducible refine Kd.C_drewN ?_ _) | (with_reducible refine Kd.C_drew ?_))); (case side2 => exact (Kd.R_reads' HO341.out).2.1); (case side3 => repeat (first | exact (Kd.R_reads' HO343.out).2.2 | (with_reducible refine Kd.C_alloc ?_ _) | (with_reducible refine Kd.C_drewN ?_ _) | (with_reducible refine Kd.C_drew ?_))); (case side4 => exact (Kd.R_reads' HO343.out).2.1); rintro e w12 ⟨v354, v356, rfl, ho0, ho1, hb⟩; have n0_ := Aside0.mk (Kd.R_elder' (by (with_reducible repeat (first | apply Kd.R_alloc | apply Kd.R_drewN | apply Kd.R_drew)); exact HO341.out) (Kd.R_base ho1) hb); have n1_ := Aside0.mk (Kd.R_below (by (with_reducible repeat (first | apply Kd.R_alloc | apply Kd.R_drewN | apply Kd.R_drew)); exact HO343.out) hb); have n2_ := Aside0.mk (Kd.R_elder' (by (with_reducible repeat (first | apply Kd.R_alloc | apply Kd.R_drewN | apply Kd.R_drew)); exact HO348.out) (Kd.R_base ho0) hb); have n3_ := Aside0.mk (Kd.R_elder' (by (with_reducible repeat (first | apply Kd.R_alloc | apply Kd.R_drewN | apply Kd.R_drew)); exact HO350.out) (Kd.R_base ho1) hb); have n4_ := Aside0.mk (Kd.R_lower (Kd.R_new' ho0 (Kd.R_lt (by (with_reducible repeat (first | apply Kd.R_alloc | apply Kd.R_drewN | apply Kd.R_drew)); exact HO348.out))) (below_size (by repeat (first | (with_reducible first | exact HB.out | apply below_alloc | apply pw_below_drewN | apply below_drew1) | exact HB.out)))); have n5_ := Aside0.mk (Kd.R_lower (Kd.R_new' (Kd.R_new' ho1 (Kd.R_lt (by (with_reducible repeat (first | apply Kd.R_alloc | apply Kd.R_drewN | apply Kd.R_drew)); exact HO341.out))) (Kd.R_lt (by (with_reducible repeat (first | apply Kd.R_alloc | apply Kd.R_drewN | apply Kd.R_drew)); exact HO350.out))) (below_size (by repeat (first | (with_reducible first | exact HB.out | apply below_alloc | apply pw_below_drewN | apply below_drew1) | exact HB.out)))); have n6_ := Aside0.mk (below_step (by repeat (first | (with_reducible first | exact HB.out | apply below_alloc | apply pw_below_drewN | apply below_drew1) | exact HB.out)) hb); clear HO341; clear HO343; clear HO348; clear HO350; clear HB; have HO341 := n0_; have HO343 := n1_; have HO348 := n2_; have HO350 := n3_; have HO355 := n4_; have HO357 := n5_; have HB := n6_; clear n0_ n1_ n2_ n3_ n4_ n5_ n6_; (try clear hb); (try clear hb2); (try clear hk); (try clear hi); (try clear ho0); (try clear ho1)))
   repeat (go_quiet (first | (go_at_call 10; (with_reducible refine (laws_big.calls _ _ l0 false _ ?side1 ?side2 A2.out).mono ?_); (case side1 => repeat (first | exact HR0.out | (with_reducible refine Kd.C_alloc ?_ _) | (with_reducible refine Kd.C_drewN ?_ _) | (with_reducible refine Kd.C_drew ?_))); (case side2 => exact HC0.out); rintro e w' ⟨rfl, ⟨nd, rfl⟩⟩; (try first | exact ⟨rfl, _, World.drewN_drewN _ _ _⟩ | exact ⟨rfl, _, Eq.trans (World.drewN_drewN _ _ _) (congrArg (World.drewN _) (Nat.add_assoc _ _ _))⟩)) | (go_at_call 25; (with_reducible refine (spec_DrawTry.calls k _ _ l0 t337 t338 t339 _ ?side1 ?side2 A4.out).mono ?_); (case side1 => repeat (first | exact HR0.out | (with_reducible refine Kd.C_alloc ?_ _) | (with_reducible refine Kd.C_drewN ?_ _) | (with_reducible refine Kd.C_drew ?_))); (case side2 => exact HC0.out); rintro e w8 ⟨v340, v342, rfl, ho0, ho1, hb⟩; have n0_ := Aside0.mk (Kd.R_lower ho0 (below_size (by repeat (first | (with_reducible first | exact HB.out | apply below_alloc | apply pw_below_drewN | apply below_drew1) | exact HB.out)))); have n1_ := Aside0.mk (Kd.R_lower ho1 (below_size (by repeat (first | (with_reducible first | exact HB.out | apply below_alloc | apply pw_below_drewN | apply below_drew1) | exact HB.out)))); have n2_ := Aside0.mk (below_step (by repeat (first | (with_reducible first | exact HB.out | apply below_alloc | apply pw_below_drewN | apply below_drew1) | exact HB.out)) hb); clear HB; have HO341 := n0_; have HO343 := n1_; have HB := n2_; clear n0_ n1_ n2_; (try clear hb); (try clear hb2); (try clear hk); (try clear hi); (try clear ho0); (try clear ho1); obtain ⟨Ao9, co9, eo9⟩ := Kd.R_slice HO341.out; subst eo9; obtain ⟨Ao10, co10, eo10⟩ := Kd.R_slice HO343.out; subst eo10) | (go_at_call 26; (with_reducible refine (impl_Try.calls k t337 _ _ t338 _ _ t339 t344 t345 t346 _ ?side1 ?side2 ?side3 ?side4 A5.out).mono ?_); (case side1 => repeat (first | exact (Kd.R_reads' HO341.out).2.2 | (with_reducible refine Kd.C_alloc ?_ _) | (with_reducible refine Kd.C_drewN ?_ _) | (with_reducible refine Kd.C_drew ?_))); (case side2 => exact (Kd.R_reads' HO341.out).2.1); (case side3 => repeat (first | exact (Kd.R_reads' HO343.out).2.2 | (with_reducible refine Kd.C_alloc ?_ _) | (with_reducible refine Kd.C_drewN ?_ _) | (with_reducible refine Kd.C_drew ?_))); (case side4 => exact (Kd.R_reads' HO343.out).2.1); rintro e w11 ⟨v347, v349, rfl, ho0, ho1, hb⟩; have n0_ := Aside0.mk (Kd.R_elder' (by (with_reducible repeat (first | apply Kd.R_alloc | apply Kd.R_drewN | apply Kd.R_drew)); exact HO341.out) (Kd.R_base ho1) hb); have n1_ := Aside0.mk (Kd.R_below (by (with_reducible repeat (first | apply Kd.R_alloc | apply Kd.R_drewN | apply Kd.R_drew)); exact HO343.out) hb); have n2_ := Aside0.mk (Kd.R_lower ho0 (below_size (by repeat (first | (with_reducible first | exact HB.out | apply below_alloc | apply pw_below_drewN | apply below_drew1) | exact HB.out)))); have n3_ := Aside0.mk (Kd.R_lower (Kd.R_new' ho1 (Kd.R_lt (by (with_reducible repeat (first | apply Kd.R_alloc | apply Kd.R_drewN | apply Kd.R_drew)); exact HO341.out))) (below_size (by repeat (first | (with_reducible first | exact HB.out | apply below_alloc | apply pw_below_drewN | apply below_drew1) | exact HB.out)))); have n4_ := Aside0.mk (below_step (by repeat (first | (with_reducible first | exact HB.out | apply below_alloc | apply pw_below_drewN | apply below_drew1) | exact HB.out)) hb); clear HO341; clear HO343; clear HB; have HO341 := n0_; have HO343 := n1_; have HO348 := n2_; have HO350 := n3_; have HB := n4_; clear n0_ n1_ n2_ n3_ n4_; (try clear hb); (try clear hb2); (try clear hk); (try clear hi); (try clear ho0); (try clear ho1)) | (go_at_call 27; (with_reducible refine (spec_Try.calls k t337 _ _ t338 _ _ t339 t351 t352 t353 _ ?side1 ?side2 ?side3 ?side4 A6.out).mono ?_); (case side1 => repeat (first | exact (Kd.R_reads' HO341.out).2.2 | (with_reducible refine Kd.C_alloc ?_ _) | (with_reducible refine Kd.C_drewN ?_ _) | (with_reducible refine Kd.C_drew ?_))); (case side2 => exact (Kd.R_reads' HO341.out).2.1); (case side3 => repeat (first | exact (Kd.R_reads' HO343.out).2.2 | (with_reducible refine Kd.C_alloc ?_ _) | (with_reducible refine Kd.C_drewN ?_ _) | (with_reducible refine Kd.C_drew ?_))); (case side4 => exact (Kd.R_reads' HO343.out).2.1); rintro e w12 ⟨v354, v356, rfl, ho0, ho1, hb⟩; have n0_ := Aside0.mk (Kd.R_elder' (by (with_reducible repeat (first | apply Kd.R_alloc | apply Kd.R_drewN | apply Kd.R_drew)); exact HO341.out) (Kd.R_base ho1) hb); have n1_ := Aside0.mk (Kd.R_below (by (with_reducible repeat (first | apply Kd.R_alloc | apply Kd.R_drewN | apply Kd.R_drew)); exact HO343.out) hb); have n2_ := Aside0.mk (Kd.R_elder' (by (with_reducible repeat (first | apply Kd.R_alloc | apply Kd.R_drewN | apply Kd.R_drew)); exact HO348.out) (Kd.R_base ho0) hb); have n3_ := Aside0.mk (Kd.R_elder' (by (with_reducible repeat (first | apply Kd.R_alloc | apply Kd.R_drewN | apply Kd.R_drew)); exact HO350.out) (Kd.R_base ho1) hb); have n4_ := Aside0.mk (Kd.R_lower (Kd.R_new' ho0 (Kd.R_lt (by (with_reducible repeat (first | apply Kd.R_alloc | apply Kd.R_drewN | apply Kd.R_drew)); exact HO348.out))) (below_size (by repeat (first | (with_reducible first | exact HB.out | apply below_alloc | apply pw_below_drewN | apply below_drew1) | exact HB.out)))); have n5_ := Aside0.mk (Kd.R_lower (Kd.R_new' (Kd.R_new' ho1 (Kd.R_lt (by (with_reducible repeat (first | apply Kd.R_alloc | apply Kd.R_drewN | apply Kd.R_drew)); exact HO341.out))) (Kd.R_lt (by (with_reducible repeat (first | apply Kd.R_alloc | apply Kd.R_drewN | apply Kd.R_drew)); exact HO350.out))) (below_size (by repeat (first | (with_reducible first | exact HB.out | apply below_alloc | apply pw_below_drewN | apply below_drew1) | exact HB.out)))); have n6_ := Aside0.mk (below_step (by repeat (first | (with_reducible first | exact HB.out | apply below_alloc | apply pw_below_drewN | apply below_drew1) | exact HB.out)) hb); clear HO341; clear HO343; clear HO348; clear HO350; clear HB; have HO341 := n0_; have HO343 := n1_; have HO348 := n2_; have HO350 := n3_; have HO355 := n4_; have HO357 := n5_; have HB := n6_; clear n0_ n1_ n2_ n3_ n4_ n5_ n6_; (try clear hb); (try clear hb2); (try clear hk); (try clear hi); (try clear ho0); (try clear ho1))); try go_wp2_with (first | (go_at_call 10; (with_reducible refine (laws_big.calls _ _ l0 false _ ?side1 ?side2 A2.out).mono ?_); (case side1 => repeat (first | exact HR0.out | (with_reducible refine Kd.C_alloc ?_ _) | (with_reducible refine Kd.C_drewN ?_ _) | (with_reducible refine Kd.C_drew ?_))); (case side2 => exact HC0.out); rintro e w' ⟨rfl, ⟨nd, rfl⟩⟩; (try first | exact ⟨rfl, _, World.drewN_drewN _ _ _⟩ | exact ⟨rfl, _, Eq.trans (World.drewN_drewN _ _ _) (congrArg (World.drewN _) (Nat.add_assoc _ _ _))⟩)) | (go_at_call 25; (with_reducible refine (spec_DrawTry.calls k _ _ l0 t337 t338 t339 _ ?side1 ?side2 A4.out).mono ?_); (case side1 => repeat (first | exact HR0.out | (with_reducible refine Kd.C_alloc ?_ _) | (with_reducible refine Kd.C_drewN ?_ _) | (with_reducible refine Kd.C_drew ?_))); (case side2 => exact HC0.out); rintro e w8 ⟨v340, v342, rfl, ho0, ho1, hb⟩; have n0_ := Aside0.mk (Kd.R_lower ho0 (below_size (by repeat (first | (with_reducible first | exact HB.out | apply below_alloc | apply pw_below_drewN | apply below_drew1) | exact HB.out)))); have n1_ := Aside0.mk (Kd.R_lower ho1 (below_size (by repeat (first | (with_reducible first | exact HB.out | apply below_alloc | apply pw_below_drewN | apply below_drew1) | exact HB.out)))); have n2_ := Aside0.mk (below_step (by repeat (first | (with_reducible first | exact HB.out | apply below_alloc | apply pw_below_drewN | apply below_drew1) | exact HB.out)) hb); clear HB; have HO341 := n0_; have HO343 := n1_; have HB := n2_; clear n0_ n1_ n2_; (try clear hb); (try clear hb2); (try clear hk); (try clear hi); (try clear ho0); (try clear ho1); obtain ⟨Ao9, co9, eo9⟩ := Kd.R_slice HO341.out; subst eo9; obtain ⟨Ao10, co10, eo10⟩ := Kd.R_slice HO343.out; subst eo10) | (go_at_call 26; (with_reducible refine (impl_Try.calls k t337 _ _ t338 _ _ t339 t344 t345 t346 _ ?side1 ?side2 ?side3 ?side4 A5.out).mono ?_); (case side1 => repeat (first | exact (Kd.R_reads' HO341.out).2.2 | (with_reducible refine Kd.C_alloc ?_ _) | (with_reducible refine Kd.C_drewN ?_ _) | (with_reducible refine Kd.C_drew ?_))); (case side2 => exact (Kd.R_reads' HO341.out).2.1); (case side3 => repeat (first | exact (Kd.R_reads' HO343.out).2.2 | (with_reducible refine Kd.C_alloc ?_ _) | (with_reducible refine Kd.C_drewN ?_ _) | (with_reducible refine Kd.C_drew ?_))); (case side4 => exact (Kd.R_reads' HO343.out).2.1); rintro e w11 ⟨v347, v349, rfl, ho0, ho1, hb⟩; have n0_ := Aside0.mk (Kd.R_elder' (by (with_reducible repeat (first | apply Kd.R_alloc | apply Kd.R_drewN | apply Kd.R_drew)); exact HO341.out) (Kd.R_base ho1) hb); have n1_ := Aside0.mk (Kd.R_below (by (with_reducible repeat (first | apply Kd.R_alloc | apply Kd.R_drewN | apply Kd.R_drew)); exact HO343.out) hb); have n2_ := Aside0.mk (Kd.R_lower ho0 (below_size (by repeat (first | (with_reducible first | exact HB.out | apply below_alloc | apply pw_below_drewN | apply below_drew1) | exact HB.out)))); have n3_ := Aside0.mk (Kd.R_lower (Kd.R_new' ho1 (Kd.R_lt (by (with_reducible repeat (first | apply Kd.R_alloc | apply Kd.R_drewN | apply Kd.R_drew)); exact HO341.out))) (below_size (by repeat (first | (with_reducible first | exact HB.out | apply below_alloc | apply pw_below_drewN | apply below_drew1) | exact HB.out)))); have n4_ := Aside0.mk (below_step (by repeat (first | (with_reducible first | exact HB.out | apply below_alloc | apply pw_below_drewN | apply below_drew1) | exact HB.out)) hb); clear HO341; clear HO343; clear HB; have HO341 := n0_; have HO343 := n1_; have HO348 := n2_; have HO350 := n3_; have HB := n4_; clear n0_ n1_ n2_ n3_ n4_; (try clear hb); (try clear hb2); (try clear hk); (try clear hi); (try clear ho0); (try clear ho1)) | (go_at_call 27; (with_reducible refine (spec_Try.calls k t337 _ _ t338 _ _ t339 t351 t352 t353 _ ?side1 ?side2 ?side3 ?side4 A6.out).mono ?_); (case side1 => repeat (first | exact (Kd.R_reads' HO341.out).2.2 | (with_reducible refine Kd.C_alloc ?_ _) | (with_reducible refine Kd.C_drewN ?_ _) | (with_reducible refine Kd.C_drew ?_))); (case side2 => exact (Kd.R_reads' HO341.out).2.1); (case side3 => repeat (first | exact (Kd.R_reads' HO343.out).2.2 | (with_reducible refine Kd.C_alloc ?_ _) | (with_reducible refine Kd.C_drewN ?_ _) | (with_reducible refine Kd.C_drew ?_))); (case side4 => exact (Kd.R_reads' HO343.out).2.1); rintro e w12 ⟨v354, v356, rfl, ho0, ho1, hb⟩; have n0_ := Aside0.mk (Kd.R_elder' (by (with_reducible repeat (first | apply Kd.R_alloc | apply Kd.R_drewN | apply Kd.R_drew)); exact HO341.out) (Kd.R_base ho1) hb); have n1_ := Aside0.mk (Kd.R_below (by (with_reducible repeat (first | apply Kd.R_alloc | apply Kd.R_drewN | apply Kd.R_drew)); exact HO343.out) hb); have n2_ := Aside0.mk (Kd.R_elder' (by (with_reducible repeat (first | apply Kd.R_alloc | apply Kd.R_drewN | apply Kd.R_drew)); exact HO348.out) (Kd.R_base ho0) hb); have n3_ := Aside0.mk (Kd.R_elder' (by (with_reducible repeat (first | apply Kd.R_alloc | apply Kd.R_drewN | apply Kd.R_drew)); exact HO350.out) (Kd.R_base ho1) hb); have n4_ := Aside0.mk (Kd.R_lower (Kd.R_new' ho0 (Kd.R_lt (by (with_reducible repeat (first | apply Kd.R_alloc | apply Kd.R_drewN | apply Kd.R_drew)); exact HO348.out))) (below_size (by repeat (first | (with_reducible first | exact HB.out | apply below_alloc | apply pw_below_drewN | apply below_drew1) | exact HB.out)))); have n5_ := Aside0.mk (Kd.R_lower (Kd.R_new' (Kd.R_new' ho1 (Kd.R_lt (by (with_reducible repeat (first | apply Kd.R_alloc | apply Kd.R_drewN | apply Kd.R_drew)); exact HO341.out))) (Kd.R_lt (by (with_reducible repeat (first | apply Kd.R_alloc | apply Kd.R_drewN | apply Kd.R_drew)); exact HO350.out))) (below_size (by repeat (first | (with_reducible first | exact HB.out | apply below_alloc | apply pw_below_drewN | apply below_drew1) | exact HB.out)))); have n6_ := Aside0.mk (below_step (by repeat (first | (with_reducible first | exact HB.out | apply below_alloc | apply pw_below_drewN | apply below_drew1) | exact HB.out)) hb); clear HO341; clear HO343; clear HO348; clear HO350; clear HB; have HO341 := n0_; have HO343 := n1_; have HO348 := n2_; have HO350 := n3_; have HO355 := n4_; have HO357 := n5_; have HB := n6_; clear n0_ n1_ n2_ n3_ n4_ n5_ n6_; (try clear hb); (try clear hb2); (try clear hk); (try clear hi); (try clear ho0); (try clear ho1))))
   go_ret
   exact ⟨by first | rfl | (simp [errW_none, errW_some] <;> rfl) | (simp [*, errW_none, errW_some] <;> rfl), by repeat (first | (with_reducible first | exact HB.out | apply below_alloc | apply pw_below_drewN | apply below_drew1) | exact HB.out)⟩
  ·rw [if_neg c7] at H
   have c7b0 : (t346 != t353) = false := by simpa using c7
   (try (have c7b1 : decide (t346 = t353) = true := by simpa using c7))
   (try (have c7b2 : (t346 == t353) = true := by simpa using c7))
   clear c7
   obtain ⟨y358, hy358⟩ : ∃ y_ : List Int, y_ = (([0, 0, 0, 0] : List Int)) := ⟨_, rfl⟩
   replace H : ((impl_Try.f k 1 y358 (([(⟨0, 5, 0⟩ : S51), (⟨4, 0, 0⟩ : S51), (⟨5, 0, 0⟩ : S51)] : List (S51)))).bind fun bt364 => (if bt364.2.2 = true then (if (bt364.1.length : Int) = 3 then (if 0 < (bt364.1.length : Int) then (if rdOf false bt364.1 0 = true then (if 1 < (bt364.1.length : Int) then (if rdOf false bt364.1 1 = true then (laws_FnTried.j0 k t337 t338 t339 t344 t345 t346 true) else (if 2 < (bt364.1.length : Int) then (if rdOf false bt364.1 2 = true then ((laws_sameInts.f k bt364.2.1 (([1, 1, 1] : List Int))).bind fun t377 => (if t377 = true then (if (t344.length : Int) > (t339.length : Int) then (laws_FnTried.j0 k t337 t338 t339 t344 t345 t346 true) else (laws_FnTried.j0 k t337 t338 t339 t344 t345 t346 ((t345.length : Int) != (t344.length : Int)))) else (laws_FnTried.j0 k t337 t338 t339 t344 t345 t346 true))) else (laws_FnTried.j0 k t337 t338 t339 t344 t345 t346 true)) else (none))) else (none)) else (laws_FnTried.j0 k t337 t338 t339 t344 t345 t346 true)) else (none)) else (laws_FnTried.j0 k t337 t338 t339 t344 t345 t346 true)) else (laws_FnTried.j0 k t337 t338 t339 t344 t345 t346 true))) = some r := by first | (rw [hy358]; with_reducible exact H) | (have H2_ := (Option.bind_some _ _).symm.trans H; rw [hy358]; with_reducible exact H2_) | (have H2_ := (Option.bind_some _ _).symm.trans H; with_reducible exact H2_) | with_reducible exact H | (rw [hy358]; exact H) | exact H
   have Ny358 := Aside0.mk hy358
   clear hy358
   obtain ⟨y361, hy361⟩ : ∃ y_ : List (S51), y_ = (([(⟨0, 5, 0⟩ : S51), (⟨4, 0, 0⟩ : S51), (⟨5, 0, 0⟩ : S51)] : List (S51))) := ⟨_, rfl⟩
   replace H : ((impl_Try.f k 1 y358 y361).bind fun bt364 => (if bt364.2.2 = true then (if (bt364.1.length : Int) = 3 then (if 0 < (bt364.1.length : Int) then (if rdOf false bt364.1 0 = true then (if 1 < (bt364.1.length : Int) then (if rdOf false bt364.1 1 = true then (laws_FnTried.j0 k t337 t338 t339 t344 t345 t346 true) else (if 2 < (bt364.1.length : Int) then (if rdOf false bt364.1 2 = true then ((laws_sameInts.f k bt364.2.1 (([1, 1, 1] : List Int))).bind fun t377 => (if t377 = true then (if (t344.length : Int) > (t339.length : Int) then (laws_FnTried.j0 k t337 t338 t339 t344 t345 t346 true) else (laws_FnTried.j0 k t337 t338 t339 t344 t345 t346 ((t345.length : Int) != (t344.length : Int)))) else (laws_FnTried.j0 k t337 t338 t339 t344 t345 t346 true))) else (laws_FnTried.j0 k t337 t338 t339 t344 t345 t346 true)) else (none))) else (none)) else (laws_FnTried.j0 k t337 t338 t339 t344 t345 t346 true)) else (none)) else (laws_FnTried.j0 k t337 t338 t339 t344 t345 t346 true)) else (laws_FnTried.j0 k t337 t338 t339 t344 t345 t346 true))) = some r := by first | (rw [hy361]; with_reducible exact H) | (have H2_ := (Option.bind_some _ _).symm.trans H; rw [hy361]; with_reducible exact H2_) | (have H2_ := (Option.bind_some _ _).symm.trans H; with_reducible exact H2_) | with_reducible exact H | (rw [hy361]; exact H) | exact H
   have Ny361 := Aside0.mk hy361
   clear hy361
   replace H := Option.bind_eq_some_iff.mp H
   obtain ⟨⟨t364, t365, t366⟩, A130, H⟩ := H
   replace H : (if t366 = true then (if (t364.length : Int) = 3 then (if 0 < (t364.length : Int) then (if rdOf false t364 0 = true then (if 1 < (t364.length : Int) then (if rdOf false t364 1 = true then (laws_FnTried.j0 k t337 t338 t339 t344 t345 t346 true) else (if 2 < (t364.length : Int) then (if rdOf false t364 2 = true then ((laws_sameInts.f k t365 (([1, 1, 1] : List Int))).bind fun t377 => (if t377 = true then (if (t344.length : Int) > (t339.length : Int) then (laws_FnTried.j0 k t337 t338 t339 t344 t345 t346 true) else (laws_FnTried.j0 k t337 t338 t339 t344 t345 t346 ((t345.length : Int) != (t344.length : Int)))) else (laws_FnTried.j0 k t337 t338 t339 t344 t345 t346 true))) else (laws_FnTried.j0 k t337 t338 t339 t344 t345 t346 true)) else (none))) else (none)) else (laws_FnTried.j0 k t337 t338 t339 t344 t345 t346 true)) else (none)) else (laws_FnTried.j0 k t337 t338 t339 t344 t345 t346 true)) else (laws_FnTried.j0 k t337 t338 t339 t344 t345 t346 true)) = some r := H
   have A13 := Aside0.mk A130
   clear A130
   have HC14 := Aside0.mk H
   clear H
   go_enter Try.func6, Try.ntmps6
   go_upto_region 9 with (first | (go_at_call 10; (with_reducible refine (laws_big.calls _ _ l0 false _ ?side1 ?side2 A2.out).mono ?_); (case side1 => repeat (first | exact HR0.out | (with_reducible refine Kd.C_alloc ?_ _) | (with_reducible refine Kd.C_drewN ?_ _) | (with_reducible refine Kd.C_drew ?_))); (case side2 => exact HC0.out); rintro e w' ⟨rfl, ⟨nd, rfl⟩⟩; (try first | exact ⟨rfl, _, World.drewN_drewN _ _ _⟩ | exact ⟨rfl, _, Eq.trans (World.drewN_drewN _ _ _) (congrArg (World.drewN _) (Nat.add_assoc _ _ _))⟩)) | (go_at_call 25; (with_reducible refine (spec_DrawTry.calls k _ _ l0 t337 t338 t339 _ ?side1 ?side2 A4.out).mono ?_); (case side1 => repeat (first | exact HR0.out | (with_reducible refine Kd.C_alloc ?_ _) | (with_reducible refine Kd.C_drewN ?_ _) | (with_reducible refine Kd.C_drew ?_))); (case side2 => exact HC0.out); rintro e w15 ⟨v340, v342, rfl, ho0, ho1, hb⟩; have n0_ := Aside0.mk (Kd.R_lower ho0 (below_size (by repeat (first | (with_reducible first | exact HB.out | apply below_alloc | apply pw_below_drewN | apply below_drew1) | exact HB.out)))); have n1_ := Aside0.mk (Kd.R_lower ho1 (below_size (by repeat (first | (with_reducible first | exact HB.out | apply below_alloc | apply pw_below_drewN | apply below_drew1) | exact HB.out)))); have n2_ := Aside0.mk (below_step (by repeat (first | (with_reducible first | exact HB.out | apply below_alloc | apply pw_below_drewN | apply below_drew1) | exact HB.out)) hb); clear HB; have HO341 := n0_; have HO343 := n1_; have HB := n2_; clear n0_ n1_ n2_; (try clear hb); (try clear hb2); (try clear hk); (try clear hi); (try clear ho0); (try clear ho1); obtain ⟨Ao16, co16, eo16⟩ := Kd.R_slice HO341.out; subst eo16; obtain ⟨Ao17, co17, eo17⟩ := Kd.R_slice HO343.out; subst eo17) | (go_at_call 26; (with_reducible refine (impl_Try.calls k t337 _ _ t338 _ _ t339 t344 t345 t346 _ ?side1 ?side2 ?side3 ?side4 A5.out).mono ?_); (case side1 => repeat (first | exact (Kd.R_reads' HO341.out).2.2 | (with_reducible refine Kd.C_alloc ?_ _) | (with_reducible refine Kd.C_drewN ?_ _) | (with_reducible refine Kd.C_drew ?_))); (case side2 => exact (Kd.R_reads' HO341.out).2.1); (case side3 => repeat (first | exact (Kd.R_reads' HO343.out).2.2 | (with_reducible refine Kd.C_alloc ?_ _) | (with_reducible refine Kd.C_drewN ?_ _) | (with_reducible refine Kd.C_drew ?_))); (case side4 => exact (Kd.R_reads' HO343.out).2.1); rintro e w18 ⟨v347, v349, rfl, ho0, ho1, hb⟩; have n0_ := Aside0.mk (Kd.R_elder' (by (with_reducible repeat (first | apply Kd.R_alloc | apply Kd.R_drewN | apply Kd.R_drew)); exact HO341.out) (Kd.R_base ho1) hb); have n1_ := Aside0.mk (Kd.R_below (by (with_reducible repeat (first | apply Kd.R_alloc | apply Kd.R_drewN | apply Kd.R_drew)); exact HO343.out) hb); have n2_ := Aside0.mk (Kd.R_lower ho0 (below_size (by repeat (first | (with_reducible first | exact HB.out | apply below_alloc | apply pw_below_drewN | apply below_drew1) | exact HB.out)))); have n3_ := Aside0.mk (Kd.R_lower (Kd.R_new' ho1 (Kd.R_lt (by (with_reducible repeat (first | apply Kd.R_alloc | apply Kd.R_drewN | apply Kd.R_drew)); exact HO341.out))) (below_size (by repeat (first | (with_reducible first | exact HB.out | apply below_alloc | apply pw_below_drewN | apply below_drew1) | exact HB.out)))); have n4_ := Aside0.mk (below_step (by repeat (first | (with_reducible first | exact HB.out | apply below_alloc | apply pw_below_drewN | apply below_drew1) | exact HB.out)) hb); clear HO341; clear HO343; clear HB; have HO341 := n0_; have HO343 := n1_; have HO348 := n2_; have HO350 := n3_; have HB := n4_; clear n0_ n1_ n2_ n3_ n4_; (try clear hb); (try clear hb2); (try clear hk); (try clear hi); (try clear ho0); (try clear ho1)) | (go_at_call 27; (with_reducible refine (spec_Try.calls k t337 _ _ t338 _ _ t339 t351 t352 t353 _ ?side1 ?side2 ?side3 ?side4 A6.out).mono ?_); (case side1 => repeat (first | exact (Kd.R_reads' HO341.out).2.2 | (with_reducible refine Kd.C_alloc ?_ _) | (with_reducible refine Kd.C_drewN ?_ _) | (with_reducible refine Kd.C_drew ?_))); (case side2 => exact (Kd.R_reads' HO341.out).2.1); (case side3 => repeat (first | exact (Kd.R_reads' HO343.out).2.2 | (with_reducible refine Kd.C_alloc ?_ _) | (with_reducible refine Kd.C_drewN ?_ _) | (with_reducible refine Kd.C_drew ?_))); (case side4 => exact (Kd.R_reads' HO343.out).2.1); rintro e w19 ⟨v354, v356, rfl, ho0, ho1, hb⟩; have n0_ := Aside0.mk (Kd.R_elder' (by (with_reducible repeat (first | apply Kd.R_alloc | apply Kd.R_drewN | apply Kd.R_drew)); exact HO341.out) (Kd.R_base ho1) hb); have n1_ := Aside0.mk (Kd.R_below (by (with_reducible repeat (first | apply Kd.R_alloc | apply Kd.R_drewN | apply Kd.R_drew)); exact HO343.out) hb); have n2_ := Aside0.mk (Kd.R_elder' (by (with_reducible repeat (first | apply Kd.R_alloc | apply Kd.R_drewN | apply Kd.R_drew)); exact HO348.out) (Kd.R_base ho0) hb); have n3_ := Aside0.mk (Kd.R_elder' (by (with_reducible repeat (first | apply Kd.R_alloc | apply Kd.R_drewN | apply Kd.R_drew)); exact HO350.out) (Kd.R_base ho1) hb); have n4_ := Aside0.mk (Kd.R_lower (Kd.R_new' ho0 (Kd.R_lt (by (with_reducible repeat (first | apply Kd.R_alloc | apply Kd.R_drewN | apply Kd.R_drew)); exact HO348.out))) (below_size (by repeat (first | (with_reducible first | exact HB.out | apply below_alloc | apply pw_below_drewN | apply below_drew1) | exact HB.out)))); have n5_ := Aside0.mk (Kd.R_lower (Kd.R_new' (Kd.R_new' ho1 (Kd.R_lt (by (with_reducible repeat (first | apply Kd.R_alloc | apply Kd.R_drewN | apply Kd.R_drew)); exact HO341.out))) (Kd.R_lt (by (with_reducible repeat (first | apply Kd.R_alloc | apply Kd.R_drewN | apply Kd.R_drew)); exact HO350.out))) (below_size (by repeat (first | (with_reducible first | exact HB.out | apply below_alloc | apply pw_below_drewN | apply below_drew1) | exact HB.out)))); have n6_ := Aside0.mk (below_step (by repeat (first | (with_reducible first | exact HB.out | apply below_alloc | apply pw_below_drewN | apply below_drew1) | exact HB.out)) hb); clear HO341; clear HO343; clear HO348; clear HO350; clear HB; have HO341 := n0_; have HO343 := n1_; have HO348 := n2_; have HO350 := n3_; have HO355 := n4_; have HO357 := n5_; have HB := n6_; clear n0_ n1_ n2_ n3_ n4_ n5_ n6_; (try clear hb); (try clear hb2); (try clear hk); (try clear hi); (try clear ho0); (try clear ho1)) | ((with_reducible refine gate_dst (N := 48) rfl ?_); (try (refine gate_guard (by rfl) ?_; dsimp only)); refine Kd.R_lit (Kd.int .i64) _ 3 ?hg (N := 48) ?hd (xs := ([0, 0, 0, 0] : List Int)) (inner := [.int .i64 0, .int .i64 0, .int .i64 0, .int .i64 0]) (ok := fun _ => True) (okp := fun _ => True) ?hr ?hp (fun _ hk => hk) trivial (Below.refl _ _) (Nat.le_refl _) (by simp) ?_; (case hd => rfl); (case hg => rfl); (case hr => first | (go_simp; done) | (go_simp; rfl)); (case hp => exact (Reps.one (show Kd.M (Kd.int .i64) _ _ _ 0 [.int .i64 0] from rfl) (Reps.one (show Kd.M (Kd.int .i64) _ _ _ 0 [.int .i64 0] from rfl) (Reps.one (show Kd.M (Kd.int .i64) _ _ _ 0 [.int .i64 0] from rfl) (Reps.one (show Kd.M (Kd.int .i64) _ _ _ 0 [.int .i64 0] from rfl) (Reps.none _ _)))))); intro v359 w20 ho21 hb hg_ hnew_; clear hg_ hnew_; (first | rw [← Ny358.out] at ho21 | (simp only [Int.reduceToNat] at ho21; rw [← Ny358.out] at ho21)); have n0_ := Aside0.mk (Kd.R_elder' (by (with_reducible repeat (first | apply Kd.R_alloc | apply Kd.R_drewN | apply Kd.R_drew)); exact HO341.out) (Kd.R_base ho21) hb); have n1_ := Aside0.mk (Kd.R_below (by (with_reducible repeat (first | apply Kd.R_alloc | apply Kd.R_drewN | apply Kd.R_drew)); exact HO343.out) hb); have n2_ := Aside0.mk (Kd.R_below (by (with_reducible repeat (first | apply Kd.R_alloc | apply Kd.R_drewN | apply Kd.R_drew)); exact HO348.out) hb); have n3_ := Aside0.mk (Kd.R_elder' (by (with_reducible repeat (first | apply Kd.R_alloc | apply Kd.R_drewN | apply Kd.R_drew)); exact HO350.out) (Kd.R_base ho21) hb); have n4_ := Aside0.mk (Kd.R_below (by (with_reducible repeat (first | apply Kd.R_alloc | apply Kd.R_drewN | apply Kd.R_drew)); exact HO355.out) hb); have n5_ := Aside0.mk (Kd.R_elder' (by (with_reducible repeat (first | apply Kd.R_alloc | apply Kd.R_drewN | apply Kd.R_drew)); exact HO357.out) (Kd.R_base ho21) hb); have n6_ := Aside0.mk (Kd.R_lower (Kd.R_new' (Kd.R_new' (Kd.R_new' ho21 (Kd.R_lt (by (with_reducible repeat (first | apply Kd.R_alloc | apply Kd.R_drewN | apply Kd.R_drew)); exact HO341.out))) (Kd.R_lt (by (with_reducible repeat (first | apply Kd.R_alloc | apply Kd.R_drewN | apply Kd.R_drew)); exact HO350.out))) (Kd.R_lt (by (with_reducible repeat (first | apply Kd.R_alloc | apply Kd.R_drewN | apply Kd.R_drew)); exact HO357.out))) (below_size (by repeat (first | (with_reducible first | exact HB.out | apply below_alloc | apply pw_below_drewN | apply below_drew1) | exact HB.out)))); have n7_ := Aside0.mk (below_step (by repeat (first | (with_reducible first | exact HB.out | apply below_alloc | apply pw_below_drewN | apply below_drew1) | exact HB.out)) hb); clear HO341; clear HO343; clear HO348; clear HO350; clear HO355; clear HO357; clear HB; have HO341 := n0_; have HO343 := n1_; have HO348 := n2_; have HO350 := n3_; have HO355 := n4_; have HO357 := n5_; have HO360 := n6_; have HB := n7_; clear n0_ n1_ n2_ n3_ n4_ n5_ n6_ n7_; clear hb ho21) | ((with_reducible refine gate_dst (N := 52) rfl ?_); (try (refine gate_guard (by rfl) ?_; dsimp only)); refine Kd.R_lit k51 _ 51 ?hg (N := 52) ?hd (xs := ([(⟨0, 5, 0⟩ : S51), (⟨4, 0, 0⟩ : S51), (⟨5, 0, 0⟩ : S51)] : List (S51))) (inner := [.int .i64 0, .int .i64 5, .int .i64 0, .int .i64 4, .int .i64 0, .int .i64 0, .int .i64 5, .int .i64 0, .int .i64 0]) (ok := fun _ => True) (okp := fun _ => True) ?hr ?hp (fun _ hk => hk) trivial (Below.refl _ _) (Nat.le_refl _) (by simp) ?_; (case hd => rfl); (case hg => rfl); (case hr => first | (go_simp; done) | (go_simp; rfl)); (case hp => exact (Reps.c3 (show Kd.M k51 _ _ _ (⟨0, 5, 0⟩ : S51) [.int .i64 0, .int .i64 5, .int .i64 0] from (k51_mkM _ _ _ (⟨0, 5, 0⟩ : S51) )) (Reps.c3 (show Kd.M k51 _ _ _ (⟨4, 0, 0⟩ : S51) [.int .i64 4, .int .i64 0, .int .i64 0] from (k51_mkM _ _ _ (⟨4, 0, 0⟩ : S51) )) (Reps.c3 (show Kd.M k51 _ _ _ (⟨5, 0, 0⟩ : S51) [.int .i64 5, .int .i64 0, .int .i64 0] from (k51_mkM _ _ _ (⟨5, 0, 0⟩ : S51) )) (Reps.none _ _))))); intro v362 w22 ho23 hb hg_ hnew_; clear hg_ hnew_; (first | rw [← Ny361.out] at ho23 | (simp only [Int.reduceToNat] at ho23; rw [← Ny361.out] at ho23)); have n0_ := Aside0.mk (Kd.R_below (by (with_reducible repeat (first | apply Kd.R_alloc | apply Kd.R_drewN | apply Kd.R_drew)); exact HO341.out) hb); have n1_ := Aside0.mk (Kd.R_elder' (by (with_reducible repeat (first | apply Kd.R_alloc | apply Kd.R_drewN | apply Kd.R_drew)); exact HO343.out) (Kd.R_base ho23) hb); have n2_ := Aside0.mk (Kd.R_below (by (with_reducible repeat (first | apply Kd.R_alloc | apply Kd.R_drewN | apply Kd.R_drew)); exact HO348.out) hb); have n3_ := Aside0.mk (Kd.R_below (by (with_reducible repeat (first | apply Kd.R_alloc | apply Kd.R_drewN | apply Kd.R_drew)); exact HO350.out) hb); have n4_ := Aside0.mk (Kd.R_below (by (with_reducible repeat (first | apply Kd.R_alloc | apply Kd.R_drewN | apply Kd.R_drew)); exact HO355.out) hb); have n5_ := Aside0.mk (Kd.R_below (by (with_reducible repeat (first | apply Kd.R_alloc | apply Kd.R_drewN | apply Kd.R_drew)); exact HO357.out) hb); have n6_ := Aside0.mk (Kd.R_below (by (with_reducible repeat (first | apply Kd.R_alloc | apply Kd.R_drewN | apply Kd.R_drew)); exact HO360.out) hb); have n7_ := Aside0.mk (Kd.R_lower (Kd.R_new' ho23 (Kd.R_lt (by (with_reducible repeat (first | apply Kd.R_alloc | apply Kd.R_drewN | apply Kd.R_drew)); exact HO343.out))) (below_size (by repeat (first | (with_reducible first | exact HB.out | apply below_alloc | apply pw_below_drewN | apply below_drew1) | exact HB.out)))); have n8_ := Aside0.mk (below_step (by repeat (first | (with_reducible first | exact HB.out | apply below_alloc | apply pw_below_drewN | apply below_drew1) | exact HB.out)) hb); clear HO341; clear HO343; clear HO348; clear HO350; clear HO355; clear HO357; clear HO360; clear HB; have HO341 := n0_; have HO343 := n1_; have HO348 := n2_; have HO350 := n3_; have HO355 := n4_; have HO357 := n5_; have HO360 := n6_; have HO363 := n7_; have HB := n8_; clear n0_ n1_ n2_ n3_ n4_ n5_ n6_ n7_ n8_; clear hb ho23; obtain ⟨Ao24, co24, eo24⟩ := Kd.R_slice HO360.out; subst eo24; obtain ⟨Ao25, co25, eo25⟩ := Kd.R_slice HO363.out; subst eo25) | (go_at_call 26; (with_reducible refine (impl_Try.calls k 1 _ _ y358 _ _ y361 t364 t365 t366 _ ?side1 ?side2 ?side3 ?side4 A13.out).mono ?_); (case side1 => repeat (first | exact (Kd.R_reads' HO360.out).2.2 | (with_reducible refine Kd.C_alloc ?_ _) | (with_reducible refine Kd.C_drewN ?_ _) | (with_reducible refine Kd.C_drew ?_))); (case side2 => exact (Kd.R_reads' HO360.out).2.1); (case side3 => repeat (first | exact (Kd.R_reads' HO363.out).2.2 | (with_reducible refine Kd.C_alloc ?_ _) | (with_reducible refine Kd.C_drewN ?_ _) | (with_reducible refine Kd.C_drew ?_))); (case side4 => exact (Kd.R_reads' HO363.out).2.1); rintro e w26 ⟨v367, v369, rfl, ho0, ho1, hb⟩; have n0_ := Aside0.mk (Kd.R_elder' (by (with_reducible repeat (first | apply Kd.R_alloc | apply Kd.R_drewN | apply Kd.R_drew)); exact HO341.out) (Kd.R_base ho1) hb); have n1_ := Aside0.mk (Kd.R_below (by (with_reducible repeat (first | apply Kd.R_alloc | apply Kd.R_drewN | apply Kd.R_drew)); exact HO343.out) hb); have n2_ := Aside0.mk (Kd.R_elder' (by (with_reducible repeat (first | apply Kd.R_alloc | apply Kd.R_drewN | apply Kd.R_drew)); exact HO348.out) (Kd.R_base ho0) hb); have n3_ := Aside0.mk (Kd.R_elder' (by (with_reducible repeat (first | apply Kd.R_alloc | apply Kd.R_drewN | apply Kd.R_drew)); exact HO350.out) (Kd.R_base ho1) hb); have n4_ := Aside0.mk (Kd.R_elder' (by (with_reducible repeat (first | apply Kd.R_alloc | apply Kd.R_drewN | apply Kd.R_drew)); exact HO355.out) (Kd.R_base ho0) hb); have n5_ := Aside0.mk (Kd.R_elder' (by (with_reducible repeat (first | apply Kd.R_alloc | apply Kd.R_drewN | apply Kd.R_drew)); exact HO357.out) (Kd.R_base ho1) hb); have n6_ := Aside0.mk (Kd.R_elder' (by (with_reducible repeat (first | apply Kd.R_alloc | apply Kd.R_drewN | apply Kd.R_drew)); exact HO360.out) (Kd.R_base ho1) hb); have n7_ := Aside0.mk (Kd.R_below (by (with_reducible repeat (first | apply Kd.R_alloc | apply Kd.R_drewN | apply Kd.R_drew)); exact HO363.out) hb); have n8_ := Aside0.mk (Kd.R_lower (Kd.R_new' (Kd.R_new' ho0 (Kd.R_lt (by (with_reducible repeat (first | apply Kd.R_alloc | apply Kd.R_drewN | apply Kd.R_drew)); exact HO348.out))) (Kd.R_lt (by (with_reducible repeat (first | apply Kd.R_alloc | apply Kd.R_drewN | apply Kd.R_drew)); exact HO355.out))) (below_size (by repeat (first | (with_reducible first | exact HB.out | apply below_alloc | apply pw_below_drewN | apply below_drew1) | exact HB.out)))); have n9_ := Aside0.mk (Kd.R_lower (Kd.R_new' (Kd.R_new' (Kd.R_new' (Kd.R_new' ho1 (Kd.R_lt (by (with_reducible repeat (first | apply Kd.R_alloc | apply Kd.R_drewN | apply Kd.R_drew)); exact HO341.out))) (Kd.R_lt (by (with_reducible repeat (first | apply Kd.R_alloc | apply Kd.R_drewN | apply Kd.R_drew)); exact HO350.out))) (Kd.R_lt (by (with_reducible repeat (first | apply Kd.R_alloc | apply Kd.R_drewN | apply Kd.R_drew)); exact HO357.out))) (Kd.R_lt (by (with_reducible repeat (first | apply Kd.R_alloc | apply Kd.R_drewN | apply Kd.R_drew)); exact HO360.out))) (below_size (by repeat (first | (with_reducible first | exact HB.out | apply below_alloc | apply pw_below_drewN | apply below_drew1) | exact HB.out)))); have n10_ := Aside0.mk (below_step (by repeat (first | (with_reducible first | exact HB.out | apply below_alloc | apply pw_below_drewN | apply below_drew1) | exact HB.out)) hb); clear HO341; clear HO343; clear HO348; clear HO350; clear HO355; clear HO357; clear HO360; clear HO363; clear HB; have HO341 := n0_; have HO343 := n1_; have HO348 := n2_; have HO350 := n3_; have HO355 := n4_; have HO357 := n5_; have HO360 := n6_; have HO363 := n7_; have HO368 := n8_; have HO370 := n9_; have HB := n10_; clear n0_ n1_ n2_ n3_ n4_ n5_ n6_ n7_ n8_ n9_ n10_; (try clear hb); (try clear hb2); (try clear hk); (try clear hi); (try clear ho0); (try clear ho1)))
   repeat (go_quiet (first | (go_at_call 10; (with_reducible refine (laws_big.calls _ _ l0 false _ ?side1 ?side2 A2.out).mono ?_); (case side1 => repeat (first | exact HR0.out | (with_reducible refine Kd.C_alloc ?_ _) | (with_reducible refine Kd.C_drewN ?_ _) | (with_reducible refine Kd.C_drew ?_))); (case side2 => exact HC0.out); rintro e w' ⟨rfl, ⟨nd, rfl⟩⟩; (try first | exact ⟨rfl, _, World.drewN_drewN _ _ _⟩ | exact ⟨rfl, _, Eq.trans (World.drewN_drewN _ _ _) (congrArg (World.drewN _) (Nat.add_assoc _ _ _))⟩)) | (go_at_call 25; (with_reducible refine (spec_DrawTry.calls k _ _ l0 t337 t338 t339 _ ?side1 ?side2 A4.out).mono ?_); (case side1 => repeat (first | exact HR0.out | (with_reducible refine Kd.C_alloc ?_ _) | (with_reducible refine Kd.C_drewN ?_ _) | (with_reducible refine Kd.C_drew ?_))); (case side2 => exact HC0.out); rintro e w15 ⟨v340, v342, rfl, ho0, ho1, hb⟩; have n0_ := Aside0.mk (Kd.R_lower ho0 (below_size (by repeat (first | (with_reducible first | exact HB.out | apply below_alloc | apply pw_below_drewN | apply below_drew1) | exact HB.out)))); have n1_ := Aside0.mk (Kd.R_lower ho1 (below_size (by repeat (first | (with_reducible first | exact HB.out | apply below_alloc | apply pw_below_drewN | apply below_drew1) | exact HB.out)))); have n2_ := Aside0.mk (below_step (by repeat (first | (with_reducible first | exact HB.out | apply below_alloc | apply pw_below_drewN | apply below_drew1) | exact HB.out)) hb); clear HB; have HO341 := n0_; have HO343 := n1_; have HB := n2_; clear n0_ n1_ n2_; (try clear hb); (try clear hb2); (try clear hk); (try clear hi); (try clear ho0); (try clear ho1); obtain ⟨Ao16, co16, eo16⟩ := Kd.R_slice HO341.out; subst eo16; obtain ⟨Ao17, co17, eo17⟩ := Kd.R_slice HO343.out; subst eo17) | (go_at_call 26; (with_reducible refine (impl_Try.calls k t337 _ _ t338 _ _ t339 t344 t345 t346 _ ?side1 ?side2 ?side3 ?side4 A5.out).mono ?_); (case side1 => repeat (first | exact (Kd.R_reads' HO341.out).2.2 | (with_reducible refine Kd.C_alloc ?_ _) | (with_reducible refine Kd.C_drewN ?_ _) | (with_reducible refine Kd.C_drew ?_))); (case side2 => exact (Kd.R_reads' HO341.out).2.1); (case side3 => repeat (first | exact (Kd.R_reads' HO343.out).2.2 | (with_reducible refine Kd.C_alloc ?_ _) | (with_reducible refine Kd.C_drewN ?_ _) | (with_reducible refine Kd.C_drew ?_))); (case side4 => exact (Kd.R_reads' HO343.out).2.1); rintro e w18 ⟨v347, v349, rfl, ho0, ho1, hb⟩; have n0_ := Aside0.mk (Kd.R_elder' (by (with_reducible repeat (first | apply Kd.R_alloc | apply Kd.R_drewN | apply Kd.R_drew)); exact HO341.out) (Kd.R_base ho1) hb); have n1_ := Aside0.mk (Kd.R_below (by (with_reducible repeat (first | apply Kd.R_alloc | apply Kd.R_drewN | apply Kd.R_drew)); exact HO343.out) hb); have n2_ := Aside0.mk (Kd.R_lower ho0 (below_size (by repeat (first | (with_reducible first | exact HB.out | apply below_alloc | apply pw_below_drewN | apply below_drew1) | exact HB.out)))); have n3_ := Aside0.mk (Kd.R_lower (Kd.R_new' ho1 (Kd.R_lt (by (with_reducible repeat (first | apply Kd.R_alloc | apply Kd.R_drewN | apply Kd.R_drew)); exact HO341.out))) (below_size (by repeat (first | (with_reducible first | exact HB.out | apply below_alloc | apply pw_below_drewN | apply below_drew1) | exact HB.out)))); have n4_ := Aside0.mk (below_step (by repeat (first | (with_reducible first | exact HB.out | apply below_alloc | apply pw_below_drewN | apply below_drew1) | exact HB.out)) hb); clear HO341; clear HO343; clear HB; have HO341 := n0_; have HO343 := n1_; have HO348 := n2_; have HO350 := n3_; have HB := n4_; clear n0_ n1_ n2_ n3_ n4_; (try clear hb); (try clear hb2); (try clear hk); (try clear hi); (try clear ho0); (try clear ho1)) | (go_at_call 27; (with_reducible refine (spec_Try.calls k t337 _ _ t338 _ _ t339 t351 t352 t353 _ ?side1 ?side2 ?side3 ?side4 A6.out).mono ?_); (case side1 => repeat (first | exact (Kd.R_reads' HO341.out).2.2 | (with_reducible refine Kd.C_alloc ?_ _) | (with_reducible refine Kd.C_drewN ?_ _) | (with_reducible refine Kd.C_drew ?_))); (case side2 => exact (Kd.R_reads' HO341.out).2.1); (case side3 => repeat (first | exact (Kd.R_reads' HO343.out).2.2 | (with_reducible refine Kd.C_alloc ?_ _) | (with_reducible refine Kd.C_drewN ?_ _) | (with_reducible refine Kd.C_drew ?_))); (case side4 => exact (Kd.R_reads' HO343.out).2.1); rintro e w19 ⟨v354, v356, rfl, ho0, ho1, hb⟩; have n0_ := Aside0.mk (Kd.R_elder' (by (with_reducible repeat (first | apply Kd.R_alloc | apply Kd.R_drewN | apply Kd.R_drew)); exact HO341.out) (Kd.R_base ho1) hb); have n1_ := Aside0.mk (Kd.R_below (by (with_reducible repeat (first | apply Kd.R_alloc | apply Kd.R_drewN | apply Kd.R_drew)); exact HO343.out) hb); have n2_ := Aside0.mk (Kd.R_elder' (by (with_reducible repeat (first | apply Kd.R_alloc | apply Kd.R_drewN | apply Kd.R_drew)); exact HO348.out) (Kd.R_base ho0) hb); have n3_ := Aside0.mk (Kd.R_elder' (by (with_reducible repeat (first | apply Kd.R_alloc | apply Kd.R_drewN | apply Kd.R_drew)); exact HO350.out) (Kd.R_base ho1) hb); have n4_ := Aside0.mk (Kd.R_lower (Kd.R_new' ho0 (Kd.R_lt (by (with_reducible repeat (first | apply Kd.R_alloc | apply Kd.R_drewN | apply Kd.R_drew)); exact HO348.out))) (below_size (by repeat (first | (with_reducible first | exact HB.out | apply below_alloc | apply pw_below_drewN | apply below_drew1) | exact HB.out)))); have n5_ := Aside0.mk (Kd.R_lower (Kd.R_new' (Kd.R_new' ho1 (Kd.R_lt (by (with_reducible repeat (first | apply Kd.R_alloc | apply Kd.R_drewN | apply Kd.R_drew)); exact HO341.out))) (Kd.R_lt (by (with_reducible repeat (first | apply Kd.R_alloc | apply Kd.R_drewN | apply Kd.R_drew)); exact HO350.out))) (below_size (by repeat (first | (with_reducible first | exact HB.out | apply below_alloc | apply pw_below_drewN | apply below_drew1) | exact HB.out)))); have n6_ := Aside0.mk (below_step (by repeat (first | (with_reducible first | exact HB.out | apply below_alloc | apply pw_below_drewN | apply below_drew1) | exact HB.out)) hb); clear HO341; clear HO343; clear HO348; clear HO350; clear HB; have HO341 := n0_; have HO343 := n1_; have HO348 := n2_; have HO350 := n3_; have HO355 := n4_; have HO357 := n5_; have HB := n6_; clear n0_ n1_ n2_ n3_ n4_ n5_ n6_; (try clear hb); (try clear hb2); (try clear hk); (try clear hi); (try clear ho0); (try clear ho1)) | ((with_reducible refine gate_dst (N := 48) rfl ?_); (try (refine gate_guard (by rfl) ?_; dsimp only)); refine Kd.R_lit (Kd.int .i64) _ 3 ?hg (N := 48) ?hd (xs := ([0, 0, 0, 0] : List Int)) (inner := [.int .i64 0, .int .i64 0, .int .i64 0, .int .i64 0]) (ok := fun _ => True) (okp := fun _ => True) ?hr ?hp (fun _ hk => hk) trivial (Below.refl _ _) (Nat.le_refl _) (by simp) ?_; (case hd => rfl); (case hg => rfl); (case hr => first | (go_simp; done) | (go_simp; rfl)); (case hp => exact (Reps.one (show Kd.M (Kd.int .i64) _ _ _ 0 [.int .i64 0] from rfl) (Reps.one (show Kd.M (Kd.int .i64) _ _ _ 0 [.int .i64 0] from rfl) (Reps.one (show Kd.M (Kd.int .i64) _ _ _ 0 [.int .i64 0] from rfl) (Reps.one (show Kd.M (Kd.int .i64) _ _ _ 0 [.int .i64 0] from rfl) (Reps.none _ _)))))); intro v359 w20 ho21 hb hg_ hnew_; clear hg_ hnew_; (first | rw [← Ny358.out] at ho21 | (simp only [Int.reduceToNat] at ho21; rw [← Ny358.out] at ho21)); have n0_ := Aside0.mk (Kd.R_elder' (by (with_reducible repeat (first | apply Kd.R_alloc | apply Kd.R_drewN | apply Kd.R_drew)); exact HO341.out) (Kd.R_base ho21) hb); have n1_ := Aside0.mk (Kd.R_below (by (with_reducible repeat (first | apply Kd.R_alloc | apply Kd.R_drewN | apply Kd.R_drew)); exact HO343.out) hb); have n2_ := Aside0.mk (Kd.R_below (by (with_reducible repeat (first | apply Kd.R_alloc | apply Kd.R_drewN | apply Kd.R_drew)); exact HO348.out) hb); have n3_ := Aside0.mk (Kd.R_elder' (by (with_reducible repeat (first | apply Kd.R_alloc | apply Kd.R_drewN | apply Kd.R_drew)); exact HO350.out) (Kd.R_base ho21) hb); have n4_ := Aside0.mk (Kd.R_below (by (with_reducible repeat (first | apply Kd.R_alloc | apply Kd.R_drewN | apply Kd.R_drew)); exact HO355.out) hb); have n5_ := Aside0.mk (Kd.R_elder' (by (with_reducible repeat (first | apply Kd.R_alloc | apply Kd.R_drewN | apply Kd.R_drew)); exact HO357.out) (Kd.R_base ho21) hb); have n6_ := Aside0.mk (Kd.R_lower (Kd.R_new' (Kd.R_new' (Kd.R_new' ho21 (Kd.R_lt (by (with_reducible repeat (first | apply Kd.R_alloc | apply Kd.R_drewN | apply Kd.R_drew)); exact HO341.out))) (Kd.R_lt (by (with_reducible repeat (first | apply Kd.R_alloc | apply Kd.R_drewN | apply Kd.R_drew)); exact HO350.out))) (Kd.R_lt (by (with_reducible repeat (first | apply Kd.R_alloc | apply Kd.R_drewN | apply Kd.R_drew)); exact HO357.out))) (below_size (by repeat (first | (with_reducible first | exact HB.out | apply below_alloc | apply pw_below_drewN | apply below_drew1) | exact HB.out)))); have n7_ := Aside0.mk (below_step (by repeat (first | (with_reducible first | exact HB.out | apply below_alloc | apply pw_below_drewN | apply below_drew1) | exact HB.out)) hb); clear HO341; clear HO343; clear HO348; clear HO350; clear HO355; clear HO357; clear HB; have HO341 := n0_; have HO343 := n1_; have HO348 := n2_; have HO350 := n3_; have HO355 := n4_; have HO357 := n5_; have HO360 := n6_; have HB := n7_; clear n0_ n1_ n2_ n3_ n4_ n5_ n6_ n7_; clear hb ho21) | ((with_reducible refine gate_dst (N := 52) rfl ?_); (try (refine gate_guard (by rfl) ?_; dsimp only)); refine Kd.R_lit k51 _ 51 ?hg (N := 52) ?hd (xs := ([(⟨0, 5, 0⟩ : S51), (⟨4, 0, 0⟩ : S51), (⟨5, 0, 0⟩ : S51)] : List (S51))) (inner := [.int .i64 0, .int .i64 5, .int .i64 0, .int .i64 4, .int .i64 0, .int .i64 0, .int .i64 5, .int .i64 0, .int .i64 0]) (ok := fun _ => True) (okp := fun _ => True) ?hr ?hp (fun _ hk => hk) trivial (Below.refl _ _) (Nat.le_refl _) (by simp) ?_; (case hd => rfl); (case hg => rfl); (case hr => first | (go_simp; done) | (go_simp; rfl)); (case hp => exact (Reps.c3 (show Kd.M k51 _ _ _ (⟨0, 5, 0⟩ : S51) [.int .i64 0, .int .i64 5, .int .i64 0] from (k51_mkM _ _ _ (⟨0, 5, 0⟩ : S51) )) (Reps.c3 (show Kd.M k51 _ _ _ (⟨4, 0, 0⟩ : S51) [.int .i64 4, .int .i64 0, .int .i64 0] from (k51_mkM _ _ _ (⟨4, 0, 0⟩ : S51) )) (Reps.c3 (show Kd.M k51 _ _ _ (⟨5, 0, 0⟩ : S51) [.int .i64 5, .int .i64 0, .int .i64 0] from (k51_mkM _ _ _ (⟨5, 0, 0⟩ : S51) )) (Reps.none _ _))))); intro v362 w22 ho23 hb hg_ hnew_; clear hg_ hnew_; (first | rw [← Ny361.out] at ho23 | (simp only [Int.reduceToNat] at ho23; rw [← Ny361.out] at ho23)); have n0_ := Aside0.mk (Kd.R_below (by (with_reducible repeat (first | apply Kd.R_alloc | apply Kd.R_drewN | apply Kd.R_drew)); exact HO341.out) hb); have n1_ := Aside0.mk (Kd.R_elder' (by (with_reducible repeat (first | apply Kd.R_alloc | apply Kd.R_drewN | apply Kd.R_drew)); exact HO343.out) (Kd.R_base ho23) hb); have n2_ := Aside0.mk (Kd.R_below (by (with_reducible repeat (first | apply Kd.R_alloc | apply Kd.R_drewN | apply Kd.R_drew)); exact HO348.out) hb); have n3_ := Aside0.mk (Kd.R_below (by (with_reducible repeat (first | apply Kd.R_alloc | apply Kd.R_drewN | apply Kd.R_drew)); exact HO350.out) hb); have n4_ := Aside0.mk (Kd.R_below (by (with_reducible repeat (first | apply Kd.R_alloc | apply Kd.R_drewN | apply Kd.R_drew)); exact HO355.out) hb); have n5_ := Aside0.mk (Kd.R_below (by (with_reducible repeat (first | apply Kd.R_alloc | apply Kd.R_drewN | apply Kd.R_drew)); exact HO357.out) hb); have n6_ := Aside0.mk (Kd.R_below (by (with_reducible repeat (first | apply Kd.R_alloc | apply Kd.R_drewN | apply Kd.R_drew)); exact HO360.out) hb); have n7_ := Aside0.mk (Kd.R_lower (Kd.R_new' ho23 (Kd.R_lt (by (with_reducible repeat (first | apply Kd.R_alloc | apply Kd.R_drewN | apply Kd.R_drew)); exact HO343.out))) (below_size (by repeat (first | (with_reducible first | exact HB.out | apply below_alloc | apply pw_below_drewN | apply below_drew1) | exact HB.out)))); have n8_ := Aside0.mk (below_step (by repeat (first | (with_reducible first | exact HB.out | apply below_alloc | apply pw_below_drewN | apply below_drew1) | exact HB.out)) hb); clear HO341; clear HO343; clear HO348; clear HO350; clear HO355; clear HO357; clear HO360; clear HB; have HO341 := n0_; have HO343 := n1_; have HO348 := n2_; have HO350 := n3_; have HO355 := n4_; have HO357 := n5_; have HO360 := n6_; have HO363 := n7_; have HB := n8_; clear n0_ n1_ n2_ n3_ n4_ n5_ n6_ n7_ n8_; clear hb ho23; obtain ⟨Ao24, co24, eo24⟩ := Kd.R_slice HO360.out; subst eo24; obtain ⟨Ao25, co25, eo25⟩ := Kd.R_slice HO363.out; subst eo25) | (go_at_call 26; (with_reducible refine (impl_Try.calls k 1 _ _ y358 _ _ y361 t364 t365 t366 _ ?side1 ?side2 ?side3 ?side4 A13.out).mono ?_); (case side1 => repeat (first | exact (Kd.R_reads' HO360.out).2.2 | (with_reducible refine Kd.C_alloc ?_ _) | (with_reducible refine Kd.C_drewN ?_ _) | (with_reducible refine Kd.C_drew ?_))); (case side2 => exact (Kd.R_reads' HO360.out).2.1); (case side3 => repeat (first | exact (Kd.R_reads' HO363.out).2.2 | (with_reducible refine Kd.C_alloc ?_ _) | (with_reducible refine Kd.C_drewN ?_ _) | (with_reducible refine Kd.C_drew ?_))); (case side4 => exact (Kd.R_reads' HO363.out).2.1); rintro e w26 ⟨v367, v369, rfl, ho0, ho1, hb⟩; have n0_ := Aside0.mk (Kd.R_elder' (by (with_reducible repeat (first | apply Kd.R_alloc | apply Kd.R_drewN | apply Kd.R_drew)); exact HO341.out) (Kd.R_base ho1) hb); have n1_ := Aside0.mk (Kd.R_below (by (with_reducible repeat (first | apply Kd.R_alloc | apply Kd.R_drewN | apply Kd.R_drew)); exact HO343.out) hb); have n2_ := Aside0.mk (Kd.R_elder' (by (with_reducible repeat (first | apply Kd.R_alloc | apply Kd.R_drewN | apply Kd.R_drew)); exact HO348.out) (Kd.R_base ho0) hb); have n3_ := Aside0.mk (Kd.R_elder' (by (with_reducible repeat (first | apply Kd.R_alloc | apply Kd.R_drewN | apply Kd.R_drew)); exact HO350.out) (Kd.R_base ho1) hb); have n4_ := Aside0.mk (Kd.R_elder' (by (with_reducible repeat (first | apply Kd.R_alloc | apply Kd.R_drewN | apply Kd.R_drew)); exact HO355.out) (Kd.R_base ho0) hb); have n5_ := Aside0.mk (Kd.R_elder' (by (with_reducible repeat (first | apply Kd.R_alloc | apply Kd.R_drewN | apply Kd.R_drew)); exact HO357.out) (Kd.R_base ho1) hb); have n6_ := Aside0.mk (Kd.R_elder' (by (with_reducible repeat (first | apply Kd.R_alloc | apply Kd.R_drewN | apply Kd.R_drew)); exact HO360.out) (Kd.R_base ho1) hb); have n7_ := Aside0.mk (Kd.R_below (by (with_reducible repeat (first | apply Kd.R_alloc | apply Kd.R_drewN | apply Kd.R_drew)); exact HO363.out) hb); have n8_ := Aside0.mk (Kd.R_lower (Kd.R_new' (Kd.R_new' ho0 (Kd.R_lt (by (with_reducible repeat (first | apply Kd.R_alloc | apply Kd.R_drewN | apply Kd.R_drew)); exact HO348.out))) (Kd.R_lt (by (with_reducible repeat (first | apply Kd.R_alloc | apply Kd.R_drewN | apply Kd.R_drew)); exact HO355.out))) (below_size (by repeat (first | (with_reducible first | exact HB.out | apply below_alloc | apply pw_below_drewN | apply below_drew1) | exact HB.out)))); have n9_ := Aside0.mk (Kd.R_lower (Kd.R_new' (Kd.R_new' (Kd.R_new' (Kd.R_new' ho1 (Kd.R_lt (by (with_reducible repeat (first | apply Kd.R_alloc | apply Kd.R_drewN | apply Kd.R_drew)); exact HO341.out))) (Kd.R_lt (by (with_reducible repeat (first | apply Kd.R_alloc | apply Kd.R_drewN | apply Kd.R_drew)); exact HO350.out))) (Kd.R_lt (by (with_reducible repeat (first | apply Kd.R_alloc | apply Kd.R_drewN | apply Kd.R_drew)); exact HO357.out))) (Kd.R_lt (by (with_reducible repeat (first | apply Kd.R_alloc | apply Kd.R_drewN | apply Kd.R_drew)); exact HO360.out))) (below_size (by repeat (first | (with_reducible first | exact HB.out | apply below_alloc | apply pw_below_drewN | apply below_drew1) | exact HB.out)))); have n10_ := Aside0.mk (below_step (by repeat (first | (with_reducible first | exact HB.out | apply below_alloc | apply pw_below_drewN | apply below_drew1) | exact HB.out)) hb); clear HO341; clear HO343; clear HO348; clear HO350; clear HO355; clear HO357; clear HO360; clear HO363; clear HB; have HO341 := n0_; have HO343 := n1_; have HO348 := n2_; have HO350 := n3_; have HO355 := n4_; have HO357 := n5_; have HO360 := n6_; have HO363 := n7_; have HO368 := n8_; have HO370 := n9_; have HB := n10_; clear n0_ n1_ n2_ n3_ n4_ n5_ n6_ n7_ n8_ n9_ n10_; (try clear hb); (try clear hb2); (try clear hk); (try clear hi); (try clear ho0); (try clear ho1))); go_upto_region 9 with (first | (go_at_call 10; (with_reducible refine (laws_big.calls _ _ l0 false _ ?side1 ?side2 A2.out).mono ?_); (case side1 => repeat (first | exact HR0.out | (with_reducible refine Kd.C_alloc ?_ _) | (with_reducible refine Kd.C_drewN ?_ _) | (with_reducible refine Kd.C_drew ?_))); (case side2 => exact HC0.out); rintro e w' ⟨rfl, ⟨nd, rfl⟩⟩; (try first | exact ⟨rfl, _, World.drewN_drewN _ _ _⟩ | exact ⟨rfl, _, Eq.trans (World.drewN_drewN _ _ _) (congrArg (World.drewN _) (Nat.add_assoc _ _ _))⟩)) | (go_at_call 25; (with_reducible refine (spec_DrawTry.calls k _ _ l0 t337 t338 t339 _ ?side1 ?side2 A4.out).mono ?_); (case side1 => repeat (first | exact HR0.out | (with_reducible refine Kd.C_alloc ?_ _) | (with_reducible refine Kd.C_drewN ?_ _) | (with_reducible refine Kd.C_drew ?_))); (case side2 => exact HC0.out); rintro e w15 ⟨v340, v342, rfl, ho0, ho1, hb⟩; have n0_ := Aside0.mk (Kd.R_lower ho0 (below_size (by repeat (first | (with_reducible first | exact HB.out | apply below_alloc | apply pw_below_drewN | apply below_drew1) | exact HB.out)))); have n1_ := Aside0.mk (Kd.R_lower ho1 (below_size (by repeat (first | (with_reducible first | exact HB.out | apply below_alloc | apply pw_below_drewN | apply below_drew1) | exact HB.out)))); have n2_ := Aside0.mk (below_step (by repeat (first | (with_reducible first | exact HB.out | apply below_alloc | apply pw_below_drewN | apply below_drew1) | exact HB.out)) hb); clear HB; have HO341 := n0_; have HO343 := n1_; have HB := n2_; clear n0_ n1_ n2_; (try clear hb); (try clear hb2); (try clear hk); (try clear hi); (try clear ho0); (try clear ho1); obtain ⟨Ao16, co16, eo16⟩ := Kd.R_slice HO341.out; subst eo16; obtain ⟨Ao17, co17, eo17⟩ := Kd.R_slice HO343.out; subst eo17) | (go_at_call 26; (with_reducible refine (impl_Try.calls k t337 _ _ t338 _ _ t339 t344 t345 t346 _ ?side1 ?side2 ?side3 ?side4 A5.out).mono ?_); (case side1 => repeat (first | exact (Kd.R_reads' HO341.out).2.2 | (with_reducible refine Kd.C_alloc ?_ _) | (with_reducible refine Kd.C_drewN ?_ _) | (with_reducible refine Kd.C_drew ?_))); (case side2 => exact (Kd.R_reads' HO341.out).2.1); (case side3 => repeat (first | exact (Kd.R_reads' HO343.out).2.2 | (with_reducible refine Kd.C_alloc ?_ _) | (with_reducible refine Kd.C_drewN ?_ _) | (with_reducible refine Kd.C_drew ?_))); (case side4 => exact (Kd.R_reads' HO343.out).2.1); rintro e w18 ⟨v347, v349, rfl, ho0, ho1, hb⟩; have n0_ := Aside0.mk (Kd.R_elder' (by (with_reducible repeat (first | apply Kd.R_alloc | apply Kd.R_drewN | apply Kd.R_drew)); exact HO341.out) (Kd.R_base ho1) hb); have n1_ := Aside0.mk (Kd.R_below (by (with_reducible repeat (first | apply Kd.R_alloc | apply Kd.R_drewN | apply Kd.R_drew)); exact HO343.out) hb); have n2_ := Aside0.mk (Kd.R_lower ho0 (below_size (by repeat (first | (with_reducible first | exact HB.out | apply below_alloc | apply pw_below_drewN | apply below_drew1) | exact HB.out)))); have n3_ := Aside0.mk (Kd.R_lower (Kd.R_new' ho1 (Kd.R_lt (by (with_reducible repeat (first | apply Kd.R_alloc | apply Kd.R_drewN | apply Kd.R_drew)); exact HO341.out))) (below_size (by repeat (first | (with_reducible first | exact HB.out | apply below_alloc | apply pw_below_drewN | apply below_drew1) | exact HB.out)))); have n4_ := Aside0.mk (below_step (by repeat (first | (with_reducible first | exact HB.out | apply below_alloc | apply pw_below_drewN | apply below_drew1) | exact HB.out)) hb); clear HO341; clear HO343; clear HB; have HO341 := n0_; have HO343 := n1_; have HO348 := n2_; have HO350 := n3_; have HB := n4_; clear n0_ n1_ n2_ n3_ n4_; (try clear hb); (try clear hb2); (try clear hk); (try clear hi); (try clear ho0); (try clear ho1)) | (go_at_call 27; (with_reducible refine (spec_Try.calls k t337 _ _ t338 _ _ t339 t351 t352 t353 _ ?side1 ?side2 ?side3 ?side4 A6.out).mono ?_); (case side1 => repeat (first | exact (Kd.R_reads' HO341.out).2.2 | (with_reducible refine Kd.C_alloc ?_ _) | (with_reducible refine Kd.C_drewN ?_ _) | (with_reducible refine Kd.C_drew ?_))); (case side2 => exact (Kd.R_reads' HO341.out).2.1); (case side3 => repeat (first | exact (Kd.R_reads' HO343.out).2.2 | (with_reducible refine Kd.C_alloc ?_ _) | (with_reducible refine Kd.C_drewN ?_ _) | (with_reducible refine Kd.C_drew ?_))); (case side4 => exact (Kd.R_reads' HO343.out).2.1); rintro e w19 ⟨v354, v356, rfl, ho0, ho1, hb⟩; have n0_ := Aside0.mk (Kd.R_elder' (by (with_reducible repeat (first | apply Kd.R_alloc | apply Kd.R_drewN | apply Kd.R_drew)); exact HO341.out) (Kd.R_base ho1) hb); have n1_ := Aside0.mk (Kd.R_below (by (with_reducible repeat (first | apply Kd.R_alloc | apply Kd.R_drewN | apply Kd.R_drew)); exact HO343.out) hb); have n2_ := Aside0.mk (Kd.R_elder' (by (with_reducible repeat (first | apply Kd.R_alloc | apply Kd.R_drewN | apply Kd.R_drew)); exact HO348.out) (Kd.R_base ho0) hb); have n3_ := Aside0.mk (Kd.R_elder' (by (with_reducible repeat (first | apply Kd.R_alloc | apply Kd.R_drewN | apply Kd.R_drew)); exact HO350.out) (Kd.R_base ho1) hb); have n4_ := Aside0.mk (Kd.R_lower (Kd.R_new' ho0 (Kd.R_lt (by (with_reducible repeat (first | apply Kd.R_alloc | apply Kd.R_drewN | apply Kd.R_drew)); exact HO348.out))) (below_size (by repeat (first | (with_reducible first | exact HB.out | apply below_alloc | apply pw_below_drewN | apply below_drew1) | exact HB.out)))); have n5_ := Aside0.mk (Kd.R_lower (Kd.R_new' (Kd.R_new' ho1 (Kd.R_lt (by (with_reducible repeat (first | apply Kd.R_alloc | apply Kd.R_drewN | apply Kd.R_drew)); exact HO341.out))) (Kd.R_lt (by (with_reducible repeat (first | apply Kd.R_alloc | apply Kd.R_drewN | apply Kd.R_drew)); exact HO350.out))) (below_size (by repeat (first | (with_reducible first | exact HB.out | apply below_alloc | apply pw_below_drewN | apply below_drew1) | exact HB.out)))); have n6_ := Aside0.mk (below_step (by repeat (first | (with_reducible first | exact HB.out | apply below_alloc | apply pw_below_drewN | apply below_drew1) | exact HB.out)) hb); clear HO341; clear HO343; clear HO348; clear HO350; clear HB; have HO341 := n0_; have HO343 := n1_; have HO348 := n2_; have HO350 := n3_; have HO355 := n4_; have HO357 := n5_; have HB := n6_; clear n0_ n1_ n2_ n3_ n4_ n5_ n6_; (try clear hb); (try clear hb2); (try clear hk); (try clear hi); (try clear ho0); (try clear ho1)) | ((with_reducible refine gate_dst (N := 48) rfl ?_); (try (refine gate_guard (by rfl) ?_; dsimp only)); refine Kd.R_lit (Kd.int .i64) _ 3 ?hg (N := 48) ?hd (xs := ([0, 0, 0, 0] : List Int)) (inner := [.int .i64 0, .int .i64 0, .int .i64 0, .int .i64 0]) (ok := fun _ => True) (okp := fun _ => True) ?hr ?hp (fun _ hk => hk) trivial (Below.refl _ _) (Nat.le_refl _) (by simp) ?_; (case hd => rfl); (case hg => rfl); (case hr => first | (go_simp; done) | (go_simp; rfl)); (case hp => exact (Reps.one (show Kd.M (Kd.int .i64) _ _ _ 0 [.int .i64 0] from rfl) (Reps.one (show Kd.M (Kd.int .i64) _ _ _ 0 [.int .i64 0] from rfl) (Reps.one (show Kd.M (Kd.int .i64) _ _ _ 0 [.int .i64 0] from rfl) (Reps.one (show Kd.M (Kd.int .i64) _ _ _ 0 [.int .i64 0] from rfl) (Reps.none _ _)))))); intro v359 w20 ho21 hb hg_ hnew_; clear hg_ hnew_; (first | rw [← Ny358.out] at ho21 | (simp only [Int.reduceToNat] at ho21; rw [← Ny358.out] at ho21)); have n0_ := Aside0.mk (Kd.R_elder' (by (with_reducible repeat (first | apply Kd.R_alloc | apply Kd.R_drewN | apply Kd.R_drew)); exact HO341.out) (Kd.R_base ho21) hb); have n1_ := Aside0.mk (Kd.R_below (by (with_reducible repeat (first | apply Kd.R_alloc | apply Kd.R_drewN | apply Kd.R_drew)); exact HO343.out) hb); have n2_ := Aside0.mk (Kd.R_below (by (with_reducible repeat (first | apply Kd.R_alloc | apply Kd.R_drewN | apply Kd.R_drew)); exact HO348.out) hb); have n3_ := Aside0.mk (Kd.R_elder' (by (with_reducible repeat (first | apply Kd.R_alloc | apply Kd.R_drewN | apply Kd.R_drew)); exact HO350.out) (Kd.R_base ho21) hb); have n4_ := Aside0.mk (Kd.R_below (by (with_reducible repeat (first | apply Kd.R_alloc | apply Kd.R_drewN | apply Kd.R_drew)); exact HO355.out) hb); have n5_ := Aside0.mk (Kd.R_elder' (by (with_reducible repeat (first | apply Kd.R_alloc | apply Kd.R_drewN | apply Kd.R_drew)); exact HO357.out) (Kd.R_base ho21) hb); have n6_ := Aside0.mk (Kd.R_lower (Kd.R_new' (Kd.R_new' (Kd.R_new' ho21 (Kd.R_lt (by (with_reducible repeat (first | apply Kd.R_alloc | apply Kd.R_drewN | apply Kd.R_drew)); exact HO341.out))) (Kd.R_lt (by (with_reducible repeat (first | apply Kd.R_alloc | apply Kd.R_drewN | apply Kd.R_drew)); exact HO350.out))) (Kd.R_lt (by (with_reducible repeat (first | apply Kd.R_alloc | apply Kd.R_drewN | apply Kd.R_drew)); exact HO357.out))) (below_size (by repeat (first | (with_reducible first | exact HB.out | apply below_alloc | apply pw_below_drewN | apply below_drew1) | exact HB.out)))); have n7_ := Aside0.mk (below_step (by repeat (first | (with_reducible first | exact HB.out | apply below_alloc | apply pw_below_drewN | apply below_drew1) | exact HB.out)) hb); clear HO341; clear HO343; clear HO348; clear HO350; clear HO355; clear HO357; clear HB; have HO341 := n0_; have HO343 := n1_; have HO348 := n2_; have HO350 := n3_; have HO355 := n4_; have HO357 := n5_; have HO360 := n6_; have HB := n7_; clear n0_ n1_ n2_ n3_ n4_ n5_ n6_ n7_; clear hb ho21) | ((with_reducible refine gate_dst (N := 52) rfl ?_); (try (refine gate_guard (by rfl) ?_; dsimp only)); refine Kd.R_lit k51 _ 51 ?hg (N := 52) ?hd (xs := ([(⟨0, 5, 0⟩ : S51), (⟨4, 0, 0⟩ : S51), (⟨5, 0, 0⟩ : S51)] : List (S51))) (inner := [.int .i64 0, .int .i64 5, .int .i64 0, .int .i64 4, .int .i64 0, .int .i64 0, .int .i64 5, .int .i64 0, .int .i64 0]) (ok := fun _ => True) (okp := fun _ => True) ?hr ?hp (fun _ hk => hk) trivial (Below.refl _ _) (Nat.le_refl _) (by simp) ?_; (case hd => rfl); (case hg => rfl); (case hr => first | (go_simp; done) | (go_simp; rfl)); (case hp => exact (Reps.c3 (show Kd.M k51 _ _ _ (⟨0, 5, 0⟩ : S51) [.int .i64 0, .int .i64 5, .int .i64 0] from (k51_mkM _ _ _ (⟨0, 5, 0⟩ : S51) )) (Reps.c3 (show Kd.M k51 _ _ _ (⟨4, 0, 0⟩ : S51) [.int .i64 4, .int .i64 0, .int .i64 0] from (k51_mkM _ _ _ (⟨4, 0, 0⟩ : S51) )) (Reps.c3 (show Kd.M k51 _ _ _ (⟨5, 0, 0⟩ : S51) [.int .i64 5, .int .i64 0, .int .i64 0] from (k51_mkM _ _ _ (⟨5, 0, 0⟩ : S51) )) (Reps.none _ _))))); intro v362 w22 ho23 hb hg_ hnew_; clear hg_ hnew_; (first | rw [← Ny361.out] at ho23 | (simp only [Int.reduceToNat] at ho23; rw [← Ny361.out] at ho23)); have n0_ := Aside0.mk (Kd.R_below (by (with_reducible repeat (first | apply Kd.R_alloc | apply Kd.R_drewN | apply Kd.R_drew)); exact HO341.out) hb); have n1_ := Aside0.mk (Kd.R_elder' (by (with_reducible repeat (first | apply Kd.R_alloc | apply Kd.R_drewN | apply Kd.R_drew)); exact HO343.out) (Kd.R_base ho23) hb); have n2_ := Aside0.mk (Kd.R_below (by (with_reducible repeat (first | apply Kd.R_alloc | apply Kd.R_drewN | apply Kd.R_drew)); exact HO348.out) hb); have n3_ := Aside0.mk (Kd.R_below (by (with_reducible repeat (first | apply Kd.R_alloc | apply Kd.R_drewN | apply Kd.R_drew)); exact HO350.out) hb); have n4_ := Aside0.mk (Kd.R_below (by (with_reducible repeat (first | apply Kd.R_alloc | apply Kd.R_drewN | apply Kd.R_drew)); exact HO355.out) hb); have n5_ := Aside0.mk (Kd.R_below (by (with_reducible repeat (first | apply Kd.R_alloc | apply Kd.R_drewN | apply Kd.R_drew)); exact HO357.out) hb); have n6_ := Aside0.mk (Kd.R_below (by (with_reducible repeat (first | apply Kd.R_alloc | apply Kd.R_drewN | apply Kd.R_drew)); exact HO360.out) hb); have n7_ := Aside0.mk (Kd.R_lower (Kd.R_new' ho23 (Kd.R_lt (by (with_reducible repeat (first | apply Kd.R_alloc | apply Kd.R_drewN | apply Kd.R_drew)); exact HO343.out))) (below_size (by repeat (first | (with_reducible first | exact HB.out | apply below_alloc | apply pw_below_drewN | apply below_drew1) | exact HB.out)))); have n8_ := Aside0.mk (below_step (by repeat (first | (with_reducible first | exact HB.out | apply below_alloc | apply pw_below_drewN | apply below_drew1) | exact HB.out)) hb); clear HO341; clear HO343; clear HO348; clear HO350; clear HO355; clear HO357; clear HO360; clear HB; have HO341 := n0_; have HO343 := n1_; have HO348 := n2_; have HO350 := n3_; have HO355 := n4_; have HO357 := n5_; have HO360 := n6_; have HO363 := n7_; have HB := n8_; clear n0_ n1_ n2_ n3_ n4_ n5_ n6_ n7_ n8_; clear hb ho23; obtain ⟨Ao24, co24, eo24⟩ := Kd.R_slice HO360.out; subst eo24; obtain ⟨Ao25, co25, eo25⟩ := Kd.R_slice HO363.out; subst eo25) | (go_at_call 26; (with_reducible refine (impl_Try.calls k 1 _ _ y358 _ _ y361 t364 t365 t366 _ ?side1 ?side2 ?side3 ?side4 A13.out).mono ?_); (case side1 => repeat (first | exact (Kd.R_reads' HO360.out).2.2 | (with_reducible refine Kd.C_alloc ?_ _) | (with_reducible refine Kd.C_drewN ?_ _) | (with_reducible refine Kd.C_drew ?_))); (case side2 => exact (Kd.R_reads' HO360.out).2.1); (case side3 => repeat (first | exact (Kd.R_reads' HO363.out).2.2 | (with_reducible refine Kd.C_alloc ?_ _) | (with_reducible refine Kd.C_drewN ?_ _) | (with_reducible refine Kd.C_drew ?_))); (case side4 => exact (Kd.R_reads' HO363.out).2.1); rintro e w26 ⟨v367, v369, rfl, ho0, ho1, hb⟩; have n0_ := Aside0.mk (Kd.R_elder' (by (with_reducible repeat (first | apply Kd.R_alloc | apply Kd.R_drewN | apply Kd.R_drew)); exact HO341.out) (Kd.R_base ho1) hb); have n1_ := Aside0.mk (Kd.R_below (by (with_reducible repeat (first | apply Kd.R_alloc | apply Kd.R_drewN | apply Kd.R_drew)); exact HO343.out) hb); have n2_ := Aside0.mk (Kd.R_elder' (by (with_reducible repeat (first | apply Kd.R_alloc | apply Kd.R_drewN | apply Kd.R_drew)); exact HO348.out) (Kd.R_base ho0) hb); have n3_ := Aside0.mk (Kd.R_elder' (by (with_reducible repeat (first | apply Kd.R_alloc | apply Kd.R_drewN | apply Kd.R_drew)); exact HO350.out) (Kd.R_base ho1) hb); have n4_ := Aside0.mk (Kd.R_elder' (by (with_reducible repeat (first | apply Kd.R_alloc | apply Kd.R_drewN | apply Kd.R_drew)); exact HO355.out) (Kd.R_base ho0) hb); have n5_ := Aside0.mk (Kd.R_elder' (by (with_reducible repeat (first | apply Kd.R_alloc | apply Kd.R_drewN | apply Kd.R_drew)); exact HO357.out) (Kd.R_base ho1) hb); have n6_ := Aside0.mk (Kd.R_elder' (by (with_reducible repeat (first | apply Kd.R_alloc | apply Kd.R_drewN | apply Kd.R_drew)); exact HO360.out) (Kd.R_base ho1) hb); have n7_ := Aside0.mk (Kd.R_below (by (with_reducible repeat (first | apply Kd.R_alloc | apply Kd.R_drewN | apply Kd.R_drew)); exact HO363.out) hb); have n8_ := Aside0.mk (Kd.R_lower (Kd.R_new' (Kd.R_new' ho0 (Kd.R_lt (by (with_reducible repeat (first | apply Kd.R_alloc | apply Kd.R_drewN | apply Kd.R_drew)); exact HO348.out))) (Kd.R_lt (by (with_reducible repeat (first | apply Kd.R_alloc | apply Kd.R_drewN | apply Kd.R_drew)); exact HO355.out))) (below_size (by repeat (first | (with_reducible first | exact HB.out | apply below_alloc | apply pw_below_drewN | apply below_drew1) | exact HB.out)))); have n9_ := Aside0.mk (Kd.R_lower (Kd.R_new' (Kd.R_new' (Kd.R_new' (Kd.R_new' ho1 (Kd.R_lt (by (with_reducible repeat (first | apply Kd.R_alloc | apply Kd.R_drewN | apply Kd.R_drew)); exact HO341.out))) (Kd.R_lt (by (with_reducible repeat (first | apply Kd.R_alloc | apply Kd.R_drewN | apply Kd.R_drew)); exact HO350.out))) (Kd.R_lt (by (with_reducible repeat (first | apply Kd.R_alloc | apply Kd.R_drewN | apply Kd.R_drew)); exact HO357.out))) (Kd.R_lt (by (with_reducible repeat (first | apply Kd.R_alloc | apply Kd.R_drewN | apply Kd.R_drew)); exact HO360.out))) (below_size (by repeat (first | (with_reducible first | exact HB.out | apply below_alloc | apply pw_below_drewN | apply below_drew1) | exact HB.out)))); have n10_ := Aside0.mk (below_step (by repeat (first | (with_reducible first | exact HB.out | apply below_alloc | apply pw_below_drewN | apply below_drew1) | exact HB.out)) hb); clear HO341; clear HO343; clear HO348; clear HO350; clear HO355; clear HO357; clear HO360; clear HO363; clear HB; have HO341 := n0_; have HO343 := n1_; have HO348 := n2_; have HO350 := n3_; have HO355 := n4_; have HO357 := n5_; have HO360 := n6_; have HO363 := n7_; have HO368 := n8_; have HO370 := n9_; have HB := n10_; clear n0_ n1_ n2_ n3_ n4_ n5_ n6_ n7_ n8_ n9_ n10_; (try clear hb); (try clear hb2); (try clear hk); (try clear hi); (try clear ho0); (try clear ho1))))
   (try simp only [Act.put, sqA, sqB, sqC])
   go_cut [100] (fun v100 wc => ∃ (kq : Nat) (x100_13 : Bool), v100 = .bool x100_13 ∧ Aside0 (laws_FnTried.j0 kq t337 t338 t339 t344 t345 t346 x100_13 = some r) ∧ Aside0 (kq ≤ k) ∧ Aside0 (Kd.R (Kd.int .i64) 3 wc w.heap.size (fun k_ => some k_ ≠ (v349 : Value).ownBlock) (.slice Ao16 t338.length co16) t338) ∧ Aside0 (Kd.R k51 51 wc w.heap.size (fun _ => True) (.slice Ao17 t339.length co17) t339) ∧ Aside0 (Kd.R Kd.bool 4 wc w.heap.size (fun _ => True) v347 t344) ∧ Aside0 (Kd.R (Kd.int .i64) 3 wc w.heap.size (fun k_ => some k_ ≠ ((.slice Ao16 t338.length co16) : Value).ownBlock) v349 t345) ∧ Aside0 (Below w.heap.size w wc))
   case first =>
    have H := HC14.out
    clear HC14
    by_cases c27 : t366 = true
    ·subst c27
     have H1 : (if (t364.length : Int) = 3 then (if 0 < (t364.length : Int) then (if rdOf false t364 0 = true then (if 1 < (t364.length : Int) then (if rdOf false t364 1 = true then (laws_FnTried.j0 k t337 t338 t339 t344 t345 t346 true) else (if 2 < (t364.length : Int) then (if rdOf false t364 2 = true then ((laws_sameInts.f k t365 (([1, 1, 1] : List Int))).bind fun t377 => (if t377 = true then (if (t344.length : Int) > (t339.length : Int) then (laws_FnTried.j0 k t337 t338 t339 t344 t345 t346 true) else (laws_FnTried.j0 k t337 t338 t339 t344 t345 t346 ((t345.length : Int) != (t344.length : Int)))) else (laws_FnTried.j0 k t337 t338 t339 t344 t345 t346 true))) else (laws_FnTried.j0 k t337 t338 t339 t344 t345 t346 true)) else (none))) else (none)) else (laws_FnTried.j0 k t337 t338 t339 t344 t345 t346 true)) else (none)) else (laws_FnTried.j0 k t337 t338 t339 t344 t345 t346 true)) = some r := by rw [if_pos rfl] at H; exact H
     clear H
     have H := H1
     clear H1
     by_cases c28 : (t364.length : Int) = 3
     ·rw [if_pos c28] at H
      have c28b0 : ((t364.length : Int) == 3) = true := beq_iff_eq.mpr c28
      have c28b1 : ((t364.length : Int) != 3) = false := bne_eq_false_iff_eq.mpr c28
      clear c28
      (first | rw [c28b0] | (simp only [i64_w, i32_w]; rw [c28b0]) | skip)
      by_cases c29 : 0 < (t364.length : Int)
      ·rw [if_pos c29] at H
       have c29b0 : decide (0 < (t364.length : Int)) = true := decide_eq_true c29
       have c29b1 : decide (0 < t364.length) = true := decide_eq_true (by omega)
       clear c29
       obtain ⟨bq30, hbq30⟩ : ∃ b_ : Bool, b_ = (rdOf false t364 0) := ⟨_, rfl⟩
       replace H : (if bq30 = true then (if 1 < (t364.length : Int) then (if rdOf false t364 1 = true then (laws_FnTried.j0 k t337 t338 t339 t344 t345 t346 true) else (if 2 < (t364.length : Int) then (if rdOf false t364 2 = true then ((laws_sameInts.f k t365 (([1, 1, 1] : List Int))).bind fun t377 => (if t377 = true then (if (t344.length : Int) > (t339.length : Int) then (laws_FnTried.j0 k t337 t338 t339 t344 t345 t346 true) else (laws_FnTried.j0 k t337 t338 t339 t344 t345 t346 ((t345.length : Int) != (t344.length : Int)))) else (laws_FnTried.j0 k t337 t338 t339 t344 t345 t346 true))) else (laws_FnTried.j0 k t337 t338 t339 t344 t345 t346 true)) else (none))) else (none)) else (laws_FnTried.j0 k t337 t338 t339 t344 t345 t346 true)) = some r := by rw [← hbq30] at H; exact H
       have Nbq30 := Aside0.mk hbq30
       clear hbq30
       by_cases c31 : bq30 = true
       ·subst c31
        have H1 : (if 1 < (t364.length : Int) then (if rdOf false t364 1 = true then (laws_FnTried.j0 k t337 t338 t339 t344 t345 t346 true) else (if 2 < (t364.length : Int) then (if rdOf false t364 2 = true then ((laws_sameInts.f k t365 (([1, 1, 1] : List Int))).bind fun t377 => (if t377 = true then (if (t344.length : Int) > (t339.length : Int) then (laws_FnTried.j0 k t337 t338 t339 t344 t345 t346 true) else (laws_FnTried.j0 k t337 t338 t339 t344 t345 t346 ((t345.length : Int) != (t344.length : Int)))) else (laws_FnTried.j0 k t337 t338 t339 t344 t345 t346 true))) else (laws_FnTried.j0 k t337 t338 t339 t344 t345 t346 true)) else (none))) else (none)) = some r := by rw [if_pos rfl] at H; exact H
        clear H
        have H := H1
        clear H1
        by_cases c32 : 1 < (t364.length : Int)
        ·rw [if_pos c32] at H
         have c32b0 : decide (1 < (t364.length : Int)) = true := decide_eq_true c32
         have c32b1 : decide (1 < t364.length) = true := decide_eq_true (by omega)
         clear c32
         obtain ⟨bq33, hbq33⟩ : ∃ b_ : Bool, b_ = (rdOf false t364 1) := ⟨_, rfl⟩
         replace H : (if bq33 = true then (laws_FnTried.j0 k t337 t338 t339 t344 t345 t346 true) else (if 2 < (t364.length : Int) then (if rdOf false t364 2 = true then ((laws_sameInts.f k t365 (([1, 1, 1] : List Int))).bind fun t377 => (if t377 = true then (if (t344.length : Int) > (t339.length : Int) then (laws_FnTried.j0 k t337 t338 t339 t344 t345 t346 true) else (laws_FnTried.j0 k t337 t338 t339 t344 t345 t346 ((t345.length : Int) != (t344.length : Int)))) else (laws_FnTried.j0 k t337 t338 t339 t344 t345 t346 true))) else (laws_FnTried.j0 k t337 t338 t339 t344 t345 t346 true)) else (none))) = some r := by rw [← hbq33] at H; exact H
         have Nbq33 := Aside0.mk hbq33
         clear hbq33
         by_cases c34 : bq33 = true
         ·subst c34
          have H1 : (laws_FnTried.j0 k t337 t338 t339 t344 t345 t346 true) = some r := by rw [if_pos rfl] at H; exact H
          clear H
          have H := H1
          clear H1
          have H' := Aside0.mk H
          clear H
          obtain ⟨Ao35, co35, eo35⟩ := Kd.R_slice HO368.out
          subst eo35
          have p371 : 0 ≤ (0 : Int) := (by omega)
          have q371 : 0 < (t364.length : Int) := of_decide_eq_true (by first | (with_reducible assumption) | assumption)
          obtain ⟨ad371, e371, hx371_0⟩ := Kd.at_bool (Kd.R_reads' HO368.out).2.2 0 p371 q371
          (try rw [← Nbq30.out] at hx371_0)
          (try rw [← Nbq33.out] at hx371_0)
          cases e371
          have qi371 : (0 < t364.length) = True := eq_true (by omega)
          (try rw [show ((0 : Int)).toNat = 0 from rfl] at hx371_0)
          (try rw [Addr.add_zero'] at hx371_0)
          replace p371 := eq_true p371
          replace q371 := eq_true q371
          have p372 : 0 ≤ (1 : Int) := (by omega)
          have q372 : 1 < (t364.length : Int) := of_decide_eq_true (by first | (with_reducible assumption) | assumption)
          obtain ⟨ad372, e372, hx372_0⟩ := Kd.at_bool (Kd.R_reads' HO368.out).2.2 1 p372 q372
          (try rw [← Nbq30.out] at hx372_0)
          (try rw [← Nbq33.out] at hx372_0)
          obtain rfl : ad371 = ad372 := (by injection e372)
          (try simp only [show (1 : Int).toNat = 1 from rfl, Nat.reduceMul, Nat.reduceEqDiff, Go.Addr.add, ↓reduceIte] at hx372_0)
          have qi372 : (1 < t364.length) = True := eq_true (by omega)
          (try rw [show ((1 : Int)).toNat = 1 from rfl] at hx372_0)
          replace p372 := eq_true p372
          replace q372 := eq_true q372
          go_wp2
          repeat (go_quiet (fail); try go_wp2)
          go_meet
          case rel => exact ⟨_, (true), (by first | rfl | (simp; done) | (simp [*]; done)), H', ⟨by first | omega | exact Nat.le_refl _⟩, ⟨by (with_reducible repeat (first | apply Kd.R_alloc | apply Kd.R_drewN | apply Kd.R_drew)); exact Kd.R_mono HO341.out (fun _ hk => hk.1.1.1.2)⟩, ⟨by (with_reducible repeat (first | apply Kd.R_alloc | apply Kd.R_drewN | apply Kd.R_drew)); exact Kd.R_mono HO343.out (fun _ hk => trivial)⟩, ⟨by (with_reducible repeat (first | apply Kd.R_alloc | apply Kd.R_drewN | apply Kd.R_drew)); exact Kd.R_mono HO348.out (fun _ hk => trivial)⟩, ⟨by (with_reducible repeat (first | apply Kd.R_alloc | apply Kd.R_drewN | apply Kd.R_drew)); exact Kd.R_mono HO350.out (fun _ hk => hk.1.1.1.2)⟩, ⟨by repeat (first | (with_reducible first | exact HB.out | apply below_alloc | apply pw_below_drewN | apply below_drew1) | exact HB.out)⟩⟩
         ·replace c34 := Bool.eq_false_iff.mpr c34
          subst c34
          have H1 : (if 2 < (t364.length : Int) then (if rdOf false t364 2 = true then ((laws_sameInts.f k t365 (([1, 1, 1] : List Int))).bind fun t377 => (if t377 = true then (if (t344.length : Int) > (t339.length : Int) then (laws_FnTried.j0 k t337 t338 t339 t344 t345 t346 true) else (laws_FnTried.j0 k t337 t338 t339 t344 t345 t346 ((t345.length : Int) != (t344.length : Int)))) else (laws_FnTried.j0 k t337 t338 t339 t344 t345 t346 true))) else (laws_FnTried.j0 k t337 t338 t339 t344 t345 t346 true)) else (none)) = some r := by rw [if_neg (show ¬ (false = true) by decide)] at H; exact H
          clear H
          have H := H1
          clear H1
          by_cases c36 : 2 < (t364.length : Int)
          ·rw [if_pos c36] at H
           have c36b0 : decide (2 < (t364.length : Int)) = true := decide_eq_true c36
           have c36b1 : decide (2 < t364.length) = true := decide_eq_true (by omega)
           clear c36
           obtain ⟨bq37, hbq37⟩ : ∃ b_ : Bool, b_ = (rdOf false t364 2) := ⟨_, rfl⟩
           replace H : (if bq37 = true then ((laws_sameInts.f k t365 (([1, 1, 1] : List Int))).bind fun t377 => (if t377 = true then (if (t344.length : Int) > (t339.length : Int) then (laws_FnTried.j0 k t337 t338 t339 t344 t345 t346 true) else (laws_FnTried.j0 k t337 t338 t339 t344 t345 t346 ((t345.length : Int) != (t344.length : Int)))) else (laws_FnTried.j0 k t337 t338 t339 t344 t345 t346 true))) else (laws_FnTried.j0 k t337 t338 t339 t344 t345 t346 true)) = some r := by rw [← hbq37] at H; exact H
           have Nbq37 := Aside0.mk hbq37
           clear hbq37
           by_cases c38 : bq37 = true
           ·subst c38
            have H1 : ((laws_sameInts.f k t365 (([1, 1, 1] : List Int))).bind fun t377 => (if t377 = true then (if (t344.length : Int) > (t339.length : Int) then (laws_FnTried.j0 k t337 t338 t339 t344 t345 t346 true) else (laws_FnTried.j0 k t337 t338 t339 t344 t345 t346 ((t345.length : Int) != (t344.length : Int)))) else (laws_FnTried.j0 k t337 t338 t339 t344 t345 t346 true))) = some r := by rw [if_pos rfl] at H; exact H
            clear H
            have H := H1
            clear H1
            obtain ⟨y374, hy374⟩ : ∃ y_ : List Int, y_ = (([1, 1, 1] : List Int)) := ⟨_, rfl⟩
            replace H : ((laws_sameInts.f k t365 y374).bind fun t377 => (if t377 = true then (if (t344.length : Int) > (t339.length : Int) then (laws_FnTried.j0 k t337 t338 t339 t344 t345 t346 true) else (laws_FnTried.j0 k t337 t338 t339 t344 t345 t346 ((t345.length : Int) != (t344.length : Int)))) else (laws_FnTried.j0 k t337 t338 t339 t344 t345 t346 true))) = some r := by first | (rw [hy374]; with_reducible exact H) | (have H2_ := (Option.bind_some _ _).symm.trans H; rw [hy374]; with_reducible exact H2_) | (have H2_ := (Option.bind_some _ _).symm.trans H; with_reducible exact H2_) | with_reducible exact H | (rw [hy374]; exact H) | exact H
            have Ny374 := Aside0.mk hy374
            clear hy374
            replace H := Option.bind_eq_some_iff.mp H
            obtain ⟨t377, A390, H⟩ := H
            replace H : (if t377 = true then (if (t344.length : Int) > (t339.length : Int) then (laws_FnTried.j0 k t337 t338 t339 t344 t345 t346 true) else (laws_FnTried.j0 k t337 t338 t339 t344 t345 t346 ((t345.length : Int) != (t344.length : Int)))) else (laws_FnTried.j0 k t337 t338 t339 t344 t345 t346 true)) = some r := H
            have A39 := Aside0.mk A390
            clear A390
            by_cases c40 : t377 = true
            ·subst c40
             have H1 : (if (t344.length : Int) > (t339.length : Int) then (laws_FnTried.j0 k t337 t338 t339 t344 t345 t346 true) else (laws_FnTried.j0 k t337 t338 t339 t344 t345 t346 ((t345.length : Int) != (t344.length : Int)))) = some r := by rw [if_pos rfl] at H; exact H
             clear H
             have H := H1
             clear H1
             by_cases c41 : (t344.length : Int) > (t339.length : Int)
             ·rw [if_pos c41] at H
              have c41b0 : decide ((t339.length : Int) < (t344.length : Int)) = true := decide_eq_true c41
              have c41b1 : decide (t339.length < t344.length) = true := decide_eq_true (Int.ofNat_lt.mp c41)
              clear c41
              have H' := Aside0.mk H
              clear H
              obtain ⟨Ao42, co42, eo42⟩ := Kd.R_slice HO368.out
              subst eo42
              have p371 : 0 ≤ (0 : Int) := (by omega)
              have q371 : 0 < (t364.length : Int) := of_decide_eq_true (by first | (with_reducible assumption) | assumption)
              obtain ⟨ad371, e371, hx371_0⟩ := Kd.at_bool (Kd.R_reads' HO368.out).2.2 0 p371 q371
              (try rw [← Nbq30.out] at hx371_0)
              (try rw [← Nbq33.out] at hx371_0)
              (try rw [← Nbq37.out] at hx371_0)
              cases e371
              have qi371 : (0 < t364.length) = True := eq_true (by omega)
              (try rw [show ((0 : Int)).toNat = 0 from rfl] at hx371_0)
              (try rw [Addr.add_zero'] at hx371_0)
              replace p371 := eq_true p371
              replace q371 := eq_true q371
              have p372 : 0 ≤ (1 : Int) := (by omega)
              have q372 : 1 < (t364.length : Int) := of_decide_eq_true (by first | (with_reducible assumption) | assumption)
              obtain ⟨ad372, e372, hx372_0⟩ := Kd.at_bool (Kd.R_reads' HO368.out).2.2 1 p372 q372
              (try rw [← Nbq30.out] at hx372_0)
              (try rw [← Nbq33.out] at hx372_0)
              (try rw [← Nbq37.out] at hx372_0)
              obtain rfl : ad371 = ad372 := (by injection e372)
              (try simp only [show (1 : Int).toNat = 1 from rfl, Nat.reduceMul, Nat.reduceEqDiff, Go.Addr.add, ↓reduceIte] at hx372_0)
              have qi372 : (1 < t364.length) = True := eq_true (by omega)
              (try rw [show ((1 : Int)).toNat = 1 from rfl] at hx372_0)
              replace p372 := eq_true p372
              replace q372 := eq_true q372
              have p373 : 0 ≤ (2 : Int) := (by omega)
              have q373 : 2 < (t364.length : Int) := of_decide_eq_true (by first | (with_reducible assumption) | assumption)
              obtain ⟨ad373, e373, hx373_0⟩ := Kd.at_bool (Kd.R_reads' HO368.out).2.2 2 p373 q373
              (try rw [← Nbq30.out] at hx373_0)
              (try rw [← Nbq33.out] at hx373_0)
              (try rw [← Nbq37.out] at hx373_0)
              obtain rfl : ad371 = ad373 := (by injection e373)
              (try simp only [show (2 : Int).toNat = 2 from rfl, Nat.reduceMul, Nat.reduceEqDiff, Go.Addr.add, ↓reduceIte] at hx373_0)
              have qi373 : (2 < t364.length) = True := eq_true (by omega)
              (try rw [show ((2 : Int)).toNat = 2 from rfl] at hx373_0)
              replace p373 := eq_true p373
              replace q373 := eq_true q373
              go_wp2_with (first | ((with_reducible refine gate_dst (N := 83) rfl ?_); (try (refine gate_guard (by rfl) ?_; dsimp only)); refine Kd.R_lit (Kd.int .i64) _ 3 ?hg (N := 83) ?hd (xs := ([1, 1, 1] : List Int)) (inner := [.int .i64 1, .int .i64 1, .int .i64 1]) (ok := fun _ => True) (okp := fun _ => True) ?hr ?hp (fun _ hk => hk) trivial (Below.refl _ _) (Nat.le_refl _) (by simp) ?_; (case hd => rfl); (case hg => rfl); (case hr => first | (go_simp; done) | (go_simp; rfl)); (case hp => exact (Reps.one (show Kd.M (Kd.int .i64) _ _ _ 1 [.int .i64 1] from rfl) (Reps.one (show Kd.M (Kd.int .i64) _ _ _ 1 [.int .i64 1] from rfl) (Reps.one (show Kd.M (Kd.int .i64) _ _ _ 1 [.int .i64 1] from rfl) (Reps.none _ _))))); intro v375 w43 ho44 hb hg_ hnew_; clear hg_ hnew_; (first | rw [← Ny374.out] at ho44 | (simp only [Int.reduceToNat] at ho44; rw [← Ny374.out] at ho44)); have n0_ := Aside0.mk (Kd.R_elder' (by (with_reducible repeat (first | apply Kd.R_alloc | apply Kd.R_drewN | apply Kd.R_drew)); exact HO341.out) (Kd.R_base ho44) hb); have n1_ := Aside0.mk (Kd.R_below (by (with_reducible repeat (first | apply Kd.R_alloc | apply Kd.R_drewN | apply Kd.R_drew)); exact HO343.out) hb); have n2_ := Aside0.mk (Kd.R_below (by (with_reducible repeat (first | apply Kd.R_alloc | apply Kd.R_drewN | apply Kd.R_drew)); exact HO348.out) hb); have n3_ := Aside0.mk (Kd.R_elder' (by (with_reducible repeat (first | apply Kd.R_alloc | apply Kd.R_drewN | apply Kd.R_drew)); exact HO350.out) (Kd.R_base ho44) hb); have n4_ := Aside0.mk (Kd.R_below (by (with_reducible repeat (first | apply Kd.R_alloc | apply Kd.R_drewN | apply Kd.R_drew)); exact HO355.out) hb); have n5_ := Aside0.mk (Kd.R_elder' (by (with_reducible repeat (first | apply Kd.R_alloc | apply Kd.R_drewN | apply Kd.R_drew)); exact HO357.out) (Kd.R_base ho44) hb); have n6_ := Aside0.mk (Kd.R_elder' (by (with_reducible repeat (first | apply Kd.R_alloc | apply Kd.R_drewN | apply Kd.R_drew)); exact HO360.out) (Kd.R_base ho44) hb); have n7_ := Aside0.mk (Kd.R_below (by (with_reducible repeat (first | apply Kd.R_alloc | apply Kd.R_drewN | apply Kd.R_drew)); exact HO363.out) hb); have n8_ := Aside0.mk (Kd.R_below (by (with_reducible repeat (first | apply Kd.R_alloc | apply Kd.R_drewN | apply Kd.R_drew)); exact HO368.out) hb); have n9_ := Aside0.mk (Kd.R_elder' (by (with_reducible repeat (first | apply Kd.R_alloc | apply Kd.R_drewN | apply Kd.R_drew)); exact HO370.out) (Kd.R_base ho44) hb); have n10_ := Aside0.mk (Kd.R_lower (Kd.R_new' (Kd.R_new' (Kd.R_new' (Kd.R_new' (Kd.R_new' ho44 (Kd.R_lt (by (with_reducible repeat (first | apply Kd.R_alloc | apply Kd.R_drewN | apply Kd.R_drew)); exact HO341.out))) (Kd.R_lt (by (with_reducible repeat (first | apply Kd.R_alloc | apply Kd.R_drewN | apply Kd.R_drew)); exact HO350.out))) (Kd.R_lt (by (with_reducible repeat (first | apply Kd.R_alloc | apply Kd.R_drewN | apply Kd.R_drew)); exact HO357.out))) (Kd.R_lt (by (with_reducible repeat (first | apply Kd.R_alloc | apply Kd.R_drewN | apply Kd.R_drew)); exact HO360.out))) (Kd.R_lt (by (with_reducible repeat (first | apply Kd.R_alloc | apply Kd.R_drewN | apply Kd.R_drew)); exact HO370.out))) (below_size (by repeat (first | (with_reducible first | exact HB.out | apply below_alloc | apply pw_below_drewN | apply below_drew1) | exact HB.out)))); have n11_ := Aside0.mk (below_step (by repeat (first | (with_reducible first | exact HB.out | apply below_alloc | apply pw_below_drewN | apply below_drew1) | exact HB.out)) hb); clear HO341; clear HO343; clear HO348; clear HO350; clear HO355; clear HO357; clear HO360; clear HO363; clear HO368; clear HO370; clear HB; have HO341 := n0_; have HO343 := n1_; have HO348 := n2_; have HO350 := n3_; have HO355 := n4_; have HO357 := n5_; have HO360 := n6_; have HO363 := n7_; have HO368 := n8_; have HO370 := n9_; have HO376 := n10_; have HB := n11_; clear n0_ n1_ n2_ n3_ n4_ n5_ n6_ n7_ n8_ n9_ n10_ n11_; clear hb ho44; obtain ⟨Ao45, co45, eo45⟩ := Kd.R_slice HO370.out; subst eo45; obtain ⟨Ao46, co46, eo46⟩ := Kd.R_slice HO376.out; subst eo46) | (go_at_call 14; (with_reducible refine (laws_sameInts.calls k _ _ t365 _ _ y374 true _ ?side1 ?side2 ?side3 ?side4 A39.out).mono ?_); (case side1 => repeat (first | exact (Kd.R_reads' HO370.out).2.2 | (with_reducible refine Kd.C_alloc ?_ _) | (with_reducible refine Kd.C_drewN ?_ _) | (with_reducible refine Kd.C_drew ?_))); (case side2 => exact (Kd.R_reads' HO370.out).2.1); (case side3 => repeat (first | exact (Kd.R_reads' HO376.out).2.2 | (with_reducible refine Kd.C_alloc ?_ _) | (with_reducible refine Kd.C_drewN ?_ _) | (with_reducible refine Kd.C_drew ?_))); (case side4 => exact (Kd.R_reads' HO376.out).2.1); rintro e w' ⟨rfl, ⟨nd, rfl⟩⟩; (try first | exact ⟨rfl, _, World.drewN_drewN _ _ _⟩ | exact ⟨rfl, _, Eq.trans (World.drewN_drewN _ _ _) (congrArg (World.drewN _) (Nat.add_assoc _ _ _))⟩); obtain ⟨Ao47, co47, eo47⟩ := Kd.R_slice HO348.out; subst eo47))
              repeat (go_quiet (first | ((with_reducible refine gate_dst (N := 83) rfl ?_); (try (refine gate_guard (by rfl) ?_; dsimp only)); refine Kd.R_lit (Kd.int .i64) _ 3 ?hg (N := 83) ?hd (xs := ([1, 1, 1] : List Int)) (inner := [.int .i64 1, .int .i64 1, .int .i64 1]) (ok := fun _ => True) (okp := fun _ => True) ?hr ?hp (fun _ hk => hk) trivial (Below.refl _ _) (Nat.le_refl _) (by simp) ?_; (case hd => rfl); (case hg => rfl); (case hr => first | (go_simp; done) | (go_simp; rfl)); (case hp => exact (Reps.one (show Kd.M (Kd.int .i64) _ _ _ 1 [.int .i64 1] from rfl) (Reps.one (show Kd.M (Kd.int .i64) _ _ _ 1 [.int .i64 1] from rfl) (Reps.one (show Kd.M (Kd.int .i64) _ _ _ 1 [.int .i64 1] from rfl) (Reps.none _ _))))); intro v375 w43 ho44 hb hg_ hnew_; clear hg_ hnew_; (first | rw [← Ny374.out] at ho44 | (simp only [Int.reduceToNat] at ho44; rw [← Ny374.out] at ho44)); have n0_ := Aside0.mk (Kd.R_elder' (by (with_reducible repeat (first | apply Kd.R_alloc | apply Kd.R_drewN | apply Kd.R_drew)); exact HO341.out) (Kd.R_base ho44) hb); have n1_ := Aside0.mk (Kd.R_below (by (with_reducible repeat (first | apply Kd.R_alloc | apply Kd.R_drewN | apply Kd.R_drew)); exact HO343.out) hb); have n2_ := Aside0.mk (Kd.R_below (by (with_reducible repeat (first | apply Kd.R_alloc | apply Kd.R_drewN | apply Kd.R_drew)); exact HO348.out) hb); have n3_ := Aside0.mk (Kd.R_elder' (by (with_reducible repeat (first | apply Kd.R_alloc | apply Kd.R_drewN | apply Kd.R_drew)); exact HO350.out) (Kd.R_base ho44) hb); have n4_ := Aside0.mk (Kd.R_below (by (with_reducible repeat (first | apply Kd.R_alloc | apply Kd.R_drewN | apply Kd.R_drew)); exact HO355.out) hb); have n5_ := Aside0.mk (Kd.R_elder' (by (with_reducible repeat (first | apply Kd.R_alloc | apply Kd.R_drewN | apply Kd.R_drew)); exact HO357.out) (Kd.R_base ho44) hb); have n6_ := Aside0.mk (Kd.R_elder' (by (with_reducible repeat (first | apply Kd.R_alloc | apply Kd.R_drewN | apply Kd.R_drew)); exact HO360.out) (Kd.R_base ho44) hb); have n7_ := Aside0.mk (Kd.R_below (by (with_reducible repeat (first | apply Kd.R_alloc | apply Kd.R_drewN | apply Kd.R_drew)); exact HO363.out) hb); have n8_ := Aside0.mk (Kd.R_below (by (with_reducible repeat (first | apply Kd.R_alloc | apply Kd.R_drewN | apply Kd.R_drew)); exact HO368.out) hb); have n9_ := Aside0.mk (Kd.R_elder' (by (with_reducible repeat (first | apply Kd.R_alloc | apply Kd.R_drewN | apply Kd.R_drew)); exact HO370.out) (Kd.R_base ho44) hb); have n10_ := Aside0.mk (Kd.R_lower (Kd.R_new' (Kd.R_new' (Kd.R_new' (Kd.R_new' (Kd.R_new' ho44 (Kd.R_lt (by (with_reducible repeat (first | apply Kd.R_alloc | apply Kd.R_drewN | apply Kd.R_drew)); exact HO341.out))) (Kd.R_lt (by (with_reducible repeat (first | apply Kd.R_alloc | apply Kd.R_drewN | apply Kd.R_drew)); exact HO350.out))) (Kd.R_lt (by (with_reducible repeat (first | apply Kd.R_alloc | apply Kd.R_drewN | apply Kd.R_drew)); exact HO357.out))) (Kd.R_lt (by (with_reducible repeat (first | apply Kd.R_alloc | apply Kd.R_drewN | apply Kd.R_drew)); exact HO360.out))) (Kd.R_lt (by (with_reducible repeat (first | apply Kd.R_alloc | apply Kd.R_drewN | apply Kd.R_drew)); exact HO370.out))) (below_size (by repeat (first | (with_reducible first | exact HB.out | apply below_alloc | apply pw_below_drewN | apply below_drew1) | exact HB.out)))); have n11_ := Aside0.mk (below_step (by repeat (first | (with_reducible first | exact HB.out | apply below_alloc | apply pw_below_drewN | apply below_drew1) | exact HB.out)) hb); clear HO341; clear HO343; clear HO348; clear HO350; clear HO355; clear HO357; clear HO360; clear HO363; clear HO368; clear HO370; clear HB; have HO341 := n0_; have HO343 := n1_; have HO348 := n2_; have HO350 := n3_; have HO355 := n4_; have HO357 := n5_; have HO360 := n6_; have HO363 := n7_; have HO368 := n8_; have HO370 := n9_; have HO376 := n10_; have HB := n11_; clear n0_ n1_ n2_ n3_ n4_ n5_ n6_ n7_ n8_ n9_ n10_ n11_; clear hb ho44; obtain ⟨Ao45, co45, eo45⟩ := Kd.R_slice HO370.out; subst eo45; obtain ⟨Ao46, co46, eo46⟩ := Kd.R_slice HO376.out; subst eo46) | (go_at_call 14; (with_reducible refine (laws_sameInts.calls k _ _ t365 _ _ y374 true _ ?side1 ?side2 ?side3 ?side4 A39.out).mono ?_); (case side1 => repeat (first | exact (Kd.R_reads' HO370.out).2.2 | (with_reducible refine Kd.C_alloc ?_ _) | (with_reducible refine Kd.C_drewN ?_ _) | (with_reducible refine Kd.C_drew ?_))); (case side2 => exact (Kd.R_reads' HO370.out).2.1); (case side3 => repeat (first | exact (Kd.R_reads' HO376.out).2.2 | (with_reducible refine Kd.C_alloc ?_ _) | (with_reducible refine Kd.C_drewN ?_ _) | (with_reducible refine Kd.C_drew ?_))); (case side4 => exact (Kd.R_reads' HO376.out).2.1); rintro e w' ⟨rfl, ⟨nd, rfl⟩⟩; (try first | exact ⟨rfl, _, World.drewN_drewN _ _ _⟩ | exact ⟨rfl, _, Eq.trans (World.drewN_drewN _ _ _) (congrArg (World.drewN _) (Nat.add_assoc _ _ _))⟩); obtain ⟨Ao47, co47, eo47⟩ := Kd.R_slice HO348.out; subst eo47)); try go_wp2_with (first | ((with_reducible refine gate_dst (N := 83) rfl ?_); (try (refine gate_guard (by rfl) ?_; dsimp only)); refine Kd.R_lit (Kd.int .i64) _ 3 ?hg (N := 83) ?hd (xs := ([1, 1, 1] : List Int)) (inner := [.int .i64 1, .int .i64 1, .int .i64 1]) (ok := fun _ => True) (okp := fun _ => True) ?hr ?hp (fun _ hk => hk) trivial (Below.refl _ _) (Nat.le_refl _) (by simp) ?_; (case hd => rfl); (case hg => rfl); (case hr => first | (go_simp; done) | (go_simp; rfl)); (case hp => exact (Reps.one (show Kd.M (Kd.int .i64) _ _ _ 1 [.int .i64 1] from rfl) (Reps.one (show Kd.M (Kd.int .i64) _ _ _ 1 [.int .i64 1] from rfl) (Reps.one (show Kd.M (Kd.int .i64) _ _ _ 1 [.int .i64 1] from rfl) (Reps.none _ _))))); intro v375 w43 ho44 hb hg_ hnew_; clear hg_ hnew_; (first | rw [← Ny374.out] at ho44 | (simp only [Int.reduceToNat] at ho44; rw [← Ny374.out] at ho44)); have n0_ := Aside0.mk (Kd.R_elder' (by (with_reducible repeat (first | apply Kd.R_alloc | apply Kd.R_drewN | apply Kd.R_drew)); exact HO341.out) (Kd.R_base ho44) hb); have n1_ := Aside0.mk (Kd.R_below (by (with_reducible repeat (first | apply Kd.R_alloc | apply Kd.R_drewN | apply Kd.R_drew)); exact HO343.out) hb); have n2_ := Aside0.mk (Kd.R_below (by (with_reducible repeat (first | apply Kd.R_alloc | apply Kd.R_drewN | apply Kd.R_drew)); exact HO348.out) hb); have n3_ := Aside0.mk (Kd.R_elder' (by (with_reducible repeat (first | apply Kd.R_alloc | apply Kd.R_drewN | apply Kd.R_drew)); exact HO350.out) (Kd.R_base ho44) hb); have n4_ := Aside0.mk (Kd.R_below (by (with_reducible repeat (first | apply Kd.R_alloc | apply Kd.R_drewN | apply Kd.R_drew)); exact HO355.out) hb); have n5_ := Aside0.mk (Kd.R_elder' (by (with_reducible repeat (first | apply Kd.R_alloc | apply Kd.R_drewN | apply Kd.R_drew)); exact HO357.out) (Kd.R_base ho44) hb); have n6_ := Aside0.mk (Kd.R_elder' (by (with_reducible repeat (first | apply Kd.R_alloc | apply Kd.R_drewN | apply Kd.R_drew)); exact HO360.out) (Kd.R_base ho44) hb); have n7_ := Aside0.mk (Kd.R_below (by (with_reducible repeat (first | apply Kd.R_alloc | apply Kd.R_drewN | apply Kd.R_drew)); exact HO363.out) hb); have n8_ := Aside0.mk (Kd.R_below (by (with_reducible repeat (first | apply Kd.R_alloc | apply Kd.R_drewN | apply Kd.R_drew)); exact HO368.out) hb); have n9_ := Aside0.mk (Kd.R_elder' (by (with_reducible repeat (first | apply Kd.R_alloc | apply Kd.R_drewN | apply Kd.R_drew)); exact HO370.out) (Kd.R_base ho44) hb); have n10_ := Aside0.mk (Kd.R_lower (Kd.R_new' (Kd.R_new' (Kd.R_new' (Kd.R_new' (Kd.R_new' ho44 (Kd.R_lt (by (with_reducible repeat (first | apply Kd.R_alloc | apply Kd.R_drewN | apply Kd.R_drew)); exact HO341.out))) (Kd.R_lt (by (with_reducible repeat (first | apply Kd.R_alloc | apply Kd.R_drewN | apply Kd.R_drew)); exact HO350.out))) (Kd.R_lt (by (with_reducible repeat (first | apply Kd.R_alloc | apply Kd.R_drewN | apply Kd.R_drew)); exact HO357.out))) (Kd.R_lt (by (with_reducible repeat (first | apply Kd.R_alloc | apply Kd.R_drewN | apply Kd.R_drew)); exact HO360.out))) (Kd.R_lt (by (with_reducible repeat (first | apply Kd.R_alloc | apply Kd.R_drewN | apply Kd.R_drew)); exact HO370.out))) (below_size (by repeat (first | (with_reducible first | exact HB.out | apply below_alloc | apply pw_below_drewN | apply below_drew1) | exact HB.out)))); have n11_ := Aside0.mk (below_step (by repeat (first | (with_reducible first | exact HB.out | apply below_alloc | apply pw_below_drewN | apply below_drew1) | exact HB.out)) hb); clear HO341; clear HO343; clear HO348; clear HO350; clear HO355; clear HO357; clear HO360; clear HO363; clear HO368; clear HO370; clear HB; have HO341 := n0_; have HO343 := n1_; have HO348 := n2_; have HO350 := n3_; have HO355 := n4_; have HO357 := n5_; have HO360 := n6_; have HO363 := n7_; have HO368 := n8_; have HO370 := n9_; have HO376 := n10_; have HB := n11_; clear n0_ n1_ n2_ n3_ n4_ n5_ n6_ n7_ n8_ n9_ n10_ n11_; clear hb ho44; obtain ⟨Ao45, co45, eo45⟩ := Kd.R_slice HO370.out; subst eo45; obtain ⟨Ao46, co46, eo46⟩ := Kd.R_slice HO376.out; subst eo46) | (go_at_call 14; (with_reducible refine (laws_sameInts.calls k _ _ t365 _ _ y374 true _ ?side1 ?side2 ?side3 ?side4 A39.out).mono ?_); (case side1 => repeat (first | exact (Kd.R_reads' HO370.out).2.2 | (with_reducible refine Kd.C_alloc ?_ _) | (with_reducible refine Kd.C_drewN ?_ _) | (with_reducible refine Kd.C_drew ?_))); (case side2 => exact (Kd.R_reads' HO370.out).2.1); (case side3 => repeat (first | exact (Kd.R_reads' HO376.out).2.2 | (with_reducible refine Kd.C_alloc ?_ _) | (with_reducible refine Kd.C_drewN ?_ _) | (with_reducible refine Kd.C_drew ?_))); (case side4 => exact (Kd.R_reads' HO376.out).2.1); rintro e w' ⟨rfl, ⟨nd, rfl⟩⟩; (try first | exact ⟨rfl, _, World.drewN_drewN _ _ _⟩ | exact ⟨rfl, _, Eq.trans (World.drewN_drewN _ _ _) (congrArg (World.drewN _) (Nat.add_assoc _ _ _))⟩); obtain ⟨Ao47, co47, eo47⟩ := Kd.R_slice HO348.out; subst eo47)))
              go_meet
              case rel => exact ⟨_, (true), (by first | rfl | (simp; done) | (simp [*]; done)), H', ⟨by first | omega | exact Nat.le_refl _⟩, ⟨by (with_reducible repeat (first | apply Kd.R_alloc | apply Kd.R_drewN | apply Kd.R_drew)); exact Kd.R_mono HO341.out (fun _ hk => hk.1.1.1.1.2)⟩, ⟨by (with_reducible repeat (first | apply Kd.R_alloc | apply Kd.R_drewN | apply Kd.R_drew)); exact Kd.R_mono HO343.out (fun _ hk => trivial)⟩, ⟨by (with_reducible repeat (first | apply Kd.R_alloc | apply Kd.R_drewN | apply Kd.R_drew)); exact Kd.R_mono HO348.out (fun _ hk => trivial)⟩, ⟨by (with_reducible repeat (first | apply Kd.R_alloc | apply Kd.R_drewN | apply Kd.R_drew)); exact Kd.R_mono HO350.out (fun _ hk => hk.1.1.1.1.2)⟩, ⟨by repeat (first | (with_reducible first | exact HB.out | apply below_alloc | apply pw_below_drewN | apply below_drew1) | exact HB.out)⟩⟩
             ·rw [if_neg c41] at H
              have c41b0 : decide ((t339.length : Int) < (t344.length : Int)) = false := decide_eq_false c41
              have c41b1 : decide (t339.length < t344.length) = false := decide_eq_false (fun h => c41 (Int.ofNat_lt.mpr h))
              clear c41
              have H' := Aside0.mk H
              clear H
              obtain ⟨Ao48, co48, eo48⟩ := Kd.R_slice HO368.out
              subst eo48
              have p371 : 0 ≤ (0 : Int) := (by omega)
              have q371 : 0 < (t364.length : Int) := of_decide_eq_true (by first | (with_reducible assumption) | assumption)
              obtain ⟨ad371, e371, hx371_0⟩ := Kd.at_bool (Kd.R_reads' HO368.out).2.2 0 p371 q371
              (try rw [← Nbq30.out] at hx371_0)
              (try rw [← Nbq33.out] at hx371_0)
              (try rw [← Nbq37.out] at hx371_0)
              cases e371
              have qi371 : (0 < t364.length) = True := eq_true (by omega)
              (try rw [show ((0 : Int)).toNat = 0 from rfl] at hx371_0)
              (try rw [Addr.add_zero'] at hx371_0)
              replace p371 := eq_true p371
              replace q371 := eq_true q371
              have p372 : 0 ≤ (1 : Int) := (by omega)
              have q372 : 1 < (t364.length : Int) := of_decide_eq_true (by first | (with_reducible assumption) | assumption)
              obtain ⟨ad372, e372, hx372_0⟩ := Kd.at_bool (Kd.R_reads' HO368.out).2.2 1 p372 q372
              (try rw [← Nbq30.out] at hx372_0)
              (try rw [← Nbq33.out] at hx372_0)
              (try rw [← Nbq37.out] at hx372_0)
              obtain rfl : ad371 = ad372 := (by injection e372)
              (try simp only [show (1 : Int).toNat = 1 from rfl, Nat.reduceMul, Nat.reduceEqDiff, Go.Addr.add, ↓reduceIte] at hx372_0)
              have qi372 : (1 < t364.length) = True := eq_true (by omega)
              (try rw [show ((1 : Int)).toNat = 1 from rfl] at hx372_0)
              replace p372 := eq_true p372
              replace q372 := eq_true q372
              have p373 : 0 ≤ (2 : Int) := (by omega)
              have q373 : 2 < (t364.length : Int) := of_decide_eq_true (by first | (with_reducible assumption) | assumption)
              obtain ⟨ad373, e373, hx373_0⟩ := Kd.at_bool (Kd.R_reads' HO368.out).2.2 2 p373 q373
              (try rw [← Nbq30.out] at hx373_0)
              (try rw [← Nbq33.out] at hx373_0)
              (try rw [← Nbq37.out] at hx373_0)
              obtain rfl : ad371 = ad373 := (by injection e373)
              (try simp only [show (2 : Int).toNat = 2 from rfl, Nat.reduceMul, Nat.reduceEqDiff, Go.Addr.add, ↓reduceIte] at hx373_0)
              have qi373 : (2 < t364.length) = True := eq_true (by omega)
              (try rw [show ((2 : Int)).toNat = 2 from rfl] at hx373_0)
              replace p373 := eq_true p373
              replace q373 := eq_true q373
              go_wp2_with (first | ((with_reducible refine gate_dst (N := 83) rfl ?_); (try (refine gate_guard (by rfl) ?_; dsimp only)); refine Kd.R_lit (Kd.int .i64) _ 3 ?hg (N := 83) ?hd (xs := ([1, 1, 1] : List Int)) (inner := [.int .i64 1, .int .i64 1, .int .i64 1]) (ok := fun _ => True) (okp := fun _ => True) ?hr ?hp (fun _ hk => hk) trivial (Below.refl _ _) (Nat.le_refl _) (by simp) ?_; (case hd => rfl); (case hg => rfl); (case hr => first | (go_simp; done) | (go_simp; rfl)); (case hp => exact (Reps.one (show Kd.M (Kd.int .i64) _ _ _ 1 [.int .i64 1] from rfl) (Reps.one (show Kd.M (Kd.int .i64) _ _ _ 1 [.int .i64 1] from rfl) (Reps.one (show Kd.M (Kd.int .i64) _ _ _ 1 [.int .i64 1] from rfl) (Reps.none _ _))))); intro v375 w49 ho50 hb hg_ hnew_; clear hg_ hnew_; (first | rw [← Ny374.out] at ho50 | (simp only [Int.reduceToNat] at ho50; rw [← Ny374.out] at ho50)); have n0_ := Aside0.mk (Kd.R_elder' (by (with_reducible repeat (first | apply Kd.R_alloc | apply Kd.R_drewN | apply Kd.R_drew)); exact HO341.out) (Kd.R_base ho50) hb); have n1_ := Aside0.mk (Kd.R_below (by (with_reducible repeat (first | apply Kd.R_alloc | apply Kd.R_drewN | apply Kd.R_drew)); exact HO343.out) hb); have n2_ := Aside0.mk (Kd.R_below (by (with_reducible repeat (first | apply Kd.R_alloc | apply Kd.R_drewN | apply Kd.R_drew)); exact HO348.out) hb); have n3_ := Aside0.mk (Kd.R_elder' (by (with_reducible repeat (first | apply Kd.R_alloc | apply Kd.R_drewN | apply Kd.R_drew)); exact HO350.out) (Kd.R_base ho50) hb); have n4_ := Aside0.mk (Kd.R_below (by (with_reducible repeat (first | apply Kd.R_alloc | apply Kd.R_drewN | apply Kd.R_drew)); exact HO355.out) hb); have n5_ := Aside0.mk (Kd.R_elder' (by (with_reducible repeat (first | apply Kd.R_alloc | apply Kd.R_drewN | apply Kd.R_drew)); exact HO357.out) (Kd.R_base ho50) hb); have n6_ := Aside0.mk (Kd.R_elder' (by (with_reducible repeat (first | apply Kd.R_alloc | apply Kd.R_drewN | apply Kd.R_drew)); exact HO360.out) (Kd.R_base ho50) hb); have n7_ := Aside0.mk (Kd.R_below (by (with_reducible repeat (first | apply Kd.R_alloc | apply Kd.R_drewN | apply Kd.R_drew)); exact HO363.out) hb); have n8_ := Aside0.mk (Kd.R_below (by (with_reducible repeat (first | apply Kd.R_alloc | apply Kd.R_drewN | apply Kd.R_drew)); exact HO368.out) hb); have n9_ := Aside0.mk (Kd.R_elder' (by (with_reducible repeat (first | apply Kd.R_alloc | apply Kd.R_drewN | apply Kd.R_drew)); exact HO370.out) (Kd.R_base ho50) hb); have n10_ := Aside0.mk (Kd.R_lower (Kd.R_new' (Kd.R_new' (Kd.R_new' (Kd.R_new' (Kd.R_new' ho50 (Kd.R_lt (by (with_reducible repeat (first | apply Kd.R_alloc | apply Kd.R_drewN | apply Kd.R_drew)); exact HO341.out))) (Kd.R_lt (by (with_reducible repeat (first | apply Kd.R_alloc | apply Kd.R_drewN | apply Kd.R_drew)); exact HO350.out))) (Kd.R_lt (by (with_reducible repeat (first | apply Kd.R_alloc | apply Kd.R_drewN | apply Kd.R_drew)); exact HO357.out))) (Kd.R_lt (by (with_reducible repeat (first | apply Kd.R_alloc | apply Kd.R_drewN | apply Kd.R_drew)); exact HO360.out))) (Kd.R_lt (by (with_reducible repeat (first | apply Kd.R_alloc | apply Kd.R_drewN | apply Kd.R_drew)); exact HO370.out))) (below_size (by repeat (first | (with_reducible first | exact HB.out | apply below_alloc | apply pw_below_drewN | apply below_drew1) | exact HB.out)))); have n11_ := Aside0.mk (below_step (by repeat (first | (with_reducible first | exact HB.out | apply below_alloc | apply pw_below_drewN | apply below_drew1) | exact HB.out)) hb); clear HO341; clear HO343; clear HO348; clear HO350; clear HO355; clear HO357; clear HO360; clear HO363; clear HO368; clear HO370; clear HB; have HO341 := n0_; have HO343 := n1_; have HO348 := n2_; have HO350 := n3_; have HO355 := n4_; have HO357 := n5_; have HO360 := n6_; have HO363 := n7_; have HO368 := n8_; have HO370 := n9_; have HO376 := n10_; have HB := n11_; clear n0_ n1_ n2_ n3_ n4_ n5_ n6_ n7_ n8_ n9_ n10_ n11_; clear hb ho50; obtain ⟨Ao51, co51, eo51⟩ := Kd.R_slice HO370.out; subst eo51; obtain ⟨Ao52, co52, eo52⟩ := Kd.R_slice HO376.out; subst eo52) | (go_at_call 14; (with_reducible refine (laws_sameInts.calls k _ _ t365 _ _ y374 true _ ?side1 ?side2 ?side3 ?side4 A39.out).mono ?_); (case side1 => repeat (first | exact (Kd.R_reads' HO370.out).2.2 | (with_reducible refine Kd.C_alloc ?_ _) | (with_reducible refine Kd.C_drewN ?_ _) | (with_reducible refine Kd.C_drew ?_))); (case side2 => exact (Kd.R_reads' HO370.out).2.1); (case side3 => repeat (first | exact (Kd.R_reads' HO376.out).2.2 | (with_reducible refine Kd.C_alloc ?_ _) | (with_reducible refine Kd.C_drewN ?_ _) | (with_reducible refine Kd.C_drew ?_))); (case side4 => exact (Kd.R_reads' HO376.out).2.1); rintro e w' ⟨rfl, ⟨nd, rfl⟩⟩; (try first | exact ⟨rfl, _, World.drewN_drewN _ _ _⟩ | exact ⟨rfl, _, Eq.trans (World.drewN_drewN _ _ _) (congrArg (World.drewN _) (Nat.add_assoc _ _ _))⟩); obtain ⟨Ao53, co53, eo53⟩ := Kd.R_slice HO348.out; subst eo53; obtain ⟨Ao54, co54, eo54⟩ := Kd.R_slice HO350.out; subst eo54))
              repeat (go_quiet (first | ((with_reducible refine gate_dst (N := 83) rfl ?_); (try (refine gate_guard (by rfl) ?_; dsimp only)); refine Kd.R_lit (Kd.int .i64) _ 3 ?hg (N := 83) ?hd (xs := ([1, 1, 1] : List Int)) (inner := [.int .i64 1, .int .i64 1, .int .i64 1]) (ok := fun _ => True) (okp := fun _ => True) ?hr ?hp (fun _ hk => hk) trivial (Below.refl _ _) (Nat.le_refl _) (by simp) ?_; (case hd => rfl); (case hg => rfl); (case hr => first | (go_simp; done) | (go_simp; rfl)); (case hp => exact (Reps.one (show Kd.M (Kd.int .i64) _ _ _ 1 [.int .i64 1] from rfl) (Reps.one (show Kd.M (Kd.int .i64) _ _ _ 1 [.int .i64 1] from rfl) (Reps.one (show Kd.M (Kd.int .i64) _ _ _ 1 [.int .i64 1] from rfl) (Reps.none _ _))))); intro v375 w49 ho50 hb hg_ hnew_; clear hg_ hnew_; (first | rw [← Ny374.out] at ho50 | (simp only [Int.reduceToNat] at ho50; rw [← Ny374.out] at ho50)); have n0_ := Aside0.mk (Kd.R_elder' (by (with_reducible repeat (first | apply Kd.R_alloc | apply Kd.R_drewN | apply Kd.R_drew)); exact HO341.out) (Kd.R_base ho50) hb); have n1_ := Aside0.mk (Kd.R_below (by (with_reducible repeat (first | apply Kd.R_alloc | apply Kd.R_drewN | apply Kd.R_drew)); exact HO343.out) hb); have n2_ := Aside0.mk (Kd.R_below (by (with_reducible repeat (first | apply Kd.R_alloc | apply Kd.R_drewN | apply Kd.R_drew)); exact HO348.out) hb); have n3_ := Aside0.mk (Kd.R_elder' (by (with_reducible repeat (first | apply Kd.R_alloc | apply Kd.R_drewN | apply Kd.R_drew)); exact HO350.out) (Kd.R_base ho50) hb); have n4_ := Aside0.mk (Kd.R_below (by (with_reducible repeat (first | apply Kd.R_alloc | apply Kd.R_drewN | apply Kd.R_drew)); exact HO355.out) hb); have n5_ := Aside0.mk (Kd.R_elder' (by (with_reducible repeat (first | apply Kd.R_alloc | apply Kd.R_drewN | apply Kd.R_drew)); exact HO357.out) (Kd.R_base ho50) hb); have n6_ := Aside0.mk (Kd.R_elder' (by (with_reducible repeat (first | apply Kd.R_alloc | apply Kd.R_drewN | apply Kd.R_drew)); exact HO360.out) (Kd.R_base ho50) hb); have n7_ := Aside0.mk (Kd.R_below (by (with_reducible repeat (first | apply Kd.R_alloc | apply Kd.R_drewN | apply Kd.R_drew)); exact HO363.out) hb); have n8_ := Aside0.mk (Kd.R_below (by (with_reducible repeat (first | apply Kd.R_alloc | apply Kd.R_drewN | apply Kd.R_drew)); exact HO368.out) hb); have n9_ := Aside0.mk (Kd.R_elder' (by (with_reducible repeat (first | apply Kd.R_alloc | apply Kd.R_drewN | apply Kd.R_drew)); exact HO370.out) (Kd.R_base ho50) hb); have n10_ := Aside0.mk (Kd.R_lower (Kd.R_new' (Kd.R_new' (Kd.R_new' (Kd.R_new' (Kd.R_new' ho50 (Kd.R_lt (by (with_reducible repeat (first | apply Kd.R_alloc | apply Kd.R_drewN | apply Kd.R_drew)); exact HO341.out))) (Kd.R_lt (by (with_reducible repeat (first | apply Kd.R_alloc | apply Kd.R_drewN | apply Kd.R_drew)); exact HO350.out))) (Kd.R_lt (by (with_reducible repeat (first | apply Kd.R_alloc | apply Kd.R_drewN | apply Kd.R_drew)); exact HO357.out))) (Kd.R_lt (by (with_reducible repeat (first | apply Kd.R_alloc | apply Kd.R_drewN | apply Kd.R_drew)); exact HO360.out))) (Kd.R_lt (by (with_reducible repeat (first | apply Kd.R_alloc | apply Kd.R_drewN | apply Kd.R_drew)); exact HO370.out))) (below_size (by repeat (first | (with_reducible first | exact HB.out | apply below_alloc | apply pw_below_drewN | apply below_drew1) | exact HB.out)))); have n11_ := Aside0.mk (below_step (by repeat (first | (with_reducible first | exact HB.out | apply below_alloc | apply pw_below_drewN | apply below_drew1) | exact HB.out)) hb); clear HO341; clear HO343; clear HO348; clear HO350; clear HO355; clear HO357; clear HO360; clear HO363; clear HO368; clear HO370; clear HB; have HO341 := n0_; have HO343 := n1_; have HO348 := n2_; have HO350 := n3_; have HO355 := n4_; have HO357 := n5_; have HO360 := n6_; have HO363 := n7_; have HO368 := n8_; have HO370 := n9_; have HO376 := n10_; have HB := n11_; clear n0_ n1_ n2_ n3_ n4_ n5_ n6_ n7_ n8_ n9_ n10_ n11_; clear hb ho50; obtain ⟨Ao51, co51, eo51⟩ := Kd.R_slice HO370.out; subst eo51; obtain ⟨Ao52, co52, eo52⟩ := Kd.R_slice HO376.out; subst eo52) | (go_at_call 14; (with_reducible refine (laws_sameInts.calls k _ _ t365 _ _ y374 true _ ?side1 ?side2 ?side3 ?side4 A39.out).mono ?_); (case side1 => repeat (first | exact (Kd.R_reads' HO370.out).2.2 | (with_reducible refine Kd.C_alloc ?_ _) | (with_reducible refine Kd.C_drewN ?_ _) | (with_reducible refine Kd.C_drew ?_))); (case side2 => exact (Kd.R_reads' HO370.out).2.1); (case side3 => repeat (first | exact (Kd.R_reads' HO376.out).2.2 | (with_reducible refine Kd.C_alloc ?_ _) | (with_reducible refine Kd.C_drewN ?_ _) | (with_reducible refine Kd.C_drew ?_))); (case side4 => exact (Kd.R_reads' HO376.out).2.1); rintro e w' ⟨rfl, ⟨nd, rfl⟩⟩; (try first | exact ⟨rfl, _, World.drewN_drewN _ _ _⟩ | exact ⟨rfl, _, Eq.trans (World.drewN_drewN _ _ _) (congrArg (World.drewN _) (Nat.add_assoc _ _ _))⟩); obtain ⟨Ao53, co53, eo53⟩ := Kd.R_slice HO348.out; subst eo53; obtain ⟨Ao54, co54, eo54⟩ := Kd.R_slice HO350.out; subst eo54)); try go_wp2_with (first | ((with_reducible refine gate_dst (N := 83) rfl ?_); (try (refine gate_guard (by rfl) ?_; dsimp only)); refine Kd.R_lit (Kd.int .i64) _ 3 ?hg (N := 83) ?hd (xs := ([1, 1, 1] : List Int)) (inner := [.int .i64 1, .int .i64 1, .int .i64 1]) (ok := fun _ => True) (okp := fun _ => True) ?hr ?hp (fun _ hk => hk) trivial (Below.refl _ _) (Nat.le_refl _) (by simp) ?_; (case hd => rfl); (case hg => rfl); (case hr => first | (go_simp; done) | (go_simp; rfl)); (case hp => exact (Reps.one (show Kd.M (Kd.int .i64) _ _ _ 1 [.int .i64 1] from rfl) (Reps.one (show Kd.M (Kd.int .i64) _ _ _ 1 [.int .i64 1] from rfl) (Reps.one (show Kd.M (Kd.int .i64) _ _ _ 1 [.int .i64 1] from rfl) (Reps.none _ _))))); intro v375 w49 ho50 hb hg_ hnew_; clear hg_ hnew_; (first | rw [← Ny374.out] at ho50 | (simp only [Int.reduceToNat] at ho50; rw [← Ny374.out] at ho50)); have n0_ := Aside0.mk (Kd.R_elder' (by (with_reducible repeat (first | apply Kd.R_alloc | apply Kd.R_drewN | apply Kd.R_drew)); exact HO341.out) (Kd.R_base ho50) hb); have n1_ := Aside0.mk (Kd.R_below (by (with_reducible repeat (first | apply Kd.R_alloc | apply Kd.R_drewN | apply Kd.R_drew)); exact HO343.out) hb); have n2_ := Aside0.mk (Kd.R_below (by (with_reducible repeat (first | apply Kd.R_alloc | apply Kd.R_drewN | apply Kd.R_drew)); exact HO348.out) hb); have n3_ := Aside0.mk (Kd.R_elder' (by (with_reducible repeat (first | apply Kd.R_alloc | apply Kd.R_drewN | apply Kd.R_drew)); exact HO350.out) (Kd.R_base ho50) hb); have n4_ := Aside0.mk (Kd.R_below (by (with_reducible repeat (first | apply Kd.R_alloc | apply Kd.R_drewN | apply Kd.R_drew)); exact HO355.out) hb); have n5_ := Aside0.mk (Kd.R_elder' (by (with_reducible repeat (first | apply Kd.R_alloc | apply Kd.R_drewN | apply Kd.R_drew)); exact HO357.out) (Kd.R_base ho50) hb); have n6_ := Aside0.mk (Kd.R_elder' (by (with_reducible repeat (first | apply Kd.R_alloc | apply Kd.R_drewN | apply Kd.R_drew)); exact HO360.out) (Kd.R_base ho50) hb); have n7_ := Aside0.mk (Kd.R_below (by (with_reducible repeat (first | apply Kd.R_alloc | apply Kd.R_drewN | apply Kd.R_drew)); exact HO363.out) hb); have n8_ := Aside0.mk (Kd.R_below (by (with_reducible repeat (first | apply Kd.R_alloc | apply Kd.R_drewN | apply Kd.R_drew)); exact HO368.out) hb); have n9_ := Aside0.mk (Kd.R_elder' (by (with_reducible repeat (first | apply Kd.R_alloc | apply Kd.R_drewN | apply Kd.R_drew)); exact HO370.out) (Kd.R_base ho50) hb); have n10_ := Aside0.mk (Kd.R_lower (Kd.R_new' (Kd.R_new' (Kd.R_new' (Kd.R_new' (Kd.R_new' ho50 (Kd.R_lt (by (with_reducible repeat (first | apply Kd.R_alloc | apply Kd.R_drewN | apply Kd.R_drew)); exact HO341.out))) (Kd.R_lt (by (with_reducible repeat (first | apply Kd.R_alloc | apply Kd.R_drewN | apply Kd.R_drew)); exact HO350.out))) (Kd.R_lt (by (with_reducible repeat (first | apply Kd.R_alloc | apply Kd.R_drewN | apply Kd.R_drew)); exact HO357.out))) (Kd.R_lt (by (with_reducible repeat (first | apply Kd.R_alloc | apply Kd.R_drewN | apply Kd.R_drew)); exact HO360.out))) (Kd.R_lt (by (with_reducible repeat (first | apply Kd.R_alloc | apply Kd.R_drewN | apply Kd.R_drew)); exact HO370.out))) (below_size (by repeat (first | (with_reducible first | exact HB.out | apply below_alloc | apply pw_below_drewN | apply below_drew1) | exact HB.out)))); have n11_ := Aside0.mk (below_step (by repeat (first | (with_reducible first | exact HB.out | apply below_alloc | apply pw_below_drewN | apply below_drew1) | exact HB.out)) hb); clear HO341; clear HO343; clear HO348; clear HO350; clear HO355; clear HO357; clear HO360; clear HO363; clear HO368; clear HO370; clear HB; have HO341 := n0_; have HO343 := n1_; have HO348 := n2_; have HO350 := n3_; have HO355 := n4_; have HO357 := n5_; have HO360 := n6_; have HO363 := n7_; have HO368 := n8_; have HO370 := n9_; have HO376 := n10_; have HB := n11_; clear n0_ n1_ n2_ n3_ n4_ n5_ n6_ n7_ n8_ n9_ n10_ n11_; clear hb ho50; obtain ⟨Ao51, co51, eo51⟩ := Kd.R_slice HO370.out; subst eo51; obtain ⟨Ao52, co52, eo52⟩ := Kd.R_slice HO376.out; subst eo52) | (go_at_call 14; (with_reducible refine (laws_sameInts.calls k _ _ t365 _ _ y374 true _ ?side1 ?side2 ?side3 ?side4 A39.out).mono ?_); (case side1 => repeat (first | exact (Kd.R_reads' HO370.out).2.2 | (with_reducible refine Kd.C_alloc ?_ _) | (with_reducible refine Kd.C_drewN ?_ _) | (with_reducible refine Kd.C_drew ?_))); (case side2 => exact (Kd.R_reads' HO370.out).2.1); (case side3 => repeat (first | exact (Kd.R_reads' HO376.out).2.2 | (with_reducible refine Kd.C_alloc ?_ _) | (with_reducible refine Kd.C_drewN ?_ _) | (with_reducible refine Kd.C_drew ?_))); (case side4 => exact (Kd.R_reads' HO376.out).2.1); rintro e w' ⟨rfl, ⟨nd, rfl⟩⟩; (try first | exact ⟨rfl, _, World.drewN_drewN _ _ _⟩ | exact ⟨rfl, _, Eq.trans (World.drewN_drewN _ _ _) (congrArg (World.drewN _) (Nat.add_assoc _ _ _))⟩); obtain ⟨Ao53, co53, eo53⟩ := Kd.R_slice HO348.out; subst eo53; obtain ⟨Ao54, co54, eo54⟩ := Kd.R_slice HO350.out; subst eo54)))
              go_meet
              case rel => exact ⟨_, (((t345.length : Int) != (t344.length : Int))), (by first | rfl | (simp; done) | (simp [*]; done)), H', ⟨by first | omega | exact Nat.le_refl _⟩, ⟨by (with_reducible repeat (first | apply Kd.R_alloc | apply Kd.R_drewN | apply Kd.R_drew)); exact Kd.R_mono HO341.out (fun _ hk => hk.1.1.1.1.2)⟩, ⟨by (with_reducible repeat (first | apply Kd.R_alloc | apply Kd.R_drewN | apply Kd.R_drew)); exact Kd.R_mono HO343.out (fun _ hk => trivial)⟩, ⟨by (with_reducible repeat (first | apply Kd.R_alloc | apply Kd.R_drewN | apply Kd.R_drew)); exact Kd.R_mono HO348.out (fun _ hk => trivial)⟩, ⟨by (with_reducible repeat (first | apply Kd.R_alloc | apply Kd.R_drewN | apply Kd.R_drew)); exact Kd.R_mono HO350.out (fun _ hk => hk.1.1.1.1.2)⟩, ⟨by repeat (first | (with_reducible first | exact HB.out | apply below_alloc | apply pw_below_drewN | apply below_drew1) | exact HB.out)⟩⟩
            ·replace c40 := Bool.eq_false_iff.mpr c40
             subst c40
             have H1 : (laws_FnTried.j0 k t337 t338 t339 t344 t345 t346 true) = some r := by rw [if_neg (show ¬ (false = true) by decide)] at H; exact H
             clear H
             have H := H1
             clear H1
             have H' := Aside0.mk H
             clear H
             obtain ⟨Ao55, co55, eo55⟩ := Kd.R_slice HO368.out
             subst eo55
             have p371 : 0 ≤ (0 : Int) := (by omega)
             have q371 : 0 < (t364.length : Int) := of_decide_eq_true (by first | (with_reducible assumption) | assumption)
             obtain ⟨ad371, e371, hx371_0⟩ := Kd.at_bool (Kd.R_reads' HO368.out).2.2 0 p371 q371
             (try rw [← Nbq30.out] at hx371_0)
             (try rw [← Nbq33.out] at hx371_0)
             (try rw [← Nbq37.out] at hx371_0)
             cases e371
             have qi371 : (0 < t364.length) = True := eq_true (by omega)
             (try rw [show ((0 : Int)).toNat = 0 from rfl] at hx371_0)
             (try rw [Addr.add_zero'] at hx371_0)
             replace p371 := eq_true p371
             replace q371 := eq_true q371
             have p372 : 0 ≤ (1 : Int) := (by omega)
             have q372 : 1 < (t364.length : Int) := of_decide_eq_true (by first | (with_reducible assumption) | assumption)
             obtain ⟨ad372, e372, hx372_0⟩ := Kd.at_bool (Kd.R_reads' HO368.out).2.2 1 p372 q372
             (try rw [← Nbq30.out] at hx372_0)
             (try rw [← Nbq33.out] at hx372_0)
             (try rw [← Nbq37.out] at hx372_0)
             obtain rfl : ad371 = ad372 := (by injection e372)
             (try simp only [show (1 : Int).toNat = 1 from rfl, Nat.reduceMul, Nat.reduceEqDiff, Go.Addr.add, ↓reduceIte] at hx372_0)
             have qi372 : (1 < t364.length) = True := eq_true (by omega)
             (try rw [show ((1 : Int)).toNat = 1 from rfl] at hx372_0)
             replace p372 := eq_true p372
             replace q372 := eq_true q372
             have p373 : 0 ≤ (2 : Int) := (by omega)
             have q373 : 2 < (t364.length : Int) := of_decide_eq_true (by first | (with_reducible assumption) | assumption)
             obtain ⟨ad373, e373, hx373_0⟩ := Kd.at_bool (Kd.R_reads' HO368.out).2.2 2 p373 q373
             (try rw [← Nbq30.out] at hx373_0)
             (try rw [← Nbq33.out] at hx373_0)
             (try rw [← Nbq37.out] at hx373_0)
             obtain rfl : ad371 = ad373 := (by injection e373)
             (try simp only [show (2 : Int).toNat = 2 from rfl, Nat.reduceMul, Nat.reduceEqDiff, Go.Addr.add, ↓reduceIte] at hx373_0)
             have qi373 : (2 < t364.length) = True := eq_true (by omega)
             (try rw [show ((2 : Int)).toNat = 2 from rfl] at hx373_0)
             replace p373 := eq_true p373
             replace q373 := eq_true q373
             go_wp2_with (first | ((with_reducible refine gate_dst (N := 83) rfl ?_); (try (refine gate_guard (by rfl) ?_; dsimp only)); refine Kd.R_lit (Kd.int .i64) _ 3 ?hg (N := 83) ?hd (xs := ([1, 1, 1] : List Int)) (inner := [.int .i64 1, .int .i64 1, .int .i64 1]) (ok := fun _ => True) (okp := fun _ => True) ?hr ?hp (fun _ hk => hk) trivial (Below.refl _ _) (Nat.le_refl _) (by simp) ?_; (case hd => rfl); (case hg => rfl); (case hr => first | (go_simp; done) | (go_simp; rfl)); (case hp => exact (Reps.one (show Kd.M (Kd.int .i64) _ _ _ 1 [.int .i64 1] from rfl) (Reps.one (show Kd.M (Kd.int .i64) _ _ _ 1 [.int .i64 1] from rfl) (Reps.one (show Kd.M (Kd.int .i64) _ _ _ 1 [.int .i64 1] from rfl) (Reps.none _ _))))); intro v375 w56 ho57 hb hg_ hnew_; clear hg_ hnew_; (first | rw [← Ny374.out] at ho57 | (simp only [Int.reduceToNat] at ho57; rw [← Ny374.out] at ho57)); have n0_ := Aside0.mk (Kd.R_elder' (by (with_reducible repeat (first | apply Kd.R_alloc | apply Kd.R_drewN | apply Kd.R_drew)); exact HO341.out) (Kd.R_base ho57) hb); have n1_ := Aside0.mk (Kd.R_below (by (with_reducible repeat (first | apply Kd.R_alloc | apply Kd.R_drewN | apply Kd.R_drew)); exact HO343.out) hb); have n2_ := Aside0.mk (Kd.R_below (by (with_reducible repeat (first | apply Kd.R_alloc | apply Kd.R_drewN | apply Kd.R_drew)); exact HO348.out) hb); have n3_ := Aside0.mk (Kd.R_elder' (by (with_reducible repeat (first | apply Kd.R_alloc | apply Kd.R_drewN | apply Kd.R_drew)); exact HO350.out) (Kd.R_base ho57) hb); have n4_ := Aside0.mk (Kd.R_below (by (with_reducible repeat (first | apply Kd.R_alloc | apply Kd.R_drewN | apply Kd.R_drew)); exact HO355.out) hb); have n5_ := Aside0.mk (Kd.R_elder' (by (with_reducible repeat (first | apply Kd.R_alloc | apply Kd.R_drewN | apply Kd.R_drew)); exact HO357.out) (Kd.R_base ho57) hb); have n6_ := Aside0.mk (Kd.R_elder' (by (with_reducible repeat (first | apply Kd.R_alloc | apply Kd.R_drewN | apply Kd.R_drew)); exact HO360.out) (Kd.R_base ho57) hb); have n7_ := Aside0.mk (Kd.R_below (by (with_reducible repeat (first | apply Kd.R_alloc | apply Kd.R_drewN | apply Kd.R_drew)); exact HO363.out) hb); have n8_ := Aside0.mk (Kd.R_below (by (with_reducible repeat (first | apply Kd.R_alloc | apply Kd.R_drewN | apply Kd.R_drew)); exact HO368.out) hb); have n9_ := Aside0.mk (Kd.R_elder' (by (with_reducible repeat (first | apply Kd.R_alloc | apply Kd.R_drewN | apply Kd.R_drew)); exact HO370.out) (Kd.R_base ho57) hb); have n10_ := Aside0.mk (Kd.R_lower (Kd.R_new' (Kd.R_new' (Kd.R_new' (Kd.R_new' (Kd.R_new' ho57 (Kd.R_lt (by (with_reducible repeat (first | apply Kd.R_alloc | apply Kd.R_drewN | apply Kd.R_drew)); exact HO341.out))) (Kd.R_lt (by (with_reducible repeat (first | apply Kd.R_alloc | apply Kd.R_drewN | apply Kd.R_drew)); exact HO350.out))) (Kd.R_lt (by (with_reducible repeat (first | apply Kd.R_alloc | apply Kd.R_drewN | apply Kd.R_drew)); exact HO357.out))) (Kd.R_lt (by (with_reducible repeat (first | apply Kd.R_alloc | apply Kd.R_drewN | apply Kd.R_drew)); exact HO360.out))) (Kd.R_lt (by (with_reducible repeat (first | apply Kd.R_alloc | apply Kd.R_drewN | apply Kd.R_drew)); exact HO370.out))) (below_size (by repeat (first | (with_reducible first | exact HB.out | apply below_alloc | apply pw_below_drewN | apply below_drew1) | exact HB.out)))); have n11_ := Aside0.mk (below_step (by repeat (first | (with_reducible first | exact HB.out | apply below_alloc | apply pw_below_drewN | apply below_drew1) | exact HB.out)) hb); clear HO341; clear HO343; clear HO348; clear HO350; clear HO355; clear HO357; clear HO360; clear HO363; clear HO368; clear HO370; clear HB; have HO341 := n0_; have HO343 := n1_; have HO348 := n2_; have HO350 := n3_; have HO355 := n4_; have HO357 := n5_; have HO360 := n6_; have HO363 := n7_; have HO368 := n8_; have HO370 := n9_; have HO376 := n10_; have HB := n11_; clear n0_ n1_ n2_ n3_ n4_ n5_ n6_ n7_ n8_ n9_ n10_ n11_; clear hb ho57; obtain ⟨Ao58, co58, eo58⟩ := Kd.R_slice HO370.out; subst eo58; obtain ⟨Ao59, co59, eo59⟩ := Kd.R_slice HO376.out; subst eo59) | (go_at_call 14; (with_reducible refine (laws_sameInts.calls k _ _ t365 _ _ y374 false _ ?side1 ?side2 ?side3 ?side4 A39.out).mono ?_); (case side1 => repeat (first | exact (Kd.R_reads' HO370.out).2.2 | (with_reducible refine Kd.C_alloc ?_ _) | (with_reducible refine Kd.C_drewN ?_ _) | (with_reducible refine Kd.C_drew ?_))); (case side2 => exact (Kd.R_reads' HO370.out).2.1); (case side3 => repeat (first | exact (Kd.R_reads' HO376.out).2.2 | (with_reducible refine Kd.C_alloc ?_ _) | (with_reducible refine Kd.C_drewN ?_ _) | (with_reducible refine Kd.C_drew ?_))); (case side4 => exact (Kd.R_reads' HO376.out).2.1); rintro e w' ⟨rfl, ⟨nd, rfl⟩⟩; (try first | exact ⟨rfl, _, World.drewN_drewN _ _ _⟩ | exact ⟨rfl, _, Eq.trans (World.drewN_drewN _ _ _) (congrArg (World.drewN _) (Nat.add_assoc _ _ _))⟩)))
             repeat (go_quiet (first | ((with_reducible refine gate_dst (N := 83) rfl ?_); (try (refine gate_guard (by rfl) ?_; dsimp only)); refine Kd.R_lit (Kd.int .i64) _ 3 ?hg (N := 83) ?hd (xs := ([1, 1, 1] : List Int)) (inner := [.int .i64 1, .int .i64 1, .int .i64 1]) (ok := fun _ => True) (okp := fun _ => True) ?hr ?hp (fun _ hk => hk) trivial (Below.refl _ _) (Nat.le_refl _) (by simp) ?_; (case hd => rfl); (case hg => rfl); (case hr => first | (go_simp; done) | (go_simp; rfl)); (case hp => exact (Reps.one (show Kd.M (Kd.int .i64) _ _ _ 1 [.int .i64 1] from rfl) (Reps.one (show Kd.M (Kd.int .i64) _ _ _ 1 [.int .i64 1] from rfl) (Reps.one (show Kd.M (Kd.int .i64) _ _ _ 1 [.int .i64 1] from rfl) (Reps.none _ _))))); intro v375 w56 ho57 hb hg_ hnew_; clear hg_ hnew_; (first | rw [← Ny374.out] at ho57 | (simp only [Int.reduceToNat] at ho57; rw [← Ny374.out] at ho57)); have n0_ := Aside0.mk (Kd.R_elder' (by (with_reducible repeat (first | apply Kd.R_alloc | apply Kd.R_drewN | apply Kd.R_drew)); exact HO341.out) (Kd.R_base ho57) hb); have n1_ := Aside0.mk (Kd.R_below (by (with_reducible repeat (first | apply Kd.R_alloc | apply Kd.R_drewN | apply Kd.R_drew)); exact HO343.out) hb); have n2_ := Aside0.mk (Kd.R_below (by (with_reducible repeat (first | apply Kd.R_alloc | apply Kd.R_drewN | apply Kd.R_drew)); exact HO348.out) hb); have n3_ := Aside0.mk (Kd.R_elder' (by (with_reducible repeat (first | apply Kd.R_alloc | apply Kd.R_drewN | apply Kd.R_drew)); exact HO350.out) (Kd.R_base ho57) hb); have n4_ := Aside0.mk (Kd.R_below (by (with_reducible repeat (first | apply Kd.R_alloc | apply Kd.R_drewN | apply Kd.R_drew)); exact HO355.out) hb); have n5_ := Aside0.mk (Kd.R_elder' (by (with_reducible repeat (first | apply Kd.R_alloc | apply Kd.R_drewN | apply Kd.R_drew)); exact HO357.out) (Kd.R_base ho57) hb); have n6_ := Aside0.mk (Kd.R_elder' (by (with_reducible repeat (first | apply Kd.R_alloc | apply Kd.R_drewN | apply Kd.R_drew)); exact HO360.out) (Kd.R_base ho57) hb); have n7_ := Aside0.mk (Kd.R_below (by (with_reducible repeat (first | apply Kd.R_alloc | apply Kd.R_drewN | apply Kd.R_drew)); exact HO363.out) hb); have n8_ := Aside0.mk (Kd.R_below (by (with_reducible repeat (first | apply Kd.R_alloc | apply Kd.R_drewN | apply Kd.R_drew)); exact HO368.out) hb); have n9_ := Aside0.mk (Kd.R_elder' (by (with_reducible repeat (first | apply Kd.R_alloc | apply Kd.R_drewN | apply Kd.R_drew)); exact HO370.out) (Kd.R_base ho57) hb); have n10_ := Aside0.mk (Kd.R_lower (Kd.R_new' (Kd.R_new' (Kd.R_new' (Kd.R_new' (Kd.R_new' ho57 (Kd.R_lt (by (with_reducible repeat (first | apply Kd.R_alloc | apply Kd.R_drewN | apply Kd.R_drew)); exact HO341.out))) (Kd.R_lt (by (with_reducible repeat (first | apply Kd.R_alloc | apply Kd.R_drewN | apply Kd.R_drew)); exact HO350.out))) (Kd.R_lt (by (with_reducible repeat (first | apply Kd.R_alloc | apply Kd.R_drewN | apply Kd.R_drew)); exact HO357.out))) (Kd.R_lt (by (with_reducible repeat (first | apply Kd.R_alloc | apply Kd.R_drewN | apply Kd.R_drew)); exact HO360.out))) (Kd.R_lt (by (with_reducible repeat (first | apply Kd.R_alloc | apply Kd.R_drewN | apply Kd.R_drew)); exact HO370.out))) (below_size (by repeat (first | (with_reducible first | exact HB.out | apply below_alloc | apply pw_below_drewN | apply below_drew1) | exact HB.out)))); have n11_ := Aside0.mk (below_step (by repeat (first | (with_reducible first | exact HB.out | apply below_alloc | apply pw_below_drewN | apply below_drew1) | exact HB.out)) hb); clear HO341; clear HO343; clear HO348; clear HO350; clear HO355; clear HO357; clear HO360; clear HO363; clear HO368; clear HO370; clear HB; have HO341 := n0_; have HO343 := n1_; have HO348 := n2_; have HO350 := n3_; have HO355 := n4_; have HO357 := n5_; have HO360 := n6_; have HO363 := n7_; have HO368 := n8_; have HO370 := n9_; have HO376 := n10_; have HB := n11_; clear n0_ n1_ n2_ n3_ n4_ n5_ n6_ n7_ n8_ n9_ n10_ n11_; clear hb ho57; obtain ⟨Ao58, co58, eo58⟩ := Kd.R_slice HO370.out; subst eo58; obtain ⟨Ao59, co59, eo59⟩ := Kd.R_slice HO376.out; subst eo59) | (go_at_call 14; (with_reducible refine (laws_sameInts.calls k _ _ t365 _ _ y374 false _ ?side1 ?side2 ?side3 ?side4 A39.out).mono ?_); (case side1 => repeat (first | exact (Kd.R_reads' HO370.out).2.2 | (with_reducible refine Kd.C_alloc ?_ _) | (with_reducible refine Kd.C_drewN ?_ _) | (with_reducible refine Kd.C_drew ?_))); (case side2 => exact (Kd.R_reads' HO370.out).2.1); (case side3 => repeat (first | exact (Kd.R_reads' HO376.out).2.2 | (with_reducible refine Kd.C_alloc ?_ _) | (with_reducible refine Kd.C_drewN ?_ _) | (with_reducible refine Kd.C_drew ?_))); (case side4 => exact (Kd.R_reads' HO376.out).2.1); rintro e w' ⟨rfl, ⟨nd, rfl⟩⟩; (try first | exact ⟨rfl, _, World.drewN_drewN _ _ _⟩ | exact ⟨rfl, _, Eq.trans (World.drewN_drewN _ _ _) (congrArg (World.drewN _) (Nat.add_assoc _ _ _))⟩))); try go_wp2_with (first | ((with_reducible refine gate_dst (N := 83) rfl ?_); (try (refine gate_guard (by rfl) ?_; dsimp only)); refine Kd.R_lit (Kd.int .i64) _ 3 ?hg (N := 83) ?hd (xs := ([1, 1, 1] : List Int)) (inner := [.int .i64 1, .int .i64 1, .int .i64 1]) (ok := fun _ => True) (okp := fun _ => True) ?hr ?hp (fun _ hk => hk) trivial (Below.refl _ _) (Nat.le_refl _) (by simp) ?_; (case hd => rfl); (case hg => rfl); (case hr => first | (go_simp; done) | (go_simp; rfl)); (case hp => exact (Reps.one (show Kd.M (Kd.int .i64) _ _ _ 1 [.int .i64 1] from rfl) (Reps.one (show Kd.M (Kd.int .i64) _ _ _ 1 [.int .i64 1] from rfl) (Reps.one (show Kd.M (Kd.int .i64) _ _ _ 1 [.int .i64 1] from rfl) (Reps.none _ _))))); intro v375 w56 ho57 hb hg_ hnew_; clear hg_ hnew_; (first | rw [← Ny374.out] at ho57 | (simp only [Int.reduceToNat] at ho57; rw [← Ny374.out] at ho57)); have n0_ := Aside0.mk (Kd.R_elder' (by (with_reducible repeat (first | apply Kd.R_alloc | apply Kd.R_drewN | apply Kd.R_drew)); exact HO341.out) (Kd.R_base ho57) hb); have n1_ := Aside0.mk (Kd.R_below (by (with_reducible repeat (first | apply Kd.R_alloc | apply Kd.R_drewN | apply Kd.R_drew)); exact HO343.out) hb); have n2_ := Aside0.mk (Kd.R_below (by (with_reducible repeat (first | apply Kd.R_alloc | apply Kd.R_drewN | apply Kd.R_drew)); exact HO348.out) hb); have n3_ := Aside0.mk (Kd.R_elder' (by (with_reducible repeat (first | apply Kd.R_alloc | apply Kd.R_drewN | apply Kd.R_drew)); exact HO350.out) (Kd.R_base ho57) hb); have n4_ := Aside0.mk (Kd.R_below (by (with_reducible repeat (first | apply Kd.R_alloc | apply Kd.R_drewN | apply Kd.R_drew)); exact HO355.out) hb); have n5_ := Aside0.mk (Kd.R_elder' (by (with_reducible repeat (first | apply Kd.R_alloc | apply Kd.R_drewN | apply Kd.R_drew)); exact HO357.out) (Kd.R_base ho57) hb); have n6_ := Aside0.mk (Kd.R_elder' (by (with_reducible repeat (first | apply Kd.R_alloc | apply Kd.R_drewN | apply Kd.R_drew)); exact HO360.out) (Kd.R_base ho57) hb); have n7_ := Aside0.mk (Kd.R_below (by (with_reducible repeat (first | apply Kd.R_alloc | apply Kd.R_drewN | apply Kd.R_drew)); exact HO363.out) hb); have n8_ := Aside0.mk (Kd.R_below (by (with_reducible repeat (first | apply Kd.R_alloc | apply Kd.R_drewN | apply Kd.R_drew)); exact HO368.out) hb); have n9_ := Aside0.mk (Kd.R_elder' (by (with_reducible repeat (first | apply Kd.R_alloc | apply Kd.R_drewN | apply Kd.R_drew)); exact HO370.out) (Kd.R_base ho57) hb); have n10_ := Aside0.mk (Kd.R_lower (Kd.R_new' (Kd.R_new' (Kd.R_new' (Kd.R_new' (Kd.R_new' ho57 (Kd.R_lt (by (with_reducible repeat (first | apply Kd.R_alloc | apply Kd.R_drewN | apply Kd.R_drew)); exact HO341.out))) (Kd.R_lt (by (with_reducible repeat (first | apply Kd.R_alloc | apply Kd.R_drewN | apply Kd.R_drew)); exact HO350.out))) (Kd.R_lt (by (with_reducible repeat (first | apply Kd.R_alloc | apply Kd.R_drewN | apply Kd.R_drew)); exact HO357.out))) (Kd.R_lt (by (with_reducible repeat (first | apply Kd.R_alloc | apply Kd.R_drewN | apply Kd.R_drew)); exact HO360.out))) (Kd.R_lt (by (with_reducible repeat (first | apply Kd.R_alloc | apply Kd.R_drewN | apply Kd.R_drew)); exact HO370.out))) (below_size (by repeat (first | (with_reducible first | exact HB.out | apply below_alloc | apply pw_below_drewN | apply below_drew1) | exact HB.out)))); have n11_ := Aside0.mk (below_step (by repeat (first | (with_reducible first | exact HB.out | apply below_alloc | apply pw_below_drewN | apply below_drew1) | exact HB.out)) hb); clear HO341; clear HO343; clear HO348; clear HO350; clear HO355; clear HO357; clear HO360; clear HO363; clear HO368; clear HO370; clear HB; have HO341 := n0_; have HO343 := n1_; have HO348 := n2_; have HO350 := n3_; have HO355 := n4_; have HO357 := n5_; have HO360 := n6_; have HO363 := n7_; have HO368 := n8_; have HO370 := n9_; have HO376 := n10_; have HB := n11_; clear n0_ n1_ n2_ n3_ n4_ n5_ n6_ n7_ n8_ n9_ n10_ n11_; clear hb ho57; obtain ⟨Ao58, co58, eo58⟩ := Kd.R_slice HO370.out; subst eo58; obtain ⟨Ao59, co59, eo59⟩ := Kd.R_slice HO376.out; subst eo59) | (go_at_call 14; (with_reducible refine (laws_sameInts.calls k _ _ t365 _ _ y374 false _ ?side1 ?side2 ?side3 ?side4 A39.out).mono ?_); (case side1 => repeat (first | exact (Kd.R_reads' HO370.out).2.2 | (with_reducible refine Kd.C_alloc ?_ _) | (with_reducible refine Kd.C_drewN ?_ _) | (with_reducible refine Kd.C_drew ?_))); (case side2 => exact (Kd.R_reads' HO370.out).2.1); (case side3 => repeat (first | exact (Kd.R_reads' HO376.out).2.2 | (with_reducible refine Kd.C_alloc ?_ _) | (with_reducible refine Kd.C_drewN ?_ _) | (with_reducible refine Kd.C_drew ?_))); (case side4 => exact (Kd.R_reads' HO376.out).2.1); rintro e w' ⟨rfl, ⟨nd, rfl⟩⟩; (try first | exact ⟨rfl, _, World.drewN_drewN _ _ _⟩ | exact ⟨rfl, _, Eq.trans (World.drewN_drewN _ _ _) (congrArg (World.drewN _) (Nat.add_assoc _ _ _))⟩))))
             go_meet
             case rel => exact ⟨_, (true), (by first | rfl | (simp; done) | (simp [*]; done)), H', ⟨by first | omega | exact Nat.le_refl _⟩, ⟨by (with_reducible repeat (first | apply Kd.R_alloc | apply Kd.R_drewN | apply Kd.R_drew)); exact Kd.R_mono HO341.out (fun _ hk => hk.1.1.1.1.2)⟩, ⟨by (with_reducible repeat (first | apply Kd.R_alloc | apply Kd.R_drewN | apply Kd.R_drew)); exact Kd.R_mono HO343.out (fun _ hk => trivial)⟩, ⟨by (with_reducible repeat (first | apply Kd.R_alloc | apply Kd.R_drewN | apply Kd.R_drew)); exact Kd.R_mono HO348.out (fun _ hk => trivial)⟩, ⟨by (with_reducible repeat (first | apply Kd.R_alloc | apply Kd.R_drewN | apply Kd.R_drew)); exact Kd.R_mono HO350.out (fun _ hk => hk.1.1.1.1.2)⟩, ⟨by repeat (first | (with_reducible first | exact HB.out | apply below_alloc | apply pw_below_drewN | apply below_drew1) | exact HB.out)⟩⟩
           ·replace c38 := Bool.eq_false_iff.mpr c38
            subst c38
            have H1 : (laws_FnTried.j0 k t337 t338 t339 t344 t345 t346 true) = some r := by rw [if_neg (show ¬ (false = true) by decide)] at H; exact H
            clear H
            have H := H1
            clear H1
            have H' := Aside0.mk H
            clear H
            obtain ⟨Ao60, co60, eo60⟩ := Kd.R_slice HO368.out
            subst eo60
            have p371 : 0 ≤ (0 : Int) := (by omega)
            have q371 : 0 < (t364.length : Int) := of_decide_eq_true (by first | (with_reducible assumption) | assumption)
            obtain ⟨ad371, e371, hx371_0⟩ := Kd.at_bool (Kd.R_reads' HO368.out).2.2 0 p371 q371
            (try rw [← Nbq30.out] at hx371_0)
            (try rw [← Nbq33.out] at hx371_0)
            (try rw [← Nbq37.out] at hx371_0)
            cases e371
            have qi371 : (0 < t364.length) = True := eq_true (by omega)
            (try rw [show ((0 : Int)).toNat = 0 from rfl] at hx371_0)
            (try rw [Addr.add_zero'] at hx371_0)
            replace p371 := eq_true p371
            replace q371 := eq_true q371
            have p372 : 0 ≤ (1 : Int) := (by omega)
            have q372 : 1 < (t364.length : Int) := of_decide_eq_true (by first | (with_reducible assumption) | assumption)
            obtain ⟨ad372, e372, hx372_0⟩ := Kd.at_bool (Kd.R_reads' HO368.out).2.2 1 p372 q372
            (try rw [← Nbq30.out] at hx372_0)
            (try rw [← Nbq33.out] at hx372_0)
            (try rw [← Nbq37.out] at hx372_0)
            obtain rfl : ad371 = ad372 := (by injection e372)
            (try simp only [show (1 : Int).toNat = 1 from rfl, Nat.reduceMul, Nat.reduceEqDiff, Go.Addr.add, ↓reduceIte] at hx372_0)
            have qi372 : (1 < t364.length) = True := eq_true (by omega)
            (try rw [show ((1 : Int)).toNat = 1 from rfl] at hx372_0)
            replace p372 := eq_true p372
            replace q372 := eq_true q372
            have p373 : 0 ≤ (2 : Int) := (by omega)
            have q373 : 2 < (t364.length : Int) := of_decide_eq_true (by first | (with_reducible assumption) | assumption)
            obtain ⟨ad373, e373, hx373_0⟩ := Kd.at_bool (Kd.R_reads' HO368.out).2.2 2 p373 q373
            (try rw [← Nbq30.out] at hx373_0)
            (try rw [← Nbq33.out] at hx373_0)
            (try rw [← Nbq37.out] at hx373_0)
            obtain rfl : ad371 = ad373 := (by injection e373)
            (try simp only [show (2 : Int).toNat = 2 from rfl, Nat.reduceMul, Nat.reduceEqDiff, Go.Addr.add, ↓reduceIte] at hx373_0)
            have qi373 : (2 < t364.length) = True := eq_true (by omega)
            (try rw [show ((2 : Int)).toNat = 2 from rfl] at hx373_0)
            replace p373 := eq_true p373
            replace q373 := eq_true q373
            go_wp2
            repeat (go_quiet (fail); try go_wp2)
            go_meet
            case rel => exact ⟨_, (true), (by first | rfl | (simp; done) | (simp [*]; done)), H', ⟨by first | omega | exact Nat.le_refl _⟩, ⟨by (with_reducible repeat (first | apply Kd.R_alloc | apply Kd.R_drewN | apply Kd.R_drew)); exact Kd.R_mono HO341.out (fun _ hk => hk.1.1.1.2)⟩, ⟨by (with_reducible repeat (first | apply Kd.R_alloc | apply Kd.R_drewN | apply Kd.R_drew)); exact Kd.R_mono HO343.out (fun _ hk => trivial)⟩, ⟨by (with_reducible repeat (first | apply Kd.R_alloc | apply Kd.R_drewN | apply Kd.R_drew)); exact Kd.R_mono HO348.out (fun _ hk => trivial)⟩, ⟨by (with_reducible repeat (first | apply Kd.R_alloc | apply Kd.R_drewN | apply Kd.R_drew)); exact Kd.R_mono HO350.out (fun _ hk => hk.1.1.1.2)⟩, ⟨by repeat (first | (with_reducible first | exact HB.out | apply below_alloc | apply pw_below_drewN | apply below_drew1) | exact HB.out)⟩⟩
          ·rw [if_neg c36] at H
           exact absurd H (by simp)
        ·rw [if_neg c32] at H
         exact absurd H (by simp)
       ·replace c31 := Bool.eq_false_iff.mpr c31
        subst c31
        have H1 : (laws_FnTried.j0 k t337 t338 t339 t344 t345 t346 true) = some r := by rw [if_neg (show ¬ (false = true) by decide)] at H; exact H
        clear H
        have H := H1
        clear H1
        have H' := Aside0.mk H
        clear H
        obtain ⟨Ao61, co61, eo61⟩ := Kd.R_slice HO368.out
        subst eo61
        have p371 : 0 ≤ (0 : Int) := (by omega)
        have q371 : 0 < (t364.length : Int) := of_decide_eq_true (by first | (with_reducible assumption) | assumption)
        obtain ⟨ad371, e371, hx371_0⟩ := Kd.at_bool (Kd.R_reads' HO368.out).2.2 0 p371 q371
        (try rw [← Nbq30.out] at hx371_0)
        cases e371
        have qi371 : (0 < t364.length) = True := eq_true (by omega)
        (try rw [show ((0 : Int)).toNat = 0 from rfl] at hx371_0)
        (try rw [Addr.add_zero'] at hx371_0)
        replace p371 := eq_true p371
        replace q371 := eq_true q371
        go_wp2
        repeat (go_quiet (fail); try go_wp2)
        go_meet
        case rel => exact ⟨_, (true), (by first | rfl | (simp; done) | (simp [*]; done)), H', ⟨by first | omega | exact Nat.le_refl _⟩, ⟨by (with_reducible repeat (first | apply Kd.R_alloc | apply Kd.R_drewN | apply Kd.R_drew)); exact Kd.R_mono HO341.out (fun _ hk => hk.1.1.1.2)⟩, ⟨by (with_reducible repeat (first | apply Kd.R_alloc | apply Kd.R_drewN | apply Kd.R_drew)); exact Kd.R_mono HO343.out (fun _ hk => trivial)⟩, ⟨by (with_reducible repeat (first | apply Kd.R_alloc | apply Kd.R_drewN | apply Kd.R_drew)); exact Kd.R_mono HO348.out (fun _ hk => trivial)⟩, ⟨by (with_reducible repeat (first | apply Kd.R_alloc | apply Kd.R_drewN | apply Kd.R_drew)); exact Kd.R_mono HO350.out (fun _ hk => hk.1.1.1.2)⟩, ⟨by repeat (first | (with_reducible first | exact HB.out | apply below_alloc | apply pw_below_drewN | apply below_drew1) | exact HB.out)⟩⟩
      ·rw [if_neg c29] at H
       exact absurd H (by simp)
     ·rw [if_neg c28] at H
      have c28b0 : ((t364.length : Int) == 3) = false := beq_eq_false_iff_ne.mpr c28
      have c28b1 : ((t364.length : Int) != 3) = true := bne_iff_ne.mpr c28
      (first | rw [c28b0] | (simp only [i64_w, i32_w]; rw [c28b0]) | skip)
      have H' := Aside0.mk H
      clear H
      obtain ⟨Ao62, co62, eo62⟩ := Kd.R_slice HO368.out
      subst eo62
      go_wp2
      repeat (go_quiet (fail); try go_wp2)
      go_meet
      case rel => exact ⟨_, (true), (by first | rfl | (simp; done) | (simp [*]; done)), H', ⟨by first | omega | exact Nat.le_refl _⟩, ⟨by (with_reducible repeat (first | apply Kd.R_alloc | apply Kd.R_drewN | apply Kd.R_drew)); exact Kd.R_mono HO341.out (fun _ hk => hk.1.1.1.2)⟩, ⟨by (with_reducible repeat (first | apply Kd.R_alloc | apply Kd.R_drewN | apply Kd.R_drew)); exact Kd.R_mono HO343.out (fun _ hk => trivial)⟩, ⟨by (with_reducible repeat (first | apply Kd.R_alloc | apply Kd.R_drewN | apply Kd.R_drew)); exact Kd.R_mono HO348.out (fun _ hk => trivial)⟩, ⟨by (with_reducible repeat (first | apply Kd.R_alloc | apply Kd.R_drewN | apply Kd.R_drew)); exact Kd.R_mono HO350.out (fun _ hk => hk.1.1.1.2)⟩, ⟨by repeat (first | (with_reducible first | exact HB.out | apply below_alloc | apply pw_below_drewN | apply below_drew1) | exact HB.out)⟩⟩
    ·replace c27 := Bool.eq_false_iff.mpr c27
     subst c27
     have H1 : (laws_FnTried.j0 k t337 t338 t339 t344 t345 t346 true) = some r := by rw [if_neg (show ¬ (false = true) by decide)] at H; exact H
     clear H
     have H := H1
     clear H1
     have H' := Aside0.mk H
     clear H
     go_wp2
     repeat (go_quiet (fail); try go_wp2)
     go_meet
     case rel => exact ⟨_, (true), (by first | rfl | (simp; done) | (simp [*]; done)), H', ⟨by first | omega | exact Nat.le_refl _⟩, ⟨by (with_reducible repeat (first | apply Kd.R_alloc | apply Kd.R_drewN | apply Kd.R_drew)); exact Kd.R_mono HO341.out (fun _ hk => hk.1.1.1.2)⟩, ⟨by (with_reducible repeat (first | apply Kd.R_alloc | apply Kd.R_drewN | apply Kd.R_drew)); exact Kd.R_mono HO343.out (fun _ hk => trivial)⟩, ⟨by (with_reducible repeat (first | apply Kd.R_alloc | apply Kd.R_drewN | apply Kd.R_drew)); exact Kd.R_mono HO348.out (fun _ hk => trivial)⟩, ⟨by (with_reducible repeat (first | apply Kd.R_alloc | apply Kd.R_drewN | apply Kd.R_drew)); exact Kd.R_mono HO350.out (fun _ hk => hk.1.1.1.2)⟩, ⟨by repeat (first | (with_reducible first | exact HB.out | apply below_alloc | apply pw_below_drewN | apply below_drew1) | exact HB.out)⟩⟩
   case rest =>
    clear HC14
    try clear c2
    try clear p2
    try clear c3
    try clear p3
    try clear q3
    try clear hx3
    try clear qi3
    try clear c4
    try clear c6
    try clear c7
    try clear c7b0
    try clear c7b1
    try clear c7b2
    try clear c27
    try clear c28
    try clear c28b0
    try clear c28b1
    try clear c29
    try clear c29b0
    try clear c29b1
    try clear q30
    try clear c31
    try clear c32
    try clear c32b0
    try clear c32b1
    try clear q33
    try clear c34
    try clear c36
    try clear c36b0
    try clear c36b1
    try clear p37
    try clear q37
    try clear hx37
    try clear qi37
    try clear c38
    try clear c40
    try clear c41
    try clear c41b0
    try clear c41b1
    try clear hx371_0
    try clear hx372_0
    try clear hx373_0
    try clear p371
    try clear p372
    try clear p373
    try clear q371
    try clear q372
    try clear q373
    obtain ⟨kq, x100_13, rfl, HA, HJ13, HO_4, HO_5, HO_6, HO_7, HB⟩ := hcut
    cases kq with
    | zero => exact absurd HA.out (by simp [laws_FnTried.j0])
    | succ kj13 =>
     have H := HA.out
     clear HA
     simp only [laws_FnTried.j0] at H
     by_cases c63 : x100_13 = true
     ·subst c63
      have H1 : (some false) = some r := by rw [if_pos rfl] at H; exact H
      clear H
      have H := H1
      clear H1
      obtain rfl := Option.some.inj H
      go_wp2
      repeat (go_quiet (fail); try go_wp2)
      go_ret
      exact ⟨by first | rfl | (simp [errW_none, errW_some] <;> rfl) | (simp [*, errW_none, errW_some] <;> rfl), by repeat (first | (with_reducible first | exact HB.out | apply below_alloc | apply pw_below_drewN | apply below_drew1) | exact HB.out)⟩
     ·replace c63 := Bool.eq_false_iff.mpr c63
      subst c63
      have H1 : (laws_FnTried.l0 kj13 t337 t338 t339 t344 t345 t346 0) = some r := by rw [if_neg (show ¬ (false = true) by decide)] at H; exact H
      clear H
      have H := H1
      clear H1
      have H' := Aside0.mk H
      clear H
      go_wp2
      repeat (go_quiet (fail); try go_wp2)
      go_loopg [15] kj13 (fun kq v15 w' => ∃ (x15_2 : Int), v15 = .int .i64 x15_2 ∧ Aside0 (laws_FnTried.l0 kq t337 t338 t339 t344 t345 t346 x15_2 = some r) ∧ Aside0 (kq ≤ kj13) ∧ Aside0 (Kd.R (Kd.int .i64) 3 w' w.heap.size (fun k_ => some k_ ≠ (v349 : Value).ownBlock) (.slice Ao16 t338.length co16) t338) ∧ Aside0 (Kd.R k51 51 w' w.heap.size (fun _ => True) (.slice Ao17 t339.length co17) t339) ∧ Aside0 (Kd.R Kd.bool 4 w' w.heap.size (fun _ => True) v347 t344) ∧ Aside0 (Kd.R (Kd.int .i64) 3 w' w.heap.size (fun k_ => some k_ ≠ ((.slice Ao16 t338.length co16) : Value).ownBlock) v349 t345) ∧ Aside0 (Below w.heap.size w w'))
      case atStart => exact ⟨(0), (by first | rfl | (simp; done) | (simp [*]; done)), H', ⟨Nat.le_refl _⟩, ⟨by (with_reducible repeat (first | apply Kd.R_alloc | apply Kd.R_drewN | apply Kd.R_drew)); exact HO_4.out⟩, ⟨by (with_reducible repeat (first | apply Kd.R_alloc | apply Kd.R_drewN | apply Kd.R_drew)); exact HO_5.out⟩, ⟨by (with_reducible repeat (first | apply Kd.R_alloc | apply Kd.R_drewN | apply Kd.R_drew)); exact HO_6.out⟩, ⟨by (with_reducible repeat (first | apply Kd.R_alloc | apply Kd.R_drewN | apply Kd.R_drew)); exact HO_7.out⟩, ⟨by repeat (first | (with_reducible first | exact HB.out | apply below_alloc | apply pw_below_drewN | apply below_drew1) | exact HB.out)⟩⟩
      case round =>
       clear H'
       try clear c2
       try clear p2
       try clear c3
       try clear p3
       try clear q3
       try clear hx3
       try clear qi3
       try clear c4
       try clear c6
       try clear c7
       try clear c7b0
       try clear c7b1
       try clear c7b2
       try clear c27
       try clear c28
       try clear c28b0
       try clear c28b1
       try clear c29
       try clear c29b0
       try clear c29b1
       try clear q30
       try clear c31
       try clear c32
       try clear c32b0
       try clear c32b1
       try clear q33
       try clear c34
       try clear c36
       try clear c36b0
       try clear c36b1
       try clear p37
       try clear q37
       try clear hx37
       try clear qi37
       try clear c38
       try clear c40
       try clear c41
       try clear c41b0
       try clear c41b1
       try clear c63
       try clear hx371_0
       try clear hx372_0
       try clear hx373_0
       try clear p2
       try clear p3
       try clear p37
       try clear p371
       try clear p372
       try clear p373
       try clear q3
       try clear q30
       try clear q33
       try clear q37
       try clear q371
       try clear q372
       try clear q373
       obtain ⟨x15_2, rfl, HA, HK2, HO_4, HO_5, HO_6, HO_7, HB⟩ := hrel
       cases gk with
       | zero => exact absurd HA.out (by simp [laws_FnTried.l0])
       | succ k2 =>
        have H := HA.out
        clear HA
        simp only [laws_FnTried.l0] at H
        by_cases c64 : x15_2 < (t344.length : Int)
        ·rw [if_pos c64] at H
         have c64b0 : decide (x15_2 < (t344.length : Int)) = true := decide_eq_true c64
         clear c64
         by_cases c65 : 0 ≤ x15_2
         ·rw [if_pos c65] at H
          have c65b0 : decide (0 ≤ x15_2) = true := decide_eq_true c65
          clear c65
          by_cases c66 : x15_2 < (t339.length : Int)
          ·rw [if_pos c66] at H
           have c66b0 : decide (x15_2 < (t339.length : Int)) = true := decide_eq_true c66
           clear c66
           have H' := Aside0.mk H
           clear H
           obtain ⟨Ao67, co67, eo67⟩ := Kd.R_slice HO_6.out
           subst eo67
           have p378 : 0 ≤ (x15_2 : Int) := of_decide_eq_true (by first | (with_reducible assumption) | assumption)
           have q378 : x15_2 < (t339.length : Int) := of_decide_eq_true (by first | (with_reducible assumption) | assumption)
           obtain ⟨ad378, e378, hx378_0, hx378_1, hx378_2⟩ := at_T51 (Kd.R_reads' HO_5.out).2.2 x15_2 p378 q378
           cases e378
           replace p378 := eq_true p378
           replace q378 := eq_true q378
           go_wp2_with (first | ((with_reducible refine gate_dst (N := 16) rfl ?_); (try (refine gate_guard (by rfl) ?_; dsimp only)); refine box_event ?hg (N := 16) ?hd (cs := #[.int .i64 0, .int .i64 0, .int .i64 0]) (t := 51) ?hr ?_; (case hd => rfl); (case hg => rfl); (case hr => first | (go_simp; done) | (go_simp; rfl)); intro gb379 hg w68 hbox hb; have n0_ := Aside0.mk (Kd.R_below (by (with_reducible repeat (first | apply Kd.R_alloc | apply Kd.R_drewN | apply Kd.R_drew)); exact HO_4.out) hb); have n1_ := Aside0.mk (Kd.R_below (Kd.R_elderB (by (with_reducible repeat (first | apply Kd.R_alloc | apply Kd.R_drewN | apply Kd.R_drew)); exact HO_5.out) gb379 (Nat.le_of_eq hg.symm)) hb); have n2_ := Aside0.mk (Kd.R_below (by (with_reducible repeat (first | apply Kd.R_alloc | apply Kd.R_drewN | apply Kd.R_drew)); exact HO_6.out) hb); have n3_ := Aside0.mk (Kd.R_below (by (with_reducible repeat (first | apply Kd.R_alloc | apply Kd.R_drewN | apply Kd.R_drew)); exact HO_7.out) hb); have n4_ := Aside0.mk (below_step (by repeat (first | (with_reducible first | exact HB.out | apply below_alloc | apply pw_below_drewN | apply below_drew1) | exact HB.out)) hb); have n5_ := Aside0.mk (hbox); have n6_ := Aside0.mk ((by rw [hg]; exact (below_size (by repeat (first | (with_reducible first | exact HB.out | apply below_alloc | apply pw_below_drewN | apply below_drew1) | exact HB.out))) : w.heap.size ≤ gb379)); have n7_ := Aside0.mk ((by rw [hg]; exact (below_size (by repeat (first | (with_reducible first | exact HB.out | apply below_alloc | apply pw_below_drewN | apply below_drew1) | exact HB.out))) : w.heap.size ≤ gb379)); clear HO_4; clear HO_5; clear HO_6; clear HO_7; clear HB; have HO_4 := n0_; have HO_5 := n1_; have HO_6 := n2_; have HO_7 := n3_; have HB := n4_; have BK379 := n5_; have GW379 := n6_; have GE379 := n7_; clear n0_ n1_ n2_ n3_ n4_ n5_ n6_ n7_; clear hb hbox hg; have hcz69_0 : w68.cell? ⟨gb379, 0, none⟩ = some (.int .i64 0) := (blk_cell BK379.out 0).trans rfl; have hcz69_1 : w68.cell? ⟨gb379, 1, none⟩ = some (.int .i64 0) := (blk_cell BK379.out 1).trans rfl; have hcz69_2 : w68.cell? ⟨gb379, 2, none⟩ = some (.int .i64 0) := (blk_cell BK379.out 2).trans rfl; have hfz69_0 := blk_frozen BK379.out 0; have hfz69_1 := blk_frozen BK379.out 1; have hfz69_2 := blk_frozen BK379.out 2))
           repeat (go_quiet (first | ((with_reducible refine gate_dst (N := 16) rfl ?_); (try (refine gate_guard (by rfl) ?_; dsimp only)); refine box_event ?hg (N := 16) ?hd (cs := #[.int .i64 0, .int .i64 0, .int .i64 0]) (t := 51) ?hr ?_; (case hd => rfl); (case hg => rfl); (case hr => first | (go_simp; done) | (go_simp; rfl)); intro gb379 hg w68 hbox hb; have n0_ := Aside0.mk (Kd.R_below (by (with_reducible repeat (first | apply Kd.R_alloc | apply Kd.R_drewN | apply Kd.R_drew)); exact HO_4.out) hb); have n1_ := Aside0.mk (Kd.R_below (Kd.R_elderB (by (with_reducible repeat (first | apply Kd.R_alloc | apply Kd.R_drewN | apply Kd.R_drew)); exact HO_5.out) gb379 (Nat.le_of_eq hg.symm)) hb); have n2_ := Aside0.mk (Kd.R_below (by (with_reducible repeat (first | apply Kd.R_alloc | apply Kd.R_drewN | apply Kd.R_drew)); exact HO_6.out) hb); have n3_ := Aside0.mk (Kd.R_below (by (with_reducible repeat (first | apply Kd.R_alloc | apply Kd.R_drewN | apply Kd.R_drew)); exact HO_7.out) hb); have n4_ := Aside0.mk (below_step (by repeat (first | (with_reducible first | exact HB.out | apply below_alloc | apply pw_below_drewN | apply below_drew1) | exact HB.out)) hb); have n5_ := Aside0.mk (hbox); have n6_ := Aside0.mk ((by rw [hg]; exact (below_size (by repeat (first | (with_reducible first | exact HB.out | apply below_alloc | apply pw_below_drewN | apply below_drew1) | exact HB.out))) : w.heap.size ≤ gb379)); have n7_ := Aside0.mk ((by rw [hg]; exact (below_size (by repeat (first | (with_reducible first | exact HB.out | apply below_alloc | apply pw_below_drewN | apply below_drew1) | exact HB.out))) : w.heap.size ≤ gb379)); clear HO_4; clear HO_5; clear HO_6; clear HO_7; clear HB; have HO_4 := n0_; have HO_5 := n1_; have HO_6 := n2_; have HO_7 := n3_; have HB := n4_; have BK379 := n5_; have GW379 := n6_; have GE379 := n7_; clear n0_ n1_ n2_ n3_ n4_ n5_ n6_ n7_; clear hb hbox hg; have hcz69_0 : w68.cell? ⟨gb379, 0, none⟩ = some (.int .i64 0) := (blk_cell BK379.out 0).trans rfl; have hcz69_1 : w68.cell? ⟨gb379, 1, none⟩ = some (.int .i64 0) := (blk_cell BK379.out 1).trans rfl; have hcz69_2 : w68.cell? ⟨gb379, 2, none⟩ = some (.int .i64 0) := (blk_cell BK379.out 2).trans rfl; have hfz69_0 := blk_frozen BK379.out 0; have hfz69_1 := blk_frozen BK379.out 1; have hfz69_2 := blk_frozen BK379.out 2)); try go_wp2_with (first | ((with_reducible refine gate_dst (N := 16) rfl ?_); (try (refine gate_guard (by rfl) ?_; dsimp only)); refine box_event ?hg (N := 16) ?hd (cs := #[.int .i64 0, .int .i64 0, .int .i64 0]) (t := 51) ?hr ?_; (case hd => rfl); (case hg => rfl); (case hr => first | (go_simp; done) | (go_simp; rfl)); intro gb379 hg w68 hbox hb; have n0_ := Aside0.mk (Kd.R_below (by (with_reducible repeat (first | apply Kd.R_alloc | apply Kd.R_drewN | apply Kd.R_drew)); exact HO_4.out) hb); have n1_ := Aside0.mk (Kd.R_below (Kd.R_elderB (by (with_reducible repeat (first | apply Kd.R_alloc | apply Kd.R_drewN | apply Kd.R_drew)); exact HO_5.out) gb379 (Nat.le_of_eq hg.symm)) hb); have n2_ := Aside0.mk (Kd.R_below (by (with_reducible repeat (first | apply Kd.R_alloc | apply Kd.R_drewN | apply Kd.R_drew)); exact HO_6.out) hb); have n3_ := Aside0.mk (Kd.R_below (by (with_reducible repeat (first | apply Kd.R_alloc | apply Kd.R_drewN | apply Kd.R_drew)); exact HO_7.out) hb); have n4_ := Aside0.mk (below_step (by repeat (first | (with_reducible first | exact HB.out | apply below_alloc | apply pw_below_drewN | apply below_drew1) | exact HB.out)) hb); have n5_ := Aside0.mk (hbox); have n6_ := Aside0.mk ((by rw [hg]; exact (below_size (by repeat (first | (with_reducible first | exact HB.out | apply below_alloc | apply pw_below_drewN | apply below_drew1) | exact HB.out))) : w.heap.size ≤ gb379)); have n7_ := Aside0.mk ((by rw [hg]; exact (below_size (by repeat (first | (with_reducible first | exact HB.out | apply below_alloc | apply pw_below_drewN | apply below_drew1) | exact HB.out))) : w.heap.size ≤ gb379)); clear HO_4; clear HO_5; clear HO_6; clear HO_7; clear HB; have HO_4 := n0_; have HO_5 := n1_; have HO_6 := n2_; have HO_7 := n3_; have HB := n4_; have BK379 := n5_; have GW379 := n6_; have GE379 := n7_; clear n0_ n1_ n2_ n3_ n4_ n5_ n6_ n7_; clear hb hbox hg; have hcz69_0 : w68.cell? ⟨gb379, 0, none⟩ = some (.int .i64 0) := (blk_cell BK379.out 0).trans rfl; have hcz69_1 : w68.cell? ⟨gb379, 1, none⟩ = some (.int .i64 0) := (blk_cell BK379.out 1).trans rfl; have hcz69_2 : w68.cell? ⟨gb379, 2, none⟩ = some (.int .i64 0) := (blk_cell BK379.out 2).trans rfl; have hfz69_0 := blk_frozen BK379.out 0; have hfz69_1 := blk_frozen BK379.out 1; have hfz69_2 := blk_frozen BK379.out 2)))
           go_loopg [17, 18] k2 (fun kq v17 v18 w' => ∃ (x17_3 : Int) (x18_3 : Int), v17 = .int .i64 x17_3 ∧ v18 = .int .i64 x18_3 ∧ Aside0 (laws_FnTried.l1 kq t337 t338 t339 t344 t345 t346 x15_2 x17_3 x18_3 ((rd_T51 t339 x15_2).f0) ((rd_T51 t339 x15_2).f1) ((rd_T51 t339 x15_2).f2) = some r) ∧ Aside0 (kq ≤ k2) ∧ Aside0 (Kd.R (Kd.int .i64) 3 w' w.heap.size (fun k_ => some k_ ≠ (v349 : Value).ownBlock) (.slice Ao16 t338.length co16) t338) ∧ Aside0 (Kd.R k51 51 w' w.heap.size (fun k_ => k_ ≠ gb379) (.slice (some ad378) t339.length co17) t339) ∧ Aside0 (Kd.R Kd.bool 4 w' w.heap.size (fun _ => True) (.slice Ao67 t344.length co67) t344) ∧ Aside0 (Kd.R (Kd.int .i64) 3 w' w.heap.size (fun k_ => some k_ ≠ ((.slice Ao16 t338.length co16) : Value).ownBlock) v349 t345) ∧ Aside0 (w'.heap[gb379]? = some (.cells #[.int .i64 ((rd_T51 t339 x15_2).f0), .int .i64 ((rd_T51 t339 x15_2).f1), .int .i64 ((rd_T51 t339 x15_2).f2)] 51 (0, 0))) ∧ Aside0 (Below w.heap.size w w'))
           case atStart => exact ⟨(0), (0), (by first | rfl | (simp; done) | (simp [*]; done)), (by first | rfl | (simp; done) | (simp [*]; done)), H', ⟨Nat.le_refl _⟩, ⟨by (with_reducible repeat (first | apply Kd.R_alloc | apply Kd.R_drewN | apply Kd.R_drew)); exact Kd.R_mono (Kd.R_far (p := ⟨gb379, 2, none⟩) (Kd.R_far (p := ⟨gb379, 1, none⟩) (Kd.R_far (p := ⟨gb379, 0, none⟩) (Kd.R_types HO_4.out BK379.out (by decide)) (fun _ hk => hk.2) (.int .i64 ((rd_T51 t339 x15_2).f0))) (fun _ hk => hk.2) (.int .i64 ((rd_T51 t339 x15_2).f1))) (fun _ hk => hk.2) (.int .i64 ((rd_T51 t339 x15_2).f2))) (fun _ hk => hk.1)⟩, ⟨by (with_reducible repeat (first | apply Kd.R_alloc | apply Kd.R_drewN | apply Kd.R_drew)); exact Kd.R_mono (Kd.R_far (p := ⟨gb379, 2, none⟩) (Kd.R_far (p := ⟨gb379, 1, none⟩) (Kd.R_far (p := ⟨gb379, 0, none⟩) (Kd.R_mono HO_5.out (fun k_ hk => (⟨hk, hk.2⟩ : _ ∧ k_ ≠ gb379))) (fun _ hk => hk.2) (.int .i64 ((rd_T51 t339 x15_2).f0))) (fun _ hk => hk.2) (.int .i64 ((rd_T51 t339 x15_2).f1))) (fun _ hk => hk.2) (.int .i64 ((rd_T51 t339 x15_2).f2))) (fun _ hk => hk.1.2)⟩, ⟨by (with_reducible repeat (first | apply Kd.R_alloc | apply Kd.R_drewN | apply Kd.R_drew)); exact Kd.R_mono (Kd.R_far (p := ⟨gb379, 2, none⟩) (Kd.R_far (p := ⟨gb379, 1, none⟩) (Kd.R_far (p := ⟨gb379, 0, none⟩) (Kd.R_types HO_6.out BK379.out (by decide)) (fun _ hk => hk.2) (.int .i64 ((rd_T51 t339 x15_2).f0))) (fun _ hk => hk.2) (.int .i64 ((rd_T51 t339 x15_2).f1))) (fun _ hk => hk.2) (.int .i64 ((rd_T51 t339 x15_2).f2))) (fun _ hk => trivial)⟩, ⟨by (with_reducible repeat (first | apply Kd.R_alloc | apply Kd.R_drewN | apply Kd.R_drew)); exact Kd.R_mono (Kd.R_far (p := ⟨gb379, 2, none⟩) (Kd.R_far (p := ⟨gb379, 1, none⟩) (Kd.R_far (p := ⟨gb379, 0, none⟩) (Kd.R_types HO_7.out BK379.out (by decide)) (fun _ hk => hk.2) (.int .i64 ((rd_T51 t339 x15_2).f0))) (fun _ hk => hk.2) (.int .i64 ((rd_T51 t339 x15_2).f1))) (fun _ hk => hk.2) (.int .i64 ((rd_T51 t339 x15_2).f2))) (fun _ hk => hk.1)⟩, ⟨by (with_reducible repeat (first | refine blk_drewN ?_ _ | refine blk_drew ?_ | refine blk_alloc ?_ _)); refine blk_put (cs := #[.int .i64 ((rd_T51 t339 x15_2).f0), .int .i64 ((rd_T51 t339 x15_2).f1), .int .i64 0]) ?_ 2 _ rfl; (with_reducible repeat (first | refine blk_drewN ?_ _ | refine blk_drew ?_ | refine blk_alloc ?_ _)); refine blk_put (cs := #[.int .i64 ((rd_T51 t339 x15_2).f0), .int .i64 0, .int .i64 0]) ?_ 1 _ rfl; (with_reducible repeat (first | refine blk_drewN ?_ _ | refine blk_drew ?_ | refine blk_alloc ?_ _)); refine blk_put (cs := #[.int .i64 0, .int .i64 0, .int .i64 0]) ?_ 0 _ rfl; (with_reducible repeat (first | refine blk_drewN ?_ _ | refine blk_drew ?_ | refine blk_alloc ?_ _)); exact BK379.out⟩, ⟨by repeat (first | (with_reducible first | exact HB.out | apply below_alloc | apply pw_below_drewN | apply below_drew1 | refine below_set ?_ GE379.out) | exact HB.out)⟩⟩
           case round =>
            clear H'
            try clear c2
            try clear p2
            try clear c3
            try clear p3
            try clear q3
            try clear hx3
            try clear qi3
            try clear c4
            try clear c6
            try clear c7
            try clear c7b0
            try clear c7b1
            try clear c7b2
            try clear c27
            try clear c28
            try clear c28b0
            try clear c28b1
            try clear c29
            try clear c29b0
            try clear c29b1
            try clear q30
            try clear c31
            try clear c32
            try clear c32b0
            try clear c32b1
            try clear q33
            try clear c34
            try clear c36
            try clear c36b0
            try clear c36b1
            try clear p37
            try clear q37
            try clear hx37
            try clear qi37
            try clear c38
            try clear c40
            try clear c41
            try clear c41b0
            try clear c41b1
            try clear c63
            try clear c64
            try clear c64b0
            try clear c65
            try clear c65b0
            try clear c66
            try clear c66b0
            try clear hcz69_0
            try clear hcz69_1
            try clear hcz69_2
            try clear hfz69_0
            try clear hfz69_1
            try clear hfz69_2
            try clear hx371_0
            try clear hx372_0
            try clear hx373_0
            try clear hx378_0
            try clear hx378_1
            try clear hx378_2
            try clear p2
            try clear p3
            try clear p37
            try clear p371
            try clear p372
            try clear p373
            try clear p378
            try clear q3
            try clear q30
            try clear q33
            try clear q37
            try clear q371
            try clear q372
            try clear q373
            try clear q378
            obtain ⟨x17_3, x18_3, rfl, rfl, HA, HK3, HO_4, HO_5, HO_6, HO_7, BK379, HB⟩ := hrel
            cases gk with
            | zero => exact absurd HA.out (by simp [laws_FnTried.l1])
            | succ k3 =>
             have H := HA.out
             clear HA
             simp only [laws_FnTried.l1] at H
             by_cases c70 : x18_3 < x15_2
             ·rw [if_pos c70] at H
              have c70b0 : decide (x18_3 < x15_2) = true := decide_eq_true c70
              clear c70
              by_cases c71 : 0 ≤ x18_3
              ·rw [if_pos c71] at H
               have c71b0 : decide (0 ≤ x18_3) = true := decide_eq_true c71
               clear c71
               by_cases c72 : x18_3 < (t344.length : Int)
               ·rw [if_pos c72] at H
                have c72b0 : decide (x18_3 < (t344.length : Int)) = true := decide_eq_true c72
                clear c72
                obtain ⟨bq73, hbq73⟩ : ∃ b_ : Bool, b_ = (rdOf false t344 x18_3) := ⟨_, rfl⟩
                replace H : (if bq73 = true then (if x18_3 < (t339.length : Int) then (if (wrap64 (((rd_T51 t339 x18_3).f0) + ((rd_T51 t339 x18_3).f1))) > ((rd_T51 t339 x15_2).f0) then (laws_FnTried.l1 k3 t337 t338 t339 t344 t345 t346 x15_2 (wrap64 (x17_3 + 1)) (wrap64 (x18_3 + 1)) ((rd_T51 t339 x15_2).f0) ((rd_T51 t339 x15_2).f1) ((rd_T51 t339 x15_2).f2)) else (laws_FnTried.l1 k3 t337 t338 t339 t344 t345 t346 x15_2 x17_3 (wrap64 (x18_3 + 1)) ((rd_T51 t339 x15_2).f0) ((rd_T51 t339 x15_2).f1) ((rd_T51 t339 x15_2).f2))) else (none)) else (laws_FnTried.l1 k3 t337 t338 t339 t344 t345 t346 x15_2 x17_3 (wrap64 (x18_3 + 1)) ((rd_T51 t339 x15_2).f0) ((rd_T51 t339 x15_2).f1) ((rd_T51 t339 x15_2).f2))) = some r := by rw [← hbq73] at H; exact H
                have Nbq73 := Aside0.mk hbq73
                clear hbq73
                by_cases c74 : bq73 = true
                ·subst c74
                 have H1 : (if x18_3 < (t339.length : Int) then (if (wrap64 (((rd_T51 t339 x18_3).f0) + ((rd_T51 t339 x18_3).f1))) > ((rd_T51 t339 x15_2).f0) then (laws_FnTried.l1 k3 t337 t338 t339 t344 t345 t346 x15_2 (wrap64 (x17_3 + 1)) (wrap64 (x18_3 + 1)) ((rd_T51 t339 x15_2).f0) ((rd_T51 t339 x15_2).f1) ((rd_T51 t339 x15_2).f2)) else (laws_FnTried.l1 k3 t337 t338 t339 t344 t345 t346 x15_2 x17_3 (wrap64 (x18_3 + 1)) ((rd_T51 t339 x15_2).f0) ((rd_T51 t339 x15_2).f1) ((rd_T51 t339 x15_2).f2))) else (none)) = some r := by rw [if_pos rfl] at H; exact H
                 clear H
                 have H := H1
                 clear H1
                 by_cases c75 : x18_3 < (t339.length : Int)
                 ·rw [if_pos c75] at H
                  have c75b0 : decide (x18_3 < (t339.length : Int)) = true := decide_eq_true c75
                  clear c75
                  by_cases c76 : (wrap64 (((rd_T51 t339 x18_3).f0) + ((rd_T51 t339 x18_3).f1))) > ((rd_T51 t339 x15_2).f0)
                  ·rw [if_pos c76] at H
                   have c76b0 : decide (((rd_T51 t339 x15_2).f0) < (wrap64 (((rd_T51 t339 x18_3).f0) + ((rd_T51 t339 x18_3).f1)))) = true := decide_eq_true c76
                   clear c76
                   have H' := Aside0.mk H
                   clear H
                   have p380 : 0 ≤ (x18_3 : Int) := of_decide_eq_true (by first | (with_reducible assumption) | assumption)
                   have q380 : x18_3 < (t344.length : Int) := of_decide_eq_true (by first | (with_reducible assumption) | assumption)
                   obtain ⟨ad380, e380, hx380_0⟩ := Kd.at_bool (Kd.R_reads' HO_6.out).2.2 x18_3 p380 q380
                   (try rw [← Nbq73.out] at hx380_0)
                   cases e380
                   replace p380 := eq_true p380
                   replace q380 := eq_true q380
                   have p381 : 0 ≤ (x18_3 : Int) := of_decide_eq_true (by first | (with_reducible assumption) | assumption)
                   have q381 : x18_3 < (t339.length : Int) := of_decide_eq_true (by first | (with_reducible assumption) | assumption)
                   obtain ⟨ad381, e381, hx381_0, hx381_1, hx381_2⟩ := at_T51 (Kd.R_reads' HO_5.out).2.2 x18_3 p381 q381
                   obtain rfl : ad378 = ad381 := (by injection e381)
                   replace p381 := eq_true p381
                   replace q381 := eq_true q381
                   have p382 : 0 ≤ (x18_3 : Int) := of_decide_eq_true (by first | (with_reducible assumption) | assumption)
                   have q382 : x18_3 < (t339.length : Int) := of_decide_eq_true (by first | (with_reducible assumption) | assumption)
                   obtain ⟨ad382, e382, hx382_0, hx382_1, hx382_2⟩ := at_T51 (Kd.R_reads' HO_5.out).2.2 x18_3 p382 q382
                   obtain rfl : ad378 = ad382 := (by injection e382)
                   replace p382 := eq_true p382
                   replace q382 := eq_true q382
                   have hcz77_0 : wr.cell? ⟨gb379, 0, none⟩ = some (.int .i64 ((rd_T51 t339 x15_2).f0)) := (blk_cell BK379.out 0).trans rfl
                   have hcz77_1 : wr.cell? ⟨gb379, 1, none⟩ = some (.int .i64 ((rd_T51 t339 x15_2).f1)) := (blk_cell BK379.out 1).trans rfl
                   have hcz77_2 : wr.cell? ⟨gb379, 2, none⟩ = some (.int .i64 ((rd_T51 t339 x15_2).f2)) := (blk_cell BK379.out 2).trans rfl
                   have hfz77_0 := blk_frozen BK379.out 0
                   have hfz77_1 := blk_frozen BK379.out 1
                   have hfz77_2 := blk_frozen BK379.out 2
                   go_wp2
                   repeat (go_quiet (fail); try go_wp2)
                   go_roundg k3
                   case measure => have := HJ13.out; have := HK2.out; have := HK3.out; omega
                   case rel => exact ⟨(wrap64 (x17_3 + 1)), (wrap64 (x18_3 + 1)), (by first | rfl | (simp; done) | (simp [*]; done)), (by first | rfl | (simp; done) | (simp [*]; done)), H', ⟨by have := HJ13.out; have := HK2.out; have := HK3.out; omega⟩, ⟨by (with_reducible repeat (first | apply Kd.R_alloc | apply Kd.R_drewN | apply Kd.R_drew)); exact HO_4.out⟩, ⟨by (with_reducible repeat (first | apply Kd.R_alloc | apply Kd.R_drewN | apply Kd.R_drew)); exact HO_5.out⟩, ⟨by (with_reducible repeat (first | apply Kd.R_alloc | apply Kd.R_drewN | apply Kd.R_drew)); exact HO_6.out⟩, ⟨by (with_reducible repeat (first | apply Kd.R_alloc | apply Kd.R_drewN | apply Kd.R_drew)); exact HO_7.out⟩, ⟨by (with_reducible repeat (first | refine blk_drewN ?_ _ | refine blk_drew ?_ | refine blk_alloc ?_ _)); exact BK379.out⟩, ⟨by repeat (first | (with_reducible first | exact HB.out | apply below_alloc | apply pw_below_drewN | apply below_drew1 | refine below_set ?_ GE379.out) | exact HB.out)⟩⟩
                  ·rw [if_neg c76] at H
                   have c76b0 : decide (((rd_T51 t339 x15_2).f0) < (wrap64 (((rd_T51 t339 x18_3).f0) + ((rd_T51 t339 x18_3).f1)))) = false := decide_eq_false c76
                   clear c76
                   have H' := Aside0.mk H
                   clear H
                   have p380 : 0 ≤ (x18_3 : Int) := of_decide_eq_true (by first | (with_reducible assumption) | assumption)
                   have q380 : x18_3 < (t344.length : Int) := of_decide_eq_true (by first | (with_reducible assumption) | assumption)
                   obtain ⟨ad380, e380, hx380_0⟩ := Kd.at_bool (Kd.R_reads' HO_6.out).2.2 x18_3 p380 q380
                   (try rw [← Nbq73.out] at hx380_0)
                   cases e380
                   replace p380 := eq_true p380
                   replace q380 := eq_true q380
                   have p381 : 0 ≤ (x18_3 : Int) := of_decide_eq_true (by first | (with_reducible assumption) | assumption)
                   have q381 : x18_3 < (t339.length : Int) := of_decide_eq_true (by first | (with_reducible assumption) | assumption)
                   obtain ⟨ad381, e381, hx381_0, hx381_1, hx381_2⟩ := at_T51 (Kd.R_reads' HO_5.out).2.2 x18_3 p381 q381
                   obtain rfl : ad378 = ad381 := (by injection e381)
                   replace p381 := eq_true p381
                   replace q381 := eq_true q381
                   have p382 : 0 ≤ (x18_3 : Int) := of_decide_eq_true (by first | (with_reducible assumption) | assumption)
                   have q382 : x18_3 < (t339.length : Int) := of_decide_eq_true (by first | (with_reducible assumption) | assumption)
                   obtain ⟨ad382, e382, hx382_0, hx382_1, hx382_2⟩ := at_T51 (Kd.R_reads' HO_5.out).2.2 x18_3 p382 q382
                   obtain rfl : ad378 = ad382 := (by injection e382)
                   replace p382 := eq_true p382
                   replace q382 := eq_true q382
                   have hcz78_0 : wr.cell? ⟨gb379, 0, none⟩ = some (.int .i64 ((rd_T51 t339 x15_2).f0)) := (blk_cell BK379.out 0).trans rfl
                   have hcz78_1 : wr.cell? ⟨gb379, 1, none⟩ = some (.int .i64 ((rd_T51 t339 x15_2).f1)) := (blk_cell BK379.out 1).trans rfl
                   have hcz78_2 : wr.cell? ⟨gb379, 2, none⟩ = some (.int .i64 ((rd_T51 t339 x15_2).f2)) := (blk_cell BK379.out 2).trans rfl
                   have hfz78_0 := blk_frozen BK379.out 0
                   have hfz78_1 := blk_frozen BK379.out 1
                   have hfz78_2 := blk_frozen BK379.out 2
                   go_wp2
                   repeat (go_quiet (fail); try go_wp2)
                   go_roundg k3
                   case measure => have := HJ13.out; have := HK2.out; have := HK3.out; omega
                   case rel => exact ⟨(x17_3), (wrap64 (x18_3 + 1)), (by first | rfl | (simp; done) | (simp [*]; done)), (by first | rfl | (simp; done) | (simp [*]; done)), H', ⟨by have := HJ13.out; have := HK2.out; have := HK3.out; omega⟩, ⟨by (with_reducible repeat (first | apply Kd.R_alloc | apply Kd.R_drewN | apply Kd.R_drew)); exact HO_4.out⟩, ⟨by (with_reducible repeat (first | apply Kd.R_alloc | apply Kd.R_drewN | apply Kd.R_drew)); exact HO_5.out⟩, ⟨by (with_reducible repeat (first | apply Kd.R_alloc | apply Kd.R_drewN | apply Kd.R_drew)); exact HO_6.out⟩, ⟨by (with_reducible repeat (first | apply Kd.R_alloc | apply Kd.R_drewN | apply Kd.R_drew)); exact HO_7.out⟩, ⟨by (with_reducible repeat (first | refine blk_drewN ?_ _ | refine blk_drew ?_ | refine blk_alloc ?_ _)); exact BK379.out⟩, ⟨by repeat (first | (with_reducible first | exact HB.out | apply below_alloc | apply pw_below_drewN | apply below_drew1 | refine below_set ?_ GE379.out) | exact HB.out)⟩⟩
                 ·rw [if_neg c75] at H
                  exact absurd H (by simp)
                ·replace c74 := Bool.eq_false_iff.mpr c74
                 subst c74
                 have H1 : (laws_FnTried.l1 k3 t337 t338 t339 t344 t345 t346 x15_2 x17_3 (wrap64 (x18_3 + 1)) ((rd_T51 t339 x15_2).f0) ((rd_T51 t339 x15_2).f1) ((rd_T51 t339 x15_2).f2)) = some r := by rw [if_neg (show ¬ (false = true) by decide)] at H; exact H
                 clear H
                 have H := H1
                 clear H1
                 have H' := Aside0.mk H
                 clear H
                 have p380 : 0 ≤ (x18_3 : Int) := of_decide_eq_true (by first | (with_reducible assumption) | assumption)
                 have q380 : x18_3 < (t344.length : Int) := of_decide_eq_true (by first | (with_reducible assumption) | assumption)
                 obtain ⟨ad380, e380, hx380_0⟩ := Kd.at_bool (Kd.R_reads' HO_6.out).2.2 x18_3 p380 q380
                 (try rw [← Nbq73.out] at hx380_0)
                 cases e380
                 replace p380 := eq_true p380
                 replace q380 := eq_true q380
                 go_wp2
                 repeat (go_quiet (fail); try go_wp2)
                 go_roundg k3
                 case measure => have := HJ13.out; have := HK2.out; have := HK3.out; omega
                 case rel => exact ⟨(x17_3), (wrap64 (x18_3 + 1)), (by first | rfl | (simp; done) | (simp [*]; done)), (by first | rfl | (simp; done) | (simp [*]; done)), H', ⟨by have := HJ13.out; have := HK2.out; have := HK3.out; omega⟩, ⟨by (with_reducible repeat (first | apply Kd.R_alloc | apply Kd.R_drewN | apply Kd.R_drew)); exact HO_4.out⟩, ⟨by (with_reducible repeat (first | apply Kd.R_alloc | apply Kd.R_drewN | apply Kd.R_drew)); exact HO_5.out⟩, ⟨by (with_reducible repeat (first | apply Kd.R_alloc | apply Kd.R_drewN | apply Kd.R_drew)); exact HO_6.out⟩, ⟨by (with_reducible repeat (first | apply Kd.R_alloc | apply Kd.R_drewN | apply Kd.R_drew)); exact HO_7.out⟩, ⟨by (with_reducible repeat (first | refine blk_drewN ?_ _ | refine blk_drew ?_ | refine blk_alloc ?_ _)); exact BK379.out⟩, ⟨by repeat (first | (with_reducible first | exact HB.out | apply below_alloc | apply pw_below_drewN | apply below_drew1 | refine below_set ?_ GE379.out) | exact HB.out)⟩⟩
               ·rw [if_neg c72] at H
                exact absurd H (by simp)
              ·rw [if_neg c71] at H
               exact absurd H (by simp)
             ·rw [if_neg c70] at H
              have c70b0 : decide (x18_3 < x15_2) = false := decide_eq_false c70
              clear c70
              by_cases c79 : 0 ≤ x15_2
              ·rw [if_pos c79] at H
               have c79b0 : decide (0 ≤ x15_2) = true := decide_eq_true c79
               clear c79
               by_cases c80 : x15_2 < (t344.length : Int)
               ·rw [if_pos c80] at H
                have c80b0 : decide (x15_2 < (t344.length : Int)) = true := decide_eq_true c80
                clear c80
                have HC81 := Aside0.mk H
                clear H
                have p383 : 0 ≤ (x15_2 : Int) := of_decide_eq_true (by first | (with_reducible assumption) | assumption)
                have q383 : x15_2 < (t344.length : Int) := of_decide_eq_true (by first | (with_reducible assumption) | assumption)
                obtain ⟨ad383, e383, hx383_0⟩ := Kd.at_bool (Kd.R_reads' HO_6.out).2.2 x15_2 p383 q383
                cases e383
                replace p383 := eq_true p383
                replace q383 := eq_true q383
                go_upto_if 142 with (fail)
                repeat (go_quiet (fail); go_upto_if 142 with (fail))
                go_cut [19] (fun v19 wc => ∃ (kq : Nat) (x19_80 : Int), v19 = .int .i64 x19_80 ∧ Aside0 (laws_FnTried.j3 kq t337 t338 t339 t344 t345 t346 x15_2 x17_3 x19_80 ((rd_T51 t339 x15_2).f0) ((rd_T51 t339 x15_2).f1) ((rd_T51 t339 x15_2).f2) = some r) ∧ Aside0 (kq ≤ k3) ∧ Aside0 (Kd.R (Kd.int .i64) 3 wc w.heap.size (fun k_ => some k_ ≠ (v349 : Value).ownBlock) (.slice Ao16 t338.length co16) t338) ∧ Aside0 (Kd.R k51 51 wc w.heap.size (fun k_ => k_ ≠ gb379) (.slice (some ad378) t339.length co17) t339) ∧ Aside0 (Kd.R Kd.bool 4 wc w.heap.size (fun _ => True) (.slice (some ad383) t344.length co67) t344) ∧ Aside0 (Kd.R (Kd.int .i64) 3 wc w.heap.size (fun k_ => some k_ ≠ ((.slice Ao16 t338.length co16) : Value).ownBlock) v349 t345) ∧ Aside0 (wc.heap[gb379]? = some (.cells #[.int .i64 ((rd_T51 t339 x15_2).f0), .int .i64 ((rd_T51 t339 x15_2).f1), .int .i64 ((rd_T51 t339 x15_2).f2)] 51 (0, 0))) ∧ Aside0 (Below w.heap.size w wc))
                case first =>
                 have H := HC81.out
                 clear HC81
                 obtain ⟨bq82, hbq82⟩ : ∃ b_ : Bool, b_ = (rdOf false t344 x15_2) := ⟨_, rfl⟩
                 replace H : (if bq82 = true then (laws_FnTried.j3 k3 t337 t338 t339 t344 t345 t346 x15_2 x17_3 (wrap64 (x17_3 + 1)) ((rd_T51 t339 x15_2).f0) ((rd_T51 t339 x15_2).f1) ((rd_T51 t339 x15_2).f2)) else (laws_FnTried.j3 k3 t337 t338 t339 t344 t345 t346 x15_2 x17_3 x17_3 ((rd_T51 t339 x15_2).f0) ((rd_T51 t339 x15_2).f1) ((rd_T51 t339 x15_2).f2))) = some r := by rw [← hbq82] at H; exact H
                 have Nbq82 := Aside0.mk hbq82
                 clear hbq82
                 (try rw [← Nbq82.out])
                 by_cases c83 : bq82 = true
                 ·subst c83
                  have H1 : (laws_FnTried.j3 k3 t337 t338 t339 t344 t345 t346 x15_2 x17_3 (wrap64 (x17_3 + 1)) ((rd_T51 t339 x15_2).f0) ((rd_T51 t339 x15_2).f1) ((rd_T51 t339 x15_2).f2)) = some r := by rw [if_pos rfl] at H; exact H
                  clear H
                  have H := H1
                  clear H1
                  have H' := Aside0.mk H
                  clear H
                  go_wp2
                  repeat (go_quiet (fail); try go_wp2)
                  go_meet
                  case rel => exact ⟨_, (wrap64 (x17_3 + 1)), (by first | rfl | (simp; done) | (simp [*]; done)), H', ⟨by have := HJ13.out; have := HK2.out; have := HK3.out; first | omega | exact Nat.le_refl _⟩, ⟨by (with_reducible repeat (first | apply Kd.R_alloc | apply Kd.R_drewN | apply Kd.R_drew)); exact HO_4.out⟩, ⟨by (with_reducible repeat (first | apply Kd.R_alloc | apply Kd.R_drewN | apply Kd.R_drew)); exact HO_5.out⟩, ⟨by (with_reducible repeat (first | apply Kd.R_alloc | apply Kd.R_drewN | apply Kd.R_drew)); exact HO_6.out⟩, ⟨by (with_reducible repeat (first | apply Kd.R_alloc | apply Kd.R_drewN | apply Kd.R_drew)); exact HO_7.out⟩, ⟨by (with_reducible repeat (first | refine blk_drewN ?_ _ | refine blk_drew ?_ | refine blk_alloc ?_ _)); exact BK379.out⟩, ⟨by repeat (first | (with_reducible first | exact HB.out | apply below_alloc | apply pw_below_drewN | apply below_drew1 | refine below_set ?_ GE379.out) | exact HB.out)⟩⟩
                 ·replace c83 := Bool.eq_false_iff.mpr c83
                  subst c83
                  have H1 : (laws_FnTried.j3 k3 t337 t338 t339 t344 t345 t346 x15_2 x17_3 x17_3 ((rd_T51 t339 x15_2).f0) ((rd_T51 t339 x15_2).f1) ((rd_T51 t339 x15_2).f2)) = some r := by rw [if_neg (show ¬ (false = true) by decide)] at H; exact H
                  clear H
                  have H := H1
                  clear H1
                  have H' := Aside0.mk H
                  clear H
                  go_wp2
                  repeat (go_quiet (fail); try go_wp2)
                  go_meet
                  case rel => exact ⟨_, (x17_3), (by first | rfl | (simp; done) | (simp [*]; done)), H', ⟨by have := HJ13.out; have := HK2.out; have := HK3.out; first | omega | exact Nat.le_refl _⟩, ⟨by (with_reducible repeat (first | apply Kd.R_alloc | apply Kd.R_drewN | apply Kd.R_drew)); exact HO_4.out⟩, ⟨by (with_reducible repeat (first | apply Kd.R_alloc | apply Kd.R_drewN | apply Kd.R_drew)); exact HO_5.out⟩, ⟨by (with_reducible repeat (first | apply Kd.R_alloc | apply Kd.R_drewN | apply Kd.R_drew)); exact HO_6.out⟩, ⟨by (with_reducible repeat (first | apply Kd.R_alloc | apply Kd.R_drewN | apply Kd.R_drew)); exact HO_7.out⟩, ⟨by (with_reducible repeat (first | refine blk_drewN ?_ _ | refine blk_drew ?_ | refine blk_alloc ?_ _)); exact BK379.out⟩, ⟨by repeat (first | (with_reducible first | exact HB.out | apply below_alloc | apply pw_below_drewN | apply below_drew1 | refine below_set ?_ GE379.out) | exact HB.out)⟩⟩
                case rest =>
                 clear HC81
                 try clear c2
                 try clear p2
                 try clear c3
                 try clear p3
                 try clear q3
                 try clear hx3
                 try clear qi3
                 try clear c4
                 try clear c6
                 try clear p6
                 try clear c7
                 try clear c7b0
                 try clear c7b1
                 try clear c7b2
                 try clear q7
                 try clear c8
                 try clear q8
                 try clear c27
                 try clear c28
                 try clear c28b0
                 try clear c28b1
                 try clear c29
                 try clear c29b0
                 try clear c29b1
                 try clear q30
                 try clear c31
                 try clear c32
                 try clear c32b0
                 try clear c32b1
                 try clear q33
                 try clear c34
                 try clear c36
                 try clear c36b0
                 try clear c36b1
                 try clear p37
                 try clear q37
                 try clear hx37
                 try clear qi37
                 try clear c38
                 try clear p38
                 try clear q38
                 try clear hx38
                 try clear c40
                 try clear c41
                 try clear c41b0
                 try clear c41b1
                 try clear c63
                 try clear c64
                 try clear c64b0
                 try clear p64
                 try clear c65
                 try clear c65b0
                 try clear c66
                 try clear c66b0
                 try clear c70
                 try clear c70b0
                 try clear c71
                 try clear c71b0
                 try clear c72
                 try clear c72b0
                 try clear q73
                 try clear c74
                 try clear c75
                 try clear c75b0
                 try clear c76
                 try clear c76b0
                 try clear c79
                 try clear c79b0
                 try clear c80
                 try clear c80b0
                 try clear q82
                 try clear c83
                 try clear hcz69_0
                 try clear hcz69_1
                 try clear hcz69_2
                 try clear hcz77_0
                 try clear hcz77_1
                 try clear hcz77_2
                 try clear hcz78_0
                 try clear hcz78_1
                 try clear hcz78_2
                 try clear hfz69_0
                 try clear hfz69_1
                 try clear hfz69_2
                 try clear hfz77_0
                 try clear hfz77_1
                 try clear hfz77_2
                 try clear hfz78_0
                 try clear hfz78_1
                 try clear hfz78_2
                 try clear hx371_0
                 try clear hx372_0
                 try clear hx373_0
                 try clear hx378_0
                 try clear hx378_1
                 try clear hx378_2
                 try clear hx380_0
                 try clear hx381_0
                 try clear hx381_1
                 try clear hx381_2
                 try clear hx382_0
                 try clear hx382_1
                 try clear hx382_2
                 try clear hx383_0
                 try clear p2
                 try clear p3
                 try clear p37
                 try clear p371
                 try clear p372
                 try clear p373
                 try clear p378
                 try clear p380
                 try clear p381
                 try clear p382
                 try clear p383
                 try clear q3
                 try clear q30
                 try clear q33
                 try clear q37
                 try clear q371
                 try clear q372
                 try clear q373
                 try clear q378
                 try clear q380
                 try clear q381
                 try clear q382
                 try clear q383
                 obtain ⟨kq, x19_80, rfl, HA, HJ80, HO_4, HO_5, HO_6, HO_7, BK379, HB⟩ := hcut
                 cases kq with
                 | zero => exact absurd HA.out (by simp [laws_FnTried.j3])
                 | succ kj80 =>
                  have H := HA.out
                  clear HA
                  simp only [laws_FnTried.j3] at H
                  have HC84 := Aside0.mk H
                  clear H
                  go_upto_region 24 with (fail)
                  repeat (go_quiet (fail); go_upto_region 24 with (fail))
                  go_cut [171] (fun v171 wc => ∃ (kq : Nat) (x171_83 : Bool), v171 = .bool x171_83 ∧ Aside0 (laws_FnTried.j4 kq t337 t338 t339 t344 t345 t346 x15_2 x171_83 = some r) ∧ Aside0 (kq ≤ kj80) ∧ Aside0 (Kd.R (Kd.int .i64) 3 wc w.heap.size (fun k_ => some k_ ≠ (v349 : Value).ownBlock) (.slice Ao16 t338.length co16) t338) ∧ Aside0 (Kd.R k51 51 wc w.heap.size (fun k_ => k_ ≠ gb379) (.slice (some ad378) t339.length co17) t339) ∧ Aside0 (Kd.R Kd.bool 4 wc w.heap.size (fun _ => True) (.slice (some ad383) t344.length co67) t344) ∧ Aside0 (Kd.R (Kd.int .i64) 3 wc w.heap.size (fun k_ => some k_ ≠ ((.slice Ao16 t338.length co16) : Value).ownBlock) v349 t345) ∧ Aside0 (wc.heap[gb379]? = some (.cells #[.int .i64 ((rd_T51 t339 x15_2).f0), .int .i64 ((rd_T51 t339 x15_2).f1), .int .i64 ((rd_T51 t339 x15_2).f2)] 51 (0, 0))) ∧ Aside0 (Below w.heap.size w wc))
                  case first =>
                   have H := HC84.out
                   clear HC84
                   by_cases c85 : 0 ≤ x15_2
                   ·rw [if_pos c85] at H
                    have c85b0 : decide (0 ≤ x15_2) = true := decide_eq_true c85
                    clear c85
                    (first | rw [c85b0] | (simp only [i64_w, i32_w]; rw [c85b0]) | skip)
                    by_cases c86 : x15_2 < (t344.length : Int)
                    ·rw [if_pos c86] at H
                     have c86b0 : decide (x15_2 < (t344.length : Int)) = true := decide_eq_true c86
                     clear c86
                     by_cases c87 : 0 ≤ ((rd_T51 t339 x15_2).f2)
                     ·rw [if_pos c87] at H
                      have c87b0 : decide (0 ≤ ((rd_T51 t339 x15_2).f2)) = true := decide_eq_true c87
                      clear c87
                      by_cases c88 : ((rd_T51 t339 x15_2).f2) < (t338.length : Int)
                      ·rw [if_pos c88] at H
                       have c88b0 : decide (((rd_T51 t339 x15_2).f2) < (t338.length : Int)) = true := decide_eq_true c88
                       clear c88
                       by_cases c89 : ((rdOf false t344 x15_2) != (decide ((wrap64 (t337 - x17_3)) > (rd t338 ((rd_T51 t339 x15_2).f2))))) = true
                       ·rw [if_pos c89] at H
                        have c89b0 : ((rdOf false t344 x15_2) != (decide ((wrap64 (t337 - x17_3)) > (rd t338 ((rd_T51 t339 x15_2).f2))))) = true := c89
                        (try (have c89b1 : decide ((rdOf false t344 x15_2) = (decide ((wrap64 (t337 - x17_3)) > (rd t338 ((rd_T51 t339 x15_2).f2))))) = false := by simpa using c89))
                        (try (have c89b2 : ((rdOf false t344 x15_2) == (decide ((wrap64 (t337 - x17_3)) > (rd t338 ((rd_T51 t339 x15_2).f2))))) = false := by simpa using c89))
                        (try (have c89b3 : ¬ ((rdOf false t344 x15_2) = (decide ((wrap64 (t337 - x17_3)) > (rd t338 ((rd_T51 t339 x15_2).f2))))) := by simpa using c89))
                        clear c89
                        have H' := Aside0.mk H
                        clear H
                        have p384 : 0 ≤ (x15_2 : Int) := of_decide_eq_true (by first | (with_reducible assumption) | assumption)
                        have q384 : x15_2 < (t344.length : Int) := of_decide_eq_true (by first | (with_reducible assumption) | assumption)
                        obtain ⟨ad384, e384, hx384_0⟩ := Kd.at_bool (Kd.R_reads' HO_6.out).2.2 x15_2 p384 q384
                        obtain rfl : ad383 = ad384 := (by injection e384)
                        replace p384 := eq_true p384
                        replace q384 := eq_true q384
                        have hcz90_0 : wc.cell? ⟨gb379, 0, none⟩ = some (.int .i64 ((rd_T51 t339 x15_2).f0)) := (blk_cell BK379.out 0).trans rfl
                        have hcz90_1 : wc.cell? ⟨gb379, 1, none⟩ = some (.int .i64 ((rd_T51 t339 x15_2).f1)) := (blk_cell BK379.out 1).trans rfl
                        have hcz90_2 : wc.cell? ⟨gb379, 2, none⟩ = some (.int .i64 ((rd_T51 t339 x15_2).f2)) := (blk_cell BK379.out 2).trans rfl
                        have hfz90_0 := blk_frozen BK379.out 0
                        have hfz90_1 := blk_frozen BK379.out 1
                        have hfz90_2 := blk_frozen BK379.out 2
                        have p385 : 0 ≤ (((rd_T51 t339 x15_2).f2) : Int) := of_decide_eq_true (by first | (with_reducible assumption) | assumption)
                        have q385 : ((rd_T51 t339 x15_2).f2) < (t338.length : Int) := of_decide_eq_true (by first | (with_reducible assumption) | assumption)
                        obtain ⟨ad385, e385, hx385_0⟩ := Kd.at_int (Kd.R_reads' HO_4.out).2.2 ((rd_T51 t339 x15_2).f2) p385 q385
                        cases e385
                        replace p385 := eq_true p385
                        replace q385 := eq_true q385
                        go_wp2
                        repeat (go_quiet (fail); try go_wp2)
                        go_meet
                        case rel => exact ⟨_, (true), (by first | rfl | (simp; done) | (simp [*]; done)), H', ⟨by have := HJ13.out; have := HK2.out; have := HK3.out; have := HJ80.out; first | omega | exact Nat.le_refl _⟩, ⟨by (with_reducible repeat (first | apply Kd.R_alloc | apply Kd.R_drewN | apply Kd.R_drew)); exact HO_4.out⟩, ⟨by (with_reducible repeat (first | apply Kd.R_alloc | apply Kd.R_drewN | apply Kd.R_drew)); exact HO_5.out⟩, ⟨by (with_reducible repeat (first | apply Kd.R_alloc | apply Kd.R_drewN | apply Kd.R_drew)); exact HO_6.out⟩, ⟨by (with_reducible repeat (first | apply Kd.R_alloc | apply Kd.R_drewN | apply Kd.R_drew)); exact HO_7.out⟩, ⟨by (with_reducible repeat (first | refine blk_drewN ?_ _ | refine blk_drew ?_ | refine blk_alloc ?_ _)); exact BK379.out⟩, ⟨by repeat (first | (with_reducible first | exact HB.out | apply below_alloc | apply pw_below_drewN | apply below_drew1 | refine below_set ?_ GE379.out) | exact HB.out)⟩⟩
                       ·rw [if_neg c89] at H
                        have c89b0 : ((rdOf false t344 x15_2) != (decide ((wrap64 (t337 - x17_3)) > (rd t338 ((rd_T51 t339 x15_2).f2))))) = false := by simpa using c89
                        (try (have c89b1 : decide ((rdOf false t344 x15_2) = (decide ((wrap64 (t337 - x17_3)) > (rd t338 ((rd_T51 t339 x15_2).f2))))) = true := by simpa using c89))
                        (try (have c89b2 : ((rdOf false t344 x15_2) == (decide ((wrap64 (t337 - x17_3)) > (rd t338 ((rd_T51 t339 x15_2).f2))))) = true := by simpa using c89))
                        clear c89
                        by_cases c91 : x15_2 < (t345.length : Int)
                        ·rw [if_pos c91] at H
                         have c91b0 : decide (x15_2 < (t345.length : Int)) = true := decide_eq_true c91
                         clear c91
                         by_cases c92 : (rd t345 x15_2) = x19_80
                         ·rw [if_pos c92] at H
                          have c92b0 : ((rd t345 x15_2) == x19_80) = true := beq_iff_eq.mpr c92
                          have c92b1 : ((rd t345 x15_2) != x19_80) = false := bne_eq_false_iff_eq.mpr c92
                          clear c92
                          have H' := Aside0.mk H
                          clear H
                          have p384 : 0 ≤ (x15_2 : Int) := of_decide_eq_true (by first | (with_reducible assumption) | assumption)
                          have q384 : x15_2 < (t344.length : Int) := of_decide_eq_true (by first | (with_reducible assumption) | assumption)
                          obtain ⟨ad384, e384, hx384_0⟩ := Kd.at_bool (Kd.R_reads' HO_6.out).2.2 x15_2 p384 q384
                          obtain rfl : ad383 = ad384 := (by injection e384)
                          replace p384 := eq_true p384
                          replace q384 := eq_true q384
                          have hcz93_0 : wc.cell? ⟨gb379, 0, none⟩ = some (.int .i64 ((rd_T51 t339 x15_2).f0)) := (blk_cell BK379.out 0).trans rfl
                          have hcz93_1 : wc.cell? ⟨gb379, 1, none⟩ = some (.int .i64 ((rd_T51 t339 x15_2).f1)) := (blk_cell BK379.out 1).trans rfl
                          have hcz93_2 : wc.cell? ⟨gb379, 2, none⟩ = some (.int .i64 ((rd_T51 t339 x15_2).f2)) := (blk_cell BK379.out 2).trans rfl
                          have hfz93_0 := blk_frozen BK379.out 0
                          have hfz93_1 := blk_frozen BK379.out 1
                          have hfz93_2 := blk_frozen BK379.out 2
                          have p385 : 0 ≤ (((rd_T51 t339 x15_2).f2) : Int) := of_decide_eq_true (by first | (with_reducible assumption) | assumption)
                          have q385 : ((rd_T51 t339 x15_2).f2) < (t338.length : Int) := of_decide_eq_true (by first | (with_reducible assumption) | assumption)
                          obtain ⟨ad385, e385, hx385_0⟩ := Kd.at_int (Kd.R_reads' HO_4.out).2.2 ((rd_T51 t339 x15_2).f2) p385 q385
                          cases e385
                          replace p385 := eq_true p385
                          replace q385 := eq_true q385
                          obtain ⟨Ao94, co94, eo94⟩ := Kd.R_slice HO_7.out
                          subst eo94
                          have p386 : 0 ≤ (x15_2 : Int) := of_decide_eq_true (by first | (with_reducible assumption) | assumption)
                          have q386 : x15_2 < (t345.length : Int) := of_decide_eq_true (by first | (with_reducible assumption) | assumption)
                          obtain ⟨ad386, e386, hx386_0⟩ := Kd.at_int (Kd.R_reads' HO_7.out).2.2 x15_2 p386 q386
                          cases e386
                          replace p386 := eq_true p386
                          replace q386 := eq_true q386
                          go_wp2
                          repeat (go_quiet (fail); try go_wp2)
                          go_meet
                          case rel => exact ⟨_, (decide (x19_80 > t337)), (by first | rfl | (simp; done) | (simp [*]; done)), H', ⟨by have := HJ13.out; have := HK2.out; have := HK3.out; have := HJ80.out; first | omega | exact Nat.le_refl _⟩, ⟨by (with_reducible repeat (first | apply Kd.R_alloc | apply Kd.R_drewN | apply Kd.R_drew)); exact HO_4.out⟩, ⟨by (with_reducible repeat (first | apply Kd.R_alloc | apply Kd.R_drewN | apply Kd.R_drew)); exact HO_5.out⟩, ⟨by (with_reducible repeat (first | apply Kd.R_alloc | apply Kd.R_drewN | apply Kd.R_drew)); exact HO_6.out⟩, ⟨by (with_reducible repeat (first | apply Kd.R_alloc | apply Kd.R_drewN | apply Kd.R_drew)); exact HO_7.out⟩, ⟨by (with_reducible repeat (first | refine blk_drewN ?_ _ | refine blk_drew ?_ | refine blk_alloc ?_ _)); exact BK379.out⟩, ⟨by repeat (first | (with_reducible first | exact HB.out | apply below_alloc | apply pw_below_drewN | apply below_drew1 | refine below_set ?_ GE379.out) | exact HB.out)⟩⟩
                         ·rw [if_neg c92] at H
                          have c92b0 : ((rd t345 x15_2) == x19_80) = false := beq_eq_false_iff_ne.mpr c92
                          have c92b1 : ((rd t345 x15_2) != x19_80) = true := bne_iff_ne.mpr c92
                          have H' := Aside0.mk H
                          clear H
                          have p384 : 0 ≤ (x15_2 : Int) := of_decide_eq_true (by first | (with_reducible assumption) | assumption)
                          have q384 : x15_2 < (t344.length : Int) := of_decide_eq_true (by first | (with_reducible assumption) | assumption)
                          obtain ⟨ad384, e384, hx384_0⟩ := Kd.at_bool (Kd.R_reads' HO_6.out).2.2 x15_2 p384 q384
                          obtain rfl : ad383 = ad384 := (by injection e384)
                          replace p384 := eq_true p384
                          replace q384 := eq_true q384
                          have hcz95_0 : wc.cell? ⟨gb379, 0, none⟩ = some (.int .i64 ((rd_T51 t339 x15_2).f0)) := (blk_cell BK379.out 0).trans rfl
                          have hcz95_1 : wc.cell? ⟨gb379, 1, none⟩ = some (.int .i64 ((rd_T51 t339 x15_2).f1)) := (blk_cell BK379.out 1).trans rfl
                          have hcz95_2 : wc.cell? ⟨gb379, 2, none⟩ = some (.int .i64 ((rd_T51 t339 x15_2).f2)) := (blk_cell BK379.out 2).trans rfl
                          have hfz95_0 := blk_frozen BK379.out 0
                          have hfz95_1 := blk_frozen BK379.out 1
                          have hfz95_2 := blk_frozen BK379.out 2
                          have p385 : 0 ≤ (((rd_T51 t339 x15_2).f2) : Int) := of_decide_eq_true (by first | (with_reducible assumption) | assumption)
                          have q385 : ((rd_T51 t339 x15_2).f2) < (t338.length : Int) := of_decide_eq_true (by first | (with_reducible assumption) | assumption)
                          obtain ⟨ad385, e385, hx385_0⟩ := Kd.at_int (Kd.R_reads' HO_4.out).2.2 ((rd_T51 t339 x15_2).f2) p385 q385
                          cases e385
                          replace p385 := eq_true p385
                          replace q385 := eq_true q385
                          obtain ⟨Ao96, co96, eo96⟩ := Kd.R_slice HO_7.out
                          subst eo96
                          have p386 : 0 ≤ (x15_2 : Int) := of_decide_eq_true (by first | (with_reducible assumption) | assumption)
                          have q386 : x15_2 < (t345.length : Int) := of_decide_eq_true (by first | (with_reducible assumption) | assumption)
                          obtain ⟨ad386, e386, hx386_0⟩ := Kd.at_int (Kd.R_reads' HO_7.out).2.2 x15_2 p386 q386
                          cases e386
                          replace p386 := eq_true p386
                          replace q386 := eq_true q386
                          go_wp2
                          repeat (go_quiet (fail); try go_wp2)
                          go_meet
                          case rel => exact ⟨_, (true), (by first | rfl | (simp; done) | (simp [*]; done)), H', ⟨by have := HJ13.out; have := HK2.out; have := HK3.out; have := HJ80.out; first | omega | exact Nat.le_refl _⟩, ⟨by (with_reducible repeat (first | apply Kd.R_alloc | apply Kd.R_drewN | apply Kd.R_drew)); exact HO_4.out⟩, ⟨by (with_reducible repeat (first | apply Kd.R_alloc | apply Kd.R_drewN | apply Kd.R_drew)); exact HO_5.out⟩, ⟨by (with_reducible repeat (first | apply Kd.R_alloc | apply Kd.R_drewN | apply Kd.R_drew)); exact HO_6.out⟩, ⟨by (with_reducible repeat (first | apply Kd.R_alloc | apply Kd.R_drewN | apply Kd.R_drew)); exact HO_7.out⟩, ⟨by (with_reducible repeat (first | refine blk_drewN ?_ _ | refine blk_drew ?_ | refine blk_alloc ?_ _)); exact BK379.out⟩, ⟨by repeat (first | (with_reducible first | exact HB.out | apply below_alloc | apply pw_below_drewN | apply below_drew1 | refine below_set ?_ GE379.out) | exact HB.out)⟩⟩
                        ·rw [if_neg c91] at H
                         exact absurd H (by simp)
                      ·rw [if_neg c88] at H
                       exact absurd H (by simp)
                     ·rw [if_neg c87] at H
                      exact absurd H (by simp)
                    ·rw [if_neg c86] at H
                     exact absurd H (by simp)
                   ·rw [if_neg c85] at H
                    exact absurd H (by simp)
                  case rest =>
                   clear HC84
                   try clear c2
                   try clear p2
                   try clear c3
                   try clear p3
                   try clear q3
                   try clear hx3
                   try clear qi3
                   try clear c4
                   try clear c6
                   try clear p6
                   try clear c7
                   try clear c7b0
                   try clear c7b1
                   try clear c7b2
                   try clear q7
                   try clear c8
                   try clear q8
                   try clear c9
                   try clear c27
                   try clear c28
                   try clear c28b0
                   try clear c28b1
                   try clear c29
                   try clear c29b0
                   try clear c29b1
                   try clear q30
                   try clear c31
                   try clear c32
                   try clear c32b0
                   try clear c32b1
                   try clear q33
                   try clear c34
                   try clear c36
                   try clear c36b0
                   try clear c36b1
                   try clear p37
                   try clear q37
                   try clear hx37
                   try clear qi37
                   try clear c38
                   try clear p38
                   try clear q38
                   try clear hx38
                   try clear c40
                   try clear c41
                   try clear c41b0
                   try clear c41b1
                   try clear c63
                   try clear c64
                   try clear c64b0
                   try clear p64
                   try clear c65
                   try clear c65b0
                   try clear c66
                   try clear c66b0
                   try clear c70
                   try clear c70b0
                   try clear c71
                   try clear c71b0
                   try clear c72
                   try clear c72b0
                   try clear q73
                   try clear c74
                   try clear c75
                   try clear c75b0
                   try clear c76
                   try clear c76b0
                   try clear c79
                   try clear c79b0
                   try clear c80
                   try clear c80b0
                   try clear q82
                   try clear c83
                   try clear c85
                   try clear c85b0
                   try clear c86
                   try clear c86b0
                   try clear c87
                   try clear c87b0
                   try clear c88
                   try clear c88b0
                   try clear c89
                   try clear c89b0
                   try clear c89b1
                   try clear c89b2
                   try clear c91
                   try clear c91b0
                   try clear c92
                   try clear c92b0
                   try clear c92b1
                   try clear hcz69_0
                   try clear hcz69_1
                   try clear hcz69_2
                   try clear hcz77_0
                   try clear hcz77_1
                   try clear hcz77_2
                   try clear hcz78_0
                   try clear hcz78_1
                   try clear hcz78_2
                   try clear hcz90_0
                   try clear hcz90_1
                   try clear hcz90_2
                   try clear hcz93_0
                   try clear hcz93_1
                   try clear hcz93_2
                   try clear hcz95_0
                   try clear hcz95_1
                   try clear hcz95_2
                   try clear hfz69_0
                   try clear hfz69_1
                   try clear hfz69_2
                   try clear hfz77_0
                   try clear hfz77_1
                   try clear hfz77_2
                   try clear hfz78_0
                   try clear hfz78_1
                   try clear hfz78_2
                   try clear hfz90_0
                   try clear hfz90_1
                   try clear hfz90_2
                   try clear hfz93_0
                   try clear hfz93_1
                   try clear hfz93_2
                   try clear hfz95_0
                   try clear hfz95_1
                   try clear hfz95_2
                   try clear hx371_0
                   try clear hx372_0
                   try clear hx373_0
                   try clear hx378_0
                   try clear hx378_1
                   try clear hx378_2
                   try clear hx380_0
                   try clear hx381_0
                   try clear hx381_1
                   try clear hx381_2
                   try clear hx382_0
                   try clear hx382_1
                   try clear hx382_2
                   try clear hx383_0
                   try clear hx384_0
                   try clear hx385_0
                   try clear hx386_0
                   try clear p2
                   try clear p3
                   try clear p37
                   try clear p371
                   try clear p372
                   try clear p373
                   try clear p378
                   try clear p38
                   try clear p380
                   try clear p381
                   try clear p382
                   try clear p383
                   try clear p384
                   try clear p385
                   try clear p386
                   try clear p6
                   try clear p64
                   try clear q3
                   try clear q30
                   try clear q33
                   try clear q37
                   try clear q371
                   try clear q372
                   try clear q373
                   try clear q378
                   try clear q38
                   try clear q380
                   try clear q381
                   try clear q382
                   try clear q383
                   try clear q384
                   try clear q385
                   try clear q386
                   try clear q7
                   try clear q73
                   try clear q8
                   try clear q82
                   obtain ⟨kq, x171_83, rfl, HA, HJ83, HO_4, HO_5, HO_6, HO_7, BK379, HB⟩ := hcut
                   cases kq with
                   | zero => exact absurd HA.out (by simp [laws_FnTried.j4])
                   | succ kj83 =>
                    have H := HA.out
                    clear HA
                    simp only [laws_FnTried.j4] at H
                    by_cases c97 : x171_83 = true
                    ·subst c97
                     have H1 : (some false) = some r := by rw [if_pos rfl] at H; exact H
                     clear H
                     have H := H1
                     clear H1
                     obtain rfl := Option.some.inj H
                     go_wp2
                     repeat (go_quiet (fail); try go_wp2)
                     go_ret
                     exact ⟨by first | rfl | (simp [errW_none, errW_some] <;> rfl) | (simp [*, errW_none, errW_some] <;> rfl), by repeat (first | (with_reducible first | exact HB.out | apply below_alloc | apply pw_below_drewN | apply below_drew1 | refine below_set ?_ GE379.out) | exact HB.out)⟩
                    ·replace c97 := Bool.eq_false_iff.mpr c97
                     subst c97
                     have H1 : (laws_FnTried.l0 kj83 t337 t338 t339 t344 t345 t346 (wrap64 (x15_2 + 1))) = some r := by rw [if_neg (show ¬ (false = true) by decide)] at H; exact H
                     clear H
                     have H := H1
                     clear H1
                     have H' := Aside0.mk H
                     clear H
                     go_wp2
                     repeat (go_quiet (fail); try go_wp2)
                     go_roundg kj83
                     case measure => have := HJ13.out; have := HK2.out; have := HK3.out; have := HJ80.out; have := HJ83.out; omega
                     case rel => exact ⟨(wrap64 (x15_2 + 1)), (by first | rfl | (simp; done) | (simp [*]; done)), H', ⟨by have := HJ13.out; have := HK2.out; have := HK3.out; have := HJ80.out; have := HJ83.out; omega⟩, ⟨by (with_reducible repeat (first | apply Kd.R_alloc | apply Kd.R_drewN | apply Kd.R_drew)); exact HO_4.out⟩, ⟨by (with_reducible repeat (first | apply Kd.R_alloc | apply Kd.R_drewN | apply Kd.R_drew)); exact Kd.R_mono HO_5.out (fun _ hk => trivial)⟩, ⟨by (with_reducible repeat (first | apply Kd.R_alloc | apply Kd.R_drewN | apply Kd.R_drew)); exact HO_6.out⟩, ⟨by (with_reducible repeat (first | apply Kd.R_alloc | apply Kd.R_drewN | apply Kd.R_drew)); exact HO_7.out⟩, ⟨by repeat (first | (with_reducible first | exact HB.out | apply below_alloc | apply pw_below_drewN | apply below_drew1 | refine below_set ?_ GE379.out) | exact HB.out)⟩⟩
               ·rw [if_neg c80] at H
                exact absurd H (by simp)
              ·rw [if_neg c79] at H
               exact absurd H (by simp)
          ·rw [if_neg c66] at H
           exact absurd H (by simp)
         ·rw [if_neg c65] at H
          exact absurd H (by simp)
        ·rw [if_neg c64] at H
         have c64b0 : decide (x15_2 < (t344.length : Int)) = false := decide_eq_false c64
         clear c64
         by_cases c98 : t346 = true
         ·subst c98
          have H1 : (if (t344.length : Int) = (t339.length : Int) then (some ((t345.length : Int) == (t339.length : Int))) else (some false)) = some r := by rw [if_pos rfl] at H; exact H
          clear H
          have H := H1
          clear H1
          by_cases c99 : (t344.length : Int) = (t339.length : Int)
          ·rw [if_pos c99] at H
           have c99b0 : ((t344.length : Int) == (t339.length : Int)) = true := beq_iff_eq.mpr c99
           have c99b1 : ((t344.length : Int) != (t339.length : Int)) = false := bne_eq_false_iff_eq.mpr c99
           have c99b2 : (t344.length == t339.length) = true := by first | simpa using c99 | (simp at c99 ⊢; omega)
           clear c99
           obtain rfl := Option.some.inj H
           obtain ⟨Ao100, co100, eo100⟩ := Kd.R_slice HO_6.out
           subst eo100
           obtain ⟨Ao101, co101, eo101⟩ := Kd.R_slice HO_7.out
           subst eo101
           go_wp2
           repeat (go_quiet (fail); try go_wp2)
           go_ret
           exact ⟨by first | rfl | (simp [errW_none, errW_some] <;> rfl) | (simp [*, errW_none, errW_some] <;> rfl), by repeat (first | (with_reducible first | exact HB.out | apply below_alloc | apply pw_below_drewN | apply below_drew1) | exact HB.out)⟩
          ·rw [if_neg c99] at H
           have c99b0 : ((t344.length : Int) == (t339.length : Int)) = false := beq_eq_false_iff_ne.mpr c99
           have c99b1 : ((t344.length : Int) != (t339.length : Int)) = true := bne_iff_ne.mpr c99
           have c99b2 : (t344.length == t339.length) = false := by first | simpa using c99 | (simp at c99 ⊢; omega)
           obtain rfl := Option.some.inj H
           obtain ⟨Ao102, co102, eo102⟩ := Kd.R_slice HO_6.out
           subst eo102
           go_wp2
           repeat (go_quiet (fail); try go_wp2)
           go_ret
           exact ⟨by first | rfl | (simp [errW_none, errW_some] <;> rfl) | (simp [*, errW_none, errW_some] <;> rfl), by repeat (first | (with_reducible first | exact HB.out | apply below_alloc | apply pw_below_drewN | apply below_drew1) | exact HB.out)⟩
         ·replace c98 := Bool.eq_false_iff.mpr c98
          subst c98
          have H1 : (some true) = some r := by rw [if_neg (show ¬ (false = true) by decide)] at H; exact H
          clear H
          have H := H1
          clear H1
          obtain rfl := Option.some.inj H
          obtain ⟨Ao103, co103, eo103⟩ := Kd.R_slice HO_6.out
          subst eo103
          go_wp2
          repeat (go_quiet (fail); try go_wp2)
          go_ret
          exact ⟨by first | rfl | (simp [errW_none, errW_some] <;> rfl) | (simp [*, errW_none, errW_some] <;> rfl), by repeat (first | (with_reducible first | exact HB.out | apply below_alloc | apply pw_below_drewN | apply below_drew1) | exact HB.out)⟩

/-- THE ONE PURE STATEMENT of laws_FnTried: yours. -/
def laws_FnTried.Pure : Prop := ∀ (l0 : List Int), l0.length ≤ maxLen → l0.length * 1 ≤ 140737488351232 → (∀ x ∈ l0, (Lit.int .u8 x).wf = true) → ∃ k, laws_FnTried.f k l0 = some true
theorem laws_FnTried.walk (P : laws_FnTried.Pure) (a0 : Option Addr) (len0 cap0 : Nat) (z0 : List Int) (w : World) (w0 : (a0 = none ∧ len0 = 0 ∧ cap0 = 0 ∧ z0 = []) ∨ ∃ x, a0 = some x ∧ len0 ≤ cap0 ∧ cap0 ≤ maxLen ∧ z0.length = cap0 ∧ (∀ i, i < z0.length → w.cell? (x.add i) = some (.int .u8 (z0.getD i 0))) ∧ ∀ n ∈ z0, (Lit.int .u8 n).wf = true) (y0 : len0 * 1 ≤ 140737488351232) :
 Calls Try.prog 6 #[.slice a0 len0 cap0] w fun e w' => e = .returned (.bool true) ∧ Below w.heap.size w w' := by
 obtain ⟨l0, rfl, hr0, hm0, hw0, hc0⟩ := ReadsInt.ofRowC w0
 obtain ⟨k, h⟩ := P l0 hm0 y0 hw0
 refine (laws_FnTried.calls k _ _ l0 true w (Kd.C_of_reads (d := (0 : Int)) (h1 := fun _ => rfl) hr0) hc0 h).mono ?_
 rintro e w' ⟨rfl, hd⟩
 exact ⟨rfl, hd⟩

end Go.Proofs.Ytjioalgfpcdlhaa.Tr
