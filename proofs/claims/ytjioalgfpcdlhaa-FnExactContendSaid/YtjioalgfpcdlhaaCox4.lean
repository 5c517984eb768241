-- written by a program of this session, wip/tools/myprint.py
import Derived.Test.YtjioalgfpcdlhaaCox0
import Derived.Test.YtjioalgfpcdlhaaCox2
import Derived.Test.YtjioalgfpcdlhaaExtArr
namespace Go.Proofs.Ytjioalgfpcdlhaa.Co
open Go.RowKit Go.Proofs.YtjioalgfpcdlhaaW.PrintWords Go.Proofs.YtjioalgfpcdlhaaW.PrintLast Go.Proofs.YtjioalgfpcdlhaaW.PrintMore
attribute [local go_sem] max2_int min2_int max_two min_two max_three min_three max_four min_four   -- for this text's walks alone
set_option linter.unusedVariables false
set_option linter.unusedSimpArgs false

/-! ### impl_Contend: function 16 -/
mutual
def impl_Contend.j0 : Nat → List (S36) → Int → Int → Bool → Option (List Int × Bool)
 | 0, _, _, _, _ => none
 | k + 1, x0, x1, x2, x33 => if x33 = true then (some (([] : List Int), false)) else (impl_Contend.l0 k x0 x1 x2 x0 (x0.length : Int) 0)
def impl_Contend.l0 : Nat → List (S36) → Int → Int → List (S36) → Int → Int → Option (List Int × Bool)
 | 0, _, _, _, _, _, _ => none
 | k + 1, x0, x1, x2, x34, x35, x36 => if x36 < x35 then (if 0 ≤ x36 then (if x36 < (x34.length : Int) then (impl_Contend.l1 k x0 x1 x2 x34 x35 x36 ((rd_T36 x34 x36).f0) (((rd_T36 x34 x36).f0).length : Int) 0) else (none)) else (none)) else (if 0 ≤ (x0.length : Int) then (if ((x0.length : Int) : Int).toNat ≤ 35184372088832 then (impl_Contend.l2 k x0 x1 (List.replicate ((x0.length : Int) : Int).toNat (-1)) x2 0) else (none)) else (none))
def impl_Contend.l1 : Nat → List (S36) → Int → Int → List (S36) → Int → Int → List Int → Int → Int → Option (List Int × Bool)
 | 0, _, _, _, _, _, _, _, _, _ => none
 | k + 1, x0, x1, x2, x34, x35, x36, x41, x42, x43 => if x43 < x42 then (if 0 ≤ x43 then (if x43 < (x41.length : Int) then ((impl_in.f (rd x41 x43) 0 1000).bind fun t200 => (if t200 = true then (impl_Contend.l1 k x0 x1 x2 x34 x35 x36 x41 x42 (wrap64 (x43 + 1))) else (some (([] : List Int), false)))) else (none)) else (none)) else (impl_Contend.l0 k x0 x1 x2 x34 x35 (wrap64 (x36 + 1)))
def impl_Contend.l2 : Nat → List (S36) → Int → List Int → Int → Int → Option (List Int × Bool)
 | 0, _, _, _, _, _ => none
 | k + 1, x0, x1, x12, x56, x57 => if x57 < x56 then (if 16 ≤ 11728124029610 then (impl_Contend.l3 k x0 x1 x12 x57 (List.replicate 16 []) x56 x57 x0 (x0.length : Int) 0) else (none)) else (some (x12, true))
def impl_Contend.l3 : Nat → List (S36) → Int → List Int → Int → List (List Int) → Int → Int → List (S36) → Int → Int → Option (List Int × Bool)
 | 0, _, _, _, _, _, _, _, _, _, _ => none
 | k + 1, x0, x1, x12, x13, x14, x56, x57, x60, x61, x62 => if x62 < x61 then (if 0 ≤ x62 then (if x62 < (x60.length : Int) then (if x62 < (x12.length : Int) then (if (rd x12 x62) < 0 then (if x13 < (((rd_T36 x60 x62).f0).length : Int) then (if 0 ≤ x13 then (if x1 = 0 then (none) else (if 0 ≤ (Int.tmod (rd ((rd_T36 x60 x62).f0) x13) x1) then (if (Int.tmod (rd ((rd_T36 x60 x62).f0) x13) x1) < (x14.length : Int) then (if (rd_L2 x14 (Int.tmod (rd ((rd_T36 x60 x62).f0) x13) x1)).length < 17592186044416 then (impl_Contend.l3 k x0 x1 x12 x13 (x14.set ((Int.tmod (rd ((rd_T36 x60 x62).f0) x13) x1) : Int).toNat ((rd_L2 x14 (Int.tmod (rd ((rd_T36 x60 x62).f0) x13) x1)) ++ [x62])) x56 x57 x60 x61 (wrap64 (x62 + 1))) else (none)) else (none)) else (none))) else (none)) else (impl_Contend.l3 k x0 x1 x12 x13 x14 x56 x57 x60 x61 (wrap64 (x62 + 1)))) else (impl_Contend.l3 k x0 x1 x12 x13 x14 x56 x57 x60 x61 (wrap64 (x62 + 1)))) else (none)) else (none)) else (none)) else (impl_Contend.l4 k x0 x1 x12 x13 x56 x57 x14 0)
def impl_Contend.l4 : Nat → List (S36) → Int → List Int → Int → Int → Int → List (List Int) → Int → Option (List Int × Bool)
 | 0, _, _, _, _, _, _, _, _ => none
 | k + 1, x0, x1, x12, x13, x56, x57, x95, x96 => if x96 < 16 then (if 0 ≤ x96 then (if x96 < (x95.length : Int) then (if ((rd_L2 x95 x96).length : Int) = 1 then (if 0 < ((rd_L2 x95 x96).length : Int) then (if 0 ≤ (rd (rd_L2 x95 x96) 0) then (if (rd (rd_L2 x95 x96) 0) < (x12.length : Int) then (impl_Contend.l4 k x0 x1 (x12.set ((rd (rd_L2 x95 x96) 0) : Int).toNat x13) x13 x56 x57 x95 (wrap64 (x96 + 1))) else (none)) else (none)) else (none)) else (impl_Contend.l4 k x0 x1 x12 x13 x56 x57 x95 (wrap64 (x96 + 1)))) else (none)) else (none)) else (impl_Contend.l2 k x0 x1 x12 x56 (wrap64 (x57 + 1)))
end
def impl_Contend.f (k : Nat) (l0 : List (S36)) (a1 : Int) (a2 : Int) : Option (List Int × Bool) := (impl_in.f (l0.length : Int) 1 40).bind fun t194 => (if t194 = true then ((impl_in.f a1 1 16).bind fun t195 => (if t195 = true then ((impl_in.f a2 0 60).bind fun t196 => (impl_Contend.j0 k l0 a1 a2 (!t196))) else (impl_Contend.j0 k l0 a1 a2 true))) else (impl_Contend.j0 k l0 a1 a2 true))
theorem impl_Contend.mono_l : ∀ k, (∀ y0 y1 y2 y3, LeO (impl_Contend.j0 k y0 y1 y2 y3) (impl_Contend.j0 (k + 1) y0 y1 y2 y3)) ∧ (∀ y0 y1 y2 y3 y4 y5, LeO (impl_Contend.l0 k y0 y1 y2 y3 y4 y5) (impl_Contend.l0 (k + 1) y0 y1 y2 y3 y4 y5)) ∧ (∀ y0 y1 y2 y3 y4 y5 y6 y7 y8, LeO (impl_Contend.l1 k y0 y1 y2 y3 y4 y5 y6 y7 y8) (impl_Contend.l1 (k + 1) y0 y1 y2 y3 y4 y5 y6 y7 y8)) ∧ (∀ y0 y1 y2 y3 y4, LeO (impl_Contend.l2 k y0 y1 y2 y3 y4) (impl_Contend.l2 (k + 1) y0 y1 y2 y3 y4)) ∧ (∀ y0 y1 y2 y3 y4 y5 y6 y7 y8 y9, LeO (impl_Contend.l3 k y0 y1 y2 y3 y4 y5 y6 y7 y8 y9) (impl_Contend.l3 (k + 1) y0 y1 y2 y3 y4 y5 y6 y7 y8 y9)) ∧ (∀ y0 y1 y2 y3 y4 y5 y6 y7, LeO (impl_Contend.l4 k y0 y1 y2 y3 y4 y5 y6 y7) (impl_Contend.l4 (k + 1) y0 y1 y2 y3 y4 y5 y6 y7))
 | 0 => ⟨fun _ _ _ _ r h => by simp [impl_Contend.j0] at h, fun _ _ _ _ _ _ r h => by simp [impl_Contend.l0] at h, fun _ _ _ _ _ _ _ _ _ r h => by simp [impl_Contend.l1] at h, fun _ _ _ _ _ r h => by simp [impl_Contend.l2] at h, fun _ _ _ _ _ _ _ _ _ _ r h => by simp [impl_Contend.l3] at h, fun _ _ _ _ _ _ _ _ r h => by simp [impl_Contend.l4] at h⟩
 | k + 1 => by
  obtain ⟨ih0, ih1, ih2, ih3, ih4, ih5⟩ := impl_Contend.mono_l k
  refine ⟨?_, ?_, ?_, ?_, ?_, ?_⟩
  ·intro y0 y1 y2 y3
   unfold impl_Contend.j0
   repeat' first
   | (with_reducible exact ih0 _ _ _ _)
   | (with_reducible exact ih1 _ _ _ _ _ _)
   | (with_reducible exact ih2 _ _ _ _ _ _ _ _ _)
   | (with_reducible exact ih3 _ _ _ _ _)
   | (with_reducible exact ih4 _ _ _ _ _ _ _ _ _ _)
   | (with_reducible exact ih5 _ _ _ _ _ _ _ _)
   | (with_reducible exact LeO.refl _)
   | (with_reducible exact LeO.none _)
   | (with_reducible refine LeO.ite ?_ ?_)
   | (with_reducible refine LeO.bind ?_ (fun _ => ?_))
   | exact ih0 _ _ _ _
   | exact ih1 _ _ _ _ _ _
   | exact ih2 _ _ _ _ _ _ _ _ _
   | exact ih3 _ _ _ _ _
   | exact ih4 _ _ _ _ _ _ _ _ _ _
   | exact ih5 _ _ _ _ _ _ _ _
   | exact LeO.none _
   | refine LeO.ite ?_ ?_
   | refine LeO.bind ?_ (fun _ => ?_)
  ·intro y0 y1 y2 y3 y4 y5
   unfold impl_Contend.l0
   repeat' first
   | (with_reducible exact ih0 _ _ _ _)
   | (with_reducible exact ih1 _ _ _ _ _ _)
   | (with_reducible exact ih2 _ _ _ _ _ _ _ _ _)
   | (with_reducible exact ih3 _ _ _ _ _)
   | (with_reducible exact ih4 _ _ _ _ _ _ _ _ _ _)
   | (with_reducible exact ih5 _ _ _ _ _ _ _ _)
   | (with_reducible exact LeO.refl _)
   | (with_reducible exact LeO.none _)
   | (with_reducible refine LeO.ite ?_ ?_)
   | (with_reducible refine LeO.bind ?_ (fun _ => ?_))
   | exact ih0 _ _ _ _
   | exact ih1 _ _ _ _ _ _
   | exact ih2 _ _ _ _ _ _ _ _ _
   | exact ih3 _ _ _ _ _
   | exact ih4 _ _ _ _ _ _ _ _ _ _
   | exact ih5 _ _ _ _ _ _ _ _
   | exact LeO.none _
   | refine LeO.ite ?_ ?_
   | refine LeO.bind ?_ (fun _ => ?_)
  ·intro y0 y1 y2 y3 y4 y5 y6 y7 y8
   unfold impl_Contend.l1
   repeat' first
   | (with_reducible exact ih0 _ _ _ _)
   | (with_reducible exact ih1 _ _ _ _ _ _)
   | (with_reducible exact ih2 _ _ _ _ _ _ _ _ _)
   | (with_reducible exact ih3 _ _ _ _ _)
   | (with_reducible exact ih4 _ _ _ _ _ _ _ _ _ _)
   | (with_reducible exact ih5 _ _ _ _ _ _ _ _)
   | (with_reducible exact LeO.refl _)
   | (with_reducible exact LeO.none _)
   | (with_reducible refine LeO.ite ?_ ?_)
   | (with_reducible refine LeO.bind ?_ (fun _ => ?_))
   | exact ih0 _ _ _ _
   | exact ih1 _ _ _ _ _ _
   | exact ih2 _ _ _ _ _ _ _ _ _
   | exact ih3 _ _ _ _ _
   | exact ih4 _ _ _ _ _ _ _ _ _ _
   | exact ih5 _ _ _ _ _ _ _ _
   | exact LeO.none _
   | refine LeO.ite ?_ ?_
   | refine LeO.bind ?_ (fun _ => ?_)
  ·intro y0 y1 y2 y3 y4
   unfold impl_Contend.l2
   repeat' first
   | (with_reducible exact ih0 _ _ _ _)
   | (with_reducible exact ih1 _ _ _ _ _ _)
   | (with_reducible exact ih2 _ _ _ _ _ _ _ _ _)
   | (with_reducible exact ih3 _ _ _ _ _)
   | (with_reducible exact ih4 _ _ _ _ _ _ _ _ _ _)
   | (with_reducible exact ih5 _ _ _ _ _ _ _ _)
   | (with_reducible exact LeO.refl _)
   | (with_reducible exact LeO.none _)
   | (with_reducible refine LeO.ite ?_ ?_)
   | (with_reducible refine LeO.bind ?_ (fun _ => ?_))
   | exact ih0 _ _ _ _
   | exact ih1 _ _ _ _ _ _
   | exact ih2 _ _ _ _ _ _ _ _ _
   | exact ih3 _ _ _ _ _
   | exact ih4 _ _ _ _ _ _ _ _ _ _
   | exact ih5 _ _ _ _ _ _ _ _
   | exact LeO.none _
   | refine LeO.ite ?_ ?_
   | refine LeO.bind ?_ (fun _ => ?_)
  ·intro y0 y1 y2 y3 y4 y5 y6 y7 y8 y9
   unfold impl_Contend.l3
   repeat' first
   | (with_reducible exact ih0 _ _ _ _)
   | (with_reducible exact ih1 _ _ _ _ _ _)
   | (with_reducible exact ih2 _ _ _ _ _ _ _ _ _)
   | (with_reducible exact ih3 _ _ _ _ _)
   | (with_reducible exact ih4 _ _ _ _ _ _ _ _ _ _)
   | (with_reducible exact ih5 _ _ _ _ _ _ _ _)
   | (with_reducible exact LeO.refl _)
   | (with_reducible exact LeO.none _)
   | (with_reducible refine LeO.ite ?_ ?_)
   | (with_reducible refine LeO.bind ?_ (fun _ => ?_))
   | exact ih0 _ _ _ _
   | exact ih1 _ _ _ _ _ _
   | exact ih2 _ _ _ _ _ _ _ _ _
   | exact ih3 _ _ _ _ _
   | exact ih4 _ _ _ _ _ _ _ _ _ _
   | exact ih5 _ _ _ _ _ _ _ _
   | exact LeO.none _
   | refine LeO.ite ?_ ?_
   | refine LeO.bind ?_ (fun _ => ?_)
  ·intro y0 y1 y2 y3 y4 y5 y6 y7
   unfold impl_Contend.l4
   repeat' first
   | (with_reducible exact ih0 _ _ _ _)
   | (with_reducible exact ih1 _ _ _ _ _ _)
   | (with_reducible exact ih2 _ _ _ _ _ _ _ _ _)
   | (with_reducible exact ih3 _ _ _ _ _)
   | (with_reducible exact ih4 _ _ _ _ _ _ _ _ _ _)
   | (with_reducible exact ih5 _ _ _ _ _ _ _ _)
   | (with_reducible exact LeO.refl _)
   | (with_reducible exact LeO.none _)
   | (with_reducible refine LeO.ite ?_ ?_)
   | (with_reducible refine LeO.bind ?_ (fun _ => ?_))
   | exact ih0 _ _ _ _
   | exact ih1 _ _ _ _ _ _
   | exact ih2 _ _ _ _ _ _ _ _ _
   | exact ih3 _ _ _ _ _
   | exact ih4 _ _ _ _ _ _ _ _ _ _
   | exact ih5 _ _ _ _ _ _ _ _
   | exact LeO.none _
   | refine LeO.ite ?_ ?_
   | refine LeO.bind ?_ (fun _ => ?_)
theorem impl_Contend.mono : ∀ a0 a1 a2 k, LeO (impl_Contend.f k a0 a1 a2) (impl_Contend.f (k + 1) a0 a1 a2) := by
 intro a0 a1 a2 k
 obtain ⟨ih0, ih1, ih2, ih3, ih4, ih5⟩ := impl_Contend.mono_l k
 unfold impl_Contend.f
 repeat' first
  | (with_reducible exact ih0 _ _ _ _)
  | (with_reducible exact ih1 _ _ _ _ _ _)
  | (with_reducible exact ih2 _ _ _ _ _ _ _ _ _)
  | (with_reducible exact ih3 _ _ _ _ _)
  | (with_reducible exact ih4 _ _ _ _ _ _ _ _ _ _)
  | (with_reducible exact ih5 _ _ _ _ _ _ _ _)
  | (with_reducible exact LeO.refl _)
  | (with_reducible exact LeO.none _)
  | (with_reducible refine LeO.ite ?_ ?_)
  | (with_reducible refine LeO.bind ?_ (fun _ => ?_))
  | exact ih0 _ _ _ _
  | exact ih1 _ _ _ _ _ _
  | exact ih2 _ _ _ _ _ _ _ _ _
  | exact ih3 _ _ _ _ _
  | exact ih4 _ _ _ _ _ _ _ _ _ _
  | exact ih5 _ _ _ _ _ _ _ _
  | exact LeO.none _
  | refine LeO.ite ?_ ?_
  | refine LeO.bind ?_ (fun _ => ?_)
set_option maxHeartbeats 8000000 in
set_option maxRecDepth 100000 in
theorem impl_Contend.calls (k : Nat) (A0 : Option Addr) (c0 : Nat) (l0 : List (S36)) (a1 : Int) (a2 : Int) (r1 : List Int) (r2 : Bool) (w : World) (hr0 : Kd.C k36 w A0 l0.length l0) (hc0 : l0.length ≤ c0) (h : impl_Contend.f k l0 a1 a2 = some (r1, r2)) :
 Calls Try.prog 16 #[.slice A0 l0.length c0, .int .i64 a1, .int .i64 a2] w fun e w' => ∃ v0_ : Value, e = .returned (.tuple #[v0_, .bool r2]) ∧ Kd.R (Kd.int .i64) 3 w' w.heap.size (fun _ => True) v0_ r1 ∧ Below w.heap.size w w' := by
 have hu36 := Try.underlying36
 have HR0 := Aside0.mk hr0
 have HC0 := Aside0.mk hc0
 clear hr0 hc0
 have HB := Aside0.mk (Below.refl w.heap.size w)
 have H : ((impl_in.f (l0.length : Int) 1 40).bind fun t194 => (if t194 = true then ((impl_in.f a1 1 16).bind fun t195 => (if t195 = true then ((impl_in.f a2 0 60).bind fun t196 => (impl_Contend.j0 k l0 a1 a2 (!t196))) else (impl_Contend.j0 k l0 a1 a2 true))) else (impl_Contend.j0 k l0 a1 a2 true))) = some (r1, r2) := h
 clear h
 have HC4 := Aside0.mk H
 clear H
 go_enter Try.func16, Try.ntmps16
 go_upto_region 1 with (fail)
 go_cut [33] (fun v33 wc => ∃ (kq : Nat) (x33_3 : Bool), v33 = .bool x33_3 ∧ Aside0 (impl_Contend.j0 kq l0 a1 a2 x33_3 = some (r1, r2)) ∧ Aside0 (kq ≤ k) ∧ Aside0 (Below w.heap.size w wc))
 case first =>
  have H := HC4.out
  clear HC4
  replace H := Option.bind_eq_some_iff.mp H
  obtain ⟨t194, A50, H⟩ := H
  replace H : (if t194 = true then ((impl_in.f a1 1 16).bind fun t195 => (if t195 = true then ((impl_in.f a2 0 60).bind fun t196 => (impl_Contend.j0 k l0 a1 a2 (!t196))) else (impl_Contend.j0 k l0 a1 a2 true))) else (impl_Contend.j0 k l0 a1 a2 true)) = some (r1, r2) := H
  have A5 := Aside0.mk A50
  clear A50
  by_cases c6 : t194 = true
  ·subst c6
   have H1 : ((impl_in.f a1 1 16).bind fun t195 => (if t195 = true then ((impl_in.f a2 0 60).bind fun t196 => (impl_Contend.j0 k l0 a1 a2 (!t196))) else (impl_Contend.j0 k l0 a1 a2 true))) = some (r1, r2) := by rw [if_pos rfl] at H; exact H
   clear H
   have H := H1
   clear H1
   replace H := Option.bind_eq_some_iff.mp H
   obtain ⟨t195, A70, H⟩ := H
   replace H : (if t195 = true then ((impl_in.f a2 0 60).bind fun t196 => (impl_Contend.j0 k l0 a1 a2 (!t196))) else (impl_Contend.j0 k l0 a1 a2 true)) = some (r1, r2) := H
   have A7 := Aside0.mk A70
   clear A70
   by_cases c8 : t195 = true
   ·subst c8
    have H1 : ((impl_in.f a2 0 60).bind fun t196 => (impl_Contend.j0 k l0 a1 a2 (!t196))) = some (r1, r2) := by rw [if_pos rfl] at H; exact H
    clear H
    have H := H1
    clear H1
    replace H := Option.bind_eq_some_iff.mp H
    obtain ⟨t196, A90, H⟩ := H
    replace H : (impl_Contend.j0 k l0 a1 a2 (!t196)) = some (r1, r2) := H
    have A9 := Aside0.mk A90
    clear A90
    have H' := Aside0.mk H
    clear H
    go_wp2_with (first | ((with_reducible refine gate_callee (f := 43) rfl ?_); refine goesL_ (some 22) rfl rfl Try.func43 (by kernel_rfl) rfl #[.int .i64 (l0.length : Int), .int .i64 1, .int .i64 40] rfl (by (try simp only [List.map_toArray, List.map_cons, List.map_nil]); first | done | rfl | (simp only [List.length_drop, List.length_take]; rfl)) ?_; (with_reducible refine (impl_in.calls (l0.length : Int) 1 40 true _ A5.out).mono ?_); rintro e w' ⟨rfl, ⟨nd, rfl⟩⟩; refine ⟨_, rfl, ?_⟩) | (go_at_call 43; (with_reducible refine (impl_in.calls a1 1 16 true _ A7.out).mono ?_); rintro e w' ⟨rfl, ⟨nd, rfl⟩⟩) | (go_at_call 43; (with_reducible refine (impl_in.calls a2 0 60 t196 _ A9.out).mono ?_); rintro e w' ⟨rfl, ⟨nd, rfl⟩⟩))
    go_meet
    case rel => exact ⟨_, (!t196), (by first | rfl | (simp; done) | (simp [*]; done)), H', ⟨by first | omega | exact Nat.le_refl _⟩, ⟨by repeat (first | (with_reducible first | exact HB.out | apply below_alloc | apply pw_below_drewN | apply below_drew1) | exact HB.out)⟩⟩
   ·replace c8 := Bool.eq_false_iff.mpr c8
    subst c8
    have H1 : (impl_Contend.j0 k l0 a1 a2 true) = some (r1, r2) := by rw [if_neg (show ¬ (false = true) by decide)] at H; exact H
    clear H
    have H := H1
    clear H1
    have H' := Aside0.mk H
    clear H
    go_wp2_with (first | ((with_reducible refine gate_callee (f := 43) rfl ?_); refine goesL_ (some 22) rfl rfl Try.func43 (by kernel_rfl) rfl #[.int .i64 (l0.length : Int), .int .i64 1, .int .i64 40] rfl (by (try simp only [List.map_toArray, List.map_cons, List.map_nil]); first | done | rfl | (simp only [List.length_drop, List.length_take]; rfl)) ?_; (with_reducible refine (impl_in.calls (l0.length : Int) 1 40 true _ A5.out).mono ?_); rintro e w' ⟨rfl, ⟨nd, rfl⟩⟩; refine ⟨_, rfl, ?_⟩) | (go_at_call 43; (with_reducible refine (impl_in.calls a1 1 16 false _ A7.out).mono ?_); rintro e w' ⟨rfl, ⟨nd, rfl⟩⟩))
    go_meet
    case rel => exact ⟨_, (true), (by first | rfl | (simp; done) | (simp [*]; done)), H', ⟨by first | omega | exact Nat.le_refl _⟩, ⟨by repeat (first | (with_reducible first | exact HB.out | apply below_alloc | apply pw_below_drewN | apply below_drew1) | exact HB.out)⟩⟩
  ·replace c6 := Bool.eq_false_iff.mpr c6
   subst c6
   have H1 : (impl_Contend.j0 k l0 a1 a2 true) = some (r1, r2) := by rw [if_neg (show ¬ (false = true) by decide)] at H; exact H
   clear H
   have H := H1
   clear H1
   have H' := Aside0.mk H
   clear H
   go_wp2_with (first | ((with_reducible refine gate_callee (f := 43) rfl ?_); refine goesL_ (some 22) rfl rfl Try.func43 (by kernel_rfl) rfl #[.int .i64 (l0.length : Int), .int .i64 1, .int .i64 40] rfl (by (try simp only [List.map_toArray, List.map_cons, List.map_nil]); first | done | rfl | (simp only [List.length_drop, List.length_take]; rfl)) ?_; (with_reducible refine (impl_in.calls (l0.length : Int) 1 40 false _ A5.out).mono ?_); rintro e w' ⟨rfl, ⟨nd, rfl⟩⟩; refine ⟨_, rfl, ?_⟩))
   go_meet
   case rel => exact ⟨_, (true), (by first | rfl | (simp; done) | (simp [*]; done)), H', ⟨by first | omega | exact Nat.le_refl _⟩, ⟨by repeat (first | (with_reducible first | exact HB.out | apply below_alloc | apply pw_below_drewN | apply below_drew1) | exact HB.out)⟩⟩
 case rest =>
  clear HC4
  try clear c1
  try clear p2
  try clear c4
  try clear c6
  try clear c8
  obtain ⟨kq, x33_3, rfl, HA, HJ3, HB⟩ := hcut
  cases kq with
  | zero => exact absurd HA.out (by simp [impl_Contend.j0])
  | succ kj3 =>
   have H := HA.out
   clear HA
   simp only [impl_Contend.j0] at H
   by_cases c10 : x33_3 = true
   ·subst c10
    have H1 : (some (([] : List Int), false)) = some (r1, r2) := by rw [if_pos rfl] at H; exact H
    clear H
    have H := H1
    clear H1
    simp only [Option.some.injEq, Prod.mk.injEq] at H
    obtain ⟨rfl, rfl⟩ := H
    go_wp2
    go_ret2
    exact ⟨_, by first | rfl | (simp [errW_none, errW_some] <;> rfl) | (simp [*, errW_none, errW_some] <;> rfl), by first | exact Kd.R_nil _ _ _ _ _ | exact Kd.N_nil _ _ _ _ _ | exact Kd.V_nil _ _ _ _ _ | exact Kd.Q_nil _ _ _ _ _ | exact Kd.S_nil _ _ _ _ _, by repeat (first | (with_reducible first | exact HB.out | apply below_alloc | apply pw_below_drewN | apply below_drew1) | exact HB.out)⟩
   ·replace c10 := Bool.eq_false_iff.mpr c10
    subst c10
    have H1 : (impl_Contend.l0 kj3 l0 a1 a2 l0 (l0.length : Int) 0) = some (r1, r2) := by rw [if_neg (show ¬ (false = true) by decide)] at H; exact H
    clear H
    have H := H1
    clear H1
    have H' := Aside0.mk H
    clear H
    go_wp2
    go_loopg [36] kj3 (fun kq v36 w' => ∃ (x36_2 : Int), v36 = .int .i64 x36_2 ∧ Aside0 (impl_Contend.l0 kq l0 a1 a2 l0 (l0.length : Int) x36_2 = some (r1, r2)) ∧ Aside0 (kq ≤ kj3) ∧ Aside0 (Below w.heap.size w w'))
    case atStart => exact ⟨(0), (by first | rfl | (simp; done) | (simp [*]; done)), H', ⟨Nat.le_refl _⟩, ⟨by repeat (first | (with_reducible first | exact HB.out | apply below_alloc | apply pw_below_drewN | apply below_drew1) | exact HB.out)⟩⟩
    case round =>
     clear H'
     try clear c1
     try clear p2
     try clear c4
     try clear c6
     try clear c8
     try clear c10
     try clear p2
     obtain ⟨x36_2, rfl, HA, HK2, HB⟩ := hrel
     cases gk with
     | zero => exact absurd HA.out (by simp [impl_Contend.l0])
     | succ k2 =>
      have H := HA.out
      clear HA
      simp only [impl_Contend.l0] at H
      by_cases c11 : x36_2 < (l0.length : Int)
      ·rw [if_pos c11] at H
       have c11b0 : decide (x36_2 < (l0.length : Int)) = true := decide_eq_true c11
       clear c11
       by_cases c12 : 0 ≤ x36_2
       ·rw [if_pos c12] at H
        have c12b0 : decide (0 ≤ x36_2) = true := decide_eq_true c12
        clear c12
        by_cases c13 : x36_2 < (l0.length : Int)
        ·rw [if_pos c13] at H
         have c13b0 : decide (x36_2 < (l0.length : Int)) = true := decide_eq_true c13
         clear c13
         have H' := Aside0.mk H
         clear H
         have p197 : 0 ≤ (x36_2 : Int) := of_decide_eq_true (by first | (with_reducible assumption) | assumption)
         have q197 : x36_2 < (l0.length : Int) := of_decide_eq_true (by first | (with_reducible assumption) | assumption)
         obtain ⟨ad197, A197_0, c197_0, e197, hx197_0, hl197_0, hi197_0⟩ := at_T36 HR0.out x36_2 p197 q197
         cases e197
         replace hx197_0 := (HB.out.cell (World.block_lt_of_cell? w _ hx197_0)).trans hx197_0
         have HR197_0 := Aside0.mk hi197_0
         have HC197_0 := Aside0.mk hl197_0
         clear hi197_0 hl197_0
         replace p197 := eq_true p197
         replace q197 := eq_true q197
         go_wp2_with (first | ((with_reducible refine gate_dst (N := 9) rfl ?_); (try (refine gate_guard (by rfl) ?_; dsimp only)); refine box_event ?hg (N := 9) ?hd (cs := #[.slice none 0 0]) (t := 36) ?hr ?_; (case hd => rfl); (case hg => rfl); (case hr => first | (go_simp; done) | (go_simp; rfl)); intro gb198 hg w14 hbox hb; have n0_ := Aside0.mk (below_step (by repeat (first | (with_reducible first | exact HB.out | apply below_alloc | apply pw_below_drewN | apply below_drew1) | exact HB.out)) hb); have n1_ := Aside0.mk (hbox); have n2_ := Aside0.mk ((by rw [hg]; exact (below_size (by repeat (first | (with_reducible first | exact HB.out | apply below_alloc | apply pw_below_drewN | apply below_drew1) | exact HB.out))) : w.heap.size ≤ gb198)); have n3_ := Aside0.mk ((by rw [hg]; exact (below_size (by repeat (first | (with_reducible first | exact HB.out | apply below_alloc | apply pw_below_drewN | apply below_drew1) | exact HB.out))) : w.heap.size ≤ gb198)); clear HB; have HB := n0_; have BK198 := n1_; have GW198 := n2_; have GE198 := n3_; clear n0_ n1_ n2_ n3_; clear hb hbox hg; have hcz15_0 : w14.cell? ⟨gb198, 0, none⟩ = some (.slice none 0 0) := (blk_cell BK198.out 0).trans rfl; have hfz15_0 := blk_frozen BK198.out 0))
         go_loopg [43] k2 (fun kq v43 w' => ∃ (x43_3 : Int), v43 = .int .i64 x43_3 ∧ Aside0 (impl_Contend.l1 kq l0 a1 a2 l0 (l0.length : Int) x36_2 ((rd_T36 l0 x36_2).f0) (((rd_T36 l0 x36_2).f0).length : Int) x43_3 = some (r1, r2)) ∧ Aside0 (kq ≤ k2) ∧ Aside0 (w'.heap[gb198]? = some (.cells #[(.slice A197_0 ((rd_T36 l0 x36_2).f0).length c197_0)] 36 (0, 0))) ∧ Aside0 (Below w.heap.size w w'))
         case atStart => exact ⟨(0), (by first | rfl | (simp; done) | (simp [*]; done)), H', ⟨Nat.le_refl _⟩, ⟨by (with_reducible repeat (first | refine blk_drewN ?_ _ | refine blk_drew ?_ | refine blk_alloc ?_ _)); refine blk_put (cs := #[.slice none 0 0]) ?_ 0 _ rfl; (with_reducible repeat (first | refine blk_drewN ?_ _ | refine blk_drew ?_ | refine blk_alloc ?_ _)); exact BK198.out⟩, ⟨by repeat (first | (with_reducible first | exact HB.out | apply below_alloc | apply pw_below_drewN | apply below_drew1 | refine below_set ?_ GE198.out) | exact HB.out)⟩⟩
         case round =>
          clear H'
          try clear c1
          try clear p1
          try clear q1
          try clear hx1
          try clear p2
          try clear c4
          try clear c6
          try clear c8
          try clear c10
          try clear c11
          try clear c11b0
          try clear c12
          try clear c12b0
          try clear c13
          try clear c13b0
          try clear hcz15_0
          try clear hfz15_0
          try clear hx197_0
          try clear p197
          try clear p2
          try clear q197
          obtain ⟨x43_3, rfl, HA, HK3, BK198, HB⟩ := hrel
          cases gk with
          | zero => exact absurd HA.out (by simp [impl_Contend.l1])
          | succ k3 =>
           have H := HA.out
           clear HA
           simp only [impl_Contend.l1] at H
           by_cases c16 : x43_3 < (((rd_T36 l0 x36_2).f0).length : Int)
           ·rw [if_pos c16] at H
            have c16b0 : decide (x43_3 < (((rd_T36 l0 x36_2).f0).length : Int)) = true := decide_eq_true c16
            clear c16
            by_cases c17 : 0 ≤ x43_3
            ·rw [if_pos c17] at H
             have c17b0 : decide (0 ≤ x43_3) = true := decide_eq_true c17
             clear c17
             by_cases c18 : x43_3 < (((rd_T36 l0 x36_2).f0).length : Int)
             ·rw [if_pos c18] at H
              have c18b0 : decide (x43_3 < (((rd_T36 l0 x36_2).f0).length : Int)) = true := decide_eq_true c18
              clear c18
              replace H := Option.bind_eq_some_iff.mp H
              obtain ⟨t200, A190, H⟩ := H
              replace H : (if t200 = true then (impl_Contend.l1 k3 l0 a1 a2 l0 (l0.length : Int) x36_2 ((rd_T36 l0 x36_2).f0) (((rd_T36 l0 x36_2).f0).length : Int) (wrap64 (x43_3 + 1))) else (some (([] : List Int), false))) = some (r1, r2) := H
              have A19 := Aside0.mk A190
              clear A190
              by_cases c20 : t200 = true
              ·subst c20
               have H1 : (impl_Contend.l1 k3 l0 a1 a2 l0 (l0.length : Int) x36_2 ((rd_T36 l0 x36_2).f0) (((rd_T36 l0 x36_2).f0).length : Int) (wrap64 (x43_3 + 1))) = some (r1, r2) := by rw [if_pos rfl] at H; exact H
               clear H
               have H := H1
               clear H1
               have H' := Aside0.mk H
               clear H
               have p199 : 0 ≤ (x43_3 : Int) := of_decide_eq_true (by first | (with_reducible assumption) | assumption)
               have q199 : x43_3 < (((rd_T36 l0 x36_2).f0).length : Int) := of_decide_eq_true (by first | (with_reducible assumption) | assumption)
               obtain ⟨ad199, e199, hx199_0⟩ := Kd.at_int HR197_0.out x43_3 p199 q199
               cases e199
               replace hx199_0 := (HB.out.cell (World.block_lt_of_cell? w _ hx199_0)).trans hx199_0
               replace p199 := eq_true p199
               replace q199 := eq_true q199
               go_wp2_with (first | ((with_reducible refine gate_callee (f := 43) rfl ?_); refine goesL_ (some 48) rfl rfl Try.func43 (by kernel_rfl) rfl #[.int .i64 (rd ((rd_T36 l0 x36_2).f0) x43_3), .int .i64 0, .int .i64 1000] rfl (by (try simp only [List.map_toArray, List.map_cons, List.map_nil]); first | done | rfl | (simp only [List.length_drop, List.length_take]; rfl)) ?_; (with_reducible refine (impl_in.calls (rd ((rd_T36 l0 x36_2).f0) x43_3) 0 1000 true _ A19.out).mono ?_); rintro e w' ⟨rfl, ⟨nd, rfl⟩⟩; refine ⟨_, rfl, ?_⟩))
               go_roundg k3
               case measure => have := HJ3.out; have := HK2.out; have := HK3.out; omega
               case rel => exact ⟨(wrap64 (x43_3 + 1)), (by first | rfl | (simp; done) | (simp [*]; done)), H', ⟨by have := HJ3.out; have := HK2.out; have := HK3.out; omega⟩, ⟨by (with_reducible repeat (first | refine blk_drewN ?_ _ | refine blk_drew ?_ | refine blk_alloc ?_ _)); exact BK198.out⟩, ⟨by repeat (first | (with_reducible first | exact HB.out | apply below_alloc | apply pw_below_drewN | apply below_drew1 | refine below_set ?_ GE198.out) | exact HB.out)⟩⟩
              ·replace c20 := Bool.eq_false_iff.mpr c20
               subst c20
               have H1 : (some (([] : List Int), false)) = some (r1, r2) := by rw [if_neg (show ¬ (false = true) by decide)] at H; exact H
               clear H
               have H := H1
               clear H1
               simp only [Option.some.injEq, Prod.mk.injEq] at H
               obtain ⟨rfl, rfl⟩ := H
               have p199 : 0 ≤ (x43_3 : Int) := of_decide_eq_true (by first | (with_reducible assumption) | assumption)
               have q199 : x43_3 < (((rd_T36 l0 x36_2).f0).length : Int) := of_decide_eq_true (by first | (with_reducible assumption) | assumption)
               obtain ⟨ad199, e199, hx199_0⟩ := Kd.at_int HR197_0.out x43_3 p199 q199
               cases e199
               replace hx199_0 := (HB.out.cell (World.block_lt_of_cell? w _ hx199_0)).trans hx199_0
               replace p199 := eq_true p199
               replace q199 := eq_true q199
               go_wp2_with (first | ((with_reducible refine gate_callee (f := 43) rfl ?_); refine goesL_ (some 48) rfl rfl Try.func43 (by kernel_rfl) rfl #[.int .i64 (rd ((rd_T36 l0 x36_2).f0) x43_3), .int .i64 0, .int .i64 1000] rfl (by (try simp only [List.map_toArray, List.map_cons, List.map_nil]); first | done | rfl | (simp only [List.length_drop, List.length_take]; rfl)) ?_; (with_reducible refine (impl_in.calls (rd ((rd_T36 l0 x36_2).f0) x43_3) 0 1000 false _ A19.out).mono ?_); rintro e w' ⟨rfl, ⟨nd, rfl⟩⟩; refine ⟨_, rfl, ?_⟩))
               go_ret2
               exact ⟨_, by first | rfl | (simp [errW_none, errW_some] <;> rfl) | (simp [*, errW_none, errW_some] <;> rfl), by first | exact Kd.R_nil _ _ _ _ _ | exact Kd.N_nil _ _ _ _ _ | exact Kd.V_nil _ _ _ _ _ | exact Kd.Q_nil _ _ _ _ _ | exact Kd.S_nil _ _ _ _ _, by repeat (first | (with_reducible first | exact HB.out | apply below_alloc | apply pw_below_drewN | apply below_drew1 | refine below_set ?_ GE198.out) | exact HB.out)⟩
             ·rw [if_neg c18] at H
              exact absurd H (by simp)
            ·rw [if_neg c17] at H
             exact absurd H (by simp)
           ·rw [if_neg c16] at H
            have c16b0 : decide (x43_3 < (((rd_T36 l0 x36_2).f0).length : Int)) = false := decide_eq_false c16
            clear c16
            have H' := Aside0.mk H
            clear H
            go_wp2
            go_roundg k3
            case measure => have := HJ3.out; have := HK2.out; have := HK3.out; omega
            case rel => exact ⟨(wrap64 (x36_2 + 1)), (by first | rfl | (simp; done) | (simp [*]; done)), H', ⟨by have := HJ3.out; have := HK2.out; have := HK3.out; omega⟩, ⟨by repeat (first | (with_reducible first | exact HB.out | apply below_alloc | apply pw_below_drewN | apply below_drew1 | refine below_set ?_ GE198.out) | exact HB.out)⟩⟩
        ·rw [if_neg c13] at H
         exact absurd H (by simp)
       ·rw [if_neg c12] at H
        exact absurd H (by simp)
      ·rw [if_neg c11] at H
       have c11b0 : decide (x36_2 < (l0.length : Int)) = false := decide_eq_false c11
       clear c11
       obtain ⟨y201, hy201⟩ : ∃ y_ : List Int, y_ = (([(-1)] : List Int)) := ⟨_, rfl⟩
       replace H : (if 0 ≤ (l0.length : Int) then (if ((l0.length : Int) : Int).toNat ≤ 35184372088832 then (impl_Contend.l2 k2 l0 a1 (List.replicate ((l0.length : Int) : Int).toNat (-1)) a2 0) else (none)) else (none)) = some (r1, r2) := by first | (rw [hy201]; with_reducible exact H) | (have H2_ := (Option.bind_some _ _).symm.trans H; rw [hy201]; with_reducible exact H2_) | (have H2_ := (Option.bind_some _ _).symm.trans H; with_reducible exact H2_) | with_reducible exact H | (rw [hy201]; exact H) | exact H
       have Ny201 := Aside0.mk hy201
       clear hy201
       by_cases c21 : 0 ≤ (l0.length : Int)
       ·rw [if_pos c21] at H
        have c21b0 := eq_true c21
        have c21b1 : decide (0 ≤ (l0.length : Int)) = true := decide_eq_true c21
        clear c21
        by_cases c22 : ((l0.length : Int) : Int).toNat ≤ 35184372088832
        ·rw [if_pos c22] at H
         have c22b0 := eq_true c22
         have c22b1 : decide (((l0.length : Int) : Int).toNat ≤ 35184372088832) = true := decide_eq_true c22
         clear c22
         obtain ⟨y204, hy204⟩ : ∃ y_ : List Int, y_ = (List.replicate ((l0.length : Int) : Int).toNat (-1)) := ⟨_, rfl⟩
         replace H : (impl_Contend.l2 k2 l0 a1 y204 a2 0) = some (r1, r2) := by first | (rw [hy204]; with_reducible exact H) | (have H2_ := (Option.bind_some _ _).symm.trans H; rw [hy204]; with_reducible exact H2_) | (have H2_ := (Option.bind_some _ _).symm.trans H; with_reducible exact H2_) | with_reducible exact H | (rw [hy204]; exact H) | exact H
         have Ny204 := Aside0.mk hy204
         clear hy204
         have H' := Aside0.mk H
         clear H
         go_wp2_with (first | ((with_reducible refine gate_dst (N := 52) rfl ?_); (try (refine gate_guard (by rfl) ?_; dsimp only)); refine Kd.R_lit (Kd.int .i64) _ 3 ?hg (N := 52) ?hd (xs := ([(-1)] : List Int)) (inner := [.int .i64 (-1)]) (ok := fun _ => True) (okp := fun _ => True) ?hr ?hp (fun _ hk => hk) trivial (Below.refl _ _) (Nat.le_refl _) (by simp) ?_; (case hd => rfl); (case hg => rfl); (case hr => first | (go_simp; done) | (go_simp; rfl)); (case hp => exact (Reps.one (show Kd.M (Kd.int .i64) _ _ _ (-1) [.int .i64 (-1)] from rfl) (Reps.none _ _))); intro v202 w23 ho24 hb hg_ hnew_; clear hg_ hnew_; (first | rw [← Ny201.out] at ho24 | (simp only [Int.reduceToNat] at ho24; rw [← Ny201.out] at ho24)); have n0_ := Aside0.mk (Kd.R_lower ho24 (below_size (by repeat (first | (with_reducible first | exact HB.out | apply below_alloc | apply pw_below_drewN | apply below_drew1) | exact HB.out)))); have n1_ := Aside0.mk (below_step (by repeat (first | (with_reducible first | exact HB.out | apply below_alloc | apply pw_below_drewN | apply below_drew1) | exact HB.out)) hb); clear HB; have HO203 := n0_; have HB := n1_; clear n0_ n1_; clear hb ho24) | ((with_reducible refine gate_callee (f := 46) rfl ?_); obtain ⟨AoR, coR, eoR⟩ := Kd.R_slice HO203.out; subst eoR; refine goesL_ (some 55) rfl rfl Try.func46 (by kernel_rfl) rfl #[.slice AoR (y201).length coR, .int .i64 (l0.length : Int)] rfl (by (try simp only [List.map_toArray, List.map_cons, List.map_nil]); first | done | rfl) ?_; refine (ExtRep.calls' _ AoR coR y201 (l0.length : Int) Ny201.out (of_decide_eq_true (by first | (with_reducible assumption) | assumption)) (of_decide_eq_true (by first | (with_reducible assumption) | assumption)) ?hCR).mono ?_; (case hCR => exact (Kd.R_reads' (by (with_reducible repeat (first | apply Kd.R_alloc | apply Kd.R_drewN | apply Kd.R_drew)); exact HO203.out)).2.2); rintro e w25 ⟨v205, rfl, ho26, hb⟩; refine ⟨_, rfl, ?_⟩; (first | rw [← Ny204.out] at ho26 | (simp only [Int.reduceToNat] at ho26; rw [← Ny204.out] at ho26)); have n0_ := Aside0.mk (Kd.R_elder' (by (with_reducible repeat (first | apply Kd.R_alloc | apply Kd.R_drewN | apply Kd.R_drew)); exact HO203.out) (Kd.R_base ho26) hb); have n1_ := Aside0.mk (Kd.R_lower (Kd.R_new' ho26 (Kd.R_lt (by (with_reducible repeat (first | apply Kd.R_alloc | apply Kd.R_drewN | apply Kd.R_drew)); exact HO203.out))) (below_size (by repeat (first | (with_reducible first | exact HB.out | apply below_alloc | apply pw_below_drewN | apply below_drew1) | exact HB.out)))); have n2_ := Aside0.mk (below_step (by repeat (first | (with_reducible first | exact HB.out | apply below_alloc | apply pw_below_drewN | apply below_drew1) | exact HB.out)) hb); clear HO203; clear HB; have HO203 := n0_; have HO206 := n1_; have HB := n2_; clear n0_ n1_ n2_; clear hb ho26))
         go_loopg [57] k2 (fun kq v57 w' => ∃ (x12_3 : List Int) (x57_3 : Int), v57 = .int .i64 x57_3 ∧ Aside0 (impl_Contend.l2 kq l0 a1 x12_3 a2 x57_3 = some (r1, r2)) ∧ Aside0 (kq ≤ k2) ∧ Aside0 (Kd.R (Kd.int .i64) 3 w' w.heap.size (fun _ => True) v205 x12_3) ∧ Aside0 (Below w.heap.size w w'))
         case atStart => exact ⟨(y204), (0), (by first | rfl | (simp; done) | (simp [*]; done)), H', ⟨Nat.le_refl _⟩, ⟨by (with_reducible repeat (first | apply Kd.R_alloc | apply Kd.R_drewN | apply Kd.R_drew)); exact Kd.R_mono HO206.out (fun _ hk => trivial)⟩, ⟨by repeat (first | (with_reducible first | exact HB.out | apply below_alloc | apply pw_below_drewN | apply below_drew1) | exact HB.out)⟩⟩
         case round =>
          clear H'
          try clear c1
          try clear p1
          try clear q1
          try clear hx1
          try clear c2
          try clear p2
          try clear c4
          try clear c6
          try clear p6
          try clear c8
          try clear c10
          try clear c11
          try clear c11b0
          try clear c12
          try clear c12b0
          try clear c13
          try clear c13b0
          try clear c16
          try clear c16b0
          try clear c17
          try clear c17b0
          try clear c18
          try clear c18b0
          try clear c19
          try clear p19
          try clear q19
          try clear hx19
          try clear c20
          try clear c21
          try clear c21b0
          try clear c21b1
          try clear c22
          try clear c22b0
          try clear c22b1
          try clear hcz15_0
          try clear hfz15_0
          try clear hx197_0
          try clear hx199_0
          try clear p1
          try clear p197
          try clear p199
          try clear p2
          try clear q1
          try clear q197
          try clear q199
          obtain ⟨x12_3, x57_3, rfl, HA, HK3, HO_12, HB⟩ := hrel
          cases gk with
          | zero => exact absurd HA.out (by simp [impl_Contend.l2])
          | succ k3 =>
           have H := HA.out
           clear HA
           simp only [impl_Contend.l2] at H
           by_cases c27 : x57_3 < a2
           ·rw [if_pos c27] at H
            have c27b0 : decide (x57_3 < a2) = true := decide_eq_true c27
            clear c27
            by_cases c28 : 16 ≤ 11728124029610
            ·rw [if_pos c28] at H
             have c28b0 := eq_true c28
             have c28b1 : decide (16 ≤ 11728124029610) = true := decide_eq_true c28
             clear c28
             obtain ⟨y207, hy207⟩ : ∃ y_ : List (List Int), y_ = (List.replicate 16 []) := ⟨_, rfl⟩
             replace H : (impl_Contend.l3 k3 l0 a1 x12_3 x57_3 y207 a2 x57_3 l0 (l0.length : Int) 0) = some (r1, r2) := by first | (rw [hy207]; with_reducible exact H) | (have H2_ := (Option.bind_some _ _).symm.trans H; rw [hy207]; with_reducible exact H2_) | (have H2_ := (Option.bind_some _ _).symm.trans H; with_reducible exact H2_) | with_reducible exact H | (rw [hy207]; exact H) | exact H
             have Ny207 := Aside0.mk hy207
             clear hy207
             have H' := Aside0.mk H
             clear H
             go_wp2_with (first | ((with_reducible refine gate_dst (N := 14) rfl ?_); (try (refine gate_guard (by rfl) ?_; dsimp only)); refine box_event ?hg (N := 14) ?hd (cs := ExtArr.nil16) (t := 73) ?hr ?_; (case hd => rfl); (case hg => rfl); (case hr => first | (go_simp; done) | (go_simp; rfl)); intro gbW hgW w29 hbox hb; have ho30 := ExtArr.S_array (B := _) (ok := fun _ => True) hbox (Nat.le_of_eq hgW.symm) trivial; obtain ⟨v208, HVW0⟩ : ∃ v_, v_ = Value.slice (some ⟨gbW, 0, none⟩) 16 16 := ⟨_, rfl⟩; rw [← HVW0] at ho30; have HVW := Aside0.mk HVW0; clear HVW0 hbox hgW; (first | rw [← Ny207.out] at ho30 | (simp only [Int.reduceToNat] at ho30; rw [← Ny207.out] at ho30)); have n0_ := Aside0.mk (Kd.R_below (by (with_reducible repeat (first | apply Kd.R_alloc | apply Kd.R_drewN | apply Kd.R_drew)); exact HO_12.out) hb); have n1_ := Aside0.mk (Kd.S_lower (Kd.S_new' ho30 (Kd.R_lt (by (with_reducible repeat (first | apply Kd.R_alloc | apply Kd.R_drewN | apply Kd.R_drew)); exact HO_12.out))) (below_size (by repeat (first | (with_reducible first | exact HB.out | apply below_alloc | apply pw_below_drewN | apply below_drew1) | exact HB.out)))); have n2_ := Aside0.mk (below_step (by repeat (first | (with_reducible first | exact HB.out | apply below_alloc | apply pw_below_drewN | apply below_drew1) | exact HB.out)) hb); clear HO_12; clear HB; have HO_12 := n0_; have HO209 := n1_; have HB := n2_; clear n0_ n1_ n2_; clear hb ho30))
             go_loopg [62] k3 (fun kq v62 w' => ∃ (x14_4 : List (List Int)) (x62_4 : Int), v62 = .int .i64 x62_4 ∧ Aside0 (impl_Contend.l3 kq l0 a1 x12_3 x57_3 x14_4 a2 x57_3 l0 (l0.length : Int) x62_4 = some (r1, r2)) ∧ Aside0 (kq ≤ k3) ∧ Aside0 (Kd.R (Kd.int .i64) 3 w' w.heap.size (fun _ => True) v205 x12_3) ∧ Aside0 (Kd.S (Kd.slice 3 (Kd.int .i64)) 73 w' w.heap.size (fun k_ => some k_ ≠ (v205 : Value).ownBlock) v208 x14_4) ∧ Aside0 (Below w.heap.size w w'))
             case atStart => exact ⟨(y207), (0), (by first | rfl | (simp; done) | (simp [*]; done)), H', ⟨Nat.le_refl _⟩, ⟨by (with_reducible repeat (first | apply Kd.R_alloc | apply Kd.R_drewN | apply Kd.R_drew)); exact HO_12.out⟩, ⟨by (with_reducible repeat (first | apply Kd.S_alloc | apply Kd.S_drewN | apply Kd.S_drew)); exact Kd.S_mono HO209.out (fun _ hk => hk.2)⟩, ⟨by repeat (first | (with_reducible first | exact HB.out | apply below_alloc | apply pw_below_drewN | apply below_drew1) | exact HB.out)⟩⟩
             case round =>
              clear H'
              try clear c1
              try clear p1
              try clear q1
              try clear hx1
              try clear c2
              try clear p2
              try clear c4
              try clear c6
              try clear p6
              try clear c8
              try clear c10
              try clear c11
              try clear c11b0
              try clear c12
              try clear c12b0
              try clear c13
              try clear c13b0
              try clear c16
              try clear c16b0
              try clear c17
              try clear c17b0
              try clear c18
              try clear c18b0
              try clear c19
              try clear p19
              try clear q19
              try clear hx19
              try clear c20
              try clear c21
              try clear c21b0
              try clear c21b1
              try clear c22
              try clear c22b0
              try clear c22b1
              try clear c27
              try clear c27b0
              try clear c28
              try clear c28b0
              try clear c28b1
              try clear hcz15_0
              try clear hfz15_0
              try clear hx197_0
              try clear hx199_0
              try clear p1
              try clear p19
              try clear p197
              try clear p199
              try clear p2
              try clear p6
              try clear q1
              try clear q19
              try clear q197
              try clear q199
              obtain ⟨x14_4, x62_4, rfl, HA, HK4, HO_12, HO_14, HB⟩ := hrel
              cases gk with
              | zero => exact absurd HA.out (by simp [impl_Contend.l3])
              | succ k4 =>
               have H := HA.out
               clear HA
               simp only [impl_Contend.l3] at H
               by_cases c31 : x62_4 < (l0.length : Int)
               ·rw [if_pos c31] at H
                have c31b0 : decide (x62_4 < (l0.length : Int)) = true := decide_eq_true c31
                clear c31
                by_cases c32 : 0 ≤ x62_4
                ·rw [if_pos c32] at H
                 have c32b0 : decide (0 ≤ x62_4) = true := decide_eq_true c32
                 clear c32
                 by_cases c33 : x62_4 < (l0.length : Int)
                 ·rw [if_pos c33] at H
                  have c33b0 : decide (x62_4 < (l0.length : Int)) = true := decide_eq_true c33
                  clear c33
                  by_cases c34 : x62_4 < (x12_3.length : Int)
                  ·rw [if_pos c34] at H
                   have c34b0 : decide (x62_4 < (x12_3.length : Int)) = true := decide_eq_true c34
                   clear c34
                   by_cases c35 : (rd x12_3 x62_4) < 0
                   ·rw [if_pos c35] at H
                    have c35b0 : decide ((rd x12_3 x62_4) < 0) = true := decide_eq_true c35
                    clear c35
                    by_cases c36 : x57_3 < (((rd_T36 l0 x62_4).f0).length : Int)
                    ·rw [if_pos c36] at H
                     have c36b0 : decide (x57_3 < (((rd_T36 l0 x62_4).f0).length : Int)) = true := decide_eq_true c36
                     clear c36
                     by_cases c37 : 0 ≤ x57_3
                     ·rw [if_pos c37] at H
                      have c37b0 : decide (0 ≤ x57_3) = true := decide_eq_true c37
                      clear c37
                      by_cases c38 : a1 = 0
                      ·rw [if_pos c38] at H
                       exact absurd H (by simp)
                      ·rw [if_neg c38] at H
                       have c38b0 : (a1 == 0) = false := beq_eq_false_iff_ne.mpr c38
                       have c38b1 : (a1 != 0) = true := bne_iff_ne.mpr c38
                       obtain ⟨ji39, hji39⟩ : ∃ j_ : Int, (Int.tmod (rd ((rd_T36 l0 x62_4).f0) x57_3) a1) = j_ := ⟨_, rfl⟩
                       replace H : (if 0 ≤ (ji39) then (if (ji39) < (x14_4.length : Int) then (if (rd_L2 x14_4 (ji39)).length < 17592186044416 then (impl_Contend.l3 k4 l0 a1 x12_3 x57_3 (x14_4.set ((ji39) : Int).toNat ((rd_L2 x14_4 (ji39)) ++ [x62_4])) a2 x57_3 l0 (l0.length : Int) (wrap64 (x62_4 + 1))) else (none)) else (none)) else (none)) = some (r1, r2) := by first | (rw [hji39] at H; exact H) | (simp only [hji39] at H ⊢; exact H)
                       by_cases c40 : 0 ≤ (ji39)
                       ·rw [if_pos c40] at H
                        have c40b0 : decide (0 ≤ (ji39)) = true := decide_eq_true c40
                        clear c40
                        by_cases c41 : (ji39) < (x14_4.length : Int)
                        ·rw [if_pos c41] at H
                         have c41b0 : decide ((ji39) < (x14_4.length : Int)) = true := decide_eq_true c41
                         clear c41
                         by_cases c42 : (rd_L2 x14_4 (ji39)).length < 17592186044416
                         ·rw [if_pos c42] at H
                          have LMc42 := Aside0.mk c42
                          clear c42
                          obtain ⟨y215, hy215⟩ : ∃ y_ : List Int, y_ = ((rd_L2 x14_4 (ji39)) ++ [x62_4]) := ⟨_, rfl⟩
                          replace H : (impl_Contend.l3 k4 l0 a1 x12_3 x57_3 (x14_4.set ((ji39) : Int).toNat y215) a2 x57_3 l0 (l0.length : Int) (wrap64 (x62_4 + 1))) = some (r1, r2) := by first | (rw [hy215]; with_reducible exact H) | (have H2_ := (Option.bind_some _ _).symm.trans H; rw [hy215]; with_reducible exact H2_) | (have H2_ := (Option.bind_some _ _).symm.trans H; with_reducible exact H2_) | with_reducible exact H | (rw [hy215]; exact H) | exact H
                          have Ny215 := Aside0.mk hy215
                          clear hy215
                          obtain ⟨y218, hy218⟩ : ∃ y_ : List (List Int), y_ = (x14_4.set ((ji39) : Int).toNat y215) := ⟨_, rfl⟩
                          replace H : (impl_Contend.l3 k4 l0 a1 x12_3 x57_3 y218 a2 x57_3 l0 (l0.length : Int) (wrap64 (x62_4 + 1))) = some (r1, r2) := by first | (rw [hy218]; with_reducible exact H) | (have H2_ := (Option.bind_some _ _).symm.trans H; rw [hy218]; with_reducible exact H2_) | (have H2_ := (Option.bind_some _ _).symm.trans H; with_reducible exact H2_) | with_reducible exact H | (rw [hy218]; exact H) | exact H
                          have Ny218 := Aside0.mk hy218
                          clear hy218
                          have H' := Aside0.mk H
                          clear H
                          have p210 : 0 ≤ (x62_4 : Int) := of_decide_eq_true (by first | (with_reducible assumption) | assumption)
                          have q210 : x62_4 < (l0.length : Int) := of_decide_eq_true (by first | (with_reducible assumption) | assumption)
                          obtain ⟨ad210, A210_0, c210_0, e210, hx210_0, hl210_0, hi210_0⟩ := at_T36 HR0.out x62_4 p210 q210
                          cases e210
                          replace hx210_0 := (HB.out.cell (World.block_lt_of_cell? w _ hx210_0)).trans hx210_0
                          have HR210_0 := Aside0.mk hi210_0
                          have HC210_0 := Aside0.mk hl210_0
                          clear hi210_0 hl210_0
                          replace p210 := eq_true p210
                          replace q210 := eq_true q210
                          go_wp2_with (first | ((with_reducible refine gate_dst (N := 16) rfl ?_); (try (refine gate_guard (by rfl) ?_; dsimp only)); refine box_event ?hg (N := 16) ?hd (cs := #[.slice none 0 0]) (t := 36) ?hr ?_; (case hd => rfl); (case hg => rfl); (case hr => first | (go_simp; done) | (go_simp; rfl)); intro gb211 hg w44 hbox hb; have n0_ := Aside0.mk (Kd.R_below (by (with_reducible repeat (first | apply Kd.R_alloc | apply Kd.R_drewN | apply Kd.R_drew)); exact HO_12.out) hb); have n1_ := Aside0.mk (Kd.S_below (by (with_reducible repeat (first | apply Kd.S_alloc | apply Kd.S_drewN | apply Kd.S_drew)); exact HO_14.out) hb); have n2_ := Aside0.mk (below_step (by repeat (first | (with_reducible first | exact HB.out | apply below_alloc | apply pw_below_drewN | apply below_drew1) | exact HB.out)) hb); have n3_ := Aside0.mk (hbox); have n4_ := Aside0.mk ((by rw [hg]; exact (below_size (by repeat (first | (with_reducible first | exact HB.out | apply below_alloc | apply pw_below_drewN | apply below_drew1) | exact HB.out))) : w.heap.size ≤ gb211)); have n5_ := Aside0.mk ((by rw [hg]; exact (below_size (by repeat (first | (with_reducible first | exact HB.out | apply below_alloc | apply pw_below_drewN | apply below_drew1) | exact HB.out))) : w.heap.size ≤ gb211)); clear HO_12; clear HO_14; clear HB; have HO_12 := n0_; have HO_14 := n1_; have HB := n2_; have BK211 := n3_; have GW211 := n4_; have GE211 := n5_; clear n0_ n1_ n2_ n3_ n4_ n5_; clear hb hbox hg; have hcz45_0 : w44.cell? ⟨gb211, 0, none⟩ = some (.slice none 0 0) := (blk_cell BK211.out 0).trans rfl; have hfz45_0 := blk_frozen BK211.out 0) | ((with_reducible refine gate_store (t := 36) (p := 16) rfl ?_); refine store_event (t := 36) (p := 16) (v := ?vo_w46) (w1 := (w44.setCell ⟨gb211, 0, none⟩ (.slice A210_0 ((rd_T36 l0 x62_4).f0).length c210_0))) ?hg ?ho ?hn ?hr ?_; (case ho => rfl); (case hg => rfl); (case hn => rfl); (case hr => first | (go_simp; done) | (go_simp; rfl)); intro w46 hw; have n0_ : Aside0 (Kd.R (Kd.int .i64) 3 w46 w.heap.size (fun _ => True) v205 x12_3) := ⟨(by rw [hw]; exact (by (with_reducible repeat (first | apply Kd.R_alloc | apply Kd.R_drewN | apply Kd.R_drew)); exact Kd.R_mono (Kd.R_far (p := ⟨gb211, 0, none⟩) (Kd.R_types HO_12.out BK211.out (by decide)) (fun _ hk => hk.2) (.slice A210_0 ((rd_T36 l0 x62_4).f0).length c210_0)) (fun _ hk => trivial)))⟩; have n1_ : Aside0 (Kd.S (Kd.slice 3 (Kd.int .i64)) 73 w46 w.heap.size (fun k_ => some k_ ≠ (v205 : Value).ownBlock) v208 x14_4) := ⟨(by rw [hw]; exact (by (with_reducible repeat (first | apply Kd.S_alloc | apply Kd.S_drewN | apply Kd.S_drew)); exact Kd.S_mono (Kd.S_far (p := ⟨gb211, 0, none⟩) (Kd.S_types HO_14.out BK211.out (by decide)) (fun _ hk => hk.2) (.slice A210_0 ((rd_T36 l0 x62_4).f0).length c210_0)) (fun _ hk => hk.1)))⟩; have n2_ : Aside0 (w46.heap[gb211]? = some (.cells #[.slice A210_0 ((rd_T36 l0 x62_4).f0).length c210_0] 36 (0, 0))) := ⟨(by rw [hw]; exact (by (with_reducible repeat (first | refine blk_drewN ?_ _ | refine blk_drew ?_ | refine blk_alloc ?_ _)); refine blk_put (cs := #[.slice none 0 0]) ?_ 0 _ rfl; (with_reducible repeat (first | refine blk_drewN ?_ _ | refine blk_drew ?_ | refine blk_alloc ?_ _)); exact BK211.out))⟩; have n3_ : Aside0 (Below w.heap.size w w46) := ⟨(by rw [hw]; exact (by repeat (first | (with_reducible first | exact HB.out | apply below_alloc | apply pw_below_drewN | apply below_drew1 | refine below_set ?_ GE211.out) | exact HB.out)))⟩; clear hw; clear HO_12; clear HO_14; clear BK211; clear HB; have HO_12 := n0_; have HO_14 := n1_; have BK211 := n2_; have HB := n3_; clear n0_ n1_ n2_ n3_; obtain ⟨Ao47, co47, eo47⟩ := Kd.R_slice HO_12.out; subst eo47; have p212 : 0 ≤ (x62_4 : Int) := of_decide_eq_true (by first | (with_reducible assumption) | assumption); have q212 : x62_4 < (x12_3.length : Int) := of_decide_eq_true (by first | (with_reducible assumption) | assumption); obtain ⟨ad212, e212, hx212_0⟩ := Kd.at_int (Kd.R_reads' HO_12.out).2.2 x62_4 p212 q212; cases e212; replace p212 := eq_true p212; replace q212 := eq_true q212; have hcz48_0 : w46.cell? ⟨gb211, 0, none⟩ = some (.slice A210_0 ((rd_T36 l0 x62_4).f0).length c210_0) := (blk_cell BK211.out 0).trans rfl; have hfz48_0 := blk_frozen BK211.out 0; have p213 : 0 ≤ (x57_3 : Int) := of_decide_eq_true (by first | (with_reducible assumption) | assumption); have q213 : x57_3 < (((rd_T36 l0 x62_4).f0).length : Int) := of_decide_eq_true (by first | (with_reducible assumption) | assumption); obtain ⟨ad213, e213, hx213_0⟩ := Kd.at_int HR210_0.out x57_3 p213 q213; cases e213; replace hx213_0 := (HB.out.cell (World.block_lt_of_cell? w _ hx213_0)).trans hx213_0; replace p213 := eq_true p213; replace q213 := eq_true q213; obtain ⟨Ao49, co49, eo49⟩ := Kd.S_slice HO_14.out; subst eo49; obtain ⟨ea_, hl16_, ec_⟩ := ExtArr.slice_eq HVW.out; subst ea_; have c16_ : ((ji39) < 16) = True := eq_true (of_decide_eq_true (ExtArr.lt16 hl16_ (by assumption))); have d16_ : (16 ≤ (ji39)) = False := eq_false (Int.not_le.2 (of_decide_eq_true (ExtArr.lt16 hl16_ (by assumption)))); have p214 : 0 ≤ ((ji39) : Int) := of_decide_eq_true (by first | (with_reducible assumption) | assumption); have q214 : (ji39) < (x14_4.length : Int) := of_decide_eq_true (by first | (with_reducible assumption) | assumption); obtain ⟨ad214, A214_0, c214_0, e214, hx214_0, hl214_0, hi214_0⟩ := at_L2 (Kd.S_reads' HO_14.out).2.2 (ji39) p214 q214; cases e214; obtain ⟨ce214, hce214, hMe214, hcc214⟩ := Kd.S_get HO_14.out [] (ji39) p214 (by first | exact q214 | exact of_decide_eq_true (by first | (with_reducible assumption) | assumption) | (have e_ := (Kd.S_reads' HO_14.out).1; omega)); obtain ⟨ve214_0, rfl, ge214_0⟩ := hMe214; have hv214_0 := hcc214 0 _ rfl; rw [Nat.add_zero, show ((Kd.slice 3 (Kd.int .i64))).sz = 1 from rfl, Nat.mul_one] at hv214_0; replace hv214_0 := Option.some.inj (hv214_0.symm.trans hx214_0); rw [hv214_0] at ge214_0; have HL214_0 := Aside0.mk (show Kd.R (Kd.int .i64) 3 _ _ _ _ (rd_L2 x14_4 (ji39)) from ge214_0); clear hv214_0 ge214_0; have HX214_0 := Aside0.mk hx214_0; clear hcc214 hce214; have HR214_0 := Aside0.mk hi214_0; have HC214_0 := Aside0.mk hl214_0; clear hi214_0 hl214_0; replace p214 := eq_true p214; replace q214 := eq_true q214; obtain ⟨go50, co50, eo50, gb50, gl50, cl50, HG50⟩ := Kd.S_form HO_14.out (by have h_ : ((ji39) : Int) < ((x14_4.length : Int) : Int) := of_decide_eq_true (by first | (with_reducible assumption) | assumption); have h2_ : 0 ≤ ((ji39) : Int) := (of_decide_eq_true (by first | (with_reducible assumption) | assumption)); omega); (first | cases eo50 | (injection eo50 with ea_ en_ ec_; (first | subst ea_ | (injection ea_ with ea_; subst ea_)); subst ec_; clear en_)); have GB50 := Aside0.mk gb50; have GG50 := Aside0.mk HG50; clear gb50 gl50 HG50; (first | simp only [add_plain] at hx214_0 | skip); obtain ⟨oki50, ce50, hcl50, hM50, hcc50, _, _, hH50⟩ := Kd.S_elem HO_14.out [] ((ji39) : Int) (of_decide_eq_true (by first | (with_reducible assumption) | assumption)) (by have h_ : ((ji39) : Int) < ((x14_4.length : Int) : Int) := of_decide_eq_true (by first | (with_reducible assumption) | assumption); first | exact h_ | (have e_ := (Kd.S_reads' HO_14.out).1; omega) | simpa using h_); obtain ⟨ve50_0, rfl, ge50_0⟩ := hM50; have hv50 := hcc50 0 _ rfl; have hX50 := HX214_0.out; (try simp only [add_plain] at hX50); (try simp only [Nat.add_zero] at hv50); (try rw [show ((Kd.slice 3 (Kd.int .i64))).sz = 1 from rfl, Nat.mul_one] at hv50); replace hv50 := Option.some.inj (hv50.symm.trans hX50); subst hv50; clear hX50 hcc50 hcl50; have UU50 := Aside0.mk (show Kd.R (Kd.int .i64) 3 _ w.heap.size oki50 (.slice A214_0 (rd_L2 x14_4 (ji39)).length c214_0) (rd_L2 x14_4 (ji39)) from ge50_0); have HH50 := Aside0.mk hH50; have HN50 := Aside0.mk (Kd.S_reads' HO_14.out).1; clear hH50 ge50_0) | ((with_reducible refine gate_builtin (b := .append) (xs := #[.tmp 89, .tmp 91]) rfl ?_); (try (refine gate_guard (by rfl) ?_; dsimp only)); at_builtin; refine Kd.R_append (Kd.int .i64) (w0 := w) w.heap.size rfl (.tmp 89) (.tmp 91) 27 3 (.int .i64 0) 8 rfl Try.underlying27 info3 rfl (by decide) (by omega) (.slice A214_0 (rd_L2 x14_4 (ji39)).length c214_0) (rd_L2 x14_4 (ji39)) x62_4 [.int .i64 x62_4] (fun k_ => oki50 k_ ∨ ((fun k_ => some k_ ≠ (.slice (some ad212) x12_3.length co47 : Value).ownBlock)) k_ ∧ w46.heap.size ≤ k_) (fun _ => False) rfl rfl ?aP (fun _ hk => hk.elim) ?aF ?aO ?aB ?aS ?aL ?_; (case aP => exact rfl); (case aB => exact (by repeat (first | (with_reducible first | exact HB.out | apply below_alloc | apply pw_below_drewN | apply below_drew1 | refine below_set ?_ GE211.out) | exact HB.out))); (case aF => exact (fun k_ hk => .inr ⟨Kd.fresh' (Kd.R_lt (by (with_reducible repeat (first | apply Kd.R_alloc | apply Kd.R_drewN | apply Kd.R_drew)); exact HO_12.out)) k_ hk, hk⟩)); (case aO => exact (by (with_reducible repeat (first | apply Kd.R_alloc | apply Kd.R_drewN | apply Kd.R_drew)); exact Kd.R_mono UU50.out (fun _ hk => .inl hk))); (case aS => exact (below_size (by repeat (first | (with_reducible first | exact HB.out | apply below_alloc | apply pw_below_drewN | apply below_drew1 | refine below_set ?_ GE211.out) | exact HB.out)))); (case aL => have := LMc42.out; omega); intro v216 w51 ho hb hg hat; rw [← Ny215.out] at ho; have n0_ := Aside0.mk (Kd.R_grown2 (by (with_reducible repeat (first | apply Kd.R_alloc | apply Kd.R_drewN | apply Kd.R_drew)); exact HO_12.out) rfl hg (fun k_ e_ => (HL214_0.out.1 k_ e_).1)); have n1_ := Aside0.mk (blk_grown (g := gb211) (o := .cells #[.slice (some ad213) ((rd_T36 l0 x62_4).f0).length c210_0] 36 (0, 0)) (by (with_reducible repeat (first | refine blk_drewN ?_ _ | refine blk_drew ?_ | refine blk_alloc ?_ _)); exact BK211.out) hg (Kd.R_ne HL214_0.out BK211.out (by decide))); have n2_ := Aside0.mk (hb); have n3_ := Aside0.mk (Kd.H_grown (Kd.H_widen (by repeat (first | exact HH50.out | refine Kd.H_alloc ?_ _ | refine Kd.H_drewN ?_ _ | refine Kd.H_drew ?_))) hg (fun k_ e_ => .inl (UU50.out.1 k_ e_))); have n4_ := Aside0.mk (ho); clear HO_12; clear BK211; clear HB; clear HH50; clear HO_14; clear UU50; clear HL214_0; have HO_12 := n0_; have BK211 := n1_; have HB := n2_; have HH50 := n3_; have HO217 := n4_; clear n0_ n1_ n2_ n3_ n4_; clear ho hb hg hat; have p43 : 0 ≤ ((ji39) : Int) := of_decide_eq_true (by first | (with_reducible assumption) | assumption); have q43 : ((ji39) : Int) < ((x14_4.length : Int) : Int) := of_decide_eq_true (by first | (with_reducible assumption) | assumption); replace p43 := eq_true p43; replace q43 := eq_true q43; obtain ⟨Ao54, co54, eo54⟩ := Kd.R_slice HO217.out; subst eo54; obtain ⟨_, _, hraw52, _, _, hcc52, _⟩ := Kd.H_raw HH50.out (of_decide_eq_true (by first | (with_reducible assumption) | assumption)) (by have h_ : ((ji39) : Int) < ((x14_4.length : Int) : Int) := of_decide_eq_true (by first | (with_reducible assumption) | assumption); first | exact h_ | (have e_ := (HN50.out); omega) | simpa using h_); obtain ⟨_, hfr52⟩ := Kd.H_at HH50.out (of_decide_eq_true (by first | (with_reducible assumption) | assumption)) (by have h_ : ((ji39) : Int) < ((x14_4.length : Int) : Int) := of_decide_eq_true (by first | (with_reducible assumption) | assumption); first | exact h_ | (have e_ := (HN50.out); omega) | simpa using h_); have hx52_0 := hcc52 0 _ rfl; have hf52_0 := hfr52 0; (try simp only [Nat.add_zero] at hx52_0 hf52_0); (try rw [show ((Kd.slice 3 (Kd.int .i64))).sz = 1 from rfl, Nat.mul_one] at hx52_0); (try rw [show ((Kd.slice 3 (Kd.int .i64))).sz = 1 from rfl, Nat.mul_one] at hf52_0); have HP52 := Kd.S_seg0 HH50.out (of_decide_eq_true (by first | (with_reducible assumption) | assumption)) (by have h_ : ((ji39) : Int) < ((x14_4.length : Int) : Int) := of_decide_eq_true (by first | (with_reducible assumption) | assumption); first | exact h_ | (have e_ := (HN50.out); omega) | simpa using h_) (seg := [.slice Ao54 y215.length co54]) (j := 0) (show 1 ≤ 1 from by decide) (x' := y215) (Kd.M_row HO217.out) (fun _ hk => hk); (try simp only [show ((Kd.slice 3 (Kd.int .i64))).sz = 1 from rfl, Nat.mul_one, Nat.add_zero] at HP52); clear hcc52 hfr52) | ((with_reducible refine gate_store (t := 27) (p := 93) rfl ?_); refine store_event (t := 27) (p := 93) (v := ?vo_w53) (w1 := (w51.setCell ⟨gbW, ((ji39) : Int).toNat, none⟩ (.slice Ao54 y215.length co54))) ?hg ?ho ?hn ?hr ?_; (case ho => rfl); (case hg => rfl); (case hn => rfl); (case hr => first | (go_simp; done) | (go_simp; rfl)); intro w53 hw; have hg : w51.grownBy w53 (some gbW) := (by rw [hw]; exact HP52.2); have hp_ : Kd.S (Kd.slice 3 (Kd.int .i64)) 73 w53 w.heap.size (fun k_ => some k_ ≠ (.slice (some ad212) x12_3.length co47 : Value).ownBlock) (.slice (some ⟨gbW, 0, none⟩) x14_4.length co49) y218 := (by rw [hw, Ny218.out]; exact HP52.1); clear HP52; have n0_ := Aside0.mk (Kd.R_over' (v := (.slice (some ⟨gbW, 0, none⟩) x14_4.length co49)) (by (with_reducible repeat (first | apply Kd.R_alloc | apply Kd.R_drewN | apply Kd.R_drew)); exact HO_12.out) (Kd.R_typed hraw52) (by decide) hg); have n1_ := Aside0.mk (blk_grown (g := gb211) (o := .cells #[.slice (some ad213) ((rd_T36 l0 x62_4).f0).length c210_0] 36 (0, 0)) (by (with_reducible repeat (first | refine blk_drewN ?_ _ | refine blk_drew ?_ | refine blk_alloc ?_ _)); exact BK211.out) hg (Kd.R_ne hraw52 BK211.out (by decide))); have n2_ := Aside0.mk ((by rw [hw]; exact below_set HB.out GB50.out : Below w.heap.size w w53)); have n3_ := Aside0.mk (hp_); clear HO_12; clear BK211; clear HB; clear HO217; clear HH50; have HO_12 := n0_; have BK211 := n1_; have HB := n2_; have HO_14 := n3_; clear n0_ n1_ n2_ n3_; clear hg hw hp_ hraw52))
                          go_roundg k4
                          case measure => have := HJ3.out; have := HK2.out; have := HK3.out; have := HK4.out; omega
                          case rel => exact ⟨(y218), (wrap64 (x62_4 + 1)), (by first | rfl | (simp; done) | (simp [*]; done)), H', ⟨by have := HJ3.out; have := HK2.out; have := HK3.out; have := HK4.out; omega⟩, ⟨by (with_reducible repeat (first | apply Kd.R_alloc | apply Kd.R_drewN | apply Kd.R_drew)); exact HO_12.out⟩, ⟨by (with_reducible repeat (first | apply Kd.S_alloc | apply Kd.S_drewN | apply Kd.S_drew)); exact HO_14.out⟩, ⟨by repeat (first | (with_reducible first | exact HB.out | apply below_alloc | apply pw_below_drewN | apply below_drew1 | refine below_set ?_ GE211.out) | exact HB.out)⟩⟩
                         ·rw [if_neg c42] at H
                          exact absurd H (by simp)
                        ·rw [if_neg c41] at H
                         exact absurd H (by simp)
                       ·rw [if_neg c40] at H
                        exact absurd H (by simp)
                     ·rw [if_neg c37] at H
                      exact absurd H (by simp)
                    ·rw [if_neg c36] at H
                     have c36b0 : decide (x57_3 < (((rd_T36 l0 x62_4).f0).length : Int)) = false := decide_eq_false c36
                     clear c36
                     have H' := Aside0.mk H
                     clear H
                     have p210 : 0 ≤ (x62_4 : Int) := of_decide_eq_true (by first | (with_reducible assumption) | assumption)
                     have q210 : x62_4 < (l0.length : Int) := of_decide_eq_true (by first | (with_reducible assumption) | assumption)
                     obtain ⟨ad210, A210_0, c210_0, e210, hx210_0, hl210_0, hi210_0⟩ := at_T36 HR0.out x62_4 p210 q210
                     cases e210
                     replace hx210_0 := (HB.out.cell (World.block_lt_of_cell? w _ hx210_0)).trans hx210_0
                     have HR210_0 := Aside0.mk hi210_0
                     have HC210_0 := Aside0.mk hl210_0
                     clear hi210_0 hl210_0
                     replace p210 := eq_true p210
                     replace q210 := eq_true q210
                     go_wp2_with (first | ((with_reducible refine gate_dst (N := 16) rfl ?_); (try (refine gate_guard (by rfl) ?_; dsimp only)); refine box_event ?hg (N := 16) ?hd (cs := #[.slice none 0 0]) (t := 36) ?hr ?_; (case hd => rfl); (case hg => rfl); (case hr => first | (go_simp; done) | (go_simp; rfl)); intro gb211 hg w55 hbox hb; have n0_ := Aside0.mk (Kd.R_below (by (with_reducible repeat (first | apply Kd.R_alloc | apply Kd.R_drewN | apply Kd.R_drew)); exact HO_12.out) hb); have n1_ := Aside0.mk (Kd.S_below (by (with_reducible repeat (first | apply Kd.S_alloc | apply Kd.S_drewN | apply Kd.S_drew)); exact HO_14.out) hb); have n2_ := Aside0.mk (below_step (by repeat (first | (with_reducible first | exact HB.out | apply below_alloc | apply pw_below_drewN | apply below_drew1) | exact HB.out)) hb); have n3_ := Aside0.mk (hbox); have n4_ := Aside0.mk ((by rw [hg]; exact (below_size (by repeat (first | (with_reducible first | exact HB.out | apply below_alloc | apply pw_below_drewN | apply below_drew1) | exact HB.out))) : w.heap.size ≤ gb211)); have n5_ := Aside0.mk ((by rw [hg]; exact (below_size (by repeat (first | (with_reducible first | exact HB.out | apply below_alloc | apply pw_below_drewN | apply below_drew1) | exact HB.out))) : w.heap.size ≤ gb211)); clear HO_12; clear HO_14; clear HB; have HO_12 := n0_; have HO_14 := n1_; have HB := n2_; have BK211 := n3_; have GW211 := n4_; have GE211 := n5_; clear n0_ n1_ n2_ n3_ n4_ n5_; clear hb hbox hg; have hcz56_0 : w55.cell? ⟨gb211, 0, none⟩ = some (.slice none 0 0) := (blk_cell BK211.out 0).trans rfl; have hfz56_0 := blk_frozen BK211.out 0; obtain ⟨Ao57, co57, eo57⟩ := Kd.R_slice HO_12.out; subst eo57; have p212 : 0 ≤ (x62_4 : Int) := of_decide_eq_true (by first | (with_reducible assumption) | assumption); have q212 : x62_4 < (x12_3.length : Int) := of_decide_eq_true (by first | (with_reducible assumption) | assumption); obtain ⟨ad212, e212, hx212_0⟩ := Kd.at_int (Kd.R_reads' HO_12.out).2.2 x62_4 p212 q212; cases e212; have hn212_0 : ad212.block ≠ gb211 := Kd.own_blk (Kd.R_ne HO_12.out BK211.out (by decide)); replace hx212_0 := (cell_far (p := ⟨gb211, 0, none⟩) (by first | (rw [add_block]; exact hn212_0) | (show (Addr.add _ _).block ≠ _; rw [add_block]; exact hn212_0) | exact hn212_0) (.slice A210_0 ((rd_T36 l0 x62_4).f0).length c210_0)).trans hx212_0; clear hn212_0; replace p212 := eq_true p212; replace q212 := eq_true q212))
                     go_roundg k4
                     case measure => have := HJ3.out; have := HK2.out; have := HK3.out; have := HK4.out; omega
                     case rel => exact ⟨(x14_4), (wrap64 (x62_4 + 1)), (by first | rfl | (simp; done) | (simp [*]; done)), H', ⟨by have := HJ3.out; have := HK2.out; have := HK3.out; have := HK4.out; omega⟩, ⟨by (with_reducible repeat (first | apply Kd.R_alloc | apply Kd.R_drewN | apply Kd.R_drew)); exact Kd.R_mono (Kd.R_far (p := ⟨gb211, 0, none⟩) (Kd.R_types HO_12.out BK211.out (by decide)) (fun _ hk => hk.2) (.slice A210_0 ((rd_T36 l0 x62_4).f0).length c210_0)) (fun _ hk => trivial)⟩, ⟨by (with_reducible repeat (first | apply Kd.S_alloc | apply Kd.S_drewN | apply Kd.S_drew)); exact Kd.S_mono (Kd.S_far (p := ⟨gb211, 0, none⟩) (Kd.S_types HO_14.out BK211.out (by decide)) (fun _ hk => hk.2) (.slice A210_0 ((rd_T36 l0 x62_4).f0).length c210_0)) (fun _ hk => hk.1)⟩, ⟨by repeat (first | (with_reducible first | exact HB.out | apply below_alloc | apply pw_below_drewN | apply below_drew1 | refine below_set ?_ GE211.out) | exact HB.out)⟩⟩
                   ·rw [if_neg c35] at H
                    have c35b0 : decide ((rd x12_3 x62_4) < 0) = false := decide_eq_false c35
                    clear c35
                    have H' := Aside0.mk H
                    clear H
                    have p210 : 0 ≤ (x62_4 : Int) := of_decide_eq_true (by first | (with_reducible assumption) | assumption)
                    have q210 : x62_4 < (l0.length : Int) := of_decide_eq_true (by first | (with_reducible assumption) | assumption)
                    obtain ⟨ad210, A210_0, c210_0, e210, hx210_0, hl210_0, hi210_0⟩ := at_T36 HR0.out x62_4 p210 q210
                    cases e210
                    replace hx210_0 := (HB.out.cell (World.block_lt_of_cell? w _ hx210_0)).trans hx210_0
                    have HR210_0 := Aside0.mk hi210_0
                    have HC210_0 := Aside0.mk hl210_0
                    clear hi210_0 hl210_0
                    replace p210 := eq_true p210
                    replace q210 := eq_true q210
                    go_wp2_with (first | ((with_reducible refine gate_dst (N := 16) rfl ?_); (try (refine gate_guard (by rfl) ?_; dsimp only)); refine box_event ?hg (N := 16) ?hd (cs := #[.slice none 0 0]) (t := 36) ?hr ?_; (case hd => rfl); (case hg => rfl); (case hr => first | (go_simp; done) | (go_simp; rfl)); intro gb211 hg w58 hbox hb; have n0_ := Aside0.mk (Kd.R_below (by (with_reducible repeat (first | apply Kd.R_alloc | apply Kd.R_drewN | apply Kd.R_drew)); exact HO_12.out) hb); have n1_ := Aside0.mk (Kd.S_below (by (with_reducible repeat (first | apply Kd.S_alloc | apply Kd.S_drewN | apply Kd.S_drew)); exact HO_14.out) hb); have n2_ := Aside0.mk (below_step (by repeat (first | (with_reducible first | exact HB.out | apply below_alloc | apply pw_below_drewN | apply below_drew1) | exact HB.out)) hb); have n3_ := Aside0.mk (hbox); have n4_ := Aside0.mk ((by rw [hg]; exact (below_size (by repeat (first | (with_reducible first | exact HB.out | apply below_alloc | apply pw_below_drewN | apply below_drew1) | exact HB.out))) : w.heap.size ≤ gb211)); have n5_ := Aside0.mk ((by rw [hg]; exact (below_size (by repeat (first | (with_reducible first | exact HB.out | apply below_alloc | apply pw_below_drewN | apply below_drew1) | exact HB.out))) : w.heap.size ≤ gb211)); clear HO_12; clear HO_14; clear HB; have HO_12 := n0_; have HO_14 := n1_; have HB := n2_; have BK211 := n3_; have GW211 := n4_; have GE211 := n5_; clear n0_ n1_ n2_ n3_ n4_ n5_; clear hb hbox hg; have hcz59_0 : w58.cell? ⟨gb211, 0, none⟩ = some (.slice none 0 0) := (blk_cell BK211.out 0).trans rfl; have hfz59_0 := blk_frozen BK211.out 0; obtain ⟨Ao60, co60, eo60⟩ := Kd.R_slice HO_12.out; subst eo60; have p212 : 0 ≤ (x62_4 : Int) := of_decide_eq_true (by first | (with_reducible assumption) | assumption); have q212 : x62_4 < (x12_3.length : Int) := of_decide_eq_true (by first | (with_reducible assumption) | assumption); obtain ⟨ad212, e212, hx212_0⟩ := Kd.at_int (Kd.R_reads' HO_12.out).2.2 x62_4 p212 q212; cases e212; have hn212_0 : ad212.block ≠ gb211 := Kd.own_blk (Kd.R_ne HO_12.out BK211.out (by decide)); replace hx212_0 := (cell_far (p := ⟨gb211, 0, none⟩) (by first | (rw [add_block]; exact hn212_0) | (show (Addr.add _ _).block ≠ _; rw [add_block]; exact hn212_0) | exact hn212_0) (.slice A210_0 ((rd_T36 l0 x62_4).f0).length c210_0)).trans hx212_0; clear hn212_0; replace p212 := eq_true p212; replace q212 := eq_true q212))
                    go_roundg k4
                    case measure => have := HJ3.out; have := HK2.out; have := HK3.out; have := HK4.out; omega
                    case rel => exact ⟨(x14_4), (wrap64 (x62_4 + 1)), (by first | rfl | (simp; done) | (simp [*]; done)), H', ⟨by have := HJ3.out; have := HK2.out; have := HK3.out; have := HK4.out; omega⟩, ⟨by (with_reducible repeat (first | apply Kd.R_alloc | apply Kd.R_drewN | apply Kd.R_drew)); exact Kd.R_mono (Kd.R_far (p := ⟨gb211, 0, none⟩) (Kd.R_types HO_12.out BK211.out (by decide)) (fun _ hk => hk.2) (.slice A210_0 ((rd_T36 l0 x62_4).f0).length c210_0)) (fun _ hk => trivial)⟩, ⟨by (with_reducible repeat (first | apply Kd.S_alloc | apply Kd.S_drewN | apply Kd.S_drew)); exact Kd.S_mono (Kd.S_far (p := ⟨gb211, 0, none⟩) (Kd.S_types HO_14.out BK211.out (by decide)) (fun _ hk => hk.2) (.slice A210_0 ((rd_T36 l0 x62_4).f0).length c210_0)) (fun _ hk => hk.1)⟩, ⟨by repeat (first | (with_reducible first | exact HB.out | apply below_alloc | apply pw_below_drewN | apply below_drew1 | refine below_set ?_ GE211.out) | exact HB.out)⟩⟩
                  ·rw [if_neg c34] at H
                   exact absurd H (by simp)
                 ·rw [if_neg c33] at H
                  exact absurd H (by simp)
                ·rw [if_neg c32] at H
                 exact absurd H (by simp)
               ·rw [if_neg c31] at H
                have c31b0 : decide (x62_4 < (l0.length : Int)) = false := decide_eq_false c31
                clear c31
                have H' := Aside0.mk H
                clear H
                obtain ⟨cur16, hc16_, hs16_⟩ := ExtArr.S_block (HVW.out ▸ HO_14.out)
                have HC16 := Aside0.mk hc16_
                clear hc16_
                go_wp2_with (first | ((with_reducible refine gate_dst (N := 95) rfl ?_); refine ExtArr.load_event rfl rfl (by repeat (first | exact HC16.out | refine blk_drewN ?_ _ | refine blk_drew ?_)) hs16_ rfl ?_))
                go_loopg [96] k4 (fun kq v96 w' => ∃ (x12_5 : List Int) (x96_5 : Int), v96 = .int .i64 x96_5 ∧ Aside0 (impl_Contend.l4 kq l0 a1 x12_5 x57_3 a2 x57_3 x14_4 x96_5 = some (r1, r2)) ∧ Aside0 (kq ≤ k4) ∧ Aside0 (Kd.R (Kd.int .i64) 3 w' w.heap.size (fun _ => True) v205 x12_5) ∧ Aside0 (Kd.S (Kd.slice 3 (Kd.int .i64)) 73 w' w.heap.size (fun k_ => some k_ ≠ (v205 : Value).ownBlock) v208 x14_4) ∧ Aside0 (w'.heap[gbW]? = some (.cells cur16 73 (0, 0))) ∧ Aside0 (Below w.heap.size w w'))
                case atStart => exact ⟨(x12_3), (0), (by first | rfl | (simp; done) | (simp [*]; done)), H', ⟨Nat.le_refl _⟩, ⟨by (with_reducible repeat (first | apply Kd.R_alloc | apply Kd.R_drewN | apply Kd.R_drew)); exact HO_12.out⟩, ⟨by (with_reducible repeat (first | apply Kd.S_alloc | apply Kd.S_drewN | apply Kd.S_drew)); exact HO_14.out⟩, ⟨by repeat (first | exact HC16.out | refine blk_drewN ?_ _ | refine blk_drew ?_)⟩, ⟨by repeat (first | (with_reducible first | exact HB.out | apply below_alloc | apply pw_below_drewN | apply below_drew1) | exact HB.out)⟩⟩
                case round =>
                 clear H'
                 try clear c1
                 try clear p1
                 try clear q1
                 try clear hx1
                 try clear c2
                 try clear p2
                 try clear q2
                 try clear hx2
                 try clear c3
                 try clear c4
                 try clear p4
                 try clear q4
                 try clear c5
                 try clear hx5
                 try clear hf5
                 try clear c6
                 try clear p6
                 try clear c8
                 try clear c10
                 try clear c11
                 try clear c11b0
                 try clear c12
                 try clear c12b0
                 try clear c13
                 try clear c13b0
                 try clear c16
                 try clear c16b0
                 try clear c17
                 try clear c17b0
                 try clear c18
                 try clear c18b0
                 try clear c19
                 try clear p19
                 try clear q19
                 try clear hx19
                 try clear c20
                 try clear c21
                 try clear c21b0
                 try clear c21b1
                 try clear p21
                 try clear q21
                 try clear hx21
                 try clear c22
                 try clear c22b0
                 try clear c22b1
                 try clear c27
                 try clear c27b0
                 try clear c28
                 try clear c28b0
                 try clear c28b1
                 try clear c31
                 try clear c31b0
                 try clear c32
                 try clear c32b0
                 try clear c33
                 try clear c33b0
                 try clear c34
                 try clear c34b0
                 try clear c35
                 try clear c35b0
                 try clear c36
                 try clear c36b0
                 try clear c37
                 try clear c37b0
                 try clear c38
                 try clear c38b0
                 try clear c38b1
                 try clear c40
                 try clear c40b0
                 try clear c41
                 try clear c41b0
                 try clear c42
                 try clear c43
                 try clear p43
                 try clear q43
                 try clear c50
                 try clear c52
                 try clear hx52
                 try clear hf52
                 try clear hcz15_0
                 try clear hcz45_0
                 try clear hcz48_0
                 try clear hcz56_0
                 try clear hcz59_0
                 try clear hfz15_0
                 try clear hfz45_0
                 try clear hfz48_0
                 try clear hfz56_0
                 try clear hfz59_0
                 try clear hx197_0
                 try clear hx199_0
                 try clear hx210_0
                 try clear hx212_0
                 try clear hx213_0
                 try clear hx214_0
                 try clear hx52_0
                 try clear p1
                 try clear p19
                 try clear p197
                 try clear p199
                 try clear p2
                 try clear p210
                 try clear p212
                 try clear p213
                 try clear p214
                 try clear p43
                 try clear p6
                 try clear q1
                 try clear q19
                 try clear q197
                 try clear q199
                 try clear q210
                 try clear q212
                 try clear q213
                 try clear q214
                 try clear q43
                 obtain ⟨x12_5, x96_5, rfl, HA, HK5, HO_12, HO_95, HC16, HB⟩ := hrel
                 cases gk with
                 | zero => exact absurd HA.out (by simp [impl_Contend.l4])
                 | succ k5 =>
                  have H := HA.out
                  clear HA
                  simp only [impl_Contend.l4] at H
                  by_cases c61 : x96_5 < 16
                  ·rw [if_pos c61] at H
                   have c61b0 : decide (x96_5 < 16) = true := decide_eq_true c61
                   clear c61
                   by_cases c62 : 0 ≤ x96_5
                   ·rw [if_pos c62] at H
                    have c62b0 : decide (0 ≤ x96_5) = true := decide_eq_true c62
                    clear c62
                    by_cases c63 : x96_5 < (x14_4.length : Int)
                    ·rw [if_pos c63] at H
                     have c63b0 : decide (x96_5 < (x14_4.length : Int)) = true := decide_eq_true c63
                     clear c63
                     by_cases c64 : ((rd_L2 x14_4 x96_5).length : Int) = 1
                     ·rw [if_pos c64] at H
                      have c64b0 : (((rd_L2 x14_4 x96_5).length : Int) == 1) = true := beq_iff_eq.mpr c64
                      have c64b1 : (((rd_L2 x14_4 x96_5).length : Int) != 1) = false := bne_eq_false_iff_eq.mpr c64
                      clear c64
                      by_cases c65 : 0 < ((rd_L2 x14_4 x96_5).length : Int)
                      ·rw [if_pos c65] at H
                       have c65b0 : decide (0 < ((rd_L2 x14_4 x96_5).length : Int)) = true := decide_eq_true c65
                       have c65b1 : decide (0 < (rd_L2 x14_4 x96_5).length) = true := decide_eq_true (by omega)
                       clear c65
                       by_cases c66 : 0 ≤ (rd (rd_L2 x14_4 x96_5) 0)
                       ·rw [if_pos c66] at H
                        have c66b0 : decide (0 ≤ (rd (rd_L2 x14_4 x96_5) 0)) = true := decide_eq_true c66
                        clear c66
                        by_cases c67 : (rd (rd_L2 x14_4 x96_5) 0) < (x12_5.length : Int)
                        ·rw [if_pos c67] at H
                         have c67b0 : decide ((rd (rd_L2 x14_4 x96_5) 0) < (x12_5.length : Int)) = true := decide_eq_true c67
                         clear c67
                         obtain ⟨y221, hy221⟩ : ∃ y_ : List Int, y_ = (x12_5.set ((rd (rd_L2 x14_4 x96_5) 0) : Int).toNat x57_3) := ⟨_, rfl⟩
                         replace H : (impl_Contend.l4 k5 l0 a1 y221 x57_3 a2 x57_3 x14_4 (wrap64 (x96_5 + 1))) = some (r1, r2) := by first | (rw [hy221]; with_reducible exact H) | (have H2_ := (Option.bind_some _ _).symm.trans H; rw [hy221]; with_reducible exact H2_) | (have H2_ := (Option.bind_some _ _).symm.trans H; with_reducible exact H2_) | with_reducible exact H | (rw [hy221]; exact H) | exact H
                         have Ny221 := Aside0.mk hy221
                         clear hy221
                         have H' := Aside0.mk H
                         clear H
                         obtain ⟨Ao69, co69, eo69⟩ := Kd.S_slice HO_95.out
                         subst eo69
                         obtain ⟨ea_, hl16_, ec_⟩ := ExtArr.slice_eq HVW.out
                         subst ea_
                         have p219 : 0 ≤ (x96_5 : Int) := of_decide_eq_true (by first | (with_reducible assumption) | assumption)
                         have q219 : x96_5 < (x14_4.length : Int) := of_decide_eq_true (by first | (with_reducible assumption) | assumption)
                         obtain ⟨ad219, A219_0, c219_0, e219, hx219_0, hl219_0, hi219_0⟩ := at_L2 (Kd.S_reads' HO_95.out).2.2 x96_5 p219 q219
                         cases e219
                         obtain ⟨ce219, hce219, hMe219, hcc219⟩ := Kd.S_get HO_95.out [] x96_5 p219 (by first | exact q219 | exact of_decide_eq_true (by first | (with_reducible assumption) | assumption) | (have e_ := (Kd.S_reads' HO_95.out).1; omega))
                         obtain ⟨ve219_0, rfl, ge219_0⟩ := hMe219
                         have hv219_0 := hcc219 0 _ rfl
                         rw [Nat.add_zero, show ((Kd.slice 3 (Kd.int .i64))).sz = 1 from rfl, Nat.mul_one] at hv219_0
                         replace hv219_0 := Option.some.inj (hv219_0.symm.trans hx219_0)
                         rw [hv219_0] at ge219_0
                         have HL219_0 := Aside0.mk (show Kd.R (Kd.int .i64) 3 _ _ _ _ (rd_L2 x14_4 x96_5) from ge219_0)
                         clear hv219_0 ge219_0
                         have HX219_0 := Aside0.mk hx219_0
                         have at16_ := ExtArr.at16 HC16.out hx219_0
                         clear hcc219 hce219
                         have HR219_0 := Aside0.mk hi219_0
                         have HC219_0 := Aside0.mk hl219_0
                         clear hi219_0 hl219_0
                         replace p219 := eq_true p219
                         replace q219 := eq_true q219
                         have p220 : 0 ≤ (0 : Int) := (by omega)
                         have q220 : 0 < ((rd_L2 x14_4 x96_5).length : Int) := of_decide_eq_true (by first | (with_reducible assumption) | assumption)
                         obtain ⟨ad220, e220, hx220_0⟩ := Kd.at_int (by repeat (first | (with_reducible exact HR219_0.out) | (with_reducible refine Kd.C_alloc ?_ _) | (with_reducible refine Kd.C_drewN ?_ _) | (with_reducible refine Kd.C_drew ?_) | exact HR219_0.out)) 0 p220 q220
                         cases e220
                         have qi220 : (0 < (rd_L2 x14_4 x96_5).length) = True := eq_true (by omega)
                         (try rw [show ((0 : Int)).toNat = 0 from rfl] at hx220_0)
                         (try rw [Addr.add_zero'] at hx220_0)
                         replace p220 := eq_true p220
                         replace q220 := eq_true q220
                         have p68 : 0 ≤ ((rd (rd_L2 x14_4 x96_5) 0) : Int) := of_decide_eq_true (by first | (with_reducible assumption) | assumption)
                         have q68 : ((rd (rd_L2 x14_4 x96_5) 0) : Int) < ((x12_5.length : Int) : Int) := of_decide_eq_true (by first | (with_reducible assumption) | assumption)
                         obtain ⟨go68, co68, eo68, gb68, gl68, cl68, HG68⟩ := Kd.R_form HO_12.out (by omega)
                         (first | cases eo68 | (injection eo68 with ea_ en_ ec_; (first | subst ea_ | (injection ea_ with ea_; subst ea_)); subst ec_; clear en_))
                         have GB68 := Aside0.mk gb68
                         have GG68 := Aside0.mk HG68
                         clear gb68 gl68 HG68
                         obtain ⟨hx68_0, hf68_0⟩ := Kd.R_celln 0 HO_12.out ((rd (rd_L2 x14_4 x96_5) 0) : Int) p68 q68
                         replace p68 := eq_true p68
                         replace q68 := eq_true q68
                         have HP70 := Kd.R_putg HO_12.out ((rd (rd_L2 x14_4 x96_5) 0) : Int) x57_3
                         go_wp2_with (first | ((with_reducible refine gate_dst (N := 98) rfl ?_); refine ExtArr.index_event rfl rfl rfl (of_decide_eq_true (by assumption)) (of_decide_eq_true (by assumption)) at16_ rfl ?_) | ((with_reducible refine gate_store (t := 3) (p := 107) rfl ?_); refine store_event (t := 3) (p := 107) (v := ?vo_w71) (w1 := (wr.setCell ⟨go68, ((rd (rd_L2 x14_4 x96_5) 0) : Int).toNat, none⟩ (.int .i64 x57_3))) ?hg ?ho ?hn ?hr ?_; (case ho => rfl); (case hg => rfl); (case hn => rfl); (case hr => first | (go_simp; done) | (go_simp; rfl)); intro w71 hw; have hg : wr.grownBy w71 (some go68) := (by rw [hw]; exact HP70.2); have hp_ : Kd.R (Kd.int .i64) 3 w71 w.heap.size (fun _ => True) (.slice (some ⟨go68, 0, none⟩) x12_5.length co68) y221 := (by rw [hw, Ny221.out]; exact HP70.1); clear HP70; have n0_ := Aside0.mk (hp_); have n1_ := Aside0.mk (Kd.S_after (v := (.slice (some ⟨go68, 0, none⟩) x12_5.length co68)) (v1 := (.slice (some ⟨go68, 0, none⟩) x12_5.length co68)) (ok := (fun _ => True)) (by (with_reducible repeat (first | apply Kd.S_alloc | apply Kd.S_drewN | apply Kd.S_drew)); exact Kd.S_mono HO_95.out (fun _ hk => ⟨trivial, hk⟩)) hg (.inl rfl)); have n2_ := Aside0.mk (Kd.R_after (v := (.slice (some ⟨go68, 0, none⟩) x12_5.length co68)) (v1 := (.slice (some ⟨go68, 0, none⟩) x12_5.length co68)) (ok := (fun k_ => some k_ ≠ (.slice (some ⟨gbW, 0, none⟩) x14_4.length co69 : Value).ownBlock)) (by (with_reducible repeat (first | apply Kd.R_alloc | apply Kd.R_drewN | apply Kd.R_drew)); exact Kd.R_mono HL219_0.out (fun _ hk => ⟨hk.2, hk.1⟩)) hg (.inl rfl)); have n3_ := Aside0.mk ((by rw [hw]; exact below_set (HB.out) GB68.out : Below w.heap.size w w71)); have n9_ := Aside0.mk (blk_grown (g := gbW) (o := .cells cur16 73 (0, 0)) (by repeat (first | exact HC16.out | refine blk_drewN ?_ _ | refine blk_drew ?_)) hg (Kd.R_ne HO_12.out HC16.out (by decide))); clear HC16; have HC16 := n9_; clear n9_; clear HO_12; clear HO_95; clear HL219_0; clear HB; have HO_12 := n0_; have HO_95 := n1_; have HL219_0 := n2_; have HB := n3_; clear n0_ n1_ n2_ n3_; clear hg hw hp_))
                         go_roundg k5
                         case measure => have := HJ3.out; have := HK2.out; have := HK3.out; have := HK4.out; have := HK5.out; omega
                         case rel => exact ⟨(y221), (wrap64 (x96_5 + 1)), (by first | rfl | (simp; done) | (simp [*]; done)), H', ⟨by have := HJ3.out; have := HK2.out; have := HK3.out; have := HK4.out; have := HK5.out; omega⟩, ⟨by (with_reducible repeat (first | apply Kd.R_alloc | apply Kd.R_drewN | apply Kd.R_drew)); exact HO_12.out⟩, ⟨by (with_reducible repeat (first | apply Kd.S_alloc | apply Kd.S_drewN | apply Kd.S_drew)); exact Kd.S_mono HO_95.out (fun _ hk => hk.2)⟩, ⟨by repeat (first | exact HC16.out | refine blk_drewN ?_ _ | refine blk_drew ?_)⟩, ⟨by repeat (first | (with_reducible first | exact HB.out | apply below_alloc | apply pw_below_drewN | apply below_drew1) | exact HB.out)⟩⟩
                        ·rw [if_neg c67] at H
                         exact absurd H (by simp)
                       ·rw [if_neg c66] at H
                        exact absurd H (by simp)
                      ·rw [if_neg c65] at H
                       exact absurd H (by simp)
                     ·rw [if_neg c64] at H
                      have c64b0 : (((rd_L2 x14_4 x96_5).length : Int) == 1) = false := beq_eq_false_iff_ne.mpr c64
                      have c64b1 : (((rd_L2 x14_4 x96_5).length : Int) != 1) = true := bne_iff_ne.mpr c64
                      have H' := Aside0.mk H
                      clear H
                      obtain ⟨Ao72, co72, eo72⟩ := Kd.S_slice HO_95.out
                      subst eo72
                      obtain ⟨ea_, hl16_, ec_⟩ := ExtArr.slice_eq HVW.out
                      subst ea_
                      have p219 : 0 ≤ (x96_5 : Int) := of_decide_eq_true (by first | (with_reducible assumption) | assumption)
                      have q219 : x96_5 < (x14_4.length : Int) := of_decide_eq_true (by first | (with_reducible assumption) | assumption)
                      obtain ⟨ad219, A219_0, c219_0, e219, hx219_0, hl219_0, hi219_0⟩ := at_L2 (Kd.S_reads' HO_95.out).2.2 x96_5 p219 q219
                      cases e219
                      obtain ⟨ce219, hce219, hMe219, hcc219⟩ := Kd.S_get HO_95.out [] x96_5 p219 (by first | exact q219 | exact of_decide_eq_true (by first | (with_reducible assumption) | assumption) | (have e_ := (Kd.S_reads' HO_95.out).1; omega))
                      obtain ⟨ve219_0, rfl, ge219_0⟩ := hMe219
                      have hv219_0 := hcc219 0 _ rfl
                      rw [Nat.add_zero, show ((Kd.slice 3 (Kd.int .i64))).sz = 1 from rfl, Nat.mul_one] at hv219_0
                      replace hv219_0 := Option.some.inj (hv219_0.symm.trans hx219_0)
                      rw [hv219_0] at ge219_0
                      have HL219_0 := Aside0.mk (show Kd.R (Kd.int .i64) 3 _ _ _ _ (rd_L2 x14_4 x96_5) from ge219_0)
                      clear hv219_0 ge219_0
                      have HX219_0 := Aside0.mk hx219_0
                      have at16_ := ExtArr.at16 HC16.out hx219_0
                      clear hcc219 hce219
                      have HR219_0 := Aside0.mk hi219_0
                      have HC219_0 := Aside0.mk hl219_0
                      clear hi219_0 hl219_0
                      replace p219 := eq_true p219
                      replace q219 := eq_true q219
                      go_wp2_with (first | ((with_reducible refine gate_dst (N := 98) rfl ?_); refine ExtArr.index_event rfl rfl rfl (of_decide_eq_true (by assumption)) (of_decide_eq_true (by assumption)) at16_ rfl ?_))
                      go_roundg k5
                      case measure => have := HJ3.out; have := HK2.out; have := HK3.out; have := HK4.out; have := HK5.out; omega
                      case rel => exact ⟨(x12_5), (wrap64 (x96_5 + 1)), (by first | rfl | (simp; done) | (simp [*]; done)), H', ⟨by have := HJ3.out; have := HK2.out; have := HK3.out; have := HK4.out; have := HK5.out; omega⟩, ⟨by (with_reducible repeat (first | apply Kd.R_alloc | apply Kd.R_drewN | apply Kd.R_drew)); exact HO_12.out⟩, ⟨by (with_reducible repeat (first | apply Kd.S_alloc | apply Kd.S_drewN | apply Kd.S_drew)); exact HO_95.out⟩, ⟨by repeat (first | exact HC16.out | refine blk_drewN ?_ _ | refine blk_drew ?_)⟩, ⟨by repeat (first | (with_reducible first | exact HB.out | apply below_alloc | apply pw_below_drewN | apply below_drew1) | exact HB.out)⟩⟩
                    ·rw [if_neg c63] at H
                     exact absurd H (by simp)
                   ·rw [if_neg c62] at H
                    exact absurd H (by simp)
                  ·rw [if_neg c61] at H
                   have c61b0 : decide (x96_5 < 16) = false := decide_eq_false c61
                   clear c61
                   have H' := Aside0.mk H
                   clear H
                   go_wp2
                   go_roundg k5
                   case measure => have := HJ3.out; have := HK2.out; have := HK3.out; have := HK4.out; have := HK5.out; omega
                   case rel => exact ⟨(x12_5), (wrap64 (x57_3 + 1)), (by first | rfl | (simp; done) | (simp [*]; done)), H', ⟨by have := HJ3.out; have := HK2.out; have := HK3.out; have := HK4.out; have := HK5.out; omega⟩, ⟨by (with_reducible repeat (first | apply Kd.R_alloc | apply Kd.R_drewN | apply Kd.R_drew)); exact HO_12.out⟩, ⟨by repeat (first | (with_reducible first | exact HB.out | apply below_alloc | apply pw_below_drewN | apply below_drew1) | exact HB.out)⟩⟩
            ·rw [if_neg c28] at H
             exact absurd H (by simp)
           ·rw [if_neg c27] at H
            have c27b0 : decide (x57_3 < a2) = false := decide_eq_false c27
            clear c27
            simp only [Option.some.injEq, Prod.mk.injEq] at H
            obtain ⟨rfl, rfl⟩ := H
            go_wp2
            go_ret2
            exact ⟨_, by first | rfl | (simp [errW_none, errW_some] <;> rfl) | (simp [*, errW_none, errW_some] <;> rfl), by (with_reducible repeat (first | apply Kd.R_alloc | apply Kd.R_drewN | apply Kd.R_drew)); exact HO_12.out, by repeat (first | (with_reducible first | exact HB.out | apply below_alloc | apply pw_below_drewN | apply below_drew1) | exact HB.out)⟩
        ·rw [if_neg c22] at H
         exact absurd H (by simp)
       ·rw [if_neg c21] at H
        exact absurd H (by simp)

end Go.Proofs.Ytjioalgfpcdlhaa.Co
