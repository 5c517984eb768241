/- slices.DeleteFunc with the closure of impl.Try (an end that is not behind the tick goes): what the call gives. By an AI agent. -/
import Derived.Test.YtjioalgfpcdlhaaDFLay
import Derived.Test.YtjioalgfpcdlhaaWWords
import Derived.Sort.OwnSortedInts
import Derived.Lib.SliceRun
import Derived.Handy
namespace Go.Proofs.Ytjioalgfpcdlhaa.ExtDF
open Go.Shelf Go.RowKit Go.Lib Go.Sort Go.Proofs.YtjioalgfpcdlhaaW.PrintWords
set_option linter.unusedVariables false

theorem gives57 (t x : Int) (B : Nat) (W : World) (hc : W.cell? ⟨B, 0, none⟩ = some (.int .i64 t)) :
    FnGives Try.prog 57 #[.pointer (some ⟨B, 0, none⟩)] #[.int .i64 x] (.bool (decide (x ≤ t))) W := by
  show Calls Try.prog 57 #[.int .i64 x, .pointer (some ⟨B, 0, none⟩)] W _
  go_enter Try.func57, Try.ntmps57
  go_wp2
  all_goals (go_ret; exact ⟨by simp_all, 0, rfl⟩)

theorem pred57 (t : Int) (B : Nat) (w : World) (hB : B < w.heap.size) (hcell : w.cell? ⟨B, 0, none⟩ = some (.int .i64 t)) :
    PredAt Try.prog 57 #[.pointer (some ⟨B, 0, none⟩)] (Value.int .i64) (fun x => decide (x ≤ t)) w :=
  fun W x hb => gives57 t x B W ((hb.cell (p := ⟨B, 0, none⟩) hB).trans hcell)
theorem over57 (t : Int) (B blk off size : Nat) (w : World) (hB : B < w.heap.size) (hne : B ≠ blk) (hcell : w.cell? ⟨B, 0, none⟩ = some (.int .i64 t)) :
    PredOver Try.prog 57 #[.pointer (some ⟨B, 0, none⟩)] (Value.int .i64) (fun x => decide (x ≤ t)) blk off size w :=
  fun n os dk x _ => gives57 t x B _ (by
    unfold sortWorld
    rw [cell?_grow _ _ _ (by show B < (putRow _ _ _ _ _).heap.size; rw [size_putRow]; exact hB), cell?_putRow_other _ _ blk off _ _ (Or.inl hne)]
    exact hcell)
theorem idx_nil (f : Value) (w : World) : Calls Try.prog 71 #[.slice none 0 0, f] w fun e w' => e = .returned (.int .i64 (-1)) ∧ w = w' := by
  go_enter Try.func71, Try.ntmps71
  go_wp2
  go_loop [8] (fun i => i = .int .i64 0) (fun _ => 0)
  case atStart => rfl
  case round =>
    subst hrel
    go_wp2
    go_ret
    exact ⟨rfl, rfl⟩
theorem del_nil (f : Value) (w : World) : Calls Try.prog 56 #[.slice none 0 0, f] w fun e w' => e = .returned (.slice none 0 0) ∧ w = w' := by
  go_enter Try.func56, Try.ntmps56
  go_wp2_with (go_at_call 71; refine (idx_nil _ _).mono ?_; rintro e w' ⟨rfl, rfl⟩)
  go_ret
  exact ⟨rfl, rfl⟩
theorem encs_int (xs : List Int) : encs (Value.int .i64) xs = xs.map (Value.int .i64) := rfl
theorem calls {w0 W : World} (base : Nat) (v : Value) (xs : List Int) (t h c : Int) (g : Nat) (ok : Nat → Prop) (HO : (Kd.int .i64).R 3 W base ok v xs) (HB : Below base w0 W) (hbase : base ≤ W.heap.size)
    (hbox : W.heap[g]? = some (.cells #[.int .i64 t, .int .i64 h, .int .i64 c] 51 (0, 0))) (hne : some g ≠ v.ownBlock) :
    Calls Try.prog 56 #[v, .func (.func 57) #[] #[.pointer (some ⟨g, 0, none⟩)]] W fun e w1 => ∃ v1, e = .returned v1 ∧ (Kd.int .i64).R 3 w1 base ok v1 (xs.filter fun e_ => !decide (e_ ≤ t)) ∧ Below base w0 w1 ∧ W.grownBy w1 v.ownBlock ∧ (v1.ownBlock = v.ownBlock ∨ ∃ b, v1.ownBlock = some b ∧ W.heap.size ≤ b) := by
  have hok := HO.1
  have ho := Kd.own_of_R (enc := Value.int .i64) (h1 := fun _ => rfl) HO
  rw [encs_int] at ho
  rcases ho.2 with ⟨rfl, hx⟩ | ⟨b, cap, cur, rfl, hb, hh, h1, h2, h3, h4⟩
  · have hx0 : xs = [] := by simpa using hx
    subst hx0
    refine (del_nil _ _).mono ?_
    rintro e w' ⟨rfl, rfl⟩
    exact ⟨_, rfl, by simpa using HO, HB, grown_of_below (Below.refl _ _) _, .inl rfl⟩
  · have hgb : g ≠ b := fun e => hne (by rw [e]; rfl)
    have hgl : g < W.heap.size := (Array.getElem?_eq_some_iff.1 hbox).1
    have hcell : W.cell? ⟨g, 0, none⟩ = some (.int .i64 t) := by simp [World.cell?, hbox]
    have eg : ∀ args w, (callFunc 57 args).run Try.prog w = .ok (.enter 57 args) w := enters_of Try.func57 (by kernel_rfl) rfl
    have hH : Holds (Value.int .i64) W b 0 xs.toArray := holds_of_blockI hh (by simpa using h4)
    have hcon := AnyE.slices_DeleteFunc Try.ldf (Value.int .i64) (fun _ => rfl) (fun x => decide (x ≤ t)) 57 #[.pointer (some ⟨g, 0, none⟩)] eg 0 Try.zeroValue3 b 0 cap xs.toArray W
      (pred57 t g _ hgl hcell) (over57 t g b 0 _ _ hgl hgb hcell) hH (by simp [maxLen] at h2 ⊢; omega) (by simpa using h1)
    change Calls Try.prog 56 _ _ _ at hcon
    have hcon' : Calls Try.prog 56 #[.slice (some ⟨b, 0, none⟩) xs.length cap, .func (.func 57) #[] #[.pointer (some ⟨g, 0, none⟩)]] W fun e w' => e = .returned (.slice (some ⟨b, 0, none⟩) (xs.filter fun x => !decide (x ≤ t)).length cap) ∧ ∃ q, w' = putRow (Value.int .i64) (Sort.ahead W q) b 0 ((xs.filter fun x => !decide (x ≤ t)) ++ List.replicate (xs.length - (xs.filter fun x => !decide (x ≤ t)).length) 0).toArray := by simpa using hcon
    refine hcon'.mono ?_
    rintro e w1 ⟨rfl, q, rfl⟩
    have hfl : (xs.filter fun x => !decide (x ≤ t)).length ≤ xs.length := List.length_filter_le _ _
    generalize hF : (xs.filter fun x => !decide (x ≤ t)) = F at hfl ⊢
    have eW : ∀ w : World, w = grow w #[] := fun w => by simp [grow]
    have hg : W.grownBy (putRow (Value.int .i64) (Sort.ahead W q) b 0 (F ++ List.replicate (xs.length - F.length) 0).toArray) (some b) := by
      rw [eW (putRow _ _ _ _ _)]; exact grownBy_sortedI _
    have hheap : (putRow (Value.int .i64) (Sort.ahead W q) b 0 (F ++ List.replicate (xs.length - F.length) 0).toArray).heap[b]? = some (.cells (putCells (Value.int .i64) 0 (F ++ List.replicate (xs.length - F.length) 0).toArray cur) 3 (0, 0)) := by
      rw [eW (putRow _ _ _ _ _)]; exact heap_sortedI _ hh
    refine ⟨_, rfl, Kd.R_of_own (enc := Value.int .i64) (h1 := fun _ => rfl) ⟨by simp [encs], .inr ⟨b, cap, _, rfl, hb, hheap, by omega, h2, by simp [putCells, h3], ?_⟩⟩ (by simpa [Value.ownBlock] using hok), pw_below_grown HB (some b) hbase hg (fun k hk => by injection hk with hk; omega), hg, .inl rfl⟩
    have h5 := take_putCellsI cur (F ++ List.replicate (xs.length - F.length) 0) (by simp; omega)
    rw [Nat.mul_one, encs_int]
    have h6 := congrArg (List.take F.length) h5
    rw [List.take_take, List.length_append] at h6
    simpa using h6
end Go.Proofs.Ytjioalgfpcdlhaa.ExtDF
