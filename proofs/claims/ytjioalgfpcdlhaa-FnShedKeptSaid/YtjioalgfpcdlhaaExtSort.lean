/- slices.Sort over a row of the call's own: what the call gives. By an AI agent. -/
import Derived.Test.YtjioalgfpcdlhaaSOLay
import Derived.Test.YtjioalgfpcdlhaaWWords
import Derived.Test.YtjioalgfpcdlhaaWKept
import Derived.Sort.OwnSortedInts
import Derived.Lib.SliceRun
import Derived.Handy
namespace Go.Proofs.Ytjioalgfpcdlhaa.Sh
open Go.Shelf Go.RowKit Go.Lib Go.Sort Go.Proofs.YtjioalgfpcdlhaaW.PrintWords
set_option linter.unusedVariables false
def slices_Sort_int_int.f (k : Nat) (l0 : List Int) : Option (List Int) := if l0.length < 4611686018427387904 then some (l0.mergeSort fun x y => decide (x ≤ y)) else none
theorem slices_Sort_int_int.mono : ∀ a0 k, LeO (slices_Sort_int_int.f k a0) (slices_Sort_int_int.f (k + 1) a0) := fun _ _ => LeO.refl _
theorem slices_Sort_int_int.calls (k : Nat) (P0_ : Nat → Prop) (u9000_ : Value) (l0 : List Int) (r : List Int) (w0 w : World) (hB : Below w0.heap.size w0 w) (ho0 : Kd.R (Kd.int .i64) 3 w w0.heap.size P0_ u9000_ l0) (h : slices_Sort_int_int.f k l0 = some r) :
    Calls Try.prog 64 #[u9000_] w fun e w' => e = .returned (.tuple #[]) ∧ Kd.R (Kd.int .i64) 3 w' w0.heap.size (fun k_ => (P0_ k_ ∨ w.heap.size ≤ k_)) u9000_ r ∧ Below w0.heap.size w0 w' ∧ Kept w w' (fun k_ => P0_ k_) := by
  unfold slices_Sort_int_int.f at h
  split at h
  case isFalse => cases h
  rename_i hsz
  obtain rfl := Option.some.inj h
  clear h
  have hok := ho0.1
  have ho := Kd.own_of_R (enc := Value.int .i64) (h1 := fun _ => rfl) ho0
  have hbase := hB.size
  rw [show encs (Value.int .i64) l0 = l0.map (Value.int .i64) from rfl] at ho
  by_cases h0 : l0 = []
  · subst h0
    have hs : ∃ p c, u9000_ = .slice p 0 c := by
      rcases ho.2 with ⟨rfl, _⟩ | ⟨b, cap, cur, rfl, _⟩
      · exact ⟨_, _, rfl⟩
      · exact ⟨_, _, rfl⟩
    obtain ⟨p, c, rfl⟩ := hs
    refine (Any.slices_Sort_int_none Try.lso p c w).mono ?_
    rintro e w' ⟨rfl, rfl⟩
    exact ⟨rfl, Kd.R_mono (by simpa using ho0) (fun k_ hk => .inl hk), hB, Kept.refl _ _⟩
  · rcases ho.2 with ⟨rfl, hx⟩ | ⟨b, cap, cur, rfl, hb, hh, h1, h2, h3, h4⟩
    · exact (h0 (by simpa using hx)).elim
    · have hbl : b < w.heap.size := (Array.getElem?_eq_some_iff.1 hh).1
      have hH : Holds (Value.int .i64) w b 0 l0.toArray := holds_of_blockI hh (by simpa using h4)
      have hcon := Any.slices_Sort_int Try.lso b 0 cap l0 w hH hbl hsz
      change Calls Try.prog 64 _ _ _ at hcon
      refine hcon.mono ?_
      rintro e w1 ⟨rfl, q, os, rfl⟩
      have hlen : (l0.mergeSort fun x y => decide (x ≤ y)).length = l0.length := List.length_mergeSort _
      generalize hF : (l0.mergeSort fun x y => decide (x ≤ y)) = F at hlen ⊢
      have hg : w.grownBy (grow (putRow (Value.int .i64) (Sort.ahead w q) b 0 F.toArray) os) (some b) := grownBy_sortedI _
      have hheap : (grow (putRow (Value.int .i64) (Sort.ahead w q) b 0 F.toArray) os).heap[b]? = some (.cells (putCells (Value.int .i64) 0 F.toArray cur) 3 (0, 0)) := heap_sortedI _ hh
      refine ⟨rfl, Kd.R_of_own (enc := Value.int .i64) (h1 := fun _ => rfl) ⟨by simp [encs, hlen], .inr ⟨b, cap, _, by simp [hlen], hb, hheap, by simpa [hlen] using h1, h2, by simp [putCells, h3], ?_⟩⟩ (fun k_ hk_ => .inl (hok k_ (by simpa [Value.ownBlock] using hk_))), pw_below_grown hB (some b) hbase hg (fun k hk => by injection hk with hk; omega), Kept.of_grown hg (Kept.refl w _) (fun k hk => .inl (hok k (by simpa [Value.ownBlock] using hk)))⟩
      have h5 := take_putCellsI cur F (by omega)
      rw [show encs (Value.int .i64) F = F.map (Value.int .i64) from rfl]
      rw [Nat.mul_one]
      exact h5
end Go.Proofs.Ytjioalgfpcdlhaa.Sh
