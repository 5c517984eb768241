/- slices.Repeat of a row of one int: what the call gives. By an AI agent. -/
import Derived.Test.YtjioalgfpcdlhaaCox3
import Derived.Laws.MathBits
import Derived.Laws.CopyOwn
import Derived.Laws.CopyRow
import Derived.Handy
import Derived.Deep.RegionLaw
namespace Go.Proofs.Ytjioalgfpcdlhaa.ExtRep
open Go Go.RowKit Go.Proofs.Ytjioalgfpcdlhaa.Co Go.Proofs.YtjioalgfpcdlhaaW.PrintWords
set_option linter.unusedVariables false
set_option linter.unusedSimpArgs false
theorem u64w {x : Int} (h0 : 0 ≤ x) (h1 : x < 18446744073709551616) : IntKind.u64.wrap x = x := by
  simp only [IntKind.wrap, IntKind.signed, IntKind.bits, IntKind.min, IntKind.max]
  simp
  omega
theorem mul1 (n : Int) (h0 : 0 ≤ n) (h1 : n ≤ 35184372088832) : bits_Mul.f 1 n = some (0, n) := by
  unfold bits_Mul.f bits_Mul64.f
  have a1 : Go.bits .and .u64 1 4294967295 = 1 := (and_low32 1 (by omega) (by omega)).trans rfl
  have a0 : Go.bits .and .u64 0 4294967295 = 0 := (and_low32 0 (by omega) (by omega)).trans rfl
  have a2 : Go.bits .and .u64 n 4294967295 = n % 4294967296 := and_low32 n h0 (by omega)
  have d1 : (1 : Int) / 4294967296 = 0 := rfl
  have z : IntKind.u64.wrap 0 = 0 := u64w (by omega) (by omega)
  have l1 : IntKind.u64.wrap (n % 4294967296) = n % 4294967296 := u64w (by omega) (by omega)
  have l2 : IntKind.u64.wrap (n / 4294967296) = n / 4294967296 := u64w (by omega) (by omega)
  have l3 : n % 4294967296 / 4294967296 = 0 := by omega
  have l4 : n / 4294967296 / 4294967296 = 0 := by omega
  have l5 : IntKind.u64.wrap n = n := u64w h0 (by omega)
  have l6 : (0 : Int) / 4294967296 = 0 := rfl
  simp only [a1, a2, d1, Int.zero_mul, Int.one_mul, z, l1, l3, Int.add_zero, Int.zero_add, a0, l2, l4, l5, l6, Option.bind_some]
theorem blockOf {w : World} {base s : Nat} {ok : Nat → Prop} {v : Value} {xs : List Int} (ho : (Kd.int .i64).R 3 w base ok v xs) (hnew : ∃ b, v.ownBlock = some b ∧ s ≤ b) :
    ∃ g cap cur, v = .slice (some ⟨g, 0, none⟩) xs.length cap ∧ s ≤ g ∧ w.heap[g]? = some (.cells cur 3 (0, 0)) ∧ xs.length ≤ cap ∧ cap ≤ maxLen ∧ cur.size = cap := by
  have h := Kd.own_of_R (enc := Value.int .i64) (h1 := fun _ => rfl) ho
  obtain ⟨b, hb, hs⟩ := hnew
  rcases h.2 with ⟨rfl, _⟩ | ⟨g, cap, cur, rfl, h1, h2, h3, h4, h5, h6⟩
  · simp [Value.ownBlock] at hb
  · have : g = b := by simpa [Value.ownBlock] using hb
    exact ⟨g, cap, cur, rfl, by omega, h2, h3, h4, by simpa using h5⟩
theorem posOf {W w : World} {ad : Addr} {n : Nat} (hb : Below W.heap.size W w) (hx : W.cell? (ad.add (Int.toNat 0)) = some (Value.int .i64 (rd [-1] 0))) : ∀ j v, (List.replicate (Nat.min 1 n) (Value.int .i64 (-1)))[j]? = some v → w.cell? (ad.add j) = some v := by
  intro j v hj
  obtain ⟨hj1, rfl⟩ := List.getElem?_eq_some_iff.1 hj
  have hj0 : j = 0 := by have : Nat.min 1 n ≤ 1 := Nat.min_le_left 1 n; rw [List.length_replicate] at hj1; omega
  subst hj0
  rw [List.getElem_replicate]
  exact (hb.cell (World.block_lt_of_cell? W _ hx)).trans hx
def Filled (w : World) (g cap m : Nat) : Prop := ∃ cur : List Value, w.heap[g]? = some (.cells cur.toArray 3 (0, 0)) ∧ cur.length = cap ∧ ∀ j, j < m → cur[j]? = some (.int .i64 (-1))
theorem fill1 {w : World} {g cap n : Nat} {cur : Array Value} (hc : cur.size = cap) (hn : n ≤ cap) (hh : w.heap[g]? = some (.cells (splice cur.toList 0 (List.replicate (Nat.min 1 n) (Value.int .i64 (-1)))).toArray 3 (0, 0))) : Filled w g cap (Nat.min 1 n) := by
  refine ⟨_, hh, by have : Nat.min 1 n ≤ n := Nat.min_le_right 1 n; simp only [splice, List.take_zero, List.nil_append, List.length_append, List.length_replicate, List.length_drop, Array.length_toList, Nat.zero_add]; omega, fun j hj => ?_⟩
  simp only [splice, List.take_zero, List.nil_append]
  rw [List.getElem?_append_left (by simpa using hj), List.getElem?_replicate, if_pos hj]
theorem srcOf {w : World} {g cap m q : Nat} {cur : List Value} (h1 : w.heap[g]? = some (.cells cur.toArray 3 (0, 0))) (h2 : cur.length = cap) (h3 : ∀ j, j < m → cur[j]? = some (.int .i64 (-1))) : ∀ j v, (List.replicate (Nat.min m q) (Value.int .i64 (-1)))[j]? = some v → w.cell? ((⟨g, 0, none⟩ : Addr).add j) = some v := by
  intro j v hj
  obtain ⟨hj1, rfl⟩ := List.getElem?_eq_some_iff.1 hj
  rw [List.length_replicate] at hj1
  have hjm : j < m := Nat.lt_of_lt_of_le hj1 (Nat.min_le_left _ _)
  rw [List.getElem_replicate]
  have h4 := h3 j hjm
  have e : ((⟨g, 0, none⟩ : Addr).add j) = ⟨g, j, none⟩ := by unfold Addr.add; split <;> simp_all
  rw [e]
  simp [World.cell?, h1, h4]
theorem fill2 {w : World} {g cap m q : Nat} {cur : List Value} (h2 : cur.length = cap) (h3 : ∀ j, j < m → cur[j]? = some (.int .i64 (-1))) (hq : m + q ≤ cap) (hh : w.heap[g]? = some (.cells (splice cur m (List.replicate q (Value.int .i64 (-1)))).toArray 3 (0, 0))) : Filled w g cap (m + q) := by
  refine ⟨_, hh, by simp only [splice, List.length_append, List.length_replicate, List.length_drop, List.length_take]; omega, fun j hj => ?_⟩
  simp only [splice]
  by_cases c : j < m
  · rw [List.getElem?_append_left (by rw [List.length_take]; omega), List.getElem?_take_of_lt c]
    exact h3 j c
  · rw [List.getElem?_append_right (by rw [List.length_take]; omega), List.length_take, List.getElem?_append_left (by rw [List.length_replicate]; omega), List.getElem?_replicate, if_pos (by omega)]
theorem endR {w : World} {B g cap N m : Nat} (hg : B ≤ g) (hN : N ≤ cap) (hm : cap ≤ maxLen) (e : m = N) (hf : Filled w g cap m) : (Kd.int .i64).R 3 w B (fun _ => True) (.slice (some ⟨g, 0, none⟩) N cap) (List.replicate N (-1)) := by
  subst e
  obtain ⟨cur, h1, h2, h3⟩ := hf
  refine Kd.R_of_own (enc := Value.int .i64) (h1 := fun _ => rfl) ⟨by simp [encs], .inr ⟨g, cap, cur.toArray, by simp, hg, h1, by simpa using hN, hm, by simpa using h2, ?_⟩⟩ (fun _ _ => trivial)
  apply List.ext_getElem?
  intro j
  simp only [List.length_replicate, Nat.mul_one, encs, List.map_replicate]
  by_cases hj : j < m
  · rw [List.getElem?_take_of_lt hj, List.getElem?_replicate, if_pos hj]
    exact h3 j hj
  · rw [List.getElem?_take, if_neg hj, List.getElem?_replicate, if_neg hj]
set_option maxHeartbeats 8000000 in
set_option maxRecDepth 100000 in
theorem calls (W : World) (A : Option Addr) (c : Nat) (n : Int) (h0 : 0 ≤ n) (h1 : n.toNat ≤ 35184372088832) (hA : Kd.C (Kd.int .i64) W A 1 [-1]) : Calls Try.prog 46 #[.slice A 1 c, .int .i64 n] W fun e w1 => ∃ v1, e = .returned v1 ∧ (Kd.int .i64).R 3 w1 W.heap.size (fun _ => True) v1 (List.replicate n.toNat (-1)) ∧ Below W.heap.size W w1 := by
  obtain ⟨N, rfl⟩ := Int.eq_ofNat_of_zero_le h0
  rw [Int.toNat_natCast] at h1 ⊢
  obtain ⟨ad, ea, hx⟩ := Kd.at_int hA 0 (by omega) (by simp)
  cases ea
  have hm := mul1 (N : Int) h0 (by omega)
  have n1 : decide ((N : Int) < 0) = false := decide_eq_false (by omega)
  have wu : IntKind.u64.wrap (N : Int) = (N : Int) := u64w h0 (by omega)
  have wu1 : IntKind.u64.wrap 1 = 1 := u64w (by omega) (by omega)
  have n2 : decide (9223372036854775807 < (N : Int)) = false := decide_eq_false (by omega)
  go_enter Try.func46, Try.ntmps46
  go_wp2_with (first | ((with_reducible refine gate_callee (f := 66) rfl ?_); refine goesL_ (some 12) rfl rfl Try.func66 (by kernel_rfl) rfl #[.int .u64 1, .int .u64 (N : Int)] rfl (by (try simp only [List.map_toArray, List.map_cons, List.map_nil]); first | done | rfl) ?_; (with_reducible refine (bits_Mul.calls 1 (N : Int) 0 (N : Int) _ hm).mono ?_); rintro e w' ⟨rfl, ⟨nd, rfl⟩⟩; refine ⟨_, rfl, ?_⟩) | (go_at_call 66; (with_reducible refine (bits_Mul.calls 1 (N : Int) 0 (N : Int) _ hm).mono ?_); rintro e w' ⟨rfl, ⟨nd, rfl⟩⟩) |
    ((with_reducible refine gate_dst (N := 30) rfl ?_); (try (refine gate_guard (by rfl) ?_; dsimp only)); refine Kd.R_make (Kd.int .i64) _ 3 rfl (N := 30) rfl 27 _ _ rfl (N : Int) rfl rfl Try.underlying27 (.int .i64 0) 8 info3 rfl (by decide) (by omega) 0 (ok := fun _ => True) (okp := fun _ => True) rfl (fun _ hk => hk) trivial h0 (Nat.le_trans (Nat.mul_le_mul_right _ h1) (by omega)) (Below.refl _ _) (Nat.le_refl _) ?_; intro v1 w1 ho hb hg_ hnew_; obtain ⟨g, cap, cur, rfl, hg1, hh, hn1, hm1, hc1⟩ := blockOf ho hnew_; clear hg_ hnew_ ho; simp only [List.length_replicate, Int.toNat_natCast] at hn1 ⊢; have HB := Aside0.mk (show Below W.heap.size W w1 from below_step (by repeat (first | exact Below.refl _ _ | apply pw_below_drewN | apply below_drew1)) hb); have HG := Aside0.mk (show W.heap.size ≤ g by simpa using hg1); have HH := Aside0.mk hh; clear hb hg1 hh) |
    ((with_reducible refine gate_builtin (b := .copy) (xs := #[.tmp 31, .tmp 32]) rfl ?_); refine wpList_copy_splice rfl (.tmp 31) (.tmp 32) 27 27 rfl 3 Try.underlying27 (by kernel_rfl) (some ⟨g, 0, none⟩) (some ad) N cap 1 c rfl rfl g 0 cur.toList 3 (by simpa using HH.out) (List.replicate (Nat.min 1 N) (.int .i64 (-1))) (by simp) ?hpos ?hfit ?hone W.heap.size W HB.out HG.out ?_; (case hpos => exact fun _ => ⟨rfl, ad, rfl, posOf HB.out hx⟩); (case hfit => have : Nat.min 1 N ≤ N := Nat.min_le_right 1 N; rw [List.length_replicate, Array.length_toList]; omega); (case hone => intro v hv; rw [(List.mem_replicate.1 hv).2]; rfl); intro w2 hh2 hb2; have HF := Aside0.mk (fill1 hc1 hn1 hh2); have HB2 := Aside0.mk hb2; clear hh2 hb2))
  go_loopg [8] (N + 1) (fun kq v8 w' => ∃ (m : Nat), v8 = .int .i64 (m : Int) ∧ Aside0 (m ≤ N) ∧ Aside0 (0 < N → 1 ≤ m) ∧ Aside0 (N - m + 1 ≤ kq) ∧ Aside0 (Filled w' g cap m) ∧ Aside0 (Below W.heap.size W w'))
  case atStart => exact ⟨Nat.min 1 N, rfl, ⟨Nat.min_le_right _ _⟩, ⟨fun h => Nat.le_min.2 ⟨Nat.le_refl _, h⟩⟩, ⟨by omega⟩, HF, HB2⟩
  case round =>
   obtain ⟨m, rfl, HM, HP, HK, HF, HB⟩ := hrel
   cases gk with
   | zero => exact absurd HK.out (by omega)
   | succ k1 =>
    by_cases hlt : m < N
    · have c1 : decide ((m : Int) < (N : Int)) = true := decide_eq_true (by omega)
      have hm1' := HP.out (by omega)
      have hmN := HM.out
      obtain ⟨cur', f1, f2, f3⟩ := HF.out
      have b1 : (m : Int) ≤ (N : Int) := by omega
      have b2 : (m : Int) ≤ (cap : Int) := by omega
      have b3 : 0 ≤ (m : Int) := by omega
      have b4 : (N : Int) ≤ (cap : Int) := by omega
      have b5 : N ≤ cap := hn1
      have b6 : m ≤ cap := by omega
      go_wp2
      go_region_law (refine step_copy_splice rfl (.tmp 41) (.tmp 44) 27 27 rfl 3 Try.underlying27 (by kernel_rfl) (some ⟨g, m, none⟩) (some ⟨g, 0, none⟩) (N - m) (cap - m) m cap (by simp [Act.eval, Act.put]; omega) (by simp [Act.eval, Act.put]) g m cur' 3 f1 (List.replicate (Nat.min m (N - m)) (.int .i64 (-1))) (by simp) (fun _ => ⟨rfl, _, rfl, srcOf f1 f2 f3⟩) (by rw [List.length_replicate]; have : Nat.min m (N - m) ≤ N - m := Nat.min_le_right _ _; omega) (fun v hv => by rw [(List.mem_replicate.1 hv).2]; rfl) W.heap.size W (by repeat (first | exact HB.out | apply pw_below_drewN | apply below_drew1)) HG.out ?_; intro w3 hh3 hb3)
      all_goals
       (go_wp2
        go_roundg k1
        case measure => omega
        case rel =>
         have q1 : Nat.min m (N - m) ≤ N - m := Nat.min_le_right _ _
         have q2 : 1 ≤ Nat.min m (N - m) := Nat.le_min.2 ⟨hm1', by omega⟩
         refine ⟨m + Nat.min m (N - m), ?_, ⟨by omega⟩, ⟨fun _ => by omega⟩, ⟨by have := HK.out; omega⟩, ⟨?_⟩, ⟨?_⟩⟩
         · congr 1
           have : -9223372036854775808 ≤ (m : Int) + (Nat.min m (N - m) : Nat) ∧ (m : Int) + (Nat.min m (N - m) : Nat) ≤ 9223372036854775807 := by omega
           simp only [IntKind.wrap, IntKind.signed, IntKind.bits, IntKind.min, IntKind.max]
           simp
           omega
         · exact fill2 f2 f3 (by omega) hh3
         · exact hb3)
    · have c1 : decide ((m : Int) < (N : Int)) = false := decide_eq_false (by omega)
      go_wp2
      go_ret
      exact ⟨_, rfl, endR HG.out hn1 hm1 (by have := HM.out; omega) HF.out, HB.out⟩
theorem calls' (W : World) (A : Option Addr) (c : Nat) (xs : List Int) (n : Int) (hxs : xs = [-1]) (h0 : 0 ≤ n) (h1 : n.toNat ≤ 35184372088832) (hA : Kd.C (Kd.int .i64) W A xs.length xs) : Calls Try.prog 46 #[.slice A xs.length c, .int .i64 n] W fun e w1 => ∃ v1, e = .returned v1 ∧ (Kd.int .i64).R 3 w1 W.heap.size (fun _ => True) v1 (List.replicate n.toNat (-1)) ∧ Below W.heap.size W w1 := by
  subst hxs
  exact calls W A c n h0 h1 hA
end Go.Proofs.Ytjioalgfpcdlhaa.ExtRep
