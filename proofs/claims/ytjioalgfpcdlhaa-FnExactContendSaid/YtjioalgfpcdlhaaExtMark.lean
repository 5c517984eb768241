/- laws.markAskerS: what the call gives. By an AI agent. -/
import Derived.Test.YtjioalgfpcdlhaaCox0
import Derived.Test.YtjioalgfpcdlhaaCox9
namespace Go.Proofs.Ytjioalgfpcdlhaa.Co
open Go Go.RowKit Go.Proofs.YtjioalgfpcdlhaaW.PrintWords Go.Proofs.YtjioalgfpcdlhaaW.PrintLast Go.Proofs.YtjioalgfpcdlhaaW.PrintMore
set_option linter.unusedVariables false
set_option linter.unusedSimpArgs false
def laws_markAskerS.l0 : Nat → List (S36) → Int → Int → Option (Int)
 | 0, _, _, _ => none
 | k + 1, x0, x1, x5 => if x5 < (x0.length : Int) then (if 0 ≤ x5 then ((laws_markIntS.f k ((rd_T36 x0 x5).f0) x1).bind fun bt => (laws_markAskerS.l0 k x0 bt.1 (wrap64 (x5 + 1)))) else (none)) else (some x1)
def laws_markAskerS.f (k : Nat) (l0 : List (S36)) (a1 : Int) : Option (Int) := laws_markAskerS.l0 k l0 a1 0
theorem laws_markAskerS.mono_l : ∀ k, (∀ y0 y1 y2, LeO (laws_markAskerS.l0 k y0 y1 y2) (laws_markAskerS.l0 (k + 1) y0 y1 y2))
 | 0 => fun _ _ _ r h => by simp [laws_markAskerS.l0] at h
 | k + 1 => by
  have ih := laws_markAskerS.mono_l k
  intro y0 y1 y2
  unfold laws_markAskerS.l0
  refine LeO.ite (LeO.ite (LeO.bind (laws_markIntS.mono _ _ _) (fun _ => ih _ _ _)) (LeO.none _)) (LeO.refl _)
theorem laws_markAskerS.mono : ∀ a0 a1 k, LeO (laws_markAskerS.f k a0 a1) (laws_markAskerS.f (k + 1) a0 a1) := fun a0 a1 k => laws_markAskerS.mono_l k _ _ _
/-- The rows from q on are as they were; each may be written by itself. -/
def Rest (w : World) (B : Nat) (P : Nat → Prop) (f : Nat → Nat) (ad : Addr) (xs : List S36) (q : Nat) : Prop := ∀ i, q ≤ i → i < xs.length →
  ∃ A c, w.cell? (ad.add i) = some (.slice A (xs.getD i z36).f0.length c) ∧ (Kd.int .i64).R 3 w B (fun k => (P k ∧ k ≠ ad.block) ∧ f k = i) (.slice A (xs.getD i z36).f0.length c) (xs.getD i z36).f0
theorem rest_of {w : World} {B n c : Nat} {P : Nat → Prop} {ad : Addr} {xs : List S36} (h : Kd.S k36 36 w B P (.slice (some ad) n c) xs) : ∃ f, Rest w B P f ad xs 0 := by
  have hn := (Kd.S_reads' h).1
  obtain ⟨f, hR⟩ := h
  refine ⟨f, fun i _ hi => ?_⟩
  obtain ⟨cs, hl, hM, hc⟩ := Kd.R_getA hR (z36, 0) (i : Int) (by omega) (by omega)
  have e : xs.zipIdx.getD (i : Int).toNat (z36, 0) = (xs.getD i z36, i) := by
    simp [List.getD, hi]
  rw [e] at hM
  obtain ⟨u, rfl, hu⟩ := k36_openM hM
  obtain ⟨A, c', rfl⟩ := Kd.R_slice hu
  have h0 := hc 0 _ rfl
  have hs1 : (Kd.tag f k36).sz = 1 := rfl
  rw [hs1, Nat.mul_one, Nat.add_zero, Int.toNat_natCast] at h0
  refine ⟨A, c', h0, Kd.R_mono hu (fun k hk => ?_)⟩
  exact ⟨⟨hk.1.1, fun e => hk.1.2 (by rw [e]; rfl)⟩, hk.2⟩
theorem rest_step {w w' : World} {B q : Nat} {P : Nat → Prop} {f : Nat → Nat} {ad : Addr} {xs : List S36} (h : Rest w B P f ad xs q) (hk : Kept w w' (fun k => (P k ∧ k ≠ ad.block) ∧ f k = q)) : Rest w' B P f ad xs (q + 1) := by
  intro i hq hi
  obtain ⟨A, c, h1, h2⟩ := h i (by omega) hi
  refine ⟨A, c, cell_kept h1 hk (fun hh => hh.1.2 (by rw [add_block])), Kd.R_kept h2 hk (fun k h3 h4 => ?_)⟩
  have := h3.2
  have := h4.2
  omega
theorem empty_of {w : World} {B n c : Nat} {P : Nat → Prop} {xs : List S36} (h : Kd.S k36 36 w B P (.slice none n c) xs) : xs = [] := by
  obtain ⟨f, _, inner, ⟨_, ho⟩, _⟩ := h
  rcases ho with ⟨_, h0⟩ | ⟨g, cap, cur, he, _⟩
  · simpa using h0
  · cases he
theorem len_of {w : World} {B n c : Nat} {P : Nat → Prop} {A : Option Addr} {xs : List S36} (h : Kd.S k36 36 w B P (.slice A n c) xs) : xs.length ≤ 9223372036854775807 := by
  have hn := (Kd.S_reads' h).1
  obtain ⟨f, _, inner, ⟨_, ho⟩, _⟩ := h
  rcases ho with ⟨_, h0⟩ | ⟨g, cap, cur, he, _, _, h1, h2, _⟩
  · have : xs = [] := by simpa using h0
    simp [this]
  · simp only [maxLen, List.length_zipIdx] at h1 h2
    omega
theorem next_ {x : Int} {n : Nat} (h0 : 0 ≤ x) (h1 : x < (n : Int)) (h2 : n ≤ 9223372036854775807) : (wrap64 (x + 1)).toNat = x.toNat + 1 := by
  unfold wrap64
  omega
set_option maxHeartbeats 8000000 in
set_option maxRecDepth 100000 in
theorem laws_markAskerS.calls (k : Nat) (P0_ : Nat → Prop) (u9000_ : Value) (l0 : List S36) (a1 : Int) (r1 : Int) (w0 w : World) (hB : Below w0.heap.size w0 w) (ho0 : Kd.S k36 36 w w0.heap.size P0_ u9000_ l0) (h : laws_markAskerS.f k l0 a1 = some r1) :
    Calls Try.prog 22 #[u9000_, .int .i64 a1] w fun e w' => e = .returned (.int .i64 r1) ∧ Below w0.heap.size w0 w' ∧ Kept w w' (fun k_ => P0_ k_) := by
  have HK := Aside0.mk (Kept.refl w (fun k_ => P0_ k_))
  have HB := Aside0.mk hB
  obtain ⟨A, c, hv⟩ : ∃ A c, u9000_ = .slice A l0.length c := by
    obtain ⟨A, c, e⟩ := Kd.S_slice ho0
    exact ⟨A, c, e⟩
  subst hv
  have HR : Aside0 (l0.length = 0 ∨ ∃ ad f, A = some ad ∧ Rest w w0.heap.size P0_ f ad l0 0) := ⟨by
    cases A with
    | none => exact .inl (by rw [empty_of ho0]; rfl)
    | some ad =>
      obtain ⟨f, hf⟩ := rest_of ho0
      exact .inr ⟨ad, f, rfl, hf⟩⟩
  have HLEN := Aside0.mk (len_of ho0)
  have H' := Aside0.mk (show laws_markAskerS.l0 k l0 a1 0 = some r1 from h)
  clear h hB ho0
  go_enter Try.func22, Try.ntmps22
  go_wp2
  go_loopg [1, 5] k (fun kq v1 v5 w' => ∃ (x1_1 : Int) (x5_1 : Int), v1 = .int .i64 x1_1 ∧ v5 = .int .i64 x5_1 ∧ Aside0 (laws_markAskerS.l0 kq l0 x1_1 x5_1 = some r1) ∧ Aside0 (kq ≤ k) ∧ Aside0 (l0.length = 0 ∨ ∃ ad f, A = some ad ∧ Rest w' w0.heap.size P0_ f ad l0 x5_1.toNat) ∧ Aside0 (Kept w w' (fun k_ => P0_ k_)) ∧ Aside0 (Below w0.heap.size w0 w'))
  case atStart => exact ⟨a1, 0, rfl, rfl, H', ⟨Nat.le_refl _⟩, HR, HK, HB⟩
  case round =>
   clear H' HR
   obtain ⟨x1_1, x5_1, rfl, rfl, HA, HK1, HR1, HK, HB⟩ := hrel
   cases gk with
   | zero => exact absurd HA.out (by simp [laws_markAskerS.l0])
   | succ k1 =>
    have H := HA.out
    clear HA
    simp only [laws_markAskerS.l0] at H
    by_cases c3 : x5_1 < (l0.length : Int)
    · rw [if_pos c3] at H
      have c3b0 : decide (x5_1 < (l0.length : Int)) = true := decide_eq_true c3
      by_cases c4 : 0 ≤ x5_1
      · rw [if_pos c4] at H
        replace H := Option.bind_eq_some_iff.mp H
        obtain ⟨bt, A5, H⟩ := H
        obtain ⟨ad, f, rfl, hrest⟩ := HR1.out.resolve_left (by omega)
        have p5 : (0 ≤ x5_1) = True := eq_true c4
        have q5 : (x5_1 < (l0.length : Int)) = True := eq_true c3
        obtain ⟨Ai, ci, hcell, hrow⟩ := hrest x5_1.toNat (Nat.le_refl _) (by omega)
        have A5' := Aside0.mk (show laws_markIntS.f k1 (l0.getD x5_1.toNat z36).f0 x1_1 = some (bt.1, bt.2) from A5)
        have H'' := Aside0.mk H
        have HROW := Aside0.mk hrow
        have HREST := Aside0.mk hrest
        have HW := Aside0.mk c3
        clear H A5 hrow hrest c3 HR1
        generalize hX : (l0.getD x5_1.toNat z36).f0 = X at hcell HROW A5'
        clear hX
        go_wp2_with (first | (go_at_call 23; refine (laws_markIntS.calls k1 (fun k_ => (P0_ k_ ∧ k_ ≠ ad.block) ∧ f k_ = x5_1.toNat) _ X x1_1 bt.1 bt.2 w0 _ HB.out HROW.out A5'.out).mono ?_; rintro e w9 ⟨rfl, _, hb, hk⟩; have HRN := Aside0.mk (rest_step HREST.out hk); have HKN := Aside0.mk (HK.out.then_ hk (fun k_ h_ => .inl h_.1.1)); have HBN := Aside0.mk hb; clear hb hk HREST HROW hcell))
        go_roundg k1
        case measure => have := HK1.out; omega
        case rel => exact ⟨bt.1, wrap64 (x5_1 + 1), by first | rfl | (simp; done), by first | rfl | (simp; done) | (simp [*]; done), H'', ⟨by have := HK1.out; omega⟩, ⟨.inr ⟨ad, f, rfl, by rw [next_ c4 HW.out HLEN.out]; exact HRN.out⟩⟩, HKN, HBN⟩
      · rw [if_neg c4] at H
        exact absurd H (by simp)
    · rw [if_neg c3] at H
      have c3b0 : decide (x5_1 < (l0.length : Int)) = false := decide_eq_false c3
      clear c3
      obtain rfl := Option.some.inj H
      go_wp2
      go_ret
      exact ⟨rfl, HB.out, HK.out⟩
theorem keepR {w w' : World} {base : Nat} {ok P : Nat → Prop} {v : Value} {xs : List Int} (h : (Kd.int .i64).R 3 w base ok v xs) (hk : Kept w w' P) (hP : ∀ k, v.ownBlock = some k → ¬ P k) : (Kd.int .i64).R 3 w' base ok v xs := by
  have hlt := Kd.R_lt h
  obtain ⟨h1, inner, ho, hr⟩ := h
  exact ⟨h1, inner, own_move ho (fun k e => hk.2 k (hlt k e) (hP k e)), hr⟩
end Go.Proofs.Ytjioalgfpcdlhaa.Co
