/- impl.Contend and spec.Contend over plain lists. By an AI agent. -/
import Derived.Test.YtjioalgfpcdlhaaCox2
import Derived.Test.YtjioalgfpcdlhaaCox4
import Derived.Test.YtjioalgfpcdlhaaCox6
import Derived.Test.YtjioalgfpcdlhaaCoMath
namespace Go.Proofs.Ytjioalgfpcdlhaa.CoMain
set_option linter.unusedVariables false
set_option linter.unusedSimpArgs false
open Go Go.RowKit Go.Proofs.Ytjioalgfpcdlhaa.Co Go.Proofs.YtjioalgfpcdlhaaW.PrintWords Go.Proofs.Ytjioalgfpcdlhaa.CoMath
theorem w64 {x : Int} (h1 : -9223372036854775808 ≤ x) (h2 : x ≤ 9223372036854775807) : wrap64 x = x := by unfold wrap64; omega
theorem in_at (a b c : Int) : impl_in.f a b c = some (decide (b ≤ a) && decide (a ≤ c)) := by
  unfold impl_in.f
  by_cases h : a ≥ b
  · rw [if_pos h, decide_eq_true (show b ≤ a from h)]; simp
  · rw [if_neg h, decide_eq_false (show ¬ b ≤ a from h)]; simp
theorem in_at2 (a b c : Int) : spec_l1In.f a b c = some (decide (b ≤ a) && decide (a ≤ c)) := by
  unfold spec_l1In.f
  by_cases h : a ≥ b
  · rw [if_pos h, decide_eq_true (show b ≤ a from h)]; simp
  · rw [if_neg h, decide_eq_false (show ¬ b ≤ a from h)]; simp
theorem rdI (l : List Int) (i : Nat) : rd l (i : Int) = l.getD i 0 := by simp [rd]
theorem drop_cons {α : Type _} {l : List α} {q : Nat} {r : α} {rs : List α} (d : α) (h : l.drop q = r :: rs) : q < l.length ∧ l.getD q d = r ∧ l.drop (q + 1) = rs := by
  have hl : q < l.length := by
    by_cases c : q < l.length
    · exact c
    · rw [List.drop_eq_nil_of_le (by omega)] at h; cases h
  rw [List.drop_eq_getElem_cons hl] at h
  injection h with h1 h2
  exact ⟨hl, by simp [List.getD, hl, h1], h2⟩
theorem drop_nil {α : Type _} {l : List α} {q : Nat} (h : l.drop q = []) (hq : q ≤ l.length) : q = l.length := by
  have := congrArg List.length h
  simp at this
  omega
def CoinOk (c : Int) : Prop := 0 ≤ c ∧ c ≤ 1000
def AllOk (A : List S36) : Prop := ∀ a ∈ A, ∀ c ∈ a.f0, CoinOk c
def OkC (A : List S36) (S R : Int) : Prop := (1 ≤ (A.length : Int) ∧ (A.length : Int) ≤ 40) ∧ (1 ≤ S ∧ S ≤ 16) ∧ (0 ≤ R ∧ R ≤ 60) ∧ AllOk A
def co (A : List S36) (i : Nat) : List Int := (A.getD i z36).f0
def Small (A : List S36) : Prop := A.length ≤ 2000000 ∧ ∀ a ∈ A, a.f0.length ≤ 2000000
theorem getD_mem {α : Type _} {l : List α} {i : Nat} (d : α) (h : i < l.length) : l.getD i d ∈ l := by
  simp [List.getD, h]
theorem bin (c : Int) : (decide (0 ≤ c) && decide (c ≤ 1000)) = true ↔ CoinOk c := by simp [CoinOk]
theorem implCoins (A : List S36) (S R L i : Int) (cs : List Int) (hc : cs.length ≤ 2000000) (hi : wrap64 (i + 1) = i + 1) (res : List Int × Bool) : ∀ (rs : List Int) (q : Nat), cs.drop q = rs → q ≤ cs.length →
    ((∀ c ∈ rs, CoinOk c) → Ev (fun k => impl_Contend.l0 k A S R A L (i + 1)) res) → (¬ (∀ c ∈ rs, CoinOk c) → res = ([], false)) → Ev (fun k => impl_Contend.l1 k A S R A L i cs (cs.length : Int) (q : Int)) res := by
  intro rs
  induction rs with
  | nil =>
    intro q hq hle good bad
    have := drop_nil hq hle
    refine Ev.step (fun k => ?_) (good (by simp))
    simp only [impl_Contend.l1]
    rw [if_neg (by omega), hi]
  | cons r rs ih =>
    intro q hq hle good bad
    obtain ⟨h1, h2, h3⟩ := drop_cons 0 hq
    by_cases hr : CoinOk r
    · refine Ev.step (fun k => ?_) (ih (q + 1) h3 (by omega) (fun h => good (by simpa using ⟨hr, h⟩)) (fun h => bad (fun hh => h (fun c hc => hh c (by simp [hc])))))
      simp only [impl_Contend.l1]
      rw [if_pos (by omega), if_pos (by omega), if_pos (by omega), rdI, h2, in_at, (bin r).2 hr]
      simp only [Option.bind_some, if_true]
      rw [w64 (by omega) (by omega)]
      norm_cast
    · rw [bad (fun hh => hr (hh r (by simp)))]
      refine Ev.step (fun k => ?_) (Ev.now _)
      simp only [impl_Contend.l1]
      rw [if_pos (by omega), if_pos (by omega), if_pos (by omega), rdI, h2, in_at, Bool.eq_false_iff.2 (fun h => hr ((bin r).1 h))]
      simp
theorem implAskers (A : List S36) (S R : Int) (hA : Small A) (res : List Int × Bool) : ∀ (rs : List S36) (q : Nat), A.drop q = rs → q ≤ A.length →
    (AllOk rs → Ev (fun k => impl_Contend.l2 k A S (List.replicate A.length (-1)) R 0) res) → (¬ AllOk rs → res = ([], false)) → Ev (fun k => impl_Contend.l0 k A S R A (A.length : Int) (q : Int)) res := by
  have hl := hA.1
  intro rs
  induction rs with
  | nil =>
    intro q hq hle good bad
    have := drop_nil hq hle
    refine Ev.step (fun k => ?_) (good (by simp [AllOk]))
    simp only [impl_Contend.l0]
    rw [if_neg (by omega), if_pos (by omega), if_pos (by omega), Int.toNat_natCast]
  | cons r rs ih =>
    intro q hq hle good bad
    obtain ⟨h1, h2, h3⟩ := drop_cons z36 hq
    have hr36 : (rd_T36 A (q : Int)).f0 = r.f0 := by simp only [rd_T36, Int.toNat_natCast, h2]
    have hm : r ∈ A := by rw [← h2]; exact getD_mem _ h1
    refine Ev.step (fun k => ?_) (implCoins A S R (A.length : Int) (q : Int) r.f0 (hA.2 r hm) (w64 (by omega) (by omega)) res r.f0 0 rfl (by omega) ?_ ?_)
    · simp only [impl_Contend.l0]
      rw [if_pos (by omega), if_pos (by omega), if_pos (by omega), hr36]
      norm_cast
    · intro hc
      have := ih (q + 1) h3 (by omega) (fun h => good (by intro a ha; rcases List.mem_cons.1 ha with rfl | ha; exact hc; exact h a ha)) (fun h => bad (fun hh => h (fun a ha => hh a (by simp [ha]))))
      exact_mod_cast this
    · intro hc
      exact bad (fun hh => hc (hh r (by simp)))
/-- One round of impl's: who speaks where. -/
theorem implWho (A : List S36) (S R : Int) (h : List Int) (r : Nat) (hS : 1 ≤ S ∧ S ≤ 16) (hA : A.length ≤ 40) (hh : h.length = A.length) (hco : AllOk A) (hr : r ≤ 60) (res : List Int × Bool)
    (next : Ev (fun k => impl_Contend.l4 k A S h (r : Int) R (r : Int) (who (co A) S h r A.length) 0) res) : ∀ (d i : Nat), i + d = A.length →
    Ev (fun k => impl_Contend.l3 k A S h (r : Int) (who (co A) S h r i) R (r : Int) A (A.length : Int) (i : Int)) res := by
  intro d
  induction d with
  | zero =>
    intro i hi
    refine Ev.step (fun k => ?_) next
    simp only [impl_Contend.l3]
    rw [if_neg (by omega), show i = A.length by omega]
  | succ d ih =>
    intro i hi
    have hco' : ∀ j, ∀ c ∈ co A j, 0 ≤ c := by
      intro j c hc
      by_cases hj : j < A.length
      · exact (hco _ (getD_mem z36 hj) c hc).1
      · have : A.getD j z36 = z36 := by simp [List.getD, show A.length ≤ j by omega]
        replace hc : c ∈ (A.getD j z36).f0 := hc
        rw [this] at hc
        simp [z36] at hc
    have ev := ih (i + 1) (by omega)
    have hrng := sl_range (co := co A) (S := S) (h := h) (r := r) (by omega) hco' i
    have e36 : (rd_T36 A (i : Int)).f0 = co A i := by simp [rd_T36, co]
    refine Ev.step (fun k => ?_) ev
    simp only [impl_Contend.l3]
    rw [if_pos (by omega), if_pos (by omega), if_pos (by omega), if_pos (by omega), rdI, e36, w64 (by omega) (by omega)]
    by_cases c1 : h.getD i 0 < 0
    · rw [if_pos c1]
      by_cases c2 : (r : Int) < ((co A i).length : Int)
      · rw [if_pos c2, if_pos (by omega), if_neg (by omega), rdI]
        have es : sl (co A) S h r i = Int.tmod ((co A i).getD r 0) S := by unfold sl; rw [if_pos ⟨c1, c2⟩]
        have hm : (co A i).getD r 0 ∈ co A i := getD_mem _ (by omega)
        have h0 : 0 ≤ sl (co A) S h r i := by
          rw [es, Int.tmod_eq_emod_of_nonneg (hco' i _ hm)]
          exact Int.emod_nonneg _ (by omega)
        rw [← es, if_pos h0, who_len, if_pos (by omega)]
        have eg : rd_L2 (who (co A) S h r i) (sl (co A) S h r i) = (who (co A) S h r i).getD (sl (co A) S h r i).toNat [] := rfl
        have hg := who_get (co := co A) (S := S) (h := h) (r := r) i (sl (co A) S h r i) h0 (by omega)
        have hlen := grp_le (co := co A) (S := S) (h := h) (r := r) i (sl (co A) S h r i)
        rw [eg, if_pos (by rw [hg, List.length_map]; omega), ← who_set i _ rfl h0 (by omega)]
        norm_cast
      · rw [if_neg c2, who_skip i (by unfold sl; rw [if_neg (by omega)]; omega)]
        norm_cast
    · rw [if_neg c1, who_skip i (by unfold sl; rw [if_neg (by omega)]; omega)]
      norm_cast
theorem implTold (A : List S36) (S R : Int) (h : List Int) (r : Nat) (hS : 1 ≤ S ∧ S ≤ 16) (hA : A.length ≤ 40) (hr : r ≤ 60) (res : List Int × Bool)
    (next : Ev (fun k => impl_Contend.l2 k A S (told (co A) S h r A.length 16) R ((r : Int) + 1)) res) : ∀ (d t : Nat), t + d = 16 →
    Ev (fun k => impl_Contend.l4 k A S (told (co A) S h r A.length (t : Int)) (r : Int) R (r : Int) (who (co A) S h r A.length) (t : Int)) res := by
  intro d
  induction d with
  | zero =>
    intro t ht
    refine Ev.step (fun k => ?_) next
    simp only [impl_Contend.l4]
    rw [if_neg (by omega), w64 (by omega) (by omega), show t = 16 by omega]
    rfl
  | succ d ih =>
    intro t ht
    have ev := ih (t + 1) (by omega)
    have eg : rd_L2 (who (co A) S h r A.length) (t : Int) = (grp (co A) S h r A.length (t : Int)).map fun (i : Nat) => (i : Int) := who_get (co := co A) (S := S) (h := h) (r := r) A.length (t : Int) (by omega) (by omega)
    refine Ev.step (fun k => ?_) ev
    simp only [impl_Contend.l4]
    rw [if_pos (by omega), if_pos (by omega), who_len, if_pos (by omega), eg, List.length_map, w64 (by omega) (by omega)]
    by_cases c : (grp (co A) S h r A.length (t : Int)).length = 1
    · obtain ⟨i, hi⟩ := List.length_eq_one_iff.1 c
      have hm := grp_mem.1 (show i ∈ grp (co A) S h r A.length (t : Int) by rw [hi]; simp)
      have e := told_set (show 0 ≤ (t : Int) by omega) hi
      rw [show ((t : Int) + 1) = ((t + 1 : Nat) : Int) by omega] at e
      rw [if_pos (by omega), if_pos (by omega), hi]
      simp only [List.map_cons, List.map_nil, rd, Int.toNat_zero, List.getD_cons_zero]
      rw [if_pos (by omega), told_len, if_pos (by omega), Int.toNat_natCast, ← e]
      norm_cast
    · have e := told_skip (co := co A) (S := S) (h := h) (r := r) (n := A.length) (t := (t : Int)) c
      rw [show ((t : Int) + 1) = ((t + 1 : Nat) : Int) by omega] at e
      rw [if_neg (by omega), ← e]
      norm_cast
theorem sl_lt (A : List S36) (S : Int) (h : List Int) (r : Nat) (hS : 1 ≤ S) (hco : AllOk A) (i : Nat) : -1 ≤ sl (co A) S h r i ∧ sl (co A) S h r i < S := by
  refine sl_range (by omega) (fun j c hc => ?_) i
  by_cases hj : j < A.length
  · exact (hco _ (getD_mem z36 hj) c hc).1
  · have : A.getD j z36 = z36 := by simp [List.getD, show A.length ≤ j by omega]
    replace hc : c ∈ (A.getD j z36).f0 := hc
    rw [this] at hc
    simp [z36] at hc
theorem implRuns (A : List S36) (S : Int) (R : Nat) (hS : 1 ≤ S ∧ S ≤ 16) (hA : A.length ≤ 40) (hco : AllOk A) (hR : R ≤ 60) : ∀ (d r : Nat) (h : List Int), h.length = A.length → r + d = R →
    Ev (fun k => impl_Contend.l2 k A S h (R : Int) (r : Int)) (runs (co A) S A.length d r h, true) := by
  intro d
  induction d with
  | zero =>
    intro r h hl hr
    refine Ev.step (fun k => ?_) (Ev.now _)
    simp only [impl_Contend.l2]
    rw [if_neg (by omega)]
    rfl
  | succ d ih =>
    intro r h hl hr
    have ev := ih (r + 1) (rnd (co A) S h r A.length) rnd_len (by omega)
    have e16 : told (co A) S h r A.length 16 = rnd (co A) S h r A.length := told_all _ (fun i _ => by have := (sl_lt A S h r hS.1 hco i).2; omega)
    have e4 := implTold A S (R : Int) h r hS hA (by omega) (runs (co A) S A.length (d + 1) r h, true) (by rw [e16]; exact_mod_cast ev) 16 0 rfl
    rw [show ((0 : Nat) : Int) = 0 from rfl, told_zero hl] at e4
    have e3 := implWho A S (R : Int) h r hS hA hl hco (by omega) _ e4 A.length 0 (by omega)
    refine Ev.step (fun k => ?_) e3
    simp only [impl_Contend.l2]
    rw [if_pos (by omega), if_pos (by omega), ← who_zero (co := co A) (S := S) (h := h) (r := r)]
    rfl
theorem implContend (A : List S36) (S R : Int) (hs : Small A) : (OkC A S R → Ev (fun k => impl_Contend.f k A S R) (runs (co A) S A.length R.toNat 0 (List.replicate A.length (-1)), true)) ∧ (¬ OkC A S R → Ev (fun k => impl_Contend.f k A S R) ([], false)) := by
  have flag : ∀ (res : List Int × Bool) (b1 b2 b3 : Bool), impl_in.f (A.length : Int) 1 40 = some b1 → impl_in.f S 1 16 = some b2 → impl_in.f R 0 60 = some b3 → Ev (fun k => impl_Contend.j0 k A S R (!(b1 && b2 && b3))) res → Ev (fun k => impl_Contend.f k A S R) res := by
    intro res b1 b2 b3 e1 e2 e3 h
    refine Ev.congr (fun k => ?_) h
    unfold impl_Contend.f
    rw [e1, e2, e3]
    cases b1 <;> cases b2 <;> cases b3 <;> simp
  have hl := hs.1
  by_cases hh : (1 ≤ (A.length : Int) ∧ (A.length : Int) ≤ 40) ∧ (1 ≤ S ∧ S ≤ 16) ∧ (0 ≤ R ∧ R ≤ 60)
  · obtain ⟨h1, h2, h3⟩ := hh
    have run : ∀ res, (AllOk A → Ev (fun k => impl_Contend.l2 k A S (List.replicate A.length (-1)) R 0) res) → (¬ AllOk A → res = ([], false)) → Ev (fun k => impl_Contend.f k A S R) res := by
      intro res good bad
      refine flag res true true true (by rw [in_at]; simp; omega) (by rw [in_at]; simp; omega) (by rw [in_at]; simp; omega) (Ev.step (fun k => ?_) (implAskers A S R hs res A 0 rfl (by omega) good bad))
      simp only [impl_Contend.j0, Bool.and_self, Bool.not_true, Bool.false_eq_true, if_false]
      rfl
    refine ⟨fun ok => run _ (fun hk => ?_) (fun hk => absurd ok.2.2.2 hk), fun nok => run _ (fun hk => absurd ⟨h1, h2, h3, hk⟩ nok) (fun _ => rfl)⟩
    have := implRuns A S R.toNat h2 (by omega) hk (by omega) R.toNat 0 (List.replicate A.length (-1)) (by simp) (by omega)
    rw [show ((R.toNat : Nat) : Int) = R by omega] at this
    exact this
  · refine ⟨fun ok => absurd ⟨ok.1, ok.2.1, ok.2.2.1⟩ hh, fun _ => flag _ _ _ _ (in_at _ _ _) (in_at _ _ _) (in_at _ _ _) (Ev.step (fun k => ?_) (Ev.now _))⟩
    simp only [impl_Contend.j0]
    rw [if_pos]
    simp only [Bool.not_eq_true', Bool.and_eq_false_iff, decide_eq_false_iff_not]
    omega

theorem e36 (A : List S36) (i : Nat) : (rd_T36 A (i : Int)).f0 = co A i := by simp [rd_T36, co]
theorem specCoins (A : List S36) (S R : Int) (x8 : List Int) (i : Nat) (hi : i < A.length) (hA : Small A) (hx : x8.length ≤ 2000000) (res : List Int × Bool) : ∀ (rs : List Int) (q : Nat), (co A i).drop q = rs → q ≤ (co A i).length →
    ((∀ c ∈ rs, CoinOk c) → Ev (fun k => spec_Contend.l0 k A S R (x8 ++ [-1]) ((i : Int) + 1)) res) → (¬ (∀ c ∈ rs, CoinOk c) → res = ([], false)) → Ev (fun k => spec_Contend.l1 k A S R x8 (i : Int) (q : Int)) res := by
  have hl := hA.1
  have hcl : (co A i).length ≤ 2000000 := hA.2 _ (getD_mem z36 hi)
  intro rs
  induction rs with
  | nil =>
    intro q hq hle good bad
    have := drop_nil hq hle
    refine Ev.step (fun k => ?_) (good (by simp))
    simp only [spec_Contend.l1]
    rw [if_pos (by omega), if_pos (by omega), e36, if_neg (by omega), if_pos (by omega), w64 (by omega) (by omega)]
  | cons r rs ih =>
    intro q hq hle good bad
    obtain ⟨h1, h2, h3⟩ := drop_cons 0 hq
    by_cases hr : CoinOk r
    · refine Ev.step (fun k => ?_) (ih (q + 1) h3 (by omega) (fun h => good (by simpa using ⟨hr, h⟩)) (fun h => bad (fun hh => h (fun c hc => hh c (by simp [hc])))))
      simp only [spec_Contend.l1]
      rw [if_pos (by omega), if_pos (by omega), e36, if_pos (by omega), if_pos (by omega), rdI, h2, in_at2, (bin r).2 hr]
      simp only [Option.bind_some, if_true]
      rw [w64 (by omega) (by omega)]
      norm_cast
    · rw [bad (fun hh => hr (hh r (by simp)))]
      refine Ev.step (fun k => ?_) (Ev.now _)
      simp only [spec_Contend.l1]
      rw [if_pos (by omega), if_pos (by omega), e36, if_pos (by omega), if_pos (by omega), rdI, h2, in_at2, Bool.eq_false_iff.2 (fun h => hr ((bin r).1 h))]
      simp
theorem specAskers (A : List S36) (S R : Int) (hA : Small A) (res : List Int × Bool) : ∀ (rs : List S36) (q : Nat), A.drop q = rs → q ≤ A.length →
    (AllOk rs → Ev (fun k => spec_Contend.l2 k A S R (List.replicate A.length (-1)) 0) res) → (¬ AllOk rs → res = ([], false)) → Ev (fun k => spec_Contend.l0 k A S R (List.replicate q (-1)) (q : Int)) res := by
  have hl := hA.1
  intro rs
  induction rs with
  | nil =>
    intro q hq hle good bad
    have := drop_nil hq hle
    refine Ev.step (fun k => ?_) (good (by simp [AllOk]))
    simp only [spec_Contend.l0]
    rw [if_neg (by omega), this]
  | cons r rs ih =>
    intro q hq hle good bad
    obtain ⟨h1, h2, h3⟩ := drop_cons z36 hq
    have hr36 : co A q = r.f0 := by unfold co; rw [h2]
    refine Ev.step (fun k => ?_) (specCoins A S R (List.replicate q (-1)) q h1 hA (by simp; omega) res (co A q) 0 rfl (by omega) ?_ ?_)
    · simp only [spec_Contend.l0]
      rw [if_pos (by omega)]
      norm_cast
    · intro hc
      have := ih (q + 1) h3 (by omega) (fun h => good (by intro a ha; rcases List.mem_cons.1 ha with rfl | ha; rw [hr36] at hc; exact hc; exact h a ha)) (fun h => bad (fun hh => h (fun a ha => hh a (by simp [ha]))))
      rw [List.replicate_succ'] at this
      exact_mod_cast this
    · intro hc
      exact bad (fun hh => hc (by rw [hr36]; exact hh r (by simp)))
theorem specSlots (A : List S36) (S R : Int) (h : List Int) (r : Nat) (hS : 1 ≤ S ∧ S ≤ 16) (hA : A.length ≤ 40) (hh : h.length = A.length) (hco : AllOk A) (hr : r ≤ 60) (res : List Int × Bool)
    (next : Ev (fun k => spec_Contend.l4 k A S R h (r : Int) (slots (co A) S h r A.length) (cnts (co A) S h r A.length S.toNat) 0) res) : ∀ (d i : Nat), i + d = A.length →
    Ev (fun k => spec_Contend.l3 k A S R h (r : Int) (slots (co A) S h r i) (cnts (co A) S h r i S.toNat) (i : Int)) res := by
  intro d
  induction d with
  | zero =>
    intro i hi
    refine Ev.step (fun k => ?_) next
    simp only [spec_Contend.l3]
    rw [if_neg (by omega), show i = A.length by omega]
  | succ d ih =>
    intro i hi
    have ev := ih (i + 1) (by omega)
    have hrng := sl_lt A S h r hS.1 hco i
    rw [slots_succ] at ev
    refine Ev.step (fun k => ?_) ev
    simp only [spec_Contend.l3]
    rw [if_pos (by omega), if_pos (by omega), if_pos (by omega), rdI, e36, w64 (x := (i : Int) + 1) (by omega) (by omega), slots_len]
    by_cases c1 : h.getD i 0 < 0
    · rw [if_pos c1]
      by_cases c2 : (r : Int) < ((co A i).length : Int)
      · rw [if_pos c2, if_pos (by omega), if_neg (by omega), rdI]
        have es : sl (co A) S h r i = Int.tmod ((co A i).getD r 0) S := by unfold sl; rw [if_pos ⟨c1, c2⟩]
        have hm : (co A i).getD r 0 ∈ co A i := getD_mem _ (by omega)
        have h0 : 0 ≤ sl (co A) S h r i := by
          rw [es, Int.tmod_eq_emod_of_nonneg (hco _ (getD_mem z36 (show i < A.length by omega)) _ hm).1]
          exact Int.emod_nonneg _ (by omega)
        have eg : rd (cnts (co A) S h r i S.toNat) (sl (co A) S h r i) = (cnts (co A) S h r i S.toNat).getD (sl (co A) S h r i).toNat 0 := rfl
        have hg := cnts_get (co := co A) (S := S) (h := h) (r := r) i S.toNat (sl (co A) S h r i) h0 (by omega)
        have hlen := grp_le (co := co A) (S := S) (h := h) (r := r) i (sl (co A) S h r i)
        rw [← es, if_pos h0, cnts_len, if_pos (by omega), if_pos (by omega), eg, w64 (x := (cnts (co A) S h r i S.toNat).getD (sl (co A) S h r i).toNat 0 + 1) (by rw [hg]; omega) (by rw [hg]; omega), ← cnts_set i _ _ rfl h0 (by omega)]
        norm_cast
      · have es : sl (co A) S h r i = -1 := by unfold sl; rw [if_neg (by omega)]
        rw [if_neg c2, if_pos (by omega), cnts_skip i _ (by omega), es]
        norm_cast
    · have es : sl (co A) S h r i = -1 := by unfold sl; rw [if_neg (by omega)]
      rw [if_neg c1, if_pos (by omega), cnts_skip i _ (by omega), es]
      norm_cast
theorem specTold (A : List S36) (S R : Int) (h : List Int) (r : Nat) (hS : 1 ≤ S ∧ S ≤ 16) (hA : A.length ≤ 40) (hco : AllOk A) (hr : r ≤ 60) (res : List Int × Bool)
    (next : Ev (fun k => spec_Contend.l2 k A S R (told2 (co A) S h r A.length A.length) ((r : Int) + 1)) res) : ∀ (d t : Nat), t + d = A.length →
    Ev (fun k => spec_Contend.l4 k A S R (told2 (co A) S h r A.length t) (r : Int) (slots (co A) S h r A.length) (cnts (co A) S h r A.length S.toNat) (t : Int)) res := by
  intro d
  induction d with
  | zero =>
    intro t ht
    refine Ev.step (fun k => ?_) next
    simp only [spec_Contend.l4]
    rw [if_neg (by omega), w64 (by omega) (by omega), show t = A.length by omega]
  | succ d ih =>
    intro t ht
    have ev := ih (t + 1) (by omega)
    have hrng := sl_lt A S h r hS.1 hco t
    have eg : rd (slots (co A) S h r A.length) (t : Int) = sl (co A) S h r t := by rw [rdI, slots_get _ _ (by omega)]
    refine Ev.step (fun k => ?_) ev
    simp only [spec_Contend.l4]
    rw [if_pos (by omega), if_pos (by omega), slots_len, if_pos (by omega), eg, w64 (by omega) (by omega), told2_len]
    by_cases c : 0 ≤ sl (co A) S h r t
    · have hg : rd (cnts (co A) S h r A.length S.toNat) (sl (co A) S h r t) = ((grp (co A) S h r A.length (sl (co A) S h r t)).length : Int) := cnts_get A.length S.toNat _ c (by omega)
      rw [if_pos (show sl (co A) S h r t ≥ 0 from c), if_pos c, cnts_len, if_pos (by omega), hg]
      by_cases c3 : (grp (co A) S h r A.length (sl (co A) S h r t)).length = 1
      · rw [if_pos (by omega), if_pos (by omega), Int.toNat_natCast, told2_set ⟨c, c3⟩]
        norm_cast
      · rw [if_neg (by omega), told2_skip (fun ha => c3 ha.2)]
        norm_cast
    · rw [if_neg (show ¬ sl (co A) S h r t ≥ 0 from c), told2_skip (fun ha => c ha.1)]
      norm_cast
theorem specRuns (A : List S36) (S : Int) (R : Nat) (hS : 1 ≤ S ∧ S ≤ 16) (hA : A.length ≤ 40) (hco : AllOk A) (hR : R ≤ 60) : ∀ (d r : Nat) (h : List Int), h.length = A.length → r + d = R →
    Ev (fun k => spec_Contend.l2 k A S (R : Int) h (r : Int)) (runs (co A) S A.length d r h, true) := by
  intro d
  induction d with
  | zero =>
    intro r h hl hr
    refine Ev.step (fun k => ?_) (Ev.now _)
    simp only [spec_Contend.l2]
    rw [if_neg (by omega)]
    rfl
  | succ d ih =>
    intro r h hl hr
    have ev := ih (r + 1) (rnd (co A) S h r A.length) rnd_len (by omega)
    have e4 := specTold A S (R : Int) h r hS hA hco (by omega) (runs (co A) S A.length (d + 1) r h, true) (by rw [told2_all]; exact_mod_cast ev) A.length 0 (by omega)
    rw [told2_zero hl] at e4
    have e3 := specSlots A S (R : Int) h r hS hA hl hco (by omega) _ e4 A.length 0 (by omega)
    refine Ev.step (fun k => ?_) e3
    simp only [spec_Contend.l2]
    rw [if_pos (by omega), if_pos (by omega), if_pos (by omega), cnts_zero]
    rfl
theorem specContend (A : List S36) (S R : Int) (hs : Small A) : (OkC A S R → Ev (fun k => spec_Contend.f k A S R) (runs (co A) S A.length R.toNat 0 (List.replicate A.length (-1)), true)) ∧ (¬ OkC A S R → Ev (fun k => spec_Contend.f k A S R) ([], false)) := by
  have flag : ∀ (res : List Int × Bool) (b1 b2 b3 : Bool), spec_l1In.f (A.length : Int) 1 40 = some b1 → spec_l1In.f S 1 16 = some b2 → spec_l1In.f R 0 60 = some b3 → Ev (fun k => spec_Contend.j0 k A S R (!(b1 && b2 && b3))) res → Ev (fun k => spec_Contend.f k A S R) res := by
    intro res b1 b2 b3 e1 e2 e3 h
    refine Ev.congr (fun k => ?_) h
    unfold spec_Contend.f
    rw [e1, e2, e3]
    cases b1 <;> cases b2 <;> cases b3 <;> simp
  have hl := hs.1
  by_cases hh : (1 ≤ (A.length : Int) ∧ (A.length : Int) ≤ 40) ∧ (1 ≤ S ∧ S ≤ 16) ∧ (0 ≤ R ∧ R ≤ 60)
  · obtain ⟨h1, h2, h3⟩ := hh
    have run : ∀ res, (AllOk A → Ev (fun k => spec_Contend.l2 k A S R (List.replicate A.length (-1)) 0) res) → (¬ AllOk A → res = ([], false)) → Ev (fun k => spec_Contend.f k A S R) res := by
      intro res good bad
      refine flag res true true true (by rw [in_at2]; simp; omega) (by rw [in_at2]; simp; omega) (by rw [in_at2]; simp; omega) (Ev.step (fun k => ?_) (specAskers A S R hs res A 0 rfl (by omega) good bad))
      simp only [spec_Contend.j0, Bool.and_self, Bool.not_true, Bool.false_eq_true, if_false]
      rfl
    refine ⟨fun ok => run _ (fun hk => ?_) (fun hk => absurd ok.2.2.2 hk), fun nok => run _ (fun hk => absurd ⟨h1, h2, h3, hk⟩ nok) (fun _ => rfl)⟩
    have := specRuns A S R.toNat h2 (by omega) hk (by omega) R.toNat 0 (List.replicate A.length (-1)) (by simp) (by omega)
    rw [show ((R.toNat : Nat) : Int) = R by omega] at this
    exact this
  · refine ⟨fun ok => absurd ⟨ok.1, ok.2.1, ok.2.2.1⟩ hh, fun _ => flag _ _ _ _ (in_at2 _ _ _) (in_at2 _ _ _) (in_at2 _ _ _) (Ev.step (fun k => ?_) (Ev.now _))⟩
    simp only [spec_Contend.j0]
    rw [if_pos]
    simp only [Bool.not_eq_true', Bool.and_eq_false_iff, decide_eq_false_iff_not]
    omega
end Go.Proofs.Ytjioalgfpcdlhaa.CoMain
