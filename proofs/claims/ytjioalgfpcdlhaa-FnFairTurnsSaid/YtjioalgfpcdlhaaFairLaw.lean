/- FnFairTurns: for every code, what fair turns serve of the drawn queues is each one's in order, and no queue is served two times more than another that has something left. Conditions: none. By an AI agent. -/
import Derived.Test.YtjioalgfpcdlhaaFairx5a
import Derived.Test.YtjioalgfpcdlhaaFairMain
namespace Go.Proofs.Ytjioalgfpcdlhaa.FairLaw
set_option linter.unusedVariables false
open Go Go.RowKit Go.Proofs.Ytjioalgfpcdlhaa.Fair Go.Proofs.Ytjioalgfpcdlhaa.FairMath Go.Proofs.Ytjioalgfpcdlhaa.FairDraw Go.Proofs.Ytjioalgfpcdlhaa.FairMain Go.Proofs.YtjioalgfpcdlhaaW.PrintWords
/-- The last round of the law: two small queues. -/
theorem lastPart (Q : List (List Int)) (out count who : List Int) (i : Int) (hi : (who.length : Int) ≤ i) : Ev (fun m => laws_FnFairTurns.l2 m Q out count who i) true := by
  have h1 := implFair [[1, 2], [3]] 3
  have e : fair [[1, 2], [3]] 3 = ([1, 3, 2], true) := by decide +kernel
  rw [e] at h1
  refine Ev.step (f := fun m => (impl_Fair.f m [[1, 2], [3]] 3).bind fun b => if b.2 = true then ((laws_sameInts.f m b.1 [1, 3, 2]).bind fun t => some t) else some false) (fun m => ?_) (Ev.bind h1 ?_)
  · simp only [laws_FnFairTurns.l2]; rw [if_neg (by omega)]
  · simp only [if_true]
    exact Ev.bind (same_ok [1, 3, 2] (by simp)) (Ev.now _)
theorem oLoop (Q : List (List Int)) (hQ : Q.length ≤ 8) (hr : ∀ r ∈ Q, r.length ≤ 60) (out who : List Int) (i : Int) (k q : Nat) (hq : q < Q.length) (hk : k < (Q.getD q []).length) (hk60 : k ≤ 60)
    (NX : Ev (fun m => laws_FnFairTurns.l2 m Q out (at_ Q k (q + 1)) who (wrap64 (i + 1))) true) : ∀ (d o : Nat), o + d = Q.length →
    Ev (fun m => laws_FnFairTurns.l3 m Q out (at_ Q k (q + 1)) who i (q : Int) (o : Int)) true := by
  intro d
  induction d with
  | zero =>
    intro o ho
    refine Ev.step (fun m => ?_) NX
    simp only [laws_FnFairTurns.l3]; rw [if_neg (by omega)]
  | succ d ih =>
    intro o ho
    refine Ev.step (fun m => ?_) (ih (o + 1) (by omega))
    have h1 : rd (at_ Q k (q + 1)) (q : Int) = ((k + 1 : Nat) : Int) := by
      rw [rdI, at_get Q k (q + 1) q hq, if_pos (by omega)]
      congr 1; omega
    have h2 : rd (at_ Q k (q + 1)) (o : Int) = ((if o < q + 1 then min (Q.getD o []).length (k + 1) else min (Q.getD o []).length k : Nat) : Int) := by
      rw [rdI, at_get Q k (q + 1) o (by omega)]
    have h3 : min (Q.getD o []).length k ≤ (if o < q + 1 then min (Q.getD o []).length (k + 1) else min (Q.getD o []).length k) := by split <;> omega
    have h4 : (if o < q + 1 then min (Q.getD o []).length (k + 1) else min (Q.getD o []).length k) ≤ k + 1 := by split <;> omega
    generalize (if o < q + 1 then min (Q.getD o []).length (k + 1) else min (Q.getD o []).length k) = c at h2 h3 h4
    simp only [laws_FnFairTurns.l3]
    rw [if_pos (by omega), if_pos (by omega), if_pos (by rw [at_length]; omega), if_pos (by omega), if_pos (by rw [at_length]; omega), h1, h2, rdL, w64 (x := (c : Int) + 1) (by omega) (by omega), w64 (x := (o : Int) + 1) (by omega) (by omega), show (o : Int) + 1 = ((o + 1 : Nat) : Int) by omega]
    by_cases c1 : ((k + 1 : Nat) : Int) > (c : Int) + 1
    · rw [if_pos c1, if_neg (by omega)]
    · rw [if_neg c1]
theorem get_drop {α : Type _} {l : List α} {i : Nat} {x : α} {xs : List α} (d : α) (h : l.drop i = x :: xs) : i < l.length ∧ l.getD i d = x ∧ l.drop (i + 1) = xs := drop_cons d h
theorem checkRow (Q : List (List Int)) (hQ : Q.length ≤ 8) (hr : ∀ r ∈ Q, r.length ≤ 60) (out who : List Int) (hw : who.length ≤ 1000) (d k : Nat) (hk : k + 1 + d = 60)
    (NEXT : ∀ (i T : Nat), who.drop i = ((seqF (lens Q) d (k + 1)).take T).map (fun x => (x.1 : Int)) → out.drop i = ((seqF (lens Q) d (k + 1)).take T).map (val Q) → Ev (fun m => laws_FnFairTurns.l2 m Q out (at_ Q (k + 1) 0) who (i : Int)) true) :
    ∀ (rs : List (List Int)) (q : Nat), Q.drop q = rs → q + rs.length = Q.length → ∀ (i T : Nat),
      who.drop i = ((rowC k q (rs.map List.length) ++ seqF (lens Q) d (k + 1)).take T).map (fun x => (x.1 : Int)) → out.drop i = ((rowC k q (rs.map List.length) ++ seqF (lens Q) d (k + 1)).take T).map (val Q) →
      Ev (fun m => laws_FnFairTurns.l2 m Q out (at_ Q k q) who (i : Int)) true := by
  intro rs
  induction rs with
  | nil =>
    intro q hd hq i T h1 h2
    simp only [List.length_nil, Nat.add_zero] at hq
    rw [hq, at_wrap]
    simp only [List.map_nil, rowC, List.nil_append] at h1 h2
    exact NEXT i T h1 h2
  | cons r rs ih =>
    intro q hd hq i T h1 h2
    obtain ⟨hlt, hg, hd'⟩ := drop_cons [] hd
    have h60 : r.length ≤ 60 := hr r (by
      have : r ∈ Q.drop q := by rw [hd]; simp
      exact List.mem_of_mem_drop this)
    rw [List.map_cons, rowC_cons, List.append_assoc] at h1 h2
    by_cases c : k < r.length
    · rw [if_pos c] at h1 h2
      cases T with
      | zero =>
        simp only [List.take_zero, List.map_nil] at h1
        exact lastPart Q out _ who i (by have := List.drop_eq_nil_iff.1 h1; omega)
      | succ T =>
        simp only [List.singleton_append, List.take_succ_cons, List.map_cons] at h1 h2
        obtain ⟨w1, w2, w3⟩ := get_drop 0 h1
        obtain ⟨o1, o2, o3⟩ := get_drop 0 h2
        have NX := ih (q + 1) hd' (by simp at hq; omega) (i + 1) T w3 o3
        have z := oLoop Q hQ hr out who (i : Int) k q hlt (by rw [hg]; exact c) (by omega) (by rw [w64 (by omega) (by omega)]; exact NX) Q.length 0 (by omega)
        have hat : rd (at_ Q k q) (q : Int) = (k : Int) := by
          rw [rdI, at_get Q k q q hlt, if_neg (by omega), hg]; congr 1; omega
        refine Ev.step (fun m => ?_) (Ev.step (g := fun m => laws_FnFairTurns.j5 m Q out (at_ Q k q) who (i : Int) (q : Int) false) (fun m => ?_) z)
        · simp only [laws_FnFairTurns.l2]
          have ew : rd who (i : Int) = (q : Int) := by rw [rdI]; exact w2
          have eo : rd out (i : Int) = val Q (q, k) := by rw [rdI]; exact o2
          rw [if_pos (by omega), if_pos (by omega), ew, if_neg (by omega), if_neg (by omega), if_pos (by omega), if_pos (by rw [at_length]; omega), if_pos (by omega), hat, rdL, hg, if_neg (by omega), if_pos (by omega), if_pos (by omega), if_pos (by omega), eo, rdI]
          have ev : val Q (q, k) = r.getD k 0 := by unfold val; simp only [hg]
          rw [ev]
          simp
        · simp only [laws_FnFairTurns.j5, Bool.false_eq_true, if_false]
          rw [if_pos (by omega), if_pos (by rw [at_length]; omega), hat, w64 (by omega) (by omega), show ((q : Int)).toNat = q by omega, at_set Q k q hlt (by rw [hg]; exact c)]
          rfl
    · rw [if_neg c, List.nil_append] at h1 h2
      rw [at_skip Q k q (by rw [hg]; exact c)]
      exact ih (q + 1) hd' (by simp at hq; omega) i T h1 h2
theorem checkOut (Q : List (List Int)) (hQ : Q.length ≤ 8) (hr : ∀ r ∈ Q, r.length ≤ 60) (out who : List Int) (hw : who.length ≤ 1000) : ∀ (d k : Nat), k + d = 60 → ∀ (i T : Nat),
    who.drop i = ((seqF (lens Q) d k).take T).map (fun x => (x.1 : Int)) → out.drop i = ((seqF (lens Q) d k).take T).map (val Q) → Ev (fun m => laws_FnFairTurns.l2 m Q out (at_ Q k 0) who (i : Int)) true := by
  intro d
  induction d with
  | zero =>
    intro k hk i T h1 h2
    simp only [seqF, List.take_nil, List.map_nil] at h1
    exact lastPart Q out _ who i (by have := List.drop_eq_nil_iff.1 h1; omega)
  | succ d ih =>
    intro k hk i T h1 h2
    exact checkRow Q hQ hr out who hw d k (by omega) (fun i T => ih (k + 1) (by omega) i T) Q 0 (by simp) (by simp) i T h1 h2
theorem nameInner (Q : List (List Int)) (T : Int) (out : List Int) (ok : Bool) (N : List (List Int)) (cnt : List Int) (i : Nat) (hi : i < Q.length) (hQ : Q.length ≤ 100) (hN : N.length ≤ 100)
    (h100 : ∀ r ∈ Q, r.length ≤ 100) (NX : Ev (fun m => laws_FnFairTurns.l0 m Q T out ok (N ++ [List.replicate (Q.getD i []).length (i : Int)]) cnt ((i + 1 : Nat) : Int)) true) :
    ∀ (d : Nat) (j : Nat), j + d = (Q.getD i []).length → Ev (fun m => laws_FnFairTurns.l1 m Q T out ok N cnt (i : Int) (List.replicate j (i : Int)) (j : Int)) true := by
  have hl : (Q.getD i []).length ≤ 100 := by
    rw [List.getD_eq_getElem?_getD, List.getElem?_eq_getElem hi]
    exact h100 _ (List.getElem_mem _)
  intro d
  induction d with
  | zero =>
    intro j hj
    refine Ev.step (fun m => ?_) NX
    simp only [laws_FnFairTurns.l1]
    rw [if_pos (by omega), if_pos (by omega), rdL, if_neg (by omega), if_pos (by omega), w64 (by omega) (by omega), show (i : Int) + 1 = ((i + 1 : Nat) : Int) by omega]
    simp only [Nat.add_zero] at hj
    rw [hj]
  | succ d ih =>
    intro j hj
    refine Ev.step (fun m => ?_) (ih (j + 1) (by omega))
    simp only [laws_FnFairTurns.l1]
    rw [if_pos (by omega), if_pos (by omega), rdL, if_pos (by omega), if_pos (by simp; omega), w64 (by omega) (by omega), show (j : Int) + 1 = ((j + 1 : Nat) : Int) by omega, List.replicate_succ']
theorem named_take (Q : List (List Int)) (i : Nat) (hi : i < Q.length) : (named Q).take i ++ [List.replicate (Q.getD i []).length (i : Int)] = (named Q).take (i + 1) := by
  have h' : i < (named Q).length := by simpa [named] using hi
  rw [List.take_succ_eq_append_getElem h']
  congr 1
  have := named_get Q i hi
  rw [List.getD_eq_getElem?_getD, List.getElem?_eq_getElem h'] at this
  simp only [Option.getD_some] at this
  rw [this]
theorem nameLoop (Q : List (List Int)) (T : Int) (out : List Int) (ok : Bool) (cnt : List Int) (hQ : Q.length ≤ 100) (h100 : ∀ r ∈ Q, r.length ≤ 100)
    (NX : Ev (fun m => laws_FnFairTurns.l0 m Q T out ok (named Q) cnt (Q.length : Int)) true) : ∀ (d i : Nat), i + d = Q.length → Ev (fun m => laws_FnFairTurns.l0 m Q T out ok ((named Q).take i) cnt (i : Int)) true := by
  intro d
  induction d with
  | zero =>
    intro i hi
    simp only [Nat.add_zero] at hi
    subst hi
    rw [List.take_of_length_le (by simp [named])]
    exact NX
  | succ d ih =>
    intro i hi
    have z := nameInner Q T out ok ((named Q).take i) cnt i (by omega) hQ (by simp; omega) h100 (by rw [named_take Q i (by omega)]; exact ih (i + 1) (by omega)) (Q.getD i []).length 0 (by omega)
    refine Ev.step (fun m => ?_) z
    simp only [laws_FnFairTurns.l0]; rw [if_pos (by omega)]
    rfl
theorem whole (b : List Int) (hb : b.length ≤ 140737488351232) : Ev (fun m => laws_FnFairTurns.f m b) true := by
  unfold laws_FnFairTurns.f laws_big.f
  simp only [Option.bind_some]
  by_cases hbig : (b.length : Int) > 1048576
  · rw [decide_eq_true hbig]; simp only [if_true]; exact Ev.now _
  · rw [decide_eq_false hbig]; simp only [Bool.false_eq_true, if_false]
    obtain ⟨Q, T, hd, hQ, h100⟩ := draw_ok b hb
    have hlen : (fair Q T).1.length ≤ 1000 := by
      unfold fair
      split
      · rename_i h
        obtain ⟨_, _, _, _, _⟩ := okF_true h
        simp; omega
      · simp
    refine Ev.bind hd (Ev.bind (implFair Q T) (Ev.bind (specFair Q hQ T) ?_))
    simp only [bne_self_eq_false, Bool.false_eq_true, if_false]
    refine Ev.bind (same_ok (fair Q T).1 (by omega)) ?_
    simp only [Bool.not_true]
    have fin : Ev (fun m => laws_FnFairTurns.l0 m Q T (fair Q T).1 (fair Q T).2 (named Q) (List.replicate Q.length 0) (Q.length : Int)) true := by
      refine Ev.step (f := fun m => (impl_Fair.f m (named Q) T).bind fun bt => (if (bt.2 != (fair Q T).2) = true then (laws_FnFairTurns.j3 m Q (fair Q T).1 (List.replicate Q.length 0) bt.1 true) else (laws_FnFairTurns.j3 m Q (fair Q T).1 (List.replicate Q.length 0) bt.1 ((bt.1.length : Int) != ((fair Q T).1.length : Int))))) (fun m => ?_) (Ev.bind (implFair (named Q) T) ?_)
      · simp only [laws_FnFairTurns.l0]; rw [if_neg (by omega)]
      · rw [fair_named]
        by_cases h : okF Q T = true
        · obtain ⟨h1, h2, h3, h4, hr⟩ := okF_true h
          have ef : fair Q T = (((S Q).take T.toNat).map (val Q), true) := by unfold fair; rw [if_pos h]
          rw [if_pos h, ef]
          have z := checkOut Q h2 hr (((S Q).take T.toNat).map (val Q)) (((S Q).take T.toNat).map fun x => (x.1 : Int)) (by simp; omega) 60 0 (by omega) 0 T.toNat (by simp [S]) (by simp [S])
          rw [at_zero] at z
          refine Ev.congr (fun m => ?_) (Ev.step (g := fun m => laws_FnFairTurns.j3 m Q (((S Q).take T.toNat).map (val Q)) (List.replicate Q.length 0) (((S Q).take T.toNat).map fun x => (x.1 : Int)) false) (fun m => ?_) z)
          · simp
          · simp [laws_FnFairTurns.j3]
        · have ef : fair Q T = ([], false) := by unfold fair; rw [if_neg h]
          rw [if_neg h, ef]
          refine Ev.congr (fun m => ?_) (Ev.step (g := fun m => laws_FnFairTurns.j3 m Q [] (List.replicate Q.length 0) [] false) (fun m => ?_) (lastPart Q [] (List.replicate Q.length 0) [] 0 (by simp)))
          · simp
          · simp [laws_FnFairTurns.j3]
    have z := nameLoop Q T (fair Q T).1 (fair Q T).2 (List.replicate Q.length 0) hQ h100 fin Q.length 0 (by omega)
    refine Ev.step (fun m => ?_) z
    simp only [laws_FnFairTurns.j0, Bool.false_eq_true, if_false]
    rw [if_pos (by omega), if_pos (by omega)]
    simp
end Go.Proofs.Ytjioalgfpcdlhaa.FairLaw
