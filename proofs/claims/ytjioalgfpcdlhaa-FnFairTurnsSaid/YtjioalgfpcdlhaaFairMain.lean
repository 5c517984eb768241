/- FnFairTurns over plain lists. By an AI agent. -/
import Derived.Test.YtjioalgfpcdlhaaFairx3
import Derived.Test.YtjioalgfpcdlhaaFairx4
import Derived.Test.YtjioalgfpcdlhaaFairMath
import Derived.Test.YtjioalgfpcdlhaaFairDraw
namespace Go.Proofs.Ytjioalgfpcdlhaa.FairMain
set_option linter.unusedVariables false
open Go Go.RowKit Go.Proofs.Ytjioalgfpcdlhaa.Fair Go.Proofs.Ytjioalgfpcdlhaa.FairMath Go.Proofs.Ytjioalgfpcdlhaa.FairDraw Go.Proofs.YtjioalgfpcdlhaaW.PrintWords
theorem in_at (a b c : Int) : impl_in.f a b c = some (decide (b ≤ a) && decide (a ≤ c)) := by
  unfold impl_in.f
  by_cases h : a ≥ b
  · rw [if_pos h, decide_eq_true (show b ≤ a from h)]; simp
  · rw [if_neg h, decide_eq_false (show ¬ b ≤ a from h)]; simp
theorem in_at2 (a b c : Int) : spec_l1In.f a b c = some (decide (b ≤ a) && decide (a ≤ c)) := by
  unfold spec_l1In.f
  by_cases h : a ≥ b
  · rw [if_pos h, decide_eq_true (show b ≤ a from h)]; simp
  · rw [if_neg h, decide_eq_false (show ¬ b ≤ a from h)]; simp
theorem same_ok (x : List Int) (hx : x.length ≤ 1000000000) : Ev (fun k => laws_sameInts.f k x x) true := by
  have go : ∀ (d : Nat) (i : Int), 0 ≤ i → (x.length : Int) - i = d → Ev (fun k => laws_sameInts.l0 k x x i) true := by
    intro d
    induction d with
    | zero =>
      intro i h0 hd
      refine Ev.step (fun k => ?_) (Ev.now true)
      simp only [laws_sameInts.l0]; rw [if_neg (by omega)]
    | succ d ih =>
      intro i h0 hd
      refine Ev.step (fun k => ?_) (ih (i + 1) (by omega) (by omega))
      simp only [laws_sameInts.l0, if_true]; rw [if_pos (by omega), if_pos h0, if_pos (by omega), w64 (by omega) (by omega)]
  refine Ev.congr (fun k => ?_) (go x.length 0 (by omega) (by omega))
  simp only [laws_sameInts.f, if_true]
theorem rdL (Q : List (List Int)) (q : Nat) : rd_L2 Q (q : Int) = Q.getD q [] := by simp [rd_L2]
theorem rdI (l : List Int) (q : Nat) : rd l (q : Int) = l.getD q 0 := by simp [rd]
theorem lens_drop (Q : List (List Int)) (q : Nat) : (lens Q).drop q = (Q.drop q).map List.length := by simp [lens, List.map_drop]
theorem out_cons (Q : List (List Int)) (o : List Int) (x : Nat × Nat) (l : List (Nat × Nat)) (t : Nat) : (o ++ [val Q x]) ++ (l.take t).map (val Q) = o ++ ((x :: l).take (t + 1)).map (val Q) := by simp

theorem implZero (Q : List (List Int)) (k : Nat) (hQ : Q.length ≤ 8) : ∀ (rs : List (List Int)) (q : Nat), Q.drop q = rs → q + rs.length = Q.length → ∀ (x6 : Int) (o : List Int),
    Ev (fun m => impl_Fair.l2 m Q ((0 : Nat) : Int) x6 o (k : Int) Q (Q.length : Int) (q : Int)) (o, true) := by
  intro rs
  induction rs with
  | nil =>
    intro q hd hq x6 o
    refine Ev.step (fun r => ?_) (Ev.step (g := fun r => impl_Fair.l1 r Q ((0 : Nat) : Int) x6 o (wrap64 ((k : Int) + 1))) (fun r => ?_) (Ev.step (g := fun r => impl_Fair.j3 r Q ((0 : Nat) : Int) x6 o (wrap64 ((k : Int) + 1)) false) (fun r => ?_) (Ev.now _)))
    · simp only [impl_Fair.l2]; rw [if_neg (by simp at hq; omega)]
    · simp only [impl_Fair.l1]; rw [if_neg (by omega)]
    · simp [impl_Fair.j3]
  | cons r rs ih =>
    intro q hd hq x6 o
    obtain ⟨hlt, hg, hd'⟩ := drop_cons [] hd
    simp only [List.length_cons] at hq
    refine Ev.step (fun m => ?_) (ih (q + 1) hd' (by omega) x6 o)
    simp only [impl_Fair.l2]
    rw [if_pos (by omega), if_pos (by omega), if_pos (by omega), rdL, hg]
    have e : wrap64 ((q : Int) + 1) = ((q + 1 : Nat) : Int) := by rw [w64 (by omega) (by omega)]; omega
    rw [e]
    by_cases c : (k : Int) < (r.length : Int)
    · rw [if_pos c, if_neg (by omega)]
    · rw [if_neg c]
section impl
variable (Q : List (List Int)) (hQ : Q.length ≤ 8) (hr : ∀ r ∈ Q, r.length ≤ 60)
theorem implHead (d : Nat) (k T : Nat) (o : List Int) (ho : o.length + T ≤ 1000)
    (IH : ∀ d', d' + 1 = d → ∀ (T : Nat) (o : List Int), 0 < T → o.length + T ≤ 1000 →
      Ev (fun r => impl_Fair.l2 r Q (T : Int) ((seqF (lens Q) d k).length : Int) o (k : Int) Q (Q.length : Int) 0) (o ++ ((seqF (lens Q) d k).take T).map (val Q), true)) :
    Ev (fun r => impl_Fair.l1 r Q (T : Int) ((seqF (lens Q) d k).length : Int) o (k : Int)) (o ++ ((seqF (lens Q) d k).take T).map (val Q), true) := by
  by_cases cT : T = 0
  · subst cT
    refine Ev.step (fun r => ?_) (Ev.step (g := fun r => impl_Fair.j3 r Q ((0 : Nat) : Int) ((seqF (lens Q) d k).length : Int) o (k : Int) false) (fun r => ?_) (Ev.now _))
    · simp only [impl_Fair.l1]; rw [if_neg (by omega)]
    · simp [impl_Fair.j3]
  · by_cases cL : (seqF (lens Q) d k).length = 0
    · refine Ev.step (fun r => ?_) (Ev.step (g := fun r => impl_Fair.j3 r Q (T : Int) ((seqF (lens Q) d k).length : Int) o (k : Int) false) (fun r => ?_) (Ev.now _))
      · simp only [impl_Fair.l1]; rw [if_pos (by omega), decide_eq_false (by omega)]
      · rw [List.length_eq_zero_iff.1 cL]; simp [impl_Fair.j3]
    · cases d with
      | zero => simp [seqF] at cL
      | succ d =>
        refine Ev.step (fun r => ?_) (Ev.step (g := fun r => impl_Fair.j3 r Q (T : Int) ((seqF (lens Q) (d + 1) k).length : Int) o (k : Int) true) (fun r => ?_) (IH d rfl T o (by omega) ho))
        · simp only [impl_Fair.l1]; rw [if_pos (by omega), decide_eq_true (by omega)]
        · simp only [impl_Fair.j3, if_true]
include hQ hr
theorem implRow (d k : Nat) (hk : k + d < 60) (hle : (seqF (lens Q) d (k + 1)).length ≤ 480)
    (NEXT : ∀ (T : Nat) (o : List Int), o.length + T ≤ 1000 → Ev (fun r => impl_Fair.l1 r Q (T : Int) ((seqF (lens Q) d (k + 1)).length : Int) o ((k : Int) + 1)) (o ++ ((seqF (lens Q) d (k + 1)).take T).map (val Q), true)) :
    ∀ (rs : List (List Int)) (q : Nat), Q.drop q = rs → q + rs.length = Q.length → ∀ (T : Nat) (o : List Int), o.length + T ≤ 1000 →
      Ev (fun r => impl_Fair.l2 r Q (T : Int) ((rowC k q (rs.map List.length) ++ seqF (lens Q) d (k + 1)).length : Int) o (k : Int) Q (Q.length : Int) (q : Int)) (o ++ ((rowC k q (rs.map List.length) ++ seqF (lens Q) d (k + 1)).take T).map (val Q), true) := by
  intro rs
  induction rs with
  | nil =>
    intro q hd hq T o ho
    simp only [List.map_nil, rowC, List.nil_append]
    refine Ev.step (fun r => ?_) (NEXT T o ho)
    simp only [impl_Fair.l2]; rw [if_neg (by simp at hq; omega), w64 (by omega) (by omega)]
  | cons r rs ih =>
    intro q hd hq T o ho
    obtain ⟨hlt, hg, hd'⟩ := drop_cons [] hd
    have hr' : r.length ≤ 60 := hr r (by have : r ∈ Q.drop q := by rw [hd]; simp
                                         exact List.mem_of_mem_drop this)
    simp only [List.length_cons] at hq
    have hrow : ∀ (l : List Nat) (q : Nat), (rowC k q l).length ≤ l.length := by
      intro l; induction l with
      | nil => intro q; simp [rowC]
      | cons a l ih2 => intro q; have := ih2 (q + 1); unfold rowC; split <;> simp <;> omega
    have hl2 := hrow (rs.map List.length) (q + 1)
    simp only [List.length_map] at hl2
    simp only [List.map_cons]
    unfold rowC
    by_cases c : k < r.length
    · rw [if_pos c]
      by_cases cT : T = 0
      · subst cT
        have z := implZero Q k hQ (r :: rs) q hd (by simp; omega) (((q, k) :: rowC k (q + 1) (rs.map List.length) ++ seqF (lens Q) d (k + 1)).length : Int) o
        simpa using z
      · obtain ⟨t, rfl⟩ : ∃ t, T = t + 1 := ⟨T - 1, by omega⟩
        have nx := ih (q + 1) hd' (by omega) t (o ++ [val Q (q, k)]) (by simp; omega)
        rw [List.cons_append, ← out_cons]
        refine Ev.step (fun m => ?_) nx
        simp only [impl_Fair.l2]
        rw [if_pos (by omega), if_pos (by omega), if_pos (by omega), rdL, hg, if_pos (by omega), if_pos (by omega), if_pos (by omega), if_pos (by omega), w64 (x := ((t + 1 : Nat) : Int) - 1) (by omega) (by omega), w64 (x := (q : Int) + 1) (by omega) (by omega), w64 (by simp; omega) (by simp; omega), rdI]
        rw [show ((t + 1 : Nat) : Int) - 1 = (t : Int) by omega, show (q : Int) + 1 = ((q + 1 : Nat) : Int) by omega]
        rw [show ((((q, k) :: (rowC k (q + 1) (rs.map List.length) ++ seqF (lens Q) d (k + 1))).length : Nat) : Int) - 1 = ((rowC k (q + 1) (rs.map List.length) ++ seqF (lens Q) d (k + 1)).length : Int) by simp]
        unfold val; simp only [hg]
    · rw [if_neg c]
      refine Ev.step (fun m => ?_) (ih (q + 1) hd' (by omega) T o ho)
      simp only [impl_Fair.l2]
      rw [if_pos (by omega), if_pos (by omega), if_pos (by omega), rdL, hg, if_neg (by omega), w64 (by omega) (by omega), show (q : Int) + 1 = ((q + 1 : Nat) : Int) by omega]
end impl
theorem sum_le (ls : List Nat) (k : Nat) (h : ∀ n ∈ ls, n ≤ 60) : (ls.map fun n => n - k).sum ≤ 60 * ls.length := by
  induction ls with
  | nil => simp
  | cons a l ih =>
    have h1 := h a (by simp)
    have h2 := ih (fun n hn => h n (by simp [hn]))
    simp; omega
theorem lens_le (Q : List (List Int)) (hr : ∀ r ∈ Q, r.length ≤ 60) : ∀ n ∈ lens Q, n ≤ 60 := by
  intro n hn
  obtain ⟨r, h1, rfl⟩ := List.mem_map.1 hn
  exact hr r h1
theorem seq_small (Q : List (List Int)) (hQ : Q.length ≤ 8) (hr : ∀ r ∈ Q, r.length ≤ 60) (d k : Nat) (hk : 60 ≤ k + d) : (seqF (lens Q) d k).length ≤ 480 := by
  rw [seqF_length (lens Q) d k (fun n hn => by have := lens_le Q hr n hn; omega)]
  have := sum_le (lens Q) k (lens_le Q hr)
  have e : (lens Q).length = Q.length := by simp [lens]
  omega
theorem implOut (Q : List (List Int)) (hQ : Q.length ≤ 8) (hr : ∀ r ∈ Q, r.length ≤ 60) : ∀ (d k : Nat), k + d = 60 → ∀ (T : Nat) (o : List Int), o.length + T ≤ 1000 →
    Ev (fun r => impl_Fair.l1 r Q (T : Int) ((seqF (lens Q) d k).length : Int) o (k : Int)) (o ++ ((seqF (lens Q) d k).take T).map (val Q), true) := by
  intro d
  induction d with
  | zero =>
    intro k hk T o ho
    exact implHead Q 0 k T o ho (fun d' h => by omega)
  | succ d ih =>
    intro k hk T o ho
    refine implHead Q (d + 1) k T o ho (fun d' h T' o' _ ho' => ?_)
    obtain rfl : d' = d := by omega
    exact implRow Q hQ hr d' k (by omega) (seq_small Q hQ hr d' (k + 1) (by omega)) (fun T'' o'' h => by have z := ih (k + 1) (by omega) T'' o'' h; simpa using z) Q 0 (by simp) (by simp) T' o' ho'
theorem implSum (Q : List (List Int)) (hQ : Q.length ≤ 8) (T : Int) (res : List Int × Bool) : ∀ (rs : List (List Int)) (q acc : Nat), Q.drop q = rs → q + rs.length = Q.length → acc ≤ 60 * q → (∀ r ∈ rs, r.length ≤ 60) →
    Ev (fun m => impl_Fair.l1 m Q T ((acc + (rs.map List.length).sum : Nat) : Int) [] 0) res → Ev (fun m => impl_Fair.l0 m Q T (acc : Int) Q (Q.length : Int) (q : Int)) res := by
  intro rs
  induction rs with
  | nil =>
    intro q acc hd hq ha _ h
    refine Ev.step (fun m => ?_) h
    simp only [impl_Fair.l0]; rw [if_neg (by simp at hq; omega)]; simp
  | cons r rs ih =>
    intro q acc hd hq ha hr h
    obtain ⟨hlt, hg, hd'⟩ := drop_cons [] hd
    have h60 := hr r (by simp)
    have hsum : acc + r.length ≤ 60 * (q + 1) := by omega
    refine Ev.step (fun m => ?_) (ih (q + 1) (acc + r.length) hd' (by simp at hq; omega) hsum (fun x hx => hr x (by simp [hx])) (by simpa [Nat.add_assoc] using h))
    simp only [impl_Fair.l0]
    rw [if_pos (by omega), if_pos (by omega), if_pos (by omega), rdL, hg, if_neg (by omega), w64 (by omega) (by omega), w64 (by omega) (by omega), show (q : Int) + 1 = ((q + 1 : Nat) : Int) by omega, show (acc : Int) + (r.length : Int) = ((acc + r.length : Nat) : Int) by omega]
theorem implLong (Q : List (List Int)) (hQ : Q.length ≤ 8) (T : Int) : ∀ (rs : List (List Int)) (q acc : Nat), Q.drop q = rs → q + rs.length = Q.length → acc ≤ 60 * q → (∃ r ∈ rs, 60 < r.length) →
    Ev (fun m => impl_Fair.l0 m Q T (acc : Int) Q (Q.length : Int) (q : Int)) ([], false) := by
  intro rs
  induction rs with
  | nil => intro q acc _ _ _ h; obtain ⟨r, h, _⟩ := h; simp at h
  | cons r rs ih =>
    intro q acc hd hq ha h
    obtain ⟨hlt, hg, hd'⟩ := drop_cons [] hd
    by_cases c : 60 < r.length
    · refine Ev.step (fun m => ?_) (Ev.now _)
      simp only [impl_Fair.l0]
      rw [if_pos (by omega), if_pos (by omega), if_pos (by omega), rdL, hg, if_pos (by omega)]
    · have h' : ∃ r ∈ rs, 60 < r.length := by
        obtain ⟨x, hx, h60⟩ := h
        rcases List.mem_cons.1 hx with rfl | hx
        · exact absurd h60 c
        · exact ⟨x, hx, h60⟩
      refine Ev.step (fun m => ?_) (ih (q + 1) (acc + r.length) hd' (by simp at hq; omega) (by omega) h')
      simp only [impl_Fair.l0]
      rw [if_pos (by omega), if_pos (by omega), if_pos (by omega), rdL, hg, if_neg (by omega), w64 (by omega) (by omega), w64 (by omega) (by omega), show (q : Int) + 1 = ((q + 1 : Nat) : Int) by omega, show (acc : Int) + (r.length : Int) = ((acc + r.length : Nat) : Int) by omega]
theorem okF_true {Q : List (List Int)} {T : Int} (h : okF Q T = true) : 1 ≤ Q.length ∧ Q.length ≤ 8 ∧ 0 ≤ T ∧ T ≤ 500 ∧ ∀ r ∈ Q, r.length ≤ 60 := by
  unfold okF at h
  simp only [Bool.and_eq_true, decide_eq_true_eq, List.all_eq_true] at h
  obtain ⟨⟨⟨⟨a, b⟩, c⟩, d⟩, e⟩ := h
  exact ⟨a, b, c, d, e⟩
theorem okF_false {Q : List (List Int)} {T : Int} (h : ¬ okF Q T = true) (a : 1 ≤ Q.length) (b : Q.length ≤ 8) (c : 0 ≤ T) (d : T ≤ 500) : ∃ r ∈ Q, 60 < r.length := by
  refine Classical.byContradiction fun k => h ?_
  unfold okF
  simp only [Bool.and_eq_true, decide_eq_true_eq, List.all_eq_true]
  exact ⟨⟨⟨⟨a, b⟩, c⟩, d⟩, fun r hr => by
    refine Classical.byContradiction fun z => k ⟨r, hr, by omega⟩⟩
theorem implFair (Q : List (List Int)) (T : Int) : Ev (fun m => impl_Fair.f m Q T) (fair Q T) := by
  by_cases hn : 1 ≤ Q.length ∧ Q.length ≤ 8 ∧ 0 ≤ T ∧ T ≤ 500
  · obtain ⟨h1, h2, h3, h4⟩ := hn
    have e : ∀ m, impl_Fair.f m Q T = impl_Fair.j0 m Q T false := by
      intro m
      unfold impl_Fair.f
      rw [in_at, in_at, decide_eq_true (show (1 : Int) ≤ Q.length by omega), decide_eq_true (show (Q.length : Int) ≤ 8 by omega), decide_eq_true h3, decide_eq_true h4]
      simp
    refine Ev.congr e ?_
    by_cases hok : okF Q T = true
    · obtain ⟨_, _, _, _, hr⟩ := okF_true hok
      unfold fair
      rw [if_pos hok]
      obtain ⟨t, rfl⟩ := Int.eq_ofNat_of_zero_le h3
      have z := implOut Q h2 hr 60 0 (by omega) t [] (by simp; omega)
      refine Ev.step (fun m => ?_) (implSum Q h2 (t : Int) _ Q 0 0 (by simp) (by simp) (by omega) hr ?_)
      · simp [impl_Fair.j0]
      · have hl : (seqF (lens Q) 60 0).length = (Q.map List.length).sum := by
          rw [seqF_length (lens Q) 60 0 (fun n hn => by have := lens_le Q hr n hn; omega)]
          simp [lens, List.map_map]; rfl
        rw [hl] at z
        simpa [S] using z
    · unfold fair
      rw [if_neg hok]
      refine Ev.step (fun m => ?_) (implLong Q h2 T Q 0 0 (by simp) (by simp) (by omega) (okF_false hok h1 h2 h3 h4))
      simp [impl_Fair.j0]
  · have hok : ¬ okF Q T = true := fun h => hn (by obtain ⟨a, b, c, d, _⟩ := okF_true h; exact ⟨a, b, c, d⟩)
    unfold fair
    rw [if_neg hok]
    have e : ∀ m, impl_Fair.f m Q T = impl_Fair.j0 m Q T true := by
      intro m
      unfold impl_Fair.f
      rw [in_at, in_at]
      simp only [Option.bind_some]
      by_cases c : (decide ((1 : Int) ≤ Q.length) && decide ((Q.length : Int) ≤ 8)) = true
      · rw [if_pos c]
        have c2 : (decide (0 ≤ T) && decide (T ≤ 500)) = false := by
          simp only [Bool.and_eq_true, decide_eq_true_eq] at c
          rw [Bool.eq_false_iff]
          intro c2
          simp only [Bool.and_eq_true, decide_eq_true_eq] at c2
          exact hn ⟨by omega, by omega, c2.1, c2.2⟩
        rw [c2]; rfl
      · rw [if_neg c]
    refine Ev.congr e (Ev.step (fun m => ?_) (Ev.now _))
    simp [impl_Fair.j0]
theorem rowC_cons (k q n : Nat) (ns : List Nat) : rowC k q (n :: ns) = (if k < n then [(q, k)] else []) ++ rowC k (q + 1) ns := by
  conv => lhs; unfold rowC
  split <;> simp
theorem specStop (Q : List (List Int)) (k q T : Nat) (l : List (Nat × Nat)) (o : List Int) (h : T = 0 ∨ l.length = 0) :
    Ev (fun m => spec_Fair.l1 m Q (T : Int) o (l.length : Int) (at_ Q k q) (q : Int)) (o ++ (l.take T).map (val Q), true) := by
  by_cases cT : T = 0
  · subst cT
    refine Ev.step (fun m => ?_) (Ev.step (g := fun m => spec_Fair.j3 m Q ((0 : Nat) : Int) o (l.length : Int) (at_ Q k q) (q : Int) false) (fun m => ?_) (Ev.now _))
    · simp only [spec_Fair.l1]; rw [if_neg (by omega)]
    · simp [spec_Fair.j3]
  · have hl : l.length = 0 := h.resolve_left cT
    refine Ev.step (fun m => ?_) (Ev.step (g := fun m => spec_Fair.j3 m Q (T : Int) o (l.length : Int) (at_ Q k q) (q : Int) false) (fun m => ?_) (Ev.now _))
    · simp only [spec_Fair.l1]; rw [if_pos (by omega), decide_eq_false (by omega)]
    · rw [List.length_eq_zero_iff.1 hl]; simp [spec_Fair.j3]
theorem specStep (Q : List (List Int)) (hQ : Q.length ≤ 8) (hr : ∀ r ∈ Q, r.length ≤ 60) (k q : Nat) (r : List Int) (hk : k ≤ 60) (hq : q < Q.length) (hg : Q.getD q [] = r) (rest : List (Nat × Nat)) (hrest : rest.length ≤ 1000) (T : Nat) (o : List Int) (ho : o.length + T ≤ 1000)
    (nx : ∀ (T' : Nat) (o' : List Int), o'.length + T' ≤ 1000 → Ev (fun m => spec_Fair.l1 m Q (T' : Int) o' (rest.length : Int) (at_ Q k (q + 1)) (Int.tmod ((q : Int) + 1) (Q.length : Int))) (o' ++ (rest.take T').map (val Q), true)) :
    Ev (fun m => spec_Fair.l1 m Q (T : Int) o ((((if k < r.length then [(q, k)] else []) ++ rest).length : Nat) : Int) (at_ Q k q) (q : Int)) (o ++ ((((if k < r.length then [(q, k)] else []) ++ rest)).take T).map (val Q), true) := by
  by_cases c : T = 0 ∨ ((if k < r.length then [(q, k)] else []) ++ rest).length = 0
  · exact specStop Q k q T _ o c
  · have c1 : ¬ T = 0 := fun h => c (.inl h)
    have c2 : ¬ ((if k < r.length then [(q, k)] else []) ++ rest).length = 0 := fun h => c (.inr h)
    have hat : rd (at_ Q k q) (q : Int) = ((min r.length k : Nat) : Int) := by rw [rdI, at_get Q k q q hq, if_neg (by omega), hg]
    by_cases ck : k < r.length
    · obtain ⟨t, rfl⟩ : ∃ t, T = t + 1 := ⟨T - 1, by omega⟩
      rw [if_pos ck] at c2 ⊢
      rw [List.singleton_append, ← out_cons]
      refine Ev.step (fun m => ?_) (Ev.step (g := fun m => spec_Fair.j3 m Q ((t + 1 : Nat) : Int) o ((((q, k) :: rest).length : Nat) : Int) (at_ Q k q) (q : Int) true) (fun m => ?_) (nx t (o ++ [val Q (q, k)]) (by simp; omega)))
      · simp only [spec_Fair.l1]; rw [if_pos (by omega), decide_eq_true (by simp <;> omega)]
      · simp only [spec_Fair.j3, if_true]
        rw [hat, rdL, hg, show (min r.length k) = k by omega, if_pos (by omega), if_pos (by rw [at_length]; omega), if_pos (by omega), if_pos (by omega), if_pos (by omega), if_pos (by omega), if_neg (by omega)]
        rw [w64 (x := ((t + 1 : Nat) : Int) - 1) (by omega) (by omega), w64 (x := (q : Int) + 1) (by omega) (by omega), w64 (x := (k : Int) + 1) (by omega) (by omega), w64 (by simp <;> omega) (by simp <;> omega), rdI, show ((q : Int)).toNat = q by omega]
        rw [at_set Q k q hq (by rw [hg]; exact ck), show ((t + 1 : Nat) : Int) - 1 = (t : Int) by omega, show ((((q, k) :: rest).length : Nat) : Int) - 1 = (rest.length : Int) by simp]
        unfold val; simp only [hg]
    · rw [if_neg ck] at c2 ⊢
      simp only [List.nil_append] at c2 ⊢
      refine Ev.step (fun m => ?_) (Ev.step (g := fun m => spec_Fair.j3 m Q (T : Int) o (rest.length : Int) (at_ Q k q) (q : Int) true) (fun m => ?_) (nx T o ho))
      · simp only [spec_Fair.l1]; rw [if_pos (by omega), decide_eq_true (by omega)]
      · simp only [spec_Fair.j3, if_true]
        rw [hat, rdL, hg, if_pos (by omega), if_pos (by rw [at_length]; omega), if_pos (by omega), if_neg (by omega), if_neg (by omega), w64 (by omega) (by omega), at_skip Q k q (by rw [hg]; exact ck)]
theorem row_small (k : Nat) : ∀ (l : List Nat) (q : Nat), (rowC k q l).length ≤ l.length := by
  intro l
  induction l with
  | nil => intro q; simp [rowC]
  | cons a l ih => intro q; have := ih (q + 1); unfold rowC; split <;> simp <;> omega
theorem specRow (Q : List (List Int)) (hQ : Q.length ≤ 8) (hr : ∀ r ∈ Q, r.length ≤ 60) (d k : Nat) (hk : k + 1 + d = 60)
    (NEXT : ∀ (T : Nat) (o : List Int), o.length + T ≤ 1000 → Ev (fun m => spec_Fair.l1 m Q (T : Int) o ((seqF (lens Q) d (k + 1)).length : Int) (at_ Q (k + 1) 0) 0) (o ++ ((seqF (lens Q) d (k + 1)).take T).map (val Q), true)) :
    ∀ (rs : List (List Int)) (q : Nat) (r : List Int), Q.drop q = r :: rs → q + rs.length + 1 = Q.length → ∀ (T : Nat) (o : List Int), o.length + T ≤ 1000 →
      Ev (fun m => spec_Fair.l1 m Q (T : Int) o ((rowC k q ((r :: rs).map List.length) ++ seqF (lens Q) d (k + 1)).length : Int) (at_ Q k q) (q : Int)) (o ++ ((rowC k q ((r :: rs).map List.length) ++ seqF (lens Q) d (k + 1)).take T).map (val Q), true) := by
  intro rs
  have hs := seq_small Q hQ hr d (k + 1) (by omega)
  induction rs with
  | nil =>
    intro q r hd hq T o ho
    obtain ⟨hlt, hg, hd'⟩ := drop_cons [] hd
    have z := specStep Q hQ hr k q r (by omega) hlt hg (seqF (lens Q) d (k + 1)) (by omega) T o ho (fun T' o' ho' => by
      have y := NEXT T' o' ho'
      rw [← at_wrap] at y
      simp only [List.length_nil, Nat.add_zero] at hq
      rw [show (q : Int) + 1 = (Q.length : Int) by omega, Int.tmod_self, hq]
      exact y)
    simp only [List.map_cons, List.map_nil]
    rw [rowC_cons]
    simpa [rowC] using z
  | cons r2 rs ih =>
    intro q r hd hq T o ho
    obtain ⟨hlt, hg, hd'⟩ := drop_cons [] hd
    have z := specStep Q hQ hr k q r (by omega) hlt hg (rowC k (q + 1) ((r2 :: rs).map List.length) ++ seqF (lens Q) d (k + 1)) (by
      have h1 := row_small k ((r2 :: rs).map List.length) (q + 1)
      simp only [List.length_map, List.length_cons] at h1 hq
      simp only [List.length_append]
      omega) T o ho (fun T' o' ho' => by
      have y := ih (q + 1) r2 hd' (by simp at hq; omega) T' o' ho'
      simp only [List.length_cons] at hq
      rw [show ((q + 1 : Nat) : Int) = (q : Int) + 1 by omega] at y
      rw [Int.tmod_eq_emod_of_nonneg (by omega), Int.emod_eq_of_lt (by omega) (by omega)]
      exact y)
    rw [List.map_cons, rowC_cons, List.append_assoc]
    exact z
theorem specOut (Q : List (List Int)) (hQ : Q.length ≤ 8) (h1 : 1 ≤ Q.length) (hr : ∀ r ∈ Q, r.length ≤ 60) : ∀ (d k : Nat), k + d = 60 → ∀ (T : Nat) (o : List Int), o.length + T ≤ 1000 →
    Ev (fun m => spec_Fair.l1 m Q (T : Int) o ((seqF (lens Q) d k).length : Int) (at_ Q k 0) 0) (o ++ ((seqF (lens Q) d k).take T).map (val Q), true) := by
  intro d
  induction d with
  | zero =>
    intro k hk T o ho
    exact specStop Q k 0 T _ o (.inr (by simp [seqF]))
  | succ d ih =>
    intro k hk T o ho
    cases hd : Q with
    | nil => rw [hd] at h1; simp at h1
    | cons r rs =>
      have z := specRow Q hQ hr d k (by omega) (fun T' o' ho' => ih (k + 1) (by omega) T' o' ho') rs 0 r (by simpa using hd) (by rw [hd]; simp) T o ho
      rw [← hd] at z ⊢
      exact z
theorem specSum (Q : List (List Int)) (hQ : Q.length ≤ 100) (T : Int) (res : List Int × Bool) : ∀ (rs : List (List Int)) (q acc : Nat), Q.drop q = rs → q + rs.length = Q.length → acc ≤ 60 * q → (∀ r ∈ rs, r.length ≤ 60) →
    Ev (fun m => spec_Fair.l0 m Q T [] ((acc + (rs.map List.length).sum : Nat) : Int) (Q.length : Int)) res → Ev (fun m => spec_Fair.l0 m Q T [] (acc : Int) (q : Int)) res := by
  intro rs
  induction rs with
  | nil =>
    intro q acc hd hq ha _ h
    simp only [List.length_nil, Nat.add_zero] at hq
    subst hq
    simpa using h
  | cons r rs ih =>
    intro q acc hd hq ha hr h
    obtain ⟨hlt, hg, hd'⟩ := drop_cons [] hd
    have h60 := hr r (by simp)
    refine Ev.step (fun m => ?_) (ih (q + 1) (acc + r.length) hd' (by simp at hq; omega) (by omega) (fun x hx => hr x (by simp [hx])) (by simpa [Nat.add_assoc] using h))
    simp only [spec_Fair.l0]
    rw [if_pos (by omega), if_pos (by omega), rdL, hg, if_neg (by omega), w64 (by omega) (by omega), w64 (by omega) (by omega), show (q : Int) + 1 = ((q + 1 : Nat) : Int) by omega, show (acc : Int) + (r.length : Int) = ((acc + r.length : Nat) : Int) by omega]
theorem specLong (Q : List (List Int)) (hQ : Q.length ≤ 100) (T : Int) : ∀ (rs : List (List Int)) (q acc : Nat), Q.drop q = rs → q + rs.length = Q.length → acc ≤ 60 * q → (∃ r ∈ rs, 60 < r.length) →
    Ev (fun m => spec_Fair.l0 m Q T [] (acc : Int) (q : Int)) ([], false) := by
  intro rs
  induction rs with
  | nil => intro q acc _ _ _ h; obtain ⟨r, h, _⟩ := h; simp at h
  | cons r rs ih =>
    intro q acc hd hq ha h
    obtain ⟨hlt, hg, hd'⟩ := drop_cons [] hd
    by_cases c : 60 < r.length
    · refine Ev.step (fun m => ?_) (Ev.now _)
      simp only [spec_Fair.l0]
      rw [if_pos (by omega), if_pos (by omega), rdL, hg, if_pos (by omega)]
    · have h' : ∃ r ∈ rs, 60 < r.length := by
        obtain ⟨x, hx, h60⟩ := h
        rcases List.mem_cons.1 hx with rfl | hx
        · exact absurd h60 c
        · exact ⟨x, hx, h60⟩
      refine Ev.step (fun m => ?_) (ih (q + 1) (acc + r.length) hd' (by simp at hq; omega) (by omega) h')
      simp only [spec_Fair.l0]
      rw [if_pos (by omega), if_pos (by omega), rdL, hg, if_neg (by omega), w64 (by omega) (by omega), w64 (by omega) (by omega), show (q : Int) + 1 = ((q + 1 : Nat) : Int) by omega, show (acc : Int) + (r.length : Int) = ((acc + r.length : Nat) : Int) by omega]
theorem specFair (Q : List (List Int)) (hQ : Q.length ≤ 100) (T : Int) : Ev (fun m => spec_Fair.f m Q T) (fair Q T) := by
  have e0 : ∀ m, spec_Fair.f m Q T = spec_Fair.l0 m Q T [] ((0 : Nat) : Int) ((0 : Nat) : Int) := fun m => rfl
  refine Ev.congr e0 ?_
  by_cases hl : ∃ r ∈ Q, 60 < r.length
  · have hok : ¬ okF Q T = true := fun h => by
      obtain ⟨_, _, _, _, hr⟩ := okF_true h
      obtain ⟨r, h1, h2⟩ := hl
      have := hr r h1
      omega
    unfold fair
    rw [if_neg hok]
    exact specLong Q hQ T Q 0 0 (by simp) (by simp) (by omega) hl
  · have hr : ∀ r ∈ Q, r.length ≤ 60 := fun r h => by
      refine Classical.byContradiction fun z => hl ⟨r, h, by omega⟩
    refine specSum Q hQ T _ Q 0 0 (by simp) (by simp) (by omega) hr ?_
    have step : ∀ b, ((decide ((1 : Int) ≤ Q.length) && decide ((Q.length : Int) ≤ 8)) && (decide (0 ≤ T) && decide (T ≤ 500))) = b →
        ∀ m, spec_Fair.l0 (m + 1) Q T [] ((0 + (Q.map List.length).sum : Nat) : Int) (Q.length : Int) = spec_Fair.j1 m Q T [] ((0 + (Q.map List.length).sum : Nat) : Int) (!b) := by
      intro b hb m
      simp only [spec_Fair.l0]
      rw [if_neg (by omega), in_at2, in_at2]
      simp only [Option.bind_some]
      subst hb
      cases (decide ((1 : Int) ≤ Q.length) && decide ((Q.length : Int) ≤ 8)) <;> simp
    by_cases hok : okF Q T = true
    · obtain ⟨h1, h2, h3, h4, _⟩ := okF_true hok
      unfold fair
      rw [if_pos hok]
      obtain ⟨t, rfl⟩ := Int.eq_ofNat_of_zero_le h3
      have z := specOut Q h2 h1 hr 60 0 (by omega) t [] (by simp; omega)
      rw [at_zero] at z
      have hl : (seqF (lens Q) 60 0).length = (Q.map List.length).sum := by
        rw [seqF_length (lens Q) 60 0 (fun n hn => by have := lens_le Q hr n hn; omega)]
        simp [lens, List.map_map]; rfl
      rw [hl] at z
      refine Ev.step (step true (by simp; omega)) (Ev.step (fun m => ?_) (by simpa [S] using z))
      simp only [spec_Fair.j1, Bool.not_true, Bool.false_eq_true, if_false]
      rw [if_pos (by omega), if_pos (by omega)]
      simp
    · unfold fair
      rw [if_neg hok]
      refine Ev.step (step false ?_) (Ev.step (fun m => ?_) (Ev.now _))
      · rw [Bool.eq_false_iff]
        intro c
        simp only [Bool.and_eq_true, decide_eq_true_eq] at c
        exact absurd (okF_false hok (by omega) (by omega) c.2.1 c.2.2) hl
      · simp [spec_Fair.j1]
end Go.Proofs.Ytjioalgfpcdlhaa.FairMain
