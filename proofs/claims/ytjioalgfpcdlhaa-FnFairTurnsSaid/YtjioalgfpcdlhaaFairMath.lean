/- What fair turns serve: plain lists and numbers, no program. By an AI agent. -/
namespace Go.Proofs.Ytjioalgfpcdlhaa.FairMath

/-- The places of round k, from queue q on: (queue, place) of each queue that is longer than k. -/
def rowC (k : Nat) : Nat → List Nat → List (Nat × Nat)
  | _, [] => []
  | q, n :: ns => if k < n then (q, k) :: rowC k (q + 1) ns else rowC k (q + 1) ns
/-- d rounds from round k on. -/
def seqF (ls : List Nat) : Nat → Nat → List (Nat × Nat)
  | 0, _ => []
  | d + 1, k => rowC k 0 ls ++ seqF ls d (k + 1)
def lens (Q : List (List Int)) : List Nat := Q.map List.length
def val (Q : List (List Int)) (x : Nat × Nat) : Int := (Q.getD x.1 []).getD x.2 0
def at_ (Q : List (List Int)) (k q : Nat) : List Int := Q.mapIdx fun i r => ((if i < q then min r.length (k + 1) else min r.length k : Nat) : Int)

theorem rowC_length (k : Nat) : ∀ (ls : List Nat) (q : Nat), (rowC k q ls).length + (ls.map fun n => n - (k + 1)).sum = (ls.map fun n => n - k).sum := by
  intro ls
  induction ls with
  | nil => intro q; simp [rowC]
  | cons n ns ih =>
    intro q
    have := ih (q + 1)
    unfold rowC
    split <;> simp <;> omega

theorem seqF_length (ls : List Nat) : ∀ (d k : Nat), (∀ n ∈ ls, n ≤ k + d) → (seqF ls d k).length = (ls.map fun n => n - k).sum := by
  intro d
  induction d with
  | zero =>
    intro k h
    simp only [seqF, List.length_nil]
    have : ∀ l : List Nat, (∀ n ∈ l, n ≤ k + 0) → (l.map fun n => n - k).sum = 0 := by
      intro l
      induction l with
      | nil => simp
      | cons a l ih =>
        intro h
        have h1 := h a (by simp)
        have h2 := ih (fun n hn => h n (by simp [hn]))
        simp; omega
    exact (this ls h).symm
  | succ d ih =>
    intro k h
    have h1 := ih (k + 1) (fun n hn => by have := h n hn; omega)
    have h2 := rowC_length k ls 0
    simp only [seqF, List.length_append]
    omega

theorem rowC_mem (k : Nat) : ∀ (ls : List Nat) (q : Nat) (x : Nat × Nat), x ∈ rowC k q ls → x.2 = k ∧ q ≤ x.1 ∧ k < ls.getD (x.1 - q) 0 := by
  intro ls
  induction ls with
  | nil => intro q x h; simp [rowC] at h
  | cons n ns ih =>
    intro q x h
    unfold rowC at h
    split at h
    · rename_i hk
      rcases List.mem_cons.1 h with rfl | h
      · simp; omega
      · obtain ⟨h1, h2, h3⟩ := ih _ _ h
        refine ⟨h1, by omega, ?_⟩
        obtain ⟨m, hm⟩ : ∃ m, x.1 - q = m + 1 := ⟨x.1 - q - 1, by omega⟩
        rw [hm]; simp only [List.getD_cons_succ]
        rwa [show x.1 - (q + 1) = m by omega] at h3
    · obtain ⟨h1, h2, h3⟩ := ih _ _ h
      refine ⟨h1, by omega, ?_⟩
      obtain ⟨m, hm⟩ : ∃ m, x.1 - q = m + 1 := ⟨x.1 - q - 1, by omega⟩
      rw [hm]; simp only [List.getD_cons_succ]
      rwa [show x.1 - (q + 1) = m by omega] at h3

theorem seqF_mem (ls : List Nat) : ∀ (d k : Nat) (x : Nat × Nat), x ∈ seqF ls d k → x.2 < ls.getD x.1 0 := by
  intro d
  induction d with
  | zero => intro k x h; simp [seqF] at h
  | succ d ih =>
    intro k x h
    simp only [seqF, List.mem_append] at h
    rcases h with h | h
    · obtain ⟨h1, _, h3⟩ := rowC_mem k ls 0 x h
      rw [h1]; simpa using h3
    · exact ih _ _ h

theorem at_length (Q : List (List Int)) (k q : Nat) : (at_ Q k q).length = Q.length := by simp [at_]
theorem at_get (Q : List (List Int)) (k q i : Nat) (h : i < Q.length) : (at_ Q k q).getD i 0 = ((if i < q then min (Q.getD i []).length (k + 1) else min (Q.getD i []).length k : Nat) : Int) := by
  have h' : i < (at_ Q k q).length := by rw [at_length]; exact h
  rw [List.getD_eq_getElem?_getD, List.getElem?_eq_getElem h', List.getD_eq_getElem?_getD, List.getElem?_eq_getElem h]
  simp [at_]
theorem at_zero (Q : List (List Int)) : at_ Q 0 0 = List.replicate Q.length 0 := by
  apply List.ext_getElem
  · simp [at_]
  · intro i h1 h2; simp [at_]
theorem at_wrap (Q : List (List Int)) (k : Nat) : at_ Q k Q.length = at_ Q (k + 1) 0 := by
  apply List.ext_getElem
  · simp [at_]
  · intro i h1 h2
    have : i < Q.length := by simpa [at_] using h1
    simp [at_, this]
theorem at_set (Q : List (List Int)) (k q : Nat) (h : q < Q.length) (hk : k < (Q.getD q []).length) : (at_ Q k q).set q ((k : Int) + 1) = at_ Q k (q + 1) := by
  apply List.ext_getElem
  · simp [at_]
  · intro i h1 h2
    have hi : i < Q.length := by simpa [at_] using h2
    rw [List.getElem_set]
    split
    · rename_i e
      subst e
      have : k < (Q[q]).length := by simpa [List.getD_eq_getElem?_getD, List.getElem?_eq_getElem h] using hk
      simp [at_]; omega
    · rename_i e
      simp only [at_, List.getElem_mapIdx]
      by_cases c : i < q
      · rw [if_pos c, if_pos (by omega)]
      · rw [if_neg c, if_neg (by omega)]
theorem at_skip (Q : List (List Int)) (k q : Nat) (hk : ¬ k < (Q.getD q []).length) : at_ Q k q = at_ Q k (q + 1) := by
  apply List.ext_getElem
  · simp [at_]
  · intro i h1 h2
    have hi : i < Q.length := by simpa [at_] using h2
    simp only [at_, List.getElem_mapIdx]
    by_cases c : i < q
    · rw [if_pos c, if_pos (by omega)]
    · rw [if_neg c]
      by_cases e : i = q
      · subst e
        have : ¬ k < (Q[i]).length := by simpa [List.getD_eq_getElem?_getD, List.getElem?_eq_getElem hi] using hk
        rw [if_pos (by omega)]
        congr 1
        omega
      · rw [if_neg (by omega)]

def named (Q : List (List Int)) : List (List Int) := Q.mapIdx fun i r => List.replicate r.length (i : Int)
theorem named_lens (Q : List (List Int)) : lens (named Q) = lens Q := by
  apply List.ext_getElem
  · simp [lens, named]
  · intro i h1 h2; simp [lens, named]
theorem named_get (Q : List (List Int)) (i : Nat) (h : i < Q.length) : (named Q).getD i [] = List.replicate (Q.getD i []).length (i : Int) := by
  have h' : i < (named Q).length := by simpa [named] using h
  rw [List.getD_eq_getElem?_getD, List.getElem?_eq_getElem h', List.getD_eq_getElem?_getD, List.getElem?_eq_getElem h]
  simp [named]
theorem lens_getD (Q : List (List Int)) (i : Nat) : (lens Q).getD i 0 = (Q.getD i []).length := by
  by_cases h : i < Q.length
  · simp [lens, List.getD_eq_getElem?_getD, List.getElem?_eq_getElem h]
  · simp [lens, List.getD_eq_getElem?_getD, List.getElem?_eq_none (Nat.le_of_not_lt h)]
theorem val_named (Q : List (List Int)) (x : Nat × Nat) (h : x.2 < (lens Q).getD x.1 0) : val (named Q) x = x.1 := by
  rw [lens_getD] at h
  have hl : x.1 < Q.length := by
    by_cases c : x.1 < Q.length
    · exact c
    · simp [List.getD_eq_getElem?_getD, List.getElem?_eq_none (Nat.le_of_not_lt c)] at h
  unfold val
  rw [named_get Q _ hl, List.getD_eq_getElem?_getD, List.getElem?_eq_getElem (by simpa using h)]
  simp

/-- What is served. -/
def S (Q : List (List Int)) : List (Nat × Nat) := seqF (lens Q) 60 0
def okF (Q : List (List Int)) (T : Int) : Bool := decide (1 ≤ Q.length) && decide (Q.length ≤ 8) && decide (0 ≤ T) && decide (T ≤ 500) && Q.all fun r => decide (r.length ≤ 60)
def fair (Q : List (List Int)) (T : Int) : List Int × Bool := if okF Q T = true then (((S Q).take T.toNat).map (val Q), true) else ([], false)
theorem named_ok (Q : List (List Int)) (T : Int) : okF (named Q) T = okF Q T := by
  have h1 : (named Q).length = Q.length := by simp [named]
  have h2 : ((named Q).all fun r => decide (r.length ≤ 60)) = (Q.all fun r => decide (r.length ≤ 60)) := by
    have e : ∀ X : List (List Int), (X.all fun r => decide (r.length ≤ 60)) = ((lens X).all fun n => decide (n ≤ 60)) := by
      intro X; simp [lens, List.all_map]; rfl
    rw [e, e, named_lens]
  unfold okF
  rw [h1, h2]
theorem fair_named (Q : List (List Int)) (T : Int) : fair (named Q) T = (if okF Q T = true then ((((S Q).take T.toNat).map fun x => (x.1 : Int)), true) else ([], false)) := by
  unfold fair
  rw [named_ok]
  split
  · have hS : S (named Q) = S Q := by unfold S; rw [named_lens]
    rw [hS]
    congr 1
    refine List.map_congr_left fun x hx => ?_
    exact val_named Q x (seqF_mem _ _ _ _ (List.mem_of_mem_take hx))
  · rfl
theorem drop_cons {α : Type _} {l : List α} {q : Nat} {r : α} {rs : List α} (d : α) (h : l.drop q = r :: rs) : q < l.length ∧ l.getD q d = r ∧ l.drop (q + 1) = rs := by
  have hl : q < l.length := by
    by_cases c : q < l.length
    · exact c
    · rw [List.drop_eq_nil_of_le (by omega)] at h; cases h
  rw [List.drop_eq_getElem_cons hl] at h
  injection h with h1 h2
  exact ⟨hl, by rw [List.getD_eq_getElem?_getD, List.getElem?_eq_getElem hl]; exact h1, h2⟩
end Go.Proofs.Ytjioalgfpcdlhaa.FairMath
