/- The rounds of a contention, over plain lists: no program in sight. By an AI agent. -/
namespace Go.Proofs.Ytjioalgfpcdlhaa.CoMath
set_option linter.unusedVariables false
set_option linter.unusedSimpArgs false
/-- The slot that asker i takes in round r, -1 if none. -/
def sl (co : Nat → List Int) (S : Int) (h : List Int) (r i : Nat) : Int := if h.getD i 0 < 0 ∧ (r : Int) < ((co i).length : Int) then Int.tmod ((co i).getD r 0) S else -1
def grp (co : Nat → List Int) (S : Int) (h : List Int) (r n : Nat) (s : Int) : List Nat := (List.range n).filter fun i => decide (sl co S h r i = s)
def alone (co : Nat → List Int) (S : Int) (h : List Int) (r n i : Nat) : Prop := 0 ≤ sl co S h r i ∧ (grp co S h r n (sl co S h r i)).length = 1
instance (co : Nat → List Int) (S : Int) (h : List Int) (r n i : Nat) : Decidable (alone co S h r n i) := inferInstanceAs (Decidable (_ ∧ _))
/-- The first t slots are told. -/
def told (co : Nat → List Int) (S : Int) (h : List Int) (r n : Nat) (t : Int) : List Int := (List.range n).map fun i => if alone co S h r n i ∧ sl co S h r i < t then (r : Int) else h.getD i 0
/-- The first m askers are told. -/
def told2 (co : Nat → List Int) (S : Int) (h : List Int) (r n m : Nat) : List Int := (List.range n).map fun i => if alone co S h r n i ∧ i < m then (r : Int) else h.getD i 0
def rnd (co : Nat → List Int) (S : Int) (h : List Int) (r n : Nat) : List Int := (List.range n).map fun i => if alone co S h r n i then (r : Int) else h.getD i 0
def runs (co : Nat → List Int) (S : Int) (n : Nat) : Nat → Nat → List Int → List Int
  | 0, _, h => h
  | d + 1, r, h => runs co S n d (r + 1) (rnd co S h r n)
section
variable {co : Nat → List Int} {S : Int} {h : List Int} {r n : Nat}
theorem told_len (t : Int) : (told co S h r n t).length = n := by simp [told]
theorem told2_len (t : Nat) : (told2 co S h r n t).length = n := by simp [told2]
theorem rnd_len : (rnd co S h r n).length = n := by simp [rnd]
theorem getD_map (f : Nat → Int) (i : Nat) (hi : i < n) : ((List.range n).map f).getD i 0 = f i := by simp [List.getD, hi]
theorem told_zero (hl : h.length = n) : told co S h r n 0 = h := by
  apply List.ext_getElem (by simp [told, hl])
  intro i h1 h2
  simp only [told, List.getElem_map, List.getElem_range]
  rw [if_neg (by rintro ⟨⟨h3, _⟩, h4⟩; omega)]
  simp [List.getD, h2]
theorem told2_zero (hl : h.length = n) : told2 co S h r n 0 = h := by
  apply List.ext_getElem (by simp [told2, hl])
  intro i h1 h2
  simp only [told2, List.getElem_map, List.getElem_range]
  rw [if_neg (by rintro ⟨_, h4⟩; omega)]
  simp [List.getD, h2]
theorem told_all (t : Int) (ht : ∀ i, i < n → sl co S h r i < t) : told co S h r n t = rnd co S h r n := by
  unfold told rnd
  apply List.map_congr_left
  intro i hi
  have := ht i (List.mem_range.1 hi)
  simp [this]
theorem told2_all : told2 co S h r n n = rnd co S h r n := by
  unfold told2 rnd
  apply List.map_congr_left
  intro i hi
  have := List.mem_range.1 hi
  simp [this]
theorem grp_mem {s : Int} {i : Nat} : i ∈ grp co S h r n s ↔ i < n ∧ sl co S h r i = s := by simp [grp]
theorem grp_one {s : Int} {i : Nat} (hi : i < n) (hs : sl co S h r i = s) (h1 : (grp co S h r n s).length = 1) : grp co S h r n s = [i] := by
  obtain ⟨a, ha⟩ := List.length_eq_one_iff.1 h1
  have : i ∈ grp co S h r n s := grp_mem.2 ⟨hi, hs⟩
  rw [ha] at this
  rw [ha, List.mem_singleton.1 this]
theorem told_skip {t : Int} (h1 : (grp co S h r n t).length ≠ 1) : told co S h r n (t + 1) = told co S h r n t := by
  unfold told
  apply List.map_congr_left
  intro i hi
  by_cases h2 : sl co S h r i = t
  · have h3 : ¬ alone co S h r n i := by rintro ⟨_, h4⟩; rw [h2] at h4; exact h1 h4
    simp [h3]
  · have : (sl co S h r i < t + 1) ↔ (sl co S h r i < t) := by omega
    simp [this]
theorem told_set {t : Int} (ht : 0 ≤ t) {i : Nat} (h1 : grp co S h r n t = [i]) : told co S h r n (t + 1) = (told co S h r n t).set i (r : Int) := by
  have hm : i < n ∧ sl co S h r i = t := grp_mem.1 (by rw [h1]; simp)
  apply List.ext_getElem (by simp [told])
  intro j h2 h3
  have hj : j < n := by simpa [told] using h2
  rw [List.getElem_set]
  simp only [told, List.getElem_map, List.getElem_range]
  by_cases hij : i = j
  · subst hij
    have : alone co S h r n i := ⟨by omega, by rw [hm.2, h1]; rfl⟩
    rw [if_pos ⟨this, by omega⟩, if_pos rfl]
  · rw [if_neg hij]
    by_cases h4 : sl co S h r j = t
    · have : j ∈ grp co S h r n t := grp_mem.2 ⟨hj, h4⟩
      rw [h1] at this
      exact absurd (List.mem_singleton.1 this).symm hij
    · have : (sl co S h r j < t + 1) ↔ (sl co S h r j < t) := by omega
      simp [this]
theorem told2_skip {m : Nat} (h1 : ¬ alone co S h r n m) : told2 co S h r n (m + 1) = told2 co S h r n m := by
  unfold told2
  apply List.map_congr_left
  intro i hi
  by_cases h2 : i = m
  · subst h2; simp [h1]
  · have : i < m + 1 ↔ i < m := by omega
    simp [this]
theorem told2_set {m : Nat} (h1 : alone co S h r n m) : told2 co S h r n (m + 1) = (told2 co S h r n m).set m (r : Int) := by
  apply List.ext_getElem (by simp [told2])
  intro j h2 h3
  rw [List.getElem_set]
  simp only [told2, List.getElem_map, List.getElem_range]
  by_cases h4 : m = j
  · subst h4; simp [h1]
  · rw [if_neg h4]
    have : j < m + 1 ↔ j < m := by omega
    simp [this]
theorem grp_succ (m : Nat) (s : Int) : grp co S h r (m + 1) s = grp co S h r m s ++ (if sl co S h r m = s then [m] else []) := by
  unfold grp
  rw [List.range_succ, List.filter_append]
  congr 1
  by_cases hs : sl co S h r m = s <;> simp [hs]
/-- The impl's sixteen lists after m askers. -/
def who (co : Nat → List Int) (S : Int) (h : List Int) (r m : Nat) : List (List Int) := (List.range 16).map fun (s : Nat) => (grp co S h r m (s : Int)).map fun (i : Nat) => (i : Int)
theorem who_zero : who co S h r 0 = List.replicate 16 [] := by simp [who, grp, List.replicate]; decide
theorem who_len (m : Nat) : (who co S h r m).length = 16 := by simp [who]
theorem who_get (m : Nat) (s : Int) (h0 : 0 ≤ s) (h1 : s < 16) : (who co S h r m).getD s.toNat [] = (grp co S h r m s).map fun (i : Nat) => (i : Int) := by
  have : s.toNat < 16 := by omega
  have e : ((s.toNat : Nat) : Int) = s := by omega
  simp [who, List.getD, this, e]
theorem who_skip (m : Nat) (hs : sl co S h r m < 0) : who co S h r (m + 1) = who co S h r m := by
  unfold who
  apply List.map_congr_left
  intro s _
  rw [grp_succ, if_neg (by omega), List.append_nil]
theorem who_set (m : Nat) (s : Int) (hs : sl co S h r m = s) (h0 : 0 ≤ s) (h1 : s < 16) : who co S h r (m + 1) = (who co S h r m).set s.toNat ((who co S h r m).getD s.toNat [] ++ [(m : Int)]) := by
  rw [who_get m s h0 h1]
  apply List.ext_getElem (by simp [who])
  intro j h2 h3
  have hj : j < 16 := by simpa [who] using h2
  rw [List.getElem_set]
  simp only [who, List.getElem_map, List.getElem_range]
  rw [grp_succ]
  by_cases hjs : s.toNat = j
  · subst hjs
    have e : ((s.toNat : Nat) : Int) = s := by omega
    rw [if_pos rfl, e, if_pos hs]
    simp
  · rw [if_neg hjs, if_neg (by omega), List.append_nil]
/-- The spec's slots and counts after m askers. -/
def slots (co : Nat → List Int) (S : Int) (h : List Int) (r m : Nat) : List Int := (List.range m).map (sl co S h r)
def cnts (co : Nat → List Int) (S : Int) (h : List Int) (r m : Nat) (K : Nat) : List Int := (List.range K).map fun (s : Nat) => ((grp co S h r m (s : Int)).length : Int)
theorem slots_succ (m : Nat) : slots co S h r (m + 1) = slots co S h r m ++ [sl co S h r m] := by simp [slots, List.range_succ]
theorem slots_len (m : Nat) : (slots co S h r m).length = m := by simp [slots]
theorem slots_get (m i : Nat) (hi : i < m) : (slots co S h r m).getD i 0 = sl co S h r i := by simp [slots, List.getD, hi]
theorem cnts_zero (K : Nat) : cnts co S h r 0 K = List.replicate K 0 := by
  apply List.ext_getElem (by simp [cnts])
  intro j _ _
  simp [cnts, grp]
theorem cnts_len (m K : Nat) : (cnts co S h r m K).length = K := by simp [cnts]
theorem cnts_get (m K : Nat) (s : Int) (h0 : 0 ≤ s) (h1 : s < K) : (cnts co S h r m K).getD s.toNat 0 = ((grp co S h r m s).length : Int) := by
  have : s.toNat < K := by omega
  have e : ((s.toNat : Nat) : Int) = s := by omega
  simp [cnts, List.getD, this, e]
theorem cnts_skip (m K : Nat) (hs : sl co S h r m < 0) : cnts co S h r (m + 1) K = cnts co S h r m K := by
  unfold cnts
  apply List.map_congr_left
  intro s _
  rw [grp_succ, if_neg (by omega), List.append_nil]
theorem cnts_set (m K : Nat) (s : Int) (hs : sl co S h r m = s) (h0 : 0 ≤ s) (h1 : s < K) : cnts co S h r (m + 1) K = (cnts co S h r m K).set s.toNat ((cnts co S h r m K).getD s.toNat 0 + 1) := by
  rw [cnts_get m K s h0 h1]
  apply List.ext_getElem (by simp [cnts])
  intro j h2 h3
  have hj : j < K := by simpa [cnts] using h2
  rw [List.getElem_set]
  simp only [cnts, List.getElem_map, List.getElem_range]
  rw [grp_succ]
  by_cases hjs : s.toNat = j
  · subst hjs
    have e : ((s.toNat : Nat) : Int) = s := by omega
    rw [if_pos rfl, e, if_pos hs]
    simp
  · rw [if_neg hjs, if_neg (by omega), List.append_nil]
/-- How long a group is: no longer than there are askers. -/
theorem grp_le (m : Nat) (s : Int) : (grp co S h r m s).length ≤ m := by
  have := List.length_filter_le (fun i => decide (sl co S h r i = s)) (List.range m)
  simpa [grp] using this
theorem sl_range (hS : 0 < S) (hco : ∀ i, ∀ c ∈ co i, 0 ≤ c) (i : Nat) : -1 ≤ sl co S h r i ∧ sl co S h r i < S := by
  unfold sl
  split
  · rename_i hx
    have hm : (co i).getD r 0 ∈ co i := by
      have hr : r < (co i).length := by omega
      simp [List.getD, hr]
    have h0 := hco i _ hm
    rw [Int.tmod_eq_emod_of_nonneg h0]
    have h1 := Int.emod_nonneg ((co i).getD r 0) (show S ≠ 0 by omega)
    have h2 := Int.emod_lt_of_pos ((co i).getD r 0) hS
    omega
  · omega
/-- What is asked of what was heard before round r. -/
def Good (co : Nat → List Int) (S : Int) (n : Nat) (h : List Int) (r : Nat) : Prop :=
  h.length = n ∧ ∀ i, i < n → h.getD i 0 < 0 ∨ (0 ≤ h.getD i 0 ∧ h.getD i 0 < r ∧ h.getD i 0 < ((co i).length : Int) ∧
    ∀ k, k < n → k ≠ i → (h.getD k 0 < 0 ∨ h.getD k 0 ≥ h.getD i 0) → h.getD i 0 < ((co k).length : Int) → Int.tmod ((co k).getD (h.getD i 0).toNat 0) S ≠ Int.tmod ((co i).getD (h.getD i 0).toNat 0) S)
theorem rnd_get (i : Nat) (hi : i < n) : (rnd co S h r n).getD i 0 = if alone co S h r n i then (r : Int) else h.getD i 0 := getD_map _ i hi
theorem alone_neg {i : Nat} (ha : alone co S h r n i) : h.getD i 0 < 0 ∧ (r : Int) < ((co i).length : Int) ∧ sl co S h r i = Int.tmod ((co i).getD r 0) S := by
  by_cases hc : h.getD i 0 < 0 ∧ (r : Int) < ((co i).length : Int)
  · exact ⟨hc.1, hc.2, by unfold sl; rw [if_pos hc]⟩
  · have e : sl co S h r i = -1 := by unfold sl; rw [if_neg hc]
    have := ha.1
    omega
theorem good_rnd (g : Good co S n h r) : Good co S n (rnd co S h r n) (r + 1) := by
  obtain ⟨hl, hg⟩ := g
  refine ⟨rnd_len, fun i hi => ?_⟩
  rw [rnd_get i hi]
  by_cases ha : alone co S h r n i
  · rw [if_pos ha]
    obtain ⟨a1, a2, a3⟩ := alone_neg ha
    right
    refine ⟨by omega, by omega, a2, fun k hk hne hc hlen heq => ?_⟩
    rw [rnd_get k hk] at hc
    have hk0 : h.getD k 0 < 0 := by
      rcases hg k hk with h1 | ⟨h1, h2, _⟩
      · exact h1
      · by_cases hb : alone co S h r n k
        · exact (alone_neg hb).1
        · rw [if_neg hb] at hc; omega
    have hsk : sl co S h r k = sl co S h r i := by
      rw [a3]
      unfold sl
      rw [if_pos ⟨hk0, hlen⟩]
      simpa using heq
    have e1 := grp_one hi rfl ha.2
    have e2 : k ∈ grp co S h r n (sl co S h r i) := grp_mem.2 ⟨hk, hsk⟩
    rw [e1] at e2
    exact hne (List.mem_singleton.1 e2)
  · rw [if_neg ha]
    rcases hg i hi with h1 | ⟨h1, h2, h3, h4⟩
    · exact .inl h1
    · refine .inr ⟨h1, by omega, h3, fun k hk hne hc hlen => h4 k hk hne ?_ hlen⟩
      rw [rnd_get k hk] at hc
      by_cases hb : alone co S h r n k
      · exact .inl (alone_neg hb).1
      · rwa [if_neg hb] at hc
theorem good_runs (d : Nat) : ∀ (r : Nat) (h : List Int), Good co S n h r → Good co S n (runs co S n d r h) (r + d) := by
  induction d with
  | zero => intro r h g; exact g
  | succ d ih =>
    intro r h g
    have := ih (r + 1) (rnd co S h r n) (good_rnd g)
    rwa [show r + 1 + d = r + (d + 1) by omega] at this
theorem good_start : Good co S n (List.replicate n (-1)) 0 := by
  refine ⟨by simp, fun i hi => .inl ?_⟩
  simp [List.getD, hi]
end
end Go.Proofs.Ytjioalgfpcdlhaa.CoMath
