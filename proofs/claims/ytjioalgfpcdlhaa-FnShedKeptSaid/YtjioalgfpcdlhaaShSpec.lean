/- spec.Shed over plain lists. By an AI agent. -/
import Derived.Test.YtjioalgfpcdlhaaShMain
namespace Go.Proofs.Ytjioalgfpcdlhaa.ShSpec
open Go Go.RowKit Go.Proofs.Ytjioalgfpcdlhaa.Sh Go.Proofs.Ytjioalgfpcdlhaa.ShMain Go.Proofs.YtjioalgfpcdlhaaW.PrintWords
set_option linter.unusedVariables false
set_option linter.unusedSimpArgs false
/-- What the reference has taken when it has looked at those of P, in this order: the first R of them. -/
def TakenIs (n : Nat) (x10 : List Bool) (T : List Int) : Prop := x10.length = n ∧ ∀ t : Int, 0 ≤ t → t < n → rdOf false x10 t = decide (t ∈ T)
theorem rdOf_set {xs : List Bool} {i j : Int} {v : Bool} (h0 : 0 ≤ i) (h1 : i < xs.length) (hj : 0 ≤ j) : rdOf false (xs.set i.toNat v) j = if j = i then v else rdOf false xs j := by
  unfold rdOf
  by_cases h : j = i
  · subst h
    rw [if_pos rfl]
    simp [List.getD, show j.toNat < xs.length by omega]
  · rw [if_neg h]
    have hne : i.toNat ≠ j.toNat := by omega
    simp [List.getD, List.getElem?_set_ne hne]
/-- Where the reference stands: class c, number i: P are those that it has looked at. -/
structure Seen (L : List S51) (P : List Int) (c i : Int) : Prop where
  pw : P.Pairwise (tlt (clOf L))
  mem : ∀ v, v ∈ P ↔ (0 ≤ v ∧ v < L.length) ∧ (clOf L v < c ∨ clOf L v = c ∧ v < i)
theorem Seen.add {L : List S51} {P : List Int} {c i : Int} (h : Seen L P c i) (h0 : 0 ≤ i) (h1 : i < L.length) (hc : clOf L i = c) : Seen L (P ++ [i]) c (i + 1) := by
  refine ⟨?_, fun v => ?_⟩
  · rw [List.pairwise_append]
    refine ⟨h.pw, by simp, fun a ha b hb => ?_⟩
    have hb : b = i := by simpa using hb
    subst hb
    have := (h.mem a).1 ha
    unfold tlt
    omega
  · rw [List.mem_append, h.mem]
    simp only [List.mem_singleton]
    constructor
    · rintro (⟨h2, h3⟩ | rfl)
      · exact ⟨h2, by omega⟩
      · exact ⟨⟨h0, h1⟩, .inr ⟨hc, by omega⟩⟩
    · rintro ⟨h2, h3⟩
      by_cases e : v = i
      · exact .inr e
      · exact .inl ⟨h2, by omega⟩
theorem Seen.skip {L : List S51} {P : List Int} {c i : Int} (h : Seen L P c i) (hc : clOf L i ≠ c) : Seen L P c (i + 1) :=
  ⟨h.pw, fun v => by
    rw [h.mem]
    have : v = i → clOf L v = clOf L i := fun e => by rw [e]
    omega⟩
theorem Seen.next {L : List S51} {P : List Int} {c : Int} (h : Seen L P c L.length) : Seen L P (c + 1) 0 :=
  ⟨h.pw, fun v => by rw [h.mem]; omega⟩
theorem Seen.start (L : List S51) (hc : ∀ t : Int, 0 ≤ t → t < L.length → 0 ≤ clOf L t) : Seen L [] 0 0 :=
  ⟨.nil, fun v => ⟨fun h => by simp at h, fun ⟨h1, h2⟩ => by have := hc v h1.1 h1.2; omega⟩⟩
theorem specOut (L : List S51) (x10 : List Bool) (T : List Int) (hl : L.length ≤ 200) (ht : TakenIs L.length x10 T) : ∀ (d : Nat) (i : Int) (acc : List S51), i + d = L.length → 0 ≤ i → acc.length ≤ i.toNat →
    Ev (fun k => spec_Shed.l2 k L acc x10 i) (acc ++ ((up i d).filter fun v => decide (v ∈ T)).map (rd_T51 L), true) := by
  intro d
  induction d with
  | zero =>
    intro i acc hd h0 ha
    refine Ev.step (fun k => ?_) (Ev.now _)
    simp only [spec_Shed.l2]
    rw [if_neg (by omega)]
    simp [up]
  | succ d ih =>
    intro i acc hd h0 ha
    have e := ht.2 i h0 (by omega)
    by_cases c : i ∈ T
    · have h := ih (i + 1) (acc ++ [rd_T51 L i]) (by omega) (by omega) (by simp; omega)
      rw [List.append_assoc] at h
      refine Ev.step (fun k => ?_) (by rw [up, List.filter_cons, if_pos (by simpa using c)]; exact h)
      simp only [spec_Shed.l2]
      rw [if_pos (by omega), if_pos h0, if_pos (by have := ht.1; omega), if_pos (by rw [e]; simpa using c), if_pos (by omega), w64 (by omega) (by omega)]
    · have h := ih (i + 1) acc (by omega) (by omega) (by omega)
      refine Ev.step (fun k => ?_) (by rw [up, List.filter_cons, if_neg (by simpa using c)]; exact h)
      simp only [spec_Shed.l2]
      rw [if_pos (by omega), if_pos h0, if_pos (by have := ht.1; omega), if_neg (by rw [e]; simpa using c), w64 (by omega) (by omega)]
/-- What is left of the room. -/
def left_ (m : Int) (P : List Int) : Int := m - (min P.length (max 0 m).toNat : Nat)
theorem specClass (L : List S51) (m c : Int) (hl : L.length ≤ 200) (hm : -10000 ≤ m ∧ m ≤ 10000) (res : List S51 × Bool) (next : ∀ (P : List Int) (x10 : List Bool), Seen L P (c + 1) 0 → TakenIs L.length x10 (P.take (max 0 m).toNat) → Ev (fun k => spec_Shed.l0 k L [] (left_ m P) x10 (c + 1)) res) (hc : 0 ≤ c ∧ c ≤ 3) :
    ∀ (d : Nat) (i : Int) (P : List Int) (x10 : List Bool), i + d = L.length → 0 ≤ i → Seen L P c i → TakenIs L.length x10 (P.take (max 0 m).toNat) → Ev (fun k => spec_Shed.l1 k L [] (left_ m P) x10 c i) res := by
  intro d
  induction d with
  | zero =>
    intro i P x10 hd h0 hs ht
    have e : i = L.length := by omega
    subst e
    refine Ev.step (fun k => ?_) (next P x10 hs.next ht)
    simp only [spec_Shed.l1]
    rw [if_neg (by omega), w64 (x := c + 1) (by omega) (by omega)]
  | succ d ih =>
    intro i P x10 hd h0 hs ht
    have hb : -10000 ≤ left_ m P ∧ left_ m P ≤ 10000 := by unfold left_; omega
    by_cases h1 : clOf L i = c
    · by_cases h2 : left_ m P > 0
      · have hp : P.length < (max 0 m).toNat := by unfold left_ at h2; omega
        have hi : i ∉ P := fun hi => by have := (hs.mem i).1 hi; omega
        have e1 : (P ++ [i]).take (max 0 m).toNat = P ++ [i] := List.take_of_length_le (by simp; omega)
        have e2 : P.take (max 0 m).toNat = P := List.take_of_length_le (by omega)
        have e3 : left_ m (P ++ [i]) = left_ m P - 1 := by unfold left_; simp only [List.length_append, List.length_cons, List.length_nil]; omega
        have h := ih (i + 1) (P ++ [i]) (x10.set i.toNat true) (by omega) (by omega) (hs.add h0 (by omega) h1) ⟨by simpa using ht.1, fun t t0 t1 => by
          rw [rdOf_set h0 (by rw [ht.1]; omega) t0, e1]
          by_cases e : t = i
          · rw [if_pos e, e]; simp
          · rw [if_neg e, ht.2 t t0 t1, e2]; simp [e]⟩
        rw [e3] at h
        refine Ev.step (fun k => ?_) h
        simp only [spec_Shed.l1]
        rw [if_pos (by omega), if_pos h0, if_pos (show (rd_T51 L i).f2 = c from h1), if_pos h2, if_pos (by rw [ht.1]; omega), w64 (x := left_ m P - 1) (by omega) (by omega), w64 (x := i + 1) (by omega) (by omega)]
      · have hp : (max 0 m).toNat ≤ P.length := by unfold left_ at h2; omega
        have e3 : left_ m (P ++ [i]) = left_ m P := by unfold left_; simp only [List.length_append, List.length_cons, List.length_nil]; omega
        have h := ih (i + 1) (P ++ [i]) x10 (by omega) (by omega) (hs.add h0 (by omega) h1) (by rw [List.take_append_of_le_length hp]; exact ht)
        rw [e3] at h
        refine Ev.step (fun k => ?_) h
        simp only [spec_Shed.l1]
        rw [if_pos (by omega), if_pos h0, if_pos (show (rd_T51 L i).f2 = c from h1), if_neg h2, w64 (x := i + 1) (by omega) (by omega)]
    · refine Ev.step (fun k => ?_) (ih (i + 1) P x10 (by omega) (by omega) (hs.skip h1) ht)
      simp only [spec_Shed.l1]
      rw [if_pos (by omega), if_pos h0, if_neg (show ¬ (rd_T51 L i).f2 = c from h1), w64 (x := i + 1) (by omega) (by omega)]
theorem specRun (L : List S51) (m : Int) (hl : L.length ≤ 200) (hm : -10000 ≤ m ∧ m ≤ 10000) (hcl : ∀ t : Int, 0 ≤ t → t < L.length → 0 ≤ clOf L t ∧ clOf L t ≤ 3) (ys : List Int) (py : ys.Perm (up 0 L.length)) (sy : ys.Pairwise (tlt (clOf L))) :
    ∀ (d : Nat) (c : Int) (P : List Int) (x10 : List Bool), c + d = 4 → 0 ≤ c → Seen L P c 0 → TakenIs L.length x10 (P.take (max 0 m).toNat) → Ev (fun k => spec_Shed.l0 k L [] (left_ m P) x10 c) (picked L (ys.take (max 0 m).toNat), true) := by
  intro d
  induction d with
  | zero =>
    intro c P x10 hd h0 hs ht
    have e : P = ys := pw_unique hs.pw sy ((List.perm_ext_iff_of_nodup (hs.pw.imp fun h e => by subst e; exact tlt.irrefl h) (sy.imp fun h e => by subst e; exact tlt.irrefl h)).2 fun v => by
      rw [hs.mem, py.mem_iff, mem_up]
      constructor
      · rintro ⟨h, _⟩; omega
      · intro h; have := hcl v (by omega) (by omega); exact ⟨by omega, by omega⟩)
    subst e
    refine Ev.step (fun k => ?_) (specOut L x10 _ hl ht L.length 0 [] (by omega) (Int.le_refl _) (by simp))
    simp only [spec_Shed.l0]
    rw [if_neg (by omega)]
  | succ d ih =>
    intro c P x10 hd h0 hs ht
    refine Ev.step (fun k => ?_) (specClass L m c hl hm _ (fun P' x' h1 h2 => ih (c + 1) P' x' (by omega) (by omega) h1 h2) (by omega) L.length 0 P x10 (by omega) (Int.le_refl _) hs ht)
    simp only [spec_Shed.l0]
    rw [if_pos (by omega)]
theorem take_room (ys : List Int) (n : Nat) (hn : ys.length = n) (busy most : Int) : ys.take (max 0 (most - busy)).toNat = ys.take (room n busy most) := by
  unfold room
  by_cases c : (max 0 (most - busy)).toNat ≤ n
  · rw [Nat.min_eq_right c]
  · rw [Nat.min_eq_left (by omega), List.take_of_length_le (by omega), List.take_of_length_le (by omega)]
theorem specShed (L : List S51) (busy most : Int) (hl : L.length ≤ 2000000) :
    (OkS L busy most → ∀ ys : List Int, ys.Perm (up 0 L.length) → ys.Pairwise (tlt (clOf L)) → Ev (fun k => spec_Shed.f k L busy most) (picked L (ys.take (room L.length busy most)), true)) ∧ (¬ OkS L busy most → Ev (fun k => spec_Shed.f k L busy most) ([], false)) := by
  have hA := arrivals_ev L hl
  constructor
  · rintro ⟨ha, hb, hm⟩ ys py sy
    have hn := ha.2
    have hcl : ∀ t : Int, 0 ≤ t → t < L.length → 0 ≤ clOf L t ∧ clOf L t ≤ 3 := fun t t0 t1 => by
      have := (ha.1 (L.getD t.toNat z51) (getD_mem z51 (by omega))).2.2
      exact this
    have hly : ys.length = L.length := by rw [py.length_eq, up_len]
    have e1 := specRun L (most - busy) hn (by omega) hcl ys py sy 4 0 [] (List.replicate L.length false) (by omega) (Int.le_refl _) (Seen.start L fun t t0 t1 => (hcl t t0 t1).1) ⟨by simp, fun t t0 t1 => by simp [rdOf, List.getD, show t.toNat < L.length by omega]⟩
    rw [take_room ys L.length hly] at e1
    rw [show left_ (most - busy) [] = most - busy by simp [left_]] at e1
    unfold spec_Shed.f
    simp only [Option.bind_some]
    refine Ev.bind (hA.1 ha) ?_
    simp only [if_true, in_at2, Option.bind_some]
    rw [decide_eq_true hb.1, decide_eq_true hb.2, decide_eq_true hm.1, decide_eq_true hm.2]
    simp only [Bool.and_self, if_true, Bool.not_true]
    refine Ev.step (fun k => ?_) e1
    simp only [spec_Shed.j0]
    rw [if_neg (by simp), if_pos (by omega), if_pos (by omega), w64 (x := most - busy) (by omega) (by omega)]
    simp
  · intro h
    have bad : Ev (fun k => spec_Shed.j0 k L busy most [] true) ([], false) := Ev.step (fun k => by simp only [spec_Shed.j0, if_true]) (Ev.now _)
    unfold spec_Shed.f
    simp only [Option.bind_some]
    by_cases ha : ArrsOk L
    · refine Ev.bind (hA.1 ha) ?_
      simp only [if_true, in_at2, Option.bind_some]
      by_cases hb : 0 ≤ busy ∧ busy ≤ 10000
      · rw [decide_eq_true hb.1, decide_eq_true hb.2]
        simp only [Bool.and_self, if_true]
        have hm : ¬ (0 ≤ most ∧ most ≤ 10000) := fun hm => h ⟨ha, hb, hm⟩
        rw [show (decide (0 ≤ most) && decide (most ≤ 10000)) = false by simp; omega]
        exact bad
      · rw [show (decide (0 ≤ busy) && decide (busy ≤ 10000)) = false by simp; omega]
        simp only [Bool.false_eq_true, if_false]
        exact bad
    · refine Ev.bind (hA.2 ha) ?_
      simp only [Bool.false_eq_true, if_false]
      exact bad
end Go.Proofs.Ytjioalgfpcdlhaa.ShSpec
