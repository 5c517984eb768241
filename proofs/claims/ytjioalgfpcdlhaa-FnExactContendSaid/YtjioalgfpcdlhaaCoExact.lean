/- FnExactContend over plain lists. By an AI agent. -/
import Derived.Test.YtjioalgfpcdlhaaCox10
import Derived.Test.YtjioalgfpcdlhaaCoMain
namespace Go.Proofs.Ytjioalgfpcdlhaa.CoExact
set_option linter.unusedVariables false
set_option linter.unusedSimpArgs false
open Go Go.RowKit Go.Proofs.Ytjioalgfpcdlhaa.Co Go.Proofs.Ytjioalgfpcdlhaa.CoMain Go.Proofs.Ytjioalgfpcdlhaa.CoMath Go.Proofs.YtjioalgfpcdlhaaW.PrintWords
theorem eqI (x : List Int) (hx : x.length ≤ 3000000) : Ev (fun k => laws_eqIntS.f k x x) true := by
  have go : ∀ (d : Nat) (i : Int), 0 ≤ i → i + d = x.length → Ev (fun k => laws_eqIntS.l0 k x x i) true := by
    intro d
    induction d with
    | zero =>
      intro i h0 hd
      refine Ev.step (fun k => ?_) (Ev.now true)
      simp only [laws_eqIntS.l0]; rw [if_neg (by omega)]
    | succ d ih =>
      intro i h0 hd
      refine Ev.step (fun k => ?_) (ih (i + 1) (by omega) (by omega))
      simp only [laws_eqIntS.l0, if_true]; rw [if_pos (by omega), if_pos h0, if_pos (by omega), w64 (by omega) (by omega)]
  refine Ev.congr (fun k => ?_) (go x.length 0 (by omega) (by omega))
  simp only [laws_eqIntS.f, if_true]
theorem set_at {α : Type} (pre rest : List α) (v a : α) : (pre ++ a :: rest).set pre.length v = (pre ++ [v]) ++ rest := by
  rw [List.set_append_right _ _ (Nat.le_refl _), Nat.sub_self]; simp
theorem toI (x : List Int) (hx : x.length ≤ 3000000) : Ev (fun k => laws_toIntS.f k x) x := by
  have go : ∀ (rs pre : List Int), x = pre ++ rs → Ev (fun k => laws_toIntS.l0 k x (pre ++ List.replicate rs.length 0) (pre.length : Int)) x := by
    intro rs
    induction rs with
    | nil =>
      intro pre hp
      subst hp
      refine Ev.step (fun k => ?_) (Ev.now _)
      simp [laws_toIntS.l0]
    | cons r rs ih =>
      intro pre hp
      have hl : x.length = pre.length + (rs.length + 1) := by rw [hp]; simp
      refine Ev.step (fun k => ?_) (ih (pre ++ [r]) (by rw [hp]; simp))
      simp only [laws_toIntS.l0]
      rw [if_pos (by omega), if_pos (by omega), if_pos (by simp; omega), w64 (by omega) (by omega), rdI]
      have e : x.getD pre.length 0 = r := by rw [hp]; simp
      rw [e, List.length_cons, List.replicate_succ, Int.toNat_natCast, set_at]
      simp
  refine Ev.congr (fun k => ?_) (go x [] rfl)
  simp only [laws_toIntS.f]
  rw [if_pos (by omega), if_pos (by omega)]
  simp
def marks : Int → Nat → List Int
  | _, 0 => []
  | k, n + 1 => k :: marks (k + 1) n
theorem marks_len (n : Nat) : ∀ k, (marks k n).length = n := by
  induction n with
  | zero => intro k; rfl
  | succ n ih => intro k; simp [marks, ih]
theorem markI (x : List Int) (hx : x.length ≤ 3000000) (q : Int) (h0 : 0 ≤ q) (hq : q ≤ 100000000) : Ev (fun k => laws_markIntS.f k x q) (q + x.length, marks q x.length) := by
  have go : ∀ (rs pre : List Int) (q : Int), 0 ≤ q → q + rs.length ≤ 200000000 → pre.length + rs.length ≤ 3000000 → Ev (fun k => laws_markIntS.l0 k (pre ++ rs) q (pre.length : Int)) (q + rs.length, pre ++ marks q rs.length) := by
    intro rs
    induction rs with
    | nil =>
      intro pre q _ _ _
      refine Ev.step (fun k => ?_) (Ev.now _)
      simp [laws_markIntS.l0, marks]
    | cons r rs ih =>
      intro pre q h0 h1 h2
      simp only [List.length_cons] at h1 h2
      have h := ih (pre ++ [q]) (q + 1) (by omega) (by omega) (by simp; omega)
      simp only [List.length_append, List.length_cons, List.length_nil] at h
      have e : (q + ((r :: rs).length : Int), pre ++ marks q (r :: rs).length) = (q + 1 + (rs.length : Int), pre ++ [q] ++ marks (q + 1) rs.length) := by
        simp only [List.length_cons, marks]
        refine Prod.ext ?_ (by simp)
        show q + ((rs.length + 1 : Nat) : Int) = q + 1 + rs.length
        omega
      rw [e]
      refine Ev.step (fun k => ?_) h
      simp only [laws_markIntS.l0]
      rw [if_pos (by simp; omega), if_pos (by omega), w64 (by omega) (by omega), w64 (by omega) (by omega), Int.toNat_natCast, set_at]
      rfl
  exact go x [] q h0 (by omega) (by simp; omega)
theorem heldI (n : Nat) (hn : n ≤ 3000000) (q : Int) (h0 : 0 ≤ q) (hq : q ≤ 100000000) : Ev (fun k => laws_heldIntS.f k (marks q n) q) (q + n) := by
  have go : ∀ (rs : Nat) (pre : List Int) (q : Int), 0 ≤ q → q + rs ≤ 200000000 → pre.length + rs ≤ 3000000 → Ev (fun k => laws_heldIntS.l0 k (pre ++ marks q rs) q (pre.length : Int)) (q + rs) := by
    intro rs
    induction rs with
    | zero =>
      intro pre q _ _ _
      refine Ev.step (fun k => ?_) (Ev.now _)
      simp [laws_heldIntS.l0, marks]
    | succ rs ih =>
      intro pre q h0 h1 h2
      have h := ih (pre ++ [q]) (q + 1) (by omega) (by omega) (by simp; omega)
      simp only [List.length_append, List.length_cons, List.length_nil] at h
      rw [show q + ((rs + 1 : Nat) : Int) = q + 1 + rs by omega]
      refine Ev.step (fun k => ?_) h
      simp only [laws_heldIntS.l0]
      rw [if_pos (by simp [marks_len]; omega), if_pos (by omega), if_pos (by rw [rdI]; simp [marks]), w64 (by omega) (by omega), w64 (by omega) (by omega)]
      simp [marks]
  exact go n [] q h0 (by omega) (by simp; omega)

def conv (a : S75) : S36 := ⟨a.f0⟩
theorem toA (x : List S75) (hx : x.length ≤ 3000000) (hs : ∀ a ∈ x, a.f0.length ≤ 3000000) : Ev (fun k => laws_toAskerS.f k x) (x.map conv) := by
  have go : ∀ (rs pre : List S75), x = pre ++ rs → Ev (fun k => laws_toAskerS.l0 k x (pre.map conv ++ List.replicate rs.length z36) (pre.length : Int)) (x.map conv) := by
    intro rs
    induction rs with
    | nil =>
      intro pre hp
      subst hp
      refine Ev.step (fun k => ?_) (Ev.now _)
      simp [laws_toAskerS.l0]
    | cons r rs ih =>
      intro pre hp
      have hl : x.length = pre.length + (rs.length + 1) := by rw [hp]; simp
      have e : rd_T75 x (pre.length : Int) = r := by simp [rd_T75, hp]
      have hr : r.f0.length ≤ 3000000 := hs r (by rw [hp]; simp)
      have ev := ih (pre ++ [r]) (by rw [hp]; simp)
      have e2 := set_at (pre.map conv) (List.replicate rs.length z36) (conv r) z36
      rw [List.length_map] at e2
      have one : Ev (fun k => laws_toAsker.f k r.f0) r.f0 := by
        unfold laws_toAsker.f
        exact Ev.bind (toI r.f0 hr) (Ev.now _)
      refine Ev.step (f := fun k => (laws_toAsker.f k r.f0).bind fun t => if (pre.length : Int) < ((pre.map conv ++ List.replicate (r :: rs).length z36).length : Int) then laws_toAskerS.l0 k x ((pre.map conv ++ List.replicate (r :: rs).length z36).set pre.length (⟨t⟩ : S36)) ((pre.length : Int) + 1) else none) (fun k => ?_) (Ev.bind one ?_)
      · simp only [laws_toAskerS.l0]
        rw [if_pos (by omega), if_pos (by omega), e, w64 (by omega) (by omega), Int.toNat_natCast]
      · refine Ev.congr (fun k => ?_) ev
        rw [if_pos (by simp; omega), List.length_cons, List.replicate_succ, show (⟨r.f0⟩ : S36) = conv r from rfl, e2]
        simp
  refine Ev.congr (fun k => ?_) (go x [] rfl)
  simp only [laws_toAskerS.f]
  rw [if_pos (by omega), if_pos (by omega)]
  simp
theorem eqA (x : List S36) (hx : x.length ≤ 3000000) (hs : ∀ a ∈ x, a.f0.length ≤ 3000000) : Ev (fun k => laws_eqAskerS.f k x x) true := by
  have go : ∀ (d i : Nat), i + d = x.length → Ev (fun k => laws_eqAskerS.l0 k x x (i : Int)) true := by
    intro d
    induction d with
    | zero =>
      intro i hd
      refine Ev.step (fun k => ?_) (Ev.now true)
      simp only [laws_eqAskerS.l0]; rw [if_neg (by omega)]
    | succ d ih =>
      intro i hd
      have one : Ev (fun k => laws_eqAsker.f k (rd_T36 x (i : Int)).f0 (rd_T36 x (i : Int)).f0) true := by
        unfold laws_eqAsker.f
        refine Ev.bind (eqI _ (hs _ ?_)) (Ev.now _)
        simp only [rd_T36, Int.toNat_natCast]
        exact getD_mem _ (by omega)
      refine Ev.step (f := fun k => (laws_eqAsker.f k (rd_T36 x (i : Int)).f0 (rd_T36 x (i : Int)).f0).bind fun t => if t = true then laws_eqAskerS.l0 k x x ((i + 1 : Nat) : Int) else some false) (fun k => ?_) (Ev.bind one ?_)
      · simp only [laws_eqAskerS.l0]
        rw [if_pos (by omega), if_pos (by omega), if_pos (by omega), w64 (by omega) (by omega)]
        norm_cast
      · simp only [if_true]
        exact ih (i + 1) (by omega)
  refine Ev.congr (fun k => ?_) (go x.length 0 (by omega))
  simp only [laws_eqAskerS.f, if_true]
  rfl
def tot : List S36 → Nat
  | [] => 0
  | a :: l => a.f0.length + tot l
/-- What the sizes leave: all is within, or the law has no question. -/
theorem szA (x : List S75) (hx : x.length ≤ 9223372036854775807) (hs : ∀ a ∈ x, a.f0.length ≤ 9223372036854775807) : ∃ t, Ev (fun k => laws_szAskerS.f k x 1048576) t ∧ (t < 0 ∨ (0 ≤ t ∧ x.length ≤ 1048576 ∧ (tot (x.map conv)) ≤ 1048576)) := by
  have go : ∀ (rs : List S75) (q : Nat) (y : Int), x.drop q = rs → q ≤ x.length → 0 ≤ y → y ≤ 1048576 → x.length ≤ 1048576 → ∃ t, Ev (fun k => laws_szAskerS.l0 k x y (q : Int)) t ∧ (t < 0 ∨ (0 ≤ t ∧ t + (tot (rs.map conv) : Int) = y)) := by
    intro rs
    induction rs with
    | nil =>
      intro q y hq hle h0 h1 hxl
      have := drop_nil hq hle
      refine ⟨y, Ev.step (fun k => ?_) (Ev.now _), .inr ⟨h0, by simp [tot]⟩⟩
      simp only [laws_szAskerS.l0]; rw [if_neg (by omega)]
    | cons r rs ih =>
      intro q y hq hle h0 h1 hxl
      obtain ⟨g1, g2, g3⟩ := drop_cons z75 hq
      have hr : r.f0.length ≤ 9223372036854775807 := hs r (by rw [← g2]; exact getD_mem _ g1)
      have e : rd_T75 x (q : Int) = r := by simp only [rd_T75, Int.toNat_natCast, g2]
      by_cases hn : y - (r.f0.length : Int) < 0
      · refine ⟨-1, Ev.step (fun k => ?_) (Ev.now _), .inl (by omega)⟩
        simp only [laws_szAskerS.l0, laws_szAsker.f, laws_szIntS.f]
        rw [if_pos (by omega), if_pos (by omega), e, w64 (by omega) (by omega), if_pos hn]
        simp
      · obtain ⟨t, ev, ht⟩ := ih (q + 1) (y - (r.f0.length : Int)) g3 (by omega) (by omega) (by omega) hxl
        refine ⟨t, Ev.step (fun k => ?_) ev, ?_⟩
        · simp only [laws_szAskerS.l0, laws_szAsker.f, laws_szIntS.f]
          rw [if_pos (by omega), if_pos (by omega), e, w64 (x := y - (r.f0.length : Int)) (by omega) (by omega), if_neg hn]
          simp only [Option.bind_some]
          rw [if_neg hn]
          simp only [Option.bind_some]
          rw [if_neg hn, w64 (by omega) (by omega)]
          norm_cast
        · rcases ht with ht | ⟨ht, hs⟩
          · exact .inl ht
          · refine .inr ⟨ht, ?_⟩
            simp only [List.map_cons, tot, conv]
            omega
  unfold laws_szAskerS.f
  by_cases hn : (1048576 - (x.length : Int)) < 0
  · refine ⟨-1, Ev.congr (fun k => ?_) (Ev.now _), .inl (by omega)⟩
    rw [w64 (by omega) (by omega), if_pos hn]
  · obtain ⟨t, ev, ht⟩ := go x 0 (1048576 - (x.length : Int)) rfl (by omega) (by omega) (by omega) (by omega)
    refine ⟨t, Ev.congr (fun k => ?_) ev, ?_⟩
    · rw [w64 (by omega) (by omega), if_neg hn]; rfl
    · rcases ht with ht | ⟨ht, hs⟩
      · exact .inl ht
      · exact .inr ⟨ht, by omega, by omega⟩
theorem tot_le (l : List S36) : ∀ a ∈ l, a.f0.length ≤ tot l := by
  induction l with
  | nil => intro a h; cases h
  | cons b l ih =>
    intro a h
    rcases List.mem_cons.1 h with rfl | h
    · simp [tot]
    · have := ih a h; simp only [tot]; omega
theorem markA (x : List S36) (hx : x.length ≤ 3000000) (ht : tot x ≤ 3000000) (q : Int) (h0 : 0 ≤ q) (hq : q ≤ 10000) : ∃ r, Ev (fun k => laws_markAskerS.f k x q) r ∧ 0 ≤ r := by
  have go : ∀ (rs : List S36) (i : Nat) (q : Int), x.drop i = rs → i ≤ x.length → 0 ≤ q → q + tot rs ≤ 4000000 → ∃ r, Ev (fun k => laws_markAskerS.l0 k x q (i : Int)) r ∧ 0 ≤ r := by
    intro rs
    induction rs with
    | nil =>
      intro i q hi hle h0 h1
      have := drop_nil hi hle
      refine ⟨q, Ev.step (fun k => ?_) (Ev.now _), h0⟩
      simp only [laws_markAskerS.l0]; rw [if_neg (by omega)]
    | cons r rs ih =>
      intro i q hi hle h0 h1
      obtain ⟨g1, g2, g3⟩ := drop_cons z36 hi
      have hr : r.f0.length ≤ tot x := tot_le x r (by rw [← g2]; exact getD_mem _ g1)
      have e : rd_T36 x (i : Int) = r := by simp only [rd_T36, Int.toNat_natCast, g2]
      simp only [tot] at h1
      obtain ⟨t, ev, h2⟩ := ih (i + 1) (q + r.f0.length) g3 (by omega) (by omega) (by omega)
      refine ⟨t, Ev.step (f := fun k => (laws_markIntS.f k r.f0 q).bind fun bt => laws_markAskerS.l0 k x bt.1 ((i + 1 : Nat) : Int)) (fun k => ?_) (Ev.bind (markI r.f0 (by omega) q h0 (by omega)) ev), h2⟩
      simp only [laws_markAskerS.l0]
      rw [if_pos (by omega), if_pos (by omega), e, w64 (by omega) (by omega)]
      norm_cast
  obtain ⟨r, ev, hr⟩ := go x 0 q rfl (by omega) h0 (by omega)
  exact ⟨r, ev, hr⟩
theorem both (A : List S36) (S R : Int) (hs : Small A) : ∃ (H : List Int) (ok : Bool), Ev (fun k => impl_Contend.f k A S R) (H, ok) ∧ Ev (fun k => spec_Contend.f k A S R) (H, ok) ∧ H.length ≤ 2000000 := by
  by_cases h : OkC A S R
  · refine ⟨_, _, (implContend A S R hs).1 h, (specContend A S R hs).1 h, ?_⟩
    have g := good_runs (co := co A) (S := S) (n := A.length) R.toNat 0 (List.replicate A.length (-1)) good_start
    rw [g.1]
    exact hs.1
  · exact ⟨_, _, (implContend A S R hs).2 h, (specContend A S R hs).2 h, by simp⟩
theorem whole (l : List S75) (S R : Int) (hl : l.length ≤ 9223372036854775807) (hs : ∀ a ∈ l, a.f0.length ≤ 9223372036854775807) : Ev (fun m => laws_FnExactContend.f m l S R) true := by
  unfold laws_FnExactContend.f
  obtain ⟨t, ev, ht⟩ := szA l hl hs
  refine Ev.bind ev ?_
  by_cases h2 : t < 0
  · simp only [if_pos h2]; exact Ev.now _
  simp only [if_neg h2]
  rcases ht with ht | ⟨ht, n1, n2⟩
  · exact absurd ht h2
  have n3 : ∀ a ∈ l, a.f0.length ≤ 1048576 := fun a ha => by
    have := tot_le (l.map conv) (conv a) (List.mem_map_of_mem ha)
    simp only [conv] at this n2 ⊢
    omega
  have n4 : ∀ a ∈ l.map conv, a.f0.length ≤ 1048576 := fun a ha => Nat.le_trans (tot_le _ a ha) n2
  have n5 : (l.map conv).length ≤ 1048576 := by simpa using n1
  obtain ⟨H, ok, hI, hS, hH⟩ := both (l.map conv) S R ⟨by omega, fun a ha => by have := n4 a ha; omega⟩
  have tA := toA l (by omega) (fun a ha => by have := n3 a ha; omega)
  refine Ev.bind tA (Ev.bind hS (Ev.bind tA (Ev.bind hI (Ev.bind (eqI H (by omega)) ?_))))
  simp only [if_true, bne_self_eq_false]
  refine Ev.step (fun k => by simp only [laws_FnExactContend.j0, Bool.false_eq_true, if_false]; rfl) ?_
  refine Ev.bind tA (Ev.bind (eqA _ (by omega) (fun a ha => by have := n4 a ha; omega)) ?_)
  simp only [if_true]
  obtain ⟨r, hr, hr0⟩ := markA (l.map conv) (by omega) (by omega) 1 (by omega) (by omega)
  refine Ev.bind hr ?_
  simp only [if_neg (show ¬ r < 0 by omega)]
  refine Ev.bind (eqI H (by omega)) ?_
  simp only [if_true, bne_self_eq_false]
  refine Ev.step (fun k => by simp only [laws_FnExactContend.j1, Bool.false_eq_true, if_false]; rfl) ?_
  have a1 := heldI H.length (by omega) 1 (by omega) (by omega)
  refine Ev.bind (markI H (by omega) 1 (by omega) (by omega)) (Ev.bind a1 ?_)
  simp only [if_neg (show ¬ (1 + (H.length : Int) < 0) by omega), if_true]
  refine Ev.bind tA (Ev.bind hI (Ev.bind (eqI H (by omega)) ?_))
  simp only [if_true, bne_self_eq_false]
  refine Ev.step (fun k => by simp only [laws_FnExactContend.j2, Bool.false_eq_true, if_false]; rfl) ?_
  refine Ev.bind a1 ?_
  simp only [if_neg (show ¬ (1 + (H.length : Int) < 0) by omega), if_true]
  exact Ev.now _
end Go.Proofs.Ytjioalgfpcdlhaa.CoExact
