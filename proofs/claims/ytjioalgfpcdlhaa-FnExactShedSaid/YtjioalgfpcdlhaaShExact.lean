/- laws.FnExactShed over plain lists. By an AI agent. -/
import Derived.Test.YtjioalgfpcdlhaaShSpec
import Derived.Test.YtjioalgfpcdlhaaShx9
import Derived.Test.YtjioalgfpcdlhaaShx10
namespace Go.Proofs.Ytjioalgfpcdlhaa.ShExact
open Go Go.RowKit Go.Proofs.Ytjioalgfpcdlhaa.Sh Go.Proofs.Ytjioalgfpcdlhaa.ShMain Go.Proofs.Ytjioalgfpcdlhaa.ShSpec Go.Proofs.YtjioalgfpcdlhaaW.PrintWords
set_option linter.unusedVariables false
set_option linter.unusedSimpArgs false
theorem eqA (x : List S51) (hx : x.length ≤ 3000000) : Ev (fun k => laws_eqArrivalS.f k x x) true := by
  have go : ∀ (d : Nat) (i : Int), 0 ≤ i → i + d = x.length → Ev (fun k => laws_eqArrivalS.l0 k x x i) true := by
    intro d
    induction d with
    | zero =>
      intro i h0 hd
      refine Ev.step (fun k => ?_) (Ev.now true)
      simp only [laws_eqArrivalS.l0]; rw [if_neg (by omega)]
    | succ d ih =>
      intro i h0 hd
      refine Ev.step (fun k => ?_) (ih (i + 1) (by omega) (by omega))
      simp only [laws_eqArrivalS.l0, laws_eqArrival.f, if_true, Option.bind_some]; rw [if_pos (by omega), if_pos h0, if_pos (by omega), w64 (by omega) (by omega)]
  refine Ev.congr (fun k => ?_) (go x.length 0 (by omega) (by omega))
  simp only [laws_eqArrivalS.f, if_true]
theorem set_at {α : Type} (pre rest : List α) (v a : α) : (pre ++ a :: rest).set pre.length v = (pre ++ [v]) ++ rest := by
  rw [List.set_append_right _ _ (Nat.le_refl _), Nat.sub_self]; simp
def conv (a : S87) : S51 := ⟨a.f0, a.f1, a.f2⟩
theorem toA (x : List S87) (hx : x.length ≤ 3000000) : Ev (fun k => laws_toArrivalS.f k x) (x.map conv) := by
  have go : ∀ (rs pre : List S87), x = pre ++ rs → Ev (fun k => laws_toArrivalS.l0 k x (pre.map conv ++ List.replicate rs.length z51) (pre.length : Int)) (x.map conv) := by
    intro rs
    induction rs with
    | nil =>
      intro pre hp
      subst hp
      refine Ev.step (fun k => ?_) (Ev.now _)
      simp [laws_toArrivalS.l0]
    | cons r rs ih =>
      intro pre hp
      have hl : x.length = pre.length + (rs.length + 1) := by rw [hp]; simp
      refine Ev.step (fun k => ?_) (ih (pre ++ [r]) (by rw [hp]; simp))
      have e : rd_T87 x (pre.length : Int) = r := by simp [rd_T87, hp]
      simp only [laws_toArrivalS.l0, laws_toArrival.f, Option.bind_some]
      rw [if_pos (by omega), if_pos (by omega), if_pos (by simp; omega), w64 (by omega) (by omega), e]
      have e2 := set_at (pre.map conv) (List.replicate rs.length z51) (conv r) z51
      rw [List.length_map] at e2
      rw [List.length_cons, List.replicate_succ, Int.toNat_natCast, show (⟨r.f0, r.f1, r.f2⟩ : S51) = conv r from rfl, e2]
      simp
  refine Ev.congr (fun k => ?_) (go x [] rfl)
  simp only [laws_toArrivalS.f]
  rw [if_pos (by omega), if_pos (by omega)]
  simp
theorem markA (x : List S51) (hx : x.length ≤ 3000000) (q : Int) (h0 : 0 ≤ q) (hq : q ≤ 100000000) : ∃ y, Ev (fun k => laws_markArrivalS.f k x q) (q + 3 * x.length, y) := by
  have go : ∀ (d : Nat) (x : List S51) (i q : Int), x.length ≤ 3000000 → 0 ≤ q → q + 3 * d ≤ 200000000 → 0 ≤ i → i + d = x.length → ∃ y, Ev (fun k => laws_markArrivalS.l0 k x q i) (q + 3 * d, y) := by
    intro d
    induction d with
    | zero =>
      intro x i q _ _ _ _ hd
      refine ⟨x, Ev.step (fun k => ?_) (Ev.now _)⟩
      simp only [laws_markArrivalS.l0]; rw [if_neg (by omega)]; simp
    | succ d ih =>
      intro x i q hx h0 h1 hi hd
      obtain ⟨y, h⟩ := ih ((((x.set i.toNat ⟨q, (rd_T51 x i).f1, (rd_T51 x i).f2⟩).set i.toNat ⟨(rd_T51 (x.set i.toNat ⟨q, (rd_T51 x i).f1, (rd_T51 x i).f2⟩) i).f0, q + 1, (rd_T51 (x.set i.toNat ⟨q, (rd_T51 x i).f1, (rd_T51 x i).f2⟩) i).f2⟩)).set i.toNat ⟨(rd_T51 ((x.set i.toNat ⟨q, (rd_T51 x i).f1, (rd_T51 x i).f2⟩).set i.toNat ⟨(rd_T51 (x.set i.toNat ⟨q, (rd_T51 x i).f1, (rd_T51 x i).f2⟩) i).f0, q + 1, (rd_T51 (x.set i.toNat ⟨q, (rd_T51 x i).f1, (rd_T51 x i).f2⟩) i).f2⟩) i).f0, (rd_T51 ((x.set i.toNat ⟨q, (rd_T51 x i).f1, (rd_T51 x i).f2⟩).set i.toNat ⟨(rd_T51 (x.set i.toNat ⟨q, (rd_T51 x i).f1, (rd_T51 x i).f2⟩) i).f0, q + 1, (rd_T51 (x.set i.toNat ⟨q, (rd_T51 x i).f1, (rd_T51 x i).f2⟩) i).f2⟩) i).f1, q + 1 + 1⟩) (i + 1) (q + 1 + 1 + 1) (by simpa using hx) (by omega) (by omega) (by omega) (by simp; omega)
      refine ⟨y, ?_⟩
      rw [show q + 3 * ((d + 1 : Nat) : Int) = q + 1 + 1 + 1 + 3 * d by omega]
      refine Ev.step (fun k => ?_) h
      simp only [laws_markArrivalS.l0, Option.bind_some]
      rw [if_pos (by omega), if_pos hi, w64 (x := q + 1) (by omega) (by omega), w64 (x := q + 1 + 1) (by omega) (by omega), w64 (x := q + 1 + 1 + 1) (by omega) (by omega), w64 (x := i + 1) (by omega) (by omega)]
  exact go x.length x 0 q hx h0 (by omega) (by omega) (by omega)

def marksA : Int → Nat → List S51
  | _, 0 => []
  | q, n + 1 => ⟨q, q + 1, q + 1 + 1⟩ :: marksA (q + 1 + 1 + 1) n
theorem marksA_len (n : Nat) : ∀ q, (marksA q n).length = n := by
  induction n with
  | zero => intro q; rfl
  | succ n ih => intro q; simp [marksA, ih]
theorem rd_at (pre rs : List S51) (v : S51) : rd_T51 (pre ++ [v] ++ rs) (pre.length : Int) = v := by simp [rd_T51]
theorem set_again (pre rs : List S51) (v u : S51) : (pre ++ [v] ++ rs).set pre.length u = pre ++ [u] ++ rs := by
  rw [List.append_assoc, List.append_assoc]
  exact (set_at pre rs u v).trans (List.append_assoc _ _ _)
theorem markAs (x : List S51) (hx : x.length ≤ 3000000) (q : Int) (h0 : 0 ≤ q) (hq : q ≤ 100000000) : Ev (fun k => laws_markArrivalS.f k x q) (q + 3 * x.length, marksA q x.length) := by
  have go : ∀ (rs pre : List S51) (q : Int), 0 ≤ q → q + 3 * rs.length ≤ 200000000 → pre.length + rs.length ≤ 3000000 → Ev (fun k => laws_markArrivalS.l0 k (pre ++ rs) q (pre.length : Int)) (q + 3 * rs.length, pre ++ marksA q rs.length) := by
    intro rs
    induction rs with
    | nil =>
      intro pre q _ _ _
      refine Ev.step (fun k => ?_) (Ev.now _)
      simp [laws_markArrivalS.l0, marksA]
    | cons r rs ih =>
      intro pre q h0 h1 h2
      simp only [List.length_cons] at h1 h2
      have h := ih (pre ++ [⟨q, q + 1, q + 1 + 1⟩]) (q + 1 + 1 + 1) (by omega) (by omega) (by simp; omega)
      simp only [List.length_append, List.length_cons, List.length_nil] at h
      have e : (q + 3 * ((r :: rs).length : Int), pre ++ marksA q (r :: rs).length) = (q + 1 + 1 + 1 + 3 * (rs.length : Int), pre ++ [⟨q, q + 1, q + 1 + 1⟩] ++ marksA (q + 1 + 1 + 1) rs.length) := by
        simp only [List.length_cons, marksA]
        refine Prod.ext ?_ (by simp)
        show q + 3 * ((rs.length + 1 : Nat) : Int) = q + 1 + 1 + 1 + 3 * rs.length
        omega
      rw [e]
      refine Ev.step (fun k => ?_) h
      simp only [laws_markArrivalS.l0, Option.bind_some]
      rw [if_pos (by simp; omega), if_pos (by omega), w64 (x := q + 1) (by omega) (by omega), w64 (x := q + 1 + 1) (by omega) (by omega), w64 (x := q + 1 + 1 + 1) (by omega) (by omega), w64 (x := (pre.length : Int) + 1) (by omega) (by omega), Int.toNat_natCast, set_at]
      rw [rd_at, set_again, rd_at, set_again]
      norm_cast
  exact go x [] q h0 (by omega) (by simp; omega)
theorem heldAs (n : Nat) (hn : n ≤ 3000000) (q : Int) (h0 : 0 ≤ q) (hq : q ≤ 100000000) : Ev (fun k => laws_heldArrivalS.f k (marksA q n) q) (q + 3 * n) := by
  have go : ∀ (rs : Nat) (pre : List S51) (q : Int), 0 ≤ q → q + 3 * rs ≤ 200000000 → pre.length + rs ≤ 3000000 → Ev (fun k => laws_heldArrivalS.l0 k (pre ++ marksA q rs) q (pre.length : Int)) (q + 3 * rs) := by
    intro rs
    induction rs with
    | zero =>
      intro pre q _ _ _
      refine Ev.step (fun k => ?_) (Ev.now _)
      simp [laws_heldArrivalS.l0, marksA]
    | succ rs ih =>
      intro pre q h0 h1 h2
      have h := ih (pre ++ [⟨q, q + 1, q + 1 + 1⟩]) (q + 1 + 1 + 1) (by omega) (by omega) (by simp; omega)
      simp only [List.length_append, List.length_cons, List.length_nil] at h
      rw [show q + 3 * ((rs + 1 : Nat) : Int) = q + 1 + 1 + 1 + 3 * rs by omega]
      have er : rd_T51 (pre ++ marksA q (rs + 1)) (pre.length : Int) = ⟨q, q + 1, q + 1 + 1⟩ := by simp [rd_T51, marksA]
      refine Ev.step (fun k => ?_) h
      simp only [laws_heldArrivalS.l0, er]
      rw [if_pos (by simp [marksA_len]; omega), if_pos (by omega), w64 (x := q + 1) (by omega) (by omega), w64 (x := q + 1 + 1) (by omega) (by omega), w64 (x := q + 1 + 1 + 1) (by omega) (by omega), w64 (x := (pre.length : Int) + 1) (by omega) (by omega)]
      simp [marksA]
  exact go n [] q h0 (by omega) (by simp; omega)
theorem both (L : List S51) (busy most : Int) (hl : L.length ≤ 2000000) : ∃ (out : List S51) (ok : Bool), Ev (fun k => impl_Shed.f k L busy most) (out, ok) ∧ Ev (fun k => spec_Shed.f k L busy most) (out, ok) ∧ out.length ≤ 2000000 := by
  by_cases h : OkS L busy most
  · obtain ⟨ys, py, sy, e⟩ := (implShed L busy most hl).1 h
    refine ⟨_, _, e, (specShed L busy most hl).1 h ys py sy, ?_⟩
    unfold picked
    rw [List.length_map]
    exact Nat.le_trans (List.length_filter_le _ _) (by rw [up_len]; exact hl)
  · exact ⟨_, _, (implShed L busy most hl).2 h, (specShed L busy most hl).2 h, by simp⟩
theorem whole (l : List S87) (busy most : Int) (hl : (l.length : Int) ≤ 9223372036854775807) : Ev (fun m => laws_FnExactShed.f m l busy most) true := by
  unfold laws_FnExactShed.f
  by_cases h2 : (1048576 - (l.length : Int)) < 0
  · have e : laws_szArrivalS.f l 1048576 = some (-1) := by
      unfold laws_szArrivalS.f; rw [w64 (by omega) (by omega), if_pos h2]
    simp only [e, Option.bind_some]
    exact Ev.congr (fun k => if_pos (by omega)) (Ev.now _)
  have e : laws_szArrivalS.f l 1048576 = some (1048576 - (l.length : Int)) := by
    unfold laws_szArrivalS.f; rw [w64 (by omega) (by omega), if_neg h2]
  simp only [e, Option.bind_some, if_neg h2]
  have hm : (l.map conv).length ≤ 1048576 := by simp; omega
  obtain ⟨out, ok, hI, hS, ho⟩ := both (l.map conv) busy most (by omega)
  have tA := toA l (by omega)
  refine Ev.bind tA (Ev.bind hS (Ev.bind tA (Ev.bind hI (Ev.bind (eqA out (by omega)) ?_))))
  simp only [if_true, bne_self_eq_false]
  refine Ev.step (fun k => by simp only [laws_FnExactShed.j0, Bool.false_eq_true, if_false]; rfl) ?_
  refine Ev.bind tA (Ev.bind (eqA _ (by omega)) ?_)
  simp only [if_true]
  refine Ev.bind (markAs (l.map conv) (by omega) 1 (by omega) (by omega)) ?_
  simp only [if_neg (show ¬ (1 + 3 * ((l.map conv).length : Int) < 0) by omega)]
  refine Ev.bind (eqA out (by omega)) ?_
  simp only [if_true, bne_self_eq_false]
  refine Ev.step (fun k => by simp only [laws_FnExactShed.j1, Bool.false_eq_true, if_false]; rfl) ?_
  have a1 := heldAs out.length (by omega) 1 (by omega) (by omega)
  refine Ev.bind (markAs out (by omega) 1 (by omega) (by omega)) (Ev.bind a1 ?_)
  simp only [if_neg (show ¬ (1 + 3 * (out.length : Int) < 0) by omega), if_true]
  refine Ev.bind tA (Ev.bind hI (Ev.bind (eqA out (by omega)) ?_))
  simp only [if_true, bne_self_eq_false]
  refine Ev.step (fun k => by simp only [laws_FnExactShed.j2, Bool.false_eq_true, if_false]; rfl) ?_
  refine Ev.bind a1 ?_
  simp only [if_neg (show ¬ (1 + 3 * (out.length : Int) < 0) by omega), if_true]
  exact Ev.now _
end Go.Proofs.Ytjioalgfpcdlhaa.ShExact
