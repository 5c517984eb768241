/- laws.FnExactTry over plain lists. By an AI agent. -/
import Derived.Test.YtjioalgfpcdlhaaTrx9
import Derived.Test.YtjioalgfpcdlhaaTrx10
import Derived.Test.YtjioalgfpcdlhaaTrx11
import Derived.Test.YtjioalgfpcdlhaaTrMain
namespace Go.Proofs.Ytjioalgfpcdlhaa.TrExact
set_option linter.unusedVariables false
set_option linter.unusedSimpArgs false
open Go Go.RowKit Go.Proofs.Ytjioalgfpcdlhaa.Tr Go.Proofs.YtjioalgfpcdlhaaW.PrintWords Go.Proofs.Ytjioalgfpcdlhaa.TrMain
theorem eqI (x : List Int) (hx : x.length ≤ 3000000) : Ev (fun k => laws_eqIntS.f k x x) true := by
  have go : ∀ (d : Nat) (i : Int), 0 ≤ i → i + d = x.length → Ev (fun k => laws_eqIntS.l0 k x x i) true := by
    intro d
    induction d with
    | zero =>
      intro i h0 hd
      refine Ev.step (fun k => ?_) (Ev.now true)
      simp only [laws_eqIntS.l0]; rw [if_neg (by omega)]
    | succ d ih =>
      intro i h0 hd
      refine Ev.step (fun k => ?_) (ih (i + 1) (by omega) (by omega))
      simp only [laws_eqIntS.l0, if_true]; rw [if_pos (by omega), if_pos h0, if_pos (by omega), w64 (by omega) (by omega)]
  refine Ev.congr (fun k => ?_) (go x.length 0 (by omega) (by omega))
  simp only [laws_eqIntS.f, if_true]
theorem eqB (x : List Bool) (hx : x.length ≤ 3000000) : Ev (fun k => laws_eqBoolS.f k x x) true := by
  have go : ∀ (d : Nat) (i : Int), 0 ≤ i → i + d = x.length → Ev (fun k => laws_eqBoolS.l0 k x x i) true := by
    intro d
    induction d with
    | zero =>
      intro i h0 hd
      refine Ev.step (fun k => ?_) (Ev.now true)
      simp only [laws_eqBoolS.l0]; rw [if_neg (by omega)]
    | succ d ih =>
      intro i h0 hd
      refine Ev.step (fun k => ?_) (ih (i + 1) (by omega) (by omega))
      simp only [laws_eqBoolS.l0, bne_self_eq_false, Bool.false_eq_true, if_false]; rw [if_pos (by omega), if_pos h0, if_pos (by omega), w64 (by omega) (by omega)]
  refine Ev.congr (fun k => ?_) (go x.length 0 (by omega) (by omega))
  simp only [laws_eqBoolS.f, if_true]
theorem eqA (x : List S51) (hx : x.length ≤ 3000000) : Ev (fun k => laws_eqArrivalS.f k x x) true := by
  have go : ∀ (d : Nat) (i : Int), 0 ≤ i → i + d = x.length → Ev (fun k => laws_eqArrivalS.l0 k x x i) true := by
    intro d
    induction d with
    | zero =>
      intro i h0 hd
      refine Ev.step (fun k => ?_) (Ev.now true)
      simp only [laws_eqArrivalS.l0]; rw [if_neg (by omega)]
    | succ d ih =>
      intro i h0 hd
      refine Ev.step (fun k => ?_) (ih (i + 1) (by omega) (by omega))
      simp only [laws_eqArrivalS.l0, laws_eqArrival.f, if_true, Option.bind_some]; rw [if_pos (by omega), if_pos h0, if_pos (by omega), w64 (by omega) (by omega)]
  refine Ev.congr (fun k => ?_) (go x.length 0 (by omega) (by omega))
  simp only [laws_eqArrivalS.f, if_true]
theorem set_at {α : Type} (pre rest : List α) (v a : α) : (pre ++ a :: rest).set pre.length v = (pre ++ [v]) ++ rest := by
  rw [List.set_append_right _ _ (Nat.le_refl _), Nat.sub_self]; simp
theorem toI (x : List Int) (hx : x.length ≤ 3000000) : Ev (fun k => laws_toIntS.f k x) x := by
  have go : ∀ (rs pre : List Int), x = pre ++ rs → Ev (fun k => laws_toIntS.l0 k x (pre ++ List.replicate rs.length 0) (pre.length : Int)) x := by
    intro rs
    induction rs with
    | nil =>
      intro pre hp
      subst hp
      refine Ev.step (fun k => ?_) (Ev.now _)
      simp [laws_toIntS.l0]
    | cons r rs ih =>
      intro pre hp
      have hl : x.length = pre.length + (rs.length + 1) := by rw [hp]; simp
      refine Ev.step (fun k => ?_) (ih (pre ++ [r]) (by rw [hp]; simp))
      simp only [laws_toIntS.l0]
      rw [if_pos (by omega), if_pos (by omega), if_pos (by simp; omega), w64 (by omega) (by omega), rdI]
      have e : x.getD pre.length 0 = r := by rw [hp]; simp
      rw [e, List.length_cons, List.replicate_succ, Int.toNat_natCast, set_at]
      simp
  refine Ev.congr (fun k => ?_) (go x [] rfl)
  simp only [laws_toIntS.f]
  rw [if_pos (by omega), if_pos (by omega)]
  simp
def conv (a : S87) : S51 := ⟨a.f0, a.f1, a.f2⟩
theorem toA (x : List S87) (hx : x.length ≤ 3000000) : Ev (fun k => laws_toArrivalS.f k x) (x.map conv) := by
  have go : ∀ (rs pre : List S87), x = pre ++ rs → Ev (fun k => laws_toArrivalS.l0 k x (pre.map conv ++ List.replicate rs.length z51) (pre.length : Int)) (x.map conv) := by
    intro rs
    induction rs with
    | nil =>
      intro pre hp
      subst hp
      refine Ev.step (fun k => ?_) (Ev.now _)
      simp [laws_toArrivalS.l0]
    | cons r rs ih =>
      intro pre hp
      have hl : x.length = pre.length + (rs.length + 1) := by rw [hp]; simp
      refine Ev.step (fun k => ?_) (ih (pre ++ [r]) (by rw [hp]; simp))
      have e : rd_T87 x (pre.length : Int) = r := by simp [rd_T87, hp]
      simp only [laws_toArrivalS.l0, laws_toArrival.f, Option.bind_some]
      rw [if_pos (by omega), if_pos (by omega), if_pos (by simp; omega), w64 (by omega) (by omega), e]
      have e2 := set_at (pre.map conv) (List.replicate rs.length z51) (conv r) z51
      rw [List.length_map] at e2
      rw [List.length_cons, List.replicate_succ, Int.toNat_natCast, show (⟨r.f0, r.f1, r.f2⟩ : S51) = conv r from rfl, e2]
      simp
  refine Ev.congr (fun k => ?_) (go x [] rfl)
  simp only [laws_toArrivalS.f]
  rw [if_pos (by omega), if_pos (by omega)]
  simp
def marks : Int → Nat → List Int
  | _, 0 => []
  | k, n + 1 => k :: marks (k + 1) n
def marksB : Int → Nat → List Bool
  | _, 0 => []
  | k, n + 1 => (Int.tmod k 3 == 0) :: marksB (k + 1) n
theorem marks_len (n : Nat) : ∀ k, (marks k n).length = n := by
  induction n with
  | zero => intro k; rfl
  | succ n ih => intro k; simp [marks, ih]
theorem marksB_len (n : Nat) : ∀ k, (marksB k n).length = n := by
  induction n with
  | zero => intro k; rfl
  | succ n ih => intro k; simp [marksB, ih]
theorem markI (x : List Int) (hx : x.length ≤ 3000000) (q : Int) (h0 : 0 ≤ q) (hq : q ≤ 100000000) : Ev (fun k => laws_markIntS.f k x q) (q + x.length, marks q x.length) := by
  have go : ∀ (rs pre : List Int) (q : Int), 0 ≤ q → q + rs.length ≤ 200000000 → pre.length + rs.length ≤ 3000000 → Ev (fun k => laws_markIntS.l0 k (pre ++ rs) q (pre.length : Int)) (q + rs.length, pre ++ marks q rs.length) := by
    intro rs
    induction rs with
    | nil =>
      intro pre q _ _ _
      refine Ev.step (fun k => ?_) (Ev.now _)
      simp [laws_markIntS.l0, marks]
    | cons r rs ih =>
      intro pre q h0 h1 h2
      simp only [List.length_cons] at h1 h2
      have h := ih (pre ++ [q]) (q + 1) (by omega) (by omega) (by simp; omega)
      simp only [List.length_append, List.length_cons, List.length_nil] at h
      have e : (q + ((r :: rs).length : Int), pre ++ marks q (r :: rs).length) = (q + 1 + (rs.length : Int), pre ++ [q] ++ marks (q + 1) rs.length) := by
        simp only [List.length_cons, marks]
        refine Prod.ext ?_ (by simp)
        show q + ((rs.length + 1 : Nat) : Int) = q + 1 + rs.length
        omega
      rw [e]
      refine Ev.step (fun k => ?_) h
      simp only [laws_markIntS.l0]
      rw [if_pos (by simp; omega), if_pos (by omega), w64 (by omega) (by omega), w64 (by omega) (by omega), Int.toNat_natCast, set_at]
      rfl
  exact go x [] q h0 (by omega) (by simp; omega)
theorem markB (x : List Bool) (hx : x.length ≤ 3000000) (q : Int) (h0 : 0 ≤ q) (hq : q ≤ 100000000) : Ev (fun k => laws_markBoolS.f k x q) (q + x.length, marksB q x.length) := by
  have go : ∀ (rs pre : List Bool) (q : Int), 0 ≤ q → q + rs.length ≤ 200000000 → pre.length + rs.length ≤ 3000000 → Ev (fun k => laws_markBoolS.l0 k (pre ++ rs) q (pre.length : Int)) (q + rs.length, pre ++ marksB q rs.length) := by
    intro rs
    induction rs with
    | nil =>
      intro pre q _ _ _
      refine Ev.step (fun k => ?_) (Ev.now _)
      simp [laws_markBoolS.l0, marksB]
    | cons r rs ih =>
      intro pre q h0 h1 h2
      simp only [List.length_cons] at h1 h2
      have h := ih (pre ++ [Int.tmod q 3 == 0]) (q + 1) (by omega) (by omega) (by simp; omega)
      simp only [List.length_append, List.length_cons, List.length_nil] at h
      have e : (q + ((r :: rs).length : Int), pre ++ marksB q (r :: rs).length) = (q + 1 + (rs.length : Int), pre ++ [Int.tmod q 3 == 0] ++ marksB (q + 1) rs.length) := by
        simp only [List.length_cons, marksB]
        refine Prod.ext ?_ (by simp)
        show q + ((rs.length + 1 : Nat) : Int) = q + 1 + rs.length
        omega
      rw [e]
      refine Ev.step (fun k => ?_) h
      simp only [laws_markBoolS.l0]
      rw [if_pos (by simp; omega), if_pos (by omega), w64 (by omega) (by omega), w64 (by omega) (by omega), Int.toNat_natCast, set_at]
      rfl
  exact go x [] q h0 (by omega) (by simp; omega)
theorem heldI (n : Nat) (hn : n ≤ 3000000) (q : Int) (h0 : 0 ≤ q) (hq : q ≤ 100000000) : Ev (fun k => laws_heldIntS.f k (marks q n) q) (q + n) := by
  have go : ∀ (rs : Nat) (pre : List Int) (q : Int), 0 ≤ q → q + rs ≤ 200000000 → pre.length + rs ≤ 3000000 → Ev (fun k => laws_heldIntS.l0 k (pre ++ marks q rs) q (pre.length : Int)) (q + rs) := by
    intro rs
    induction rs with
    | zero =>
      intro pre q _ _ _
      refine Ev.step (fun k => ?_) (Ev.now _)
      simp [laws_heldIntS.l0, marks]
    | succ rs ih =>
      intro pre q h0 h1 h2
      have h := ih (pre ++ [q]) (q + 1) (by omega) (by omega) (by simp; omega)
      simp only [List.length_append, List.length_cons, List.length_nil] at h
      rw [show q + ((rs + 1 : Nat) : Int) = q + 1 + rs by omega]
      refine Ev.step (fun k => ?_) h
      simp only [laws_heldIntS.l0]
      rw [if_pos (by simp [marks_len]; omega), if_pos (by omega), if_pos (by rw [rdI]; simp [marks]), w64 (by omega) (by omega), w64 (by omega) (by omega)]
      simp [marks]
  exact go n [] q h0 (by omega) (by simp; omega)
theorem heldB (n : Nat) (hn : n ≤ 3000000) (q : Int) (h0 : 0 ≤ q) (hq : q ≤ 100000000) : Ev (fun k => laws_heldBoolS.f k (marksB q n) q) (q + n) := by
  have go : ∀ (rs : Nat) (pre : List Bool) (q : Int), 0 ≤ q → q + rs ≤ 200000000 → pre.length + rs ≤ 3000000 → Ev (fun k => laws_heldBoolS.l0 k (pre ++ marksB q rs) q (pre.length : Int)) (q + rs) := by
    intro rs
    induction rs with
    | zero =>
      intro pre q _ _ _
      refine Ev.step (fun k => ?_) (Ev.now _)
      simp [laws_heldBoolS.l0, marksB]
    | succ rs ih =>
      intro pre q h0 h1 h2
      have h := ih (pre ++ [Int.tmod q 3 == 0]) (q + 1) (by omega) (by omega) (by simp; omega)
      simp only [List.length_append, List.length_cons, List.length_nil] at h
      rw [show q + ((rs + 1 : Nat) : Int) = q + 1 + rs by omega]
      refine Ev.step (fun k => ?_) h
      simp only [laws_heldBoolS.l0]
      rw [if_pos (by simp [marksB_len]; omega), if_pos (by omega), if_neg (by rw [rdB]; simp [marksB]), w64 (by omega) (by omega), w64 (by omega) (by omega)]
      simp [marksB]
  exact go n [] q h0 (by omega) (by simp; omega)
theorem markA (x : List S51) (hx : x.length ≤ 3000000) (q : Int) (h0 : 0 ≤ q) (hq : q ≤ 100000000) : ∃ y, Ev (fun k => laws_markArrivalS.f k x q) (q + 3 * x.length, y) := by
  have go : ∀ (d : Nat) (x : List S51) (i q : Int), x.length ≤ 3000000 → 0 ≤ q → q + 3 * d ≤ 200000000 → 0 ≤ i → i + d = x.length → ∃ y, Ev (fun k => laws_markArrivalS.l0 k x q i) (q + 3 * d, y) := by
    intro d
    induction d with
    | zero =>
      intro x i q _ _ _ _ hd
      refine ⟨x, Ev.step (fun k => ?_) (Ev.now _)⟩
      simp only [laws_markArrivalS.l0]; rw [if_neg (by omega)]; simp
    | succ d ih =>
      intro x i q hx h0 h1 hi hd
      obtain ⟨y, h⟩ := ih ((((x.set i.toNat ⟨q, (rd_T51 x i).f1, (rd_T51 x i).f2⟩).set i.toNat ⟨(rd_T51 (x.set i.toNat ⟨q, (rd_T51 x i).f1, (rd_T51 x i).f2⟩) i).f0, q + 1, (rd_T51 (x.set i.toNat ⟨q, (rd_T51 x i).f1, (rd_T51 x i).f2⟩) i).f2⟩)).set i.toNat ⟨(rd_T51 ((x.set i.toNat ⟨q, (rd_T51 x i).f1, (rd_T51 x i).f2⟩).set i.toNat ⟨(rd_T51 (x.set i.toNat ⟨q, (rd_T51 x i).f1, (rd_T51 x i).f2⟩) i).f0, q + 1, (rd_T51 (x.set i.toNat ⟨q, (rd_T51 x i).f1, (rd_T51 x i).f2⟩) i).f2⟩) i).f0, (rd_T51 ((x.set i.toNat ⟨q, (rd_T51 x i).f1, (rd_T51 x i).f2⟩).set i.toNat ⟨(rd_T51 (x.set i.toNat ⟨q, (rd_T51 x i).f1, (rd_T51 x i).f2⟩) i).f0, q + 1, (rd_T51 (x.set i.toNat ⟨q, (rd_T51 x i).f1, (rd_T51 x i).f2⟩) i).f2⟩) i).f1, q + 1 + 1⟩) (i + 1) (q + 1 + 1 + 1) (by simpa using hx) (by omega) (by omega) (by omega) (by simp; omega)
      refine ⟨y, ?_⟩
      rw [show q + 3 * ((d + 1 : Nat) : Int) = q + 1 + 1 + 1 + 3 * d by omega]
      refine Ev.step (fun k => ?_) h
      simp only [laws_markArrivalS.l0, Option.bind_some]
      rw [if_pos (by omega), if_pos hi, w64 (x := q + 1) (by omega) (by omega), w64 (x := q + 1 + 1) (by omega) (by omega), w64 (x := q + 1 + 1 + 1) (by omega) (by omega), w64 (x := i + 1) (by omega) (by omega)]
  exact go x.length x 0 q hx h0 (by omega) (by omega) (by omega)
theorem run_len (c : Int) (sp : List Int) (l : List S51) : ∀ (s : List Bool × List Int × List Int), (tryRun c sp l s).1.length = s.1.length + l.length ∧ (tryRun c sp l s).2.1.length = s.2.1.length + l.length := by
  induction l with
  | nil => intro s; simp [tryRun]
  | cons a l ih =>
    intro s
    have h := ih (tryStep c sp s a)
    have e : (tryStep c sp s a).1.length = s.1.length + 1 ∧ (tryStep c sp s a).2.1.length = s.2.1.length + 1 := by
      unfold tryStep; constructor <;> (try split) <;> simp
    simp only [tryRun, List.foldl_cons, List.length_cons] at h ⊢
    omega
theorem both (c : Int) (sp : List Int) (l : List S51) (hs : sp.length ≤ 2000000) (hl : l.length ≤ 2000000) : ∃ (IN : List Bool) (BU : List Int) (ok : Bool),
    Ev (fun m => impl_Try.f m c sp l) (IN, BU, ok) ∧ Ev (fun m => spec_Try.f m c sp l) (IN, BU, ok) ∧ IN.length ≤ 2000000 ∧ BU.length ≤ 2000000 := by
  by_cases h : OkT c sp l
  · refine ⟨_, _, _, (implTry c sp l hs hl).1 h, (specTry c sp l hs hl).1 h, ?_, ?_⟩
    · rw [(run_len c sp l _).1]; simpa using hl
    · rw [(run_len c sp l _).2]; simpa using hl
  · exact ⟨_, _, _, (implTry c sp l hs hl).2 h, (specTry c sp l hs hl).2 h, by simp, by simp⟩
theorem whole (c : Int) (sp : List Int) (l : List S87) (hl : (l.length : Int) ≤ 9223372036854775807) : Ev (fun m => laws_FnExactTry.f m c sp l) true := by
  unfold laws_FnExactTry.f
  by_cases h1 : (sp.length : Int) > 1048576
  · simp only [if_pos h1]; exact Ev.now _
  simp only [if_neg h1]
  by_cases h2 : (1048576 - (l.length : Int)) < 0
  · have e : laws_szArrivalS.f l 1048576 = some (-1) := by
      unfold laws_szArrivalS.f; rw [w64 (by omega) (by omega), if_pos h2]
    simp only [e, Option.bind_some]
    exact Ev.congr (fun k => if_pos (by omega)) (Ev.now _)
  have e : laws_szArrivalS.f l 1048576 = some (1048576 - (l.length : Int)) := by
    unfold laws_szArrivalS.f; rw [w64 (by omega) (by omega), if_neg h2]
  simp only [e, Option.bind_some, if_neg h2]
  have hs : sp.length ≤ 1048576 := by omega
  have hm : (l.map conv).length ≤ 1048576 := by simp; omega
  obtain ⟨IN, BU, ok, hI, hS, n1, n2⟩ := both c sp (l.map conv) (by omega) (by omega)
  have tI := toI sp (by omega)
  have tA := toA l (by omega)
  refine Ev.bind tI (Ev.bind tA (Ev.bind hS (Ev.bind tI (Ev.bind tA (Ev.bind hI (Ev.bind (eqB IN (by omega)) ?_))))))
  simp only [if_true]
  refine Ev.bind (eqI BU (by omega)) ?_
  simp only [if_true, bne_self_eq_false]
  refine Ev.step (fun k => by simp only [laws_FnExactTry.j0, Bool.false_eq_true, if_false]; rfl) ?_
  refine Ev.bind tI (Ev.bind (eqI sp (by omega)) ?_)
  simp only [if_true]
  refine Ev.bind tA (Ev.bind (eqA _ (by omega)) ?_)
  simp only [if_true]
  obtain ⟨y, hy⟩ := markA (l.map conv) (by omega) (1 + sp.length) (by omega) (by omega)
  refine Ev.bind (markI sp (by omega) 1 (by omega) (by omega)) (Ev.bind hy ?_)
  simp only [if_neg (show ¬ (1 + (sp.length : Int) + 3 * ((l.map conv).length : Int) < 0) by omega)]
  refine Ev.bind (eqB IN (by omega)) ?_
  simp only [if_true]
  refine Ev.bind (eqI BU (by omega)) ?_
  simp only [if_true, bne_self_eq_false]
  refine Ev.step (fun k => by simp only [laws_FnExactTry.j1, Bool.false_eq_true, if_false]; rfl) ?_
  have a1 := heldB IN.length (by omega) 1 (by omega) (by omega)
  have a2 := heldI BU.length (by omega) (1 + IN.length) (by omega) (by omega)
  refine Ev.bind (markB IN (by omega) 1 (by omega) (by omega)) (Ev.bind (markI BU (by omega) (1 + IN.length) (by omega) (by omega)) (Ev.bind a1 ?_))
  simp only [if_neg (show ¬ (1 + (IN.length : Int) < 0) by omega)]
  refine Ev.bind a2 ?_
  simp only [if_neg (show ¬ (1 + (IN.length : Int) + (BU.length : Int) < 0) by omega), if_true]
  refine Ev.bind tI (Ev.bind tA (Ev.bind hI (Ev.bind (eqB IN (by omega)) ?_)))
  simp only [if_true]
  refine Ev.bind (eqI BU (by omega)) ?_
  simp only [if_true, bne_self_eq_false]
  refine Ev.step (fun k => by simp only [laws_FnExactTry.j2, Bool.false_eq_true, if_false]; rfl) ?_
  refine Ev.bind a1 ?_
  simp only [if_neg (show ¬ (1 + (IN.length : Int) < 0) by omega)]
  refine Ev.bind a2 ?_
  simp only [if_neg (show ¬ (1 + (IN.length : Int) + (BU.length : Int) < 0) by omega), if_true]
  exact Ev.now _
end Go.Proofs.Ytjioalgfpcdlhaa.TrExact
