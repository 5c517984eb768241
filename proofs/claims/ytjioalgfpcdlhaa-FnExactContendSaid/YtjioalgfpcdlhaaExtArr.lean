/- An array of sixteen rows of ints as a row of rows. By an AI agent. -/
import Derived.Test.YtjioalgfpcdlhaaCox3
import Derived.Test.YtjioalgfpcdlhaaExtRep
namespace Go.Proofs.Ytjioalgfpcdlhaa.ExtArr
open Go Go.RowKit Go.Proofs.YtjioalgfpcdlhaaW.PrintWords
set_option linter.unusedVariables false
theorem slice_eq {A A' : Option Addr} {n n' c c' : Nat} (h : Value.slice A n c = .slice A' n' c') : A = A' ∧ n = n' ∧ c = c' := by
  injection h with h1 h2 h3
  exact ⟨h1, h2, h3⟩
theorem lt16 {n : Nat} {i : Int} (h : n = 16) (hd : decide (i < (n : Int)) = true) : decide (i < 16) = true := by
  subst h
  exact hd
def nil16 : Array Value := #[.slice none 0 0, .slice none 0 0, .slice none 0 0, .slice none 0 0, .slice none 0 0, .slice none 0 0, .slice none 0 0, .slice none 0 0, .slice none 0 0, .slice none 0 0, .slice none 0 0, .slice none 0 0, .slice none 0 0, .slice none 0 0, .slice none 0 0, .slice none 0 0]
theorem S_array {w1 : World} {g B : Nat} {ok : Nat → Prop} (hbox : w1.heap[g]? = some (.cells nil16 73 (0, 0))) (hg : B ≤ g) (hok : ok g) : Kd.S (Kd.slice 3 (Kd.int .i64)) 73 w1 B ok (.slice (some ⟨g, 0, none⟩) 16 16) (List.replicate 16 []) := by
  refine Kd.S_bare (d := Kd.slice 3 (Kd.int .i64)) (ok := ok) ⟨fun k hk => ?_, List.replicate 16 (.slice none 0 0), ⟨rfl, .inr ⟨g, 16, nil16, rfl, hg, hbox, Nat.le_refl _, by decide, rfl, rfl⟩⟩, ?_⟩
  · have : g = k := by simpa [Value.ownBlock] using hk
    exact this ▸ hok
  · have h := Kd.reps_made (R := (Kd.bare (Kd.slice 3 (Kd.int .i64))).M w1 B (fun k => ok k ∧ some k ≠ (Value.slice (some { block := g, off := 0 }) 16 16).ownBlock)) (z := .slice none 0 0) (size := 1) (z0 := []) (by rfl) (by decide) ⟨_, rfl, Kd.R_nil _ _ _ _ _⟩ 16
    have e : ∀ m, (madeCells (Value.slice none 0 0).cells (m * 1)).toList = List.replicate m (.slice none 0 0) := by
      intro m
      apply List.ext_getElem
      · simp [madeCells]
      · intro i h1 h2
        simp [madeCells, Value.cells, Nat.mod_one]
    rw [e] at h
    exact h
/-- The block of such an array. -/
theorem S_block {w : World} {g B : Nat} {ok : Nat → Prop} {xs : List (List Int)} (h : Kd.S (Kd.slice 3 (Kd.int .i64)) 73 w B ok (.slice (some ⟨g, 0, none⟩) 16 16) xs) : ∃ cur : Array Value, w.heap[g]? = some (.cells cur 73 (0, 0)) ∧ cur.size = 16 := by
  obtain ⟨f, _, inner, ⟨_, ho⟩, _⟩ := h
  rcases ho with ⟨he, _⟩ | ⟨g', cap, cur, he, _, hh, _, _, hs, _⟩
  · cases he
  · obtain ⟨e1, e2, e3⟩ := slice_eq he
    injection e1 with e1
    injection e1 with e1
    subst e1 e3
    exact ⟨cur, hh, by rw [hs]; rfl⟩
theorem at16 {w : World} {g : Nat} {cur : Array Value} {i : Int} {v : Value} (h : w.heap[g]? = some (.cells cur 73 (0, 0))) (hx : w.cell? ((⟨g, 0, none⟩ : Addr).add i.toNat) = some v) : cur[i.toNat]? = some v := by
  have e : ((⟨g, 0, none⟩ : Addr).add i.toNat) = ⟨g, i.toNat, none⟩ := by unfold Addr.add; split <;> simp_all
  rw [e] at hx
  simpa [World.cell?, h] using hx
theorem addG (g j : Nat) : ((⟨g, 0, none⟩ : Addr).add j) = ⟨g, j, none⟩ := by unfold Addr.add; split <;> simp_all
/-- The whole array is read. -/
theorem load_event {w : World} {ops : Array Oper} {rest : List Oper} {o : Oper} {a : Act} {Q : Exit → Act → World → Prop} (hgd : o.guard = none) (ho : o.op = .load 73 (.tmp 14)) {g : Nat} {cur : Array Value} (hh : w.heap[g]? = some (.cells cur 73 (0, 0))) (hs : cur.size = 16)
    (hp : a.eval (.tmp 14) = .pointer (some ⟨g, 0, none⟩)) (h : wpList Try.prog ops Q rest (a.put o.dst (.agg cur)) w) : wpList Try.prog ops Q (o :: rest) a w := by
  refine Kd.event_run hgd ?_ h
  have hl := run_loadCells_list (P := Try.prog) w ⟨g, 0, none⟩ cur.toList (fun j v hj => by rw [addG]; simpa [World.cell?, hh] using hj)
  rw [Array.length_toList, hs, Array.toArray_toList] at hl
  have hz := Try.sizeOf73
  have ha := Try.isAgg73
  have e : (Instr.loadAt 73 (Value.pointer (some ⟨g, 0, none⟩))).run Try.prog w = .ok (.agg cur) w := by
    simp [Instr.loadAt, Instr.sureAddr, loadVar, ha, hz, hl]
  simp [execOp, ho, hp, e, Result.andThen]
theorem index_event {w : World} {ops : Array Oper} {rest : List Oper} {o : Oper} {a : Act} {Q : Exit → Act → World → Prop} (hgd : o.guard = none) (ho : o.op = .index 73 (.tmp 95) (.tmp 96)) {cur : Array Value} {i : Int} {v : Value} (hc : a.eval (.tmp 95) = .agg cur) (h0 : 0 ≤ i) (h1 : i < 16) (hx : cur[i.toNat]? = some v)
    (hi : a.eval (.tmp 96) = .int .i64 i) (h : wpList Try.prog ops Q rest (a.put o.dst v) w) : wpList Try.prog ops Q (o :: rest) a w := by
  refine Kd.event_run hgd ?_ h
  have hu := Try.underlying73
  have hz := Try.sizeOf27
  have hu' : ∀ w, (underlying 73).run Try.prog w = .ok (TypeDesc.array 16 27) w := run_underlying hu
  have ha := Try.isAgg27
  have e : (Instr.index 73 (Value.agg cur) (Value.int IntKind.i64 i)).run Try.prog w = .ok v w := by
    have h1' : i < (16 : Nat) := by omega
    simp [Instr.index, asIntOf, hu', hz, h0, h1, part, ha, hx]
  simp [execOp, ho, hc, hi, e, Result.andThen]
end Go.Proofs.Ytjioalgfpcdlhaa.ExtArr
