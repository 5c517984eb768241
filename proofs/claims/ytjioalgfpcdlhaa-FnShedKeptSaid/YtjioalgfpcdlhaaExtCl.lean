/- The closure by which impl.Shed's indices are ordered, told by what its calls give; a call of a function value that captured one pointer. By an AI agent. -/
import Derived.Test.YtjioalgfpcdlhaaProg
import Derived.Test.YtjioalgfpcdlhaaWKept
import Derived.Test.YtjioalgfpcdlhaaWWords
import Derived.Test.YtjioalgfpcdlhaaWLast
import Derived.Test.YtjioalgfpcdlhaaWMore
namespace Go.Proofs.Ytjioalgfpcdlhaa.ExtCl
open Go Go.RowKit Go.Proofs.YtjioalgfpcdlhaaW.PrintWords Go.Proofs.YtjioalgfpcdlhaaW.PrintLast
set_option linter.unusedVariables false
/-- What the closure answers (none: it would panic). -/
structure Clos where
  cls : Int → Int → Option Int
abbrev at_ (f : Int → Int → Option Int) : Inhabited Clos := ⟨⟨f⟩⟩
def cls [C : Inhabited Clos] (x y : Int) : Option Int := C.default.cls x y
/-- The closure answers so in every later world in which what it captured (block g) lies as it lay (o). -/
structure ClOk [C : Inhabited Clos] (w0 : World) (g : Nat) (o : Obj) : Prop where
  go : ∀ (W : World) (x y r : Int), W.heap[g]? = some o → Below w0.heap.size w0 W → cls x y = some r →
    Calls Try.prog 63 #[.int .i64 x, .int .i64 y, .pointer (some ⟨g, 0, none⟩)] W fun e W' => e = .returned (.int .i64 r) ∧ Drawn0 W W'
theorem box_cell {w W : World} {g : Nat} {v : Value} {t : TypeId} (h : w.heap[g]? = some (.cells #[v] t (0, 0))) (hb : Below w.heap.size w W) : W.cell? ⟨g, 0, none⟩ = some v := by
  have := blk_cell (blk_below h hb) 0
  simpa using this
theorem ng {P : Nat → Prop} {n k0 : Nat} {v : Value} (h : ∀ k, v.ownBlock = some k → P k ∨ n ≤ k) (hn : ¬ P k0) (hl : k0 < n) : ¬ some k0 = v.ownBlock := by
  intro e
  rcases h k0 e.symm with h | h
  · exact hn h
  · omega
variable {P : Program} {ops : Array Oper} {Q : Exit → Act → World → Prop}
theorem goesC_ {oi : Oper} {N : Option Tmp} {a : Act} {w : World} {K : Act → World → Prop} {f : FuncId} {fn : Func} {as_ : Array Operand} {ts : Array TypeId} (c : Operand) (lb : Array Value) (hc : a.eval c = .func (.func f) #[] lb)
    (hf : P.funcs[f]? = some fn) (hname : (fn.name == "runtime.NumGoroutine") = false) (hb : fn.body.isSome = true) (args : Array Value)
    (hw : Region.wanted oi (yielded ops a.tmps) = true) (hN : oi.dst = N) (hop : oi.op = .call { callee := .value c, args := as_, argTypes := ts }) (hargs : as_.map a.eval ++ lb = args)
    (h : Calls P f args w fun e w' => ∃ v, e = .returned v ∧ K (a.put N v) w') : if Region.wanted oi (yielded ops a.tmps) = true then Oper.wp P oi a w K Q else K (a.put N undef) w := by
  refine call_ f args hw hN ?_ h
  have he := enters_ hf hname hb args w
  unfold execOp
  simp [hop, resolve, Deferred.ofValue, invoke, hc, hargs, he]
end Go.Proofs.Ytjioalgfpcdlhaa.ExtCl
