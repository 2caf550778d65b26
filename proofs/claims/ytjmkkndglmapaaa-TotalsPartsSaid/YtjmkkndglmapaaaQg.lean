/- Steps of a quiet region whose operations have guards; '==' and '!=' told by one word. -/
import Derived.Test.YtjmkkndglmapaaaAwk
set_option linter.unusedSimpArgs false
set_option linter.unusedVariables false
namespace Go.Proofs.Ytjmkkndglmapaaa
open Go.RowKit Go.Shelf Go.Lib Go.Sort Go.WideShapes Go.ChangeShapes

section
variable {P : Program} {ops : Array Oper} {C : World → Prop} {Q : Act → Prop} {a : Act} {o : Oper} {rest : List Oper}
theorem qg_run (v : Value) (hw : Region.wanted o (yielded ops a.tmps) = true) (hrun : ∀ W, C W → (execOp a.eval o).run P W = .ok (.value v) W) (h : wpQuiet P ops C Q rest (a.put o.dst v)) : wpQuiet P ops C Q (o :: rest) a :=
  wpQuiet_step fun K hK => by
    rw [if_pos hw]
    exact ⟨v, fun W hW => by unfold Oper.quietAt; rw [hrun W hW]; exact ⟨rfl, rfl⟩, hK _ h⟩
theorem qg_off (hw : Region.wanted o (yielded ops a.tmps) = false) (h : wpQuiet P ops C Q rest (a.put o.dst undef)) : wpQuiet P ops C Q (o :: rest) a :=
  wpQuiet_step fun K hK => by
    rw [if_neg (by rw [hw]; simp)]
    exact hK _ h
theorem qg_call (f : FuncId) (args : Array Value) (v : Value) (hw : Region.wanted o (yielded ops a.tmps) = true) (hrun : ∀ W, (execOp a.eval o).run P W = .ok (.enter f args) W) (hc : ∀ W, C W → Calls P f args W fun e W' => e = .returned v ∧ C W')
    (h : wpQuiet P ops C Q rest (a.put o.dst v)) : wpQuiet P ops C Q (o :: rest) a :=
  wpQuiet_step fun K hK => by
    rw [if_pos hw]
    exact ⟨v, fun W hW => by unfold Oper.quietAt; rw [hrun W]; exact ⟨rfl, hc W hW⟩, hK _ h⟩
end
open Classical in
theorem run_neq_op {P : Program} {o : Oper} {a : Act} {t t' : TypeId} {x y : Operand} {xs ys : List Value} (w : World) (ho : o.op = .binOp .neq t x y t') (hx : a.eval x = .agg xs.toArray) (hy : a.eval y = .agg ys.toArray) (h : KT P t) (fx : Fine P t xs) (fy : Fine P t ys) :
    (execOp a.eval o).run P w = .ok (.value (.bool (!decide (xs = ys)))) w := by
  unfold execOp
  simp only [ho, hx, hy]
  rw [Sem.run_bind, run_neq_fine h fx fy]
  rfl
noncomputable def same (xs ys : List Value) : Bool := by classical exact decide (xs = ys)
theorem same_iff (xs ys : List Value) : same xs ys = true ↔ xs = ys := by unfold same; simp
theorem run_eql_same {P : Program} {o : Oper} {a : Act} {t t' : TypeId} {x y : Operand} {xs ys : List Value} (w : World) (ho : o.op = .binOp .eql t x y t') (hx : a.eval x = .agg xs.toArray) (hy : a.eval y = .agg ys.toArray) (h : KT P t) (fx : Fine P t xs) (fy : Fine P t ys) :
    (execOp a.eval o).run P w = .ok (.value (.bool (same xs ys))) w := by
  rw [run_eql_op w ho hx hy h fx fy]
  congr 3
theorem run_neq_same {P : Program} {o : Oper} {a : Act} {t t' : TypeId} {x y : Operand} {xs ys : List Value} (w : World) (ho : o.op = .binOp .neq t x y t') (hx : a.eval x = .agg xs.toArray) (hy : a.eval y = .agg ys.toArray) (h : KT P t) (fx : Fine P t xs) (fy : Fine P t ys) :
    (execOp a.eval o).run P w = .ok (.value (.bool (!same xs ys))) w := by
  rw [run_neq_op w ho hx hy h fx fy]
  congr 3
end Go.Proofs.Ytjmkkndglmapaaa
