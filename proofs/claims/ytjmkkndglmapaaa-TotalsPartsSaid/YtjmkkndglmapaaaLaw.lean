/- Laws for a region that draws its order, whose operations leave the worlds of a class in it: one operation a law. No condition. -/
import Derived.Deep.Quiet
import Derived.StillTail
import Derived.OrdersHeld
import Derived.RegionTactic
import Derived.KernelRfl
import Derived.Deep.MidRow
import Derived.Below
import Derived.Tactics
import Derived.Tactics2
import Derived.WalkKit
namespace Go.Proofs.Ytjmkkndglmapaaa
open Go.RowKit
section
variable {P : Program} {ops : Array Oper} {C : World → Prop} {Q : Act → Prop} {a : Act} {o : Oper} {rest : List Oper}

theorem qs_run (v : Value) (hg : o.guard = none) (hrun : ∀ W, (execOp a.eval o).run P W = .ok (.value v) W) (h : wpQuiet P ops C Q rest (a.put o.dst v)) : wpQuiet P ops C Q (o :: rest) a :=
  wpQuiet_step fun K hK => by
    rw [if_pos (by simp [Region.wanted, hg])]
    exact ⟨v, fun W _ => by unfold Oper.quietAt; rw [hrun W]; exact ⟨rfl, rfl⟩, hK _ h⟩

theorem qs_move (x : Operand) (hg : o.guard = none) (ho : o.op = .move x) (v : Value) (hx : a.eval x = v) (h : wpQuiet P ops C Q rest (a.put o.dst v)) : wpQuiet P ops C Q (o :: rest) a :=
  qs_run v hg (fun W => by unfold execOp; rw [ho, ← hx]; rfl) h
theorem qs_assign (x : Operand) (hg : o.guard = none) (ho : o.op = .assign x) (v : Value) (hx : a.eval x = v) (h : wpQuiet P ops C Q rest (a.put o.dst v)) : wpQuiet P ops C Q (o :: rest) a :=
  qs_run v hg (fun W => by unfold execOp; rw [ho, ← hx]; rfl) h

theorem qs_load_mid (ty : TypeId) (x : Operand) (hg : o.guard = none) (ho : o.op = .load ty x) (b f : Nat) (hx : a.eval x = .pointer (some ⟨b, f, none⟩)) (cs : List Value) (d : TypeDesc) (hc : ∀ W, C W → W.rangeAt b f cs)
    (hu : P.underlying ty = some d) (hd : d.isRow = true) (hi : (P.info? ty).map (·.size) = some cs.length) (h : wpQuiet P ops C Q rest (a.put o.dst (.agg cs.toArray))) : wpQuiet P ops C Q (o :: rest) a :=
  wpQuiet_step fun K hK => by
    rw [if_pos (by simp [Region.wanted, hg])]
    refine ⟨_, fun W hW => ?_, hK _ h⟩
    unfold Oper.quietAt execOp
    simp only [ho, hx, Instr.loadAt, Instr.sureAddr, Sem.run_bind, Sem.run_pure, Result.andThen_ok, run_loadVar_mid W b f ty cs d (hc W hW) hu hd hi]
    exact ⟨rfl, rfl⟩

theorem run_loadVar_cell (w : World) (p : Addr) (ty : TypeId) (v : Value) (d : TypeDesc) (hc : w.cell? p = some v) (hu : P.underlying ty = some d) (hd : d.isRow = false) : (loadVar ty p).run P w = .ok v w := by
  have hagg : (isAgg ty).run P w = .ok false w := by
    unfold isAgg
    rw [Sem.run_bind, run_underlying hu w]
    cases d <;> simp_all
  unfold loadVar
  rw [Sem.run_bind, hagg]
  simp only [Result.andThen_ok, Bool.false_eq_true, if_false]
  show (Sem.load Mode.plain p Sem.pure).run P w = _
  simp only [Sem.run, hc]

theorem qs_load_cell (ty : TypeId) (x : Operand) (hg : o.guard = none) (ho : o.op = .load ty x) (p : Addr) (hx : a.eval x = .pointer (some p)) (v : Value) (d : TypeDesc) (hc : ∀ W, C W → W.cell? p = some v)
    (hu : P.underlying ty = some d) (hd : d.isRow = false) (h : wpQuiet P ops C Q rest (a.put o.dst v)) : wpQuiet P ops C Q (o :: rest) a :=
  wpQuiet_step fun K hK => by
    rw [if_pos (by simp [Region.wanted, hg])]
    refine ⟨_, fun W hW => ?_, hK _ h⟩
    unfold Oper.quietAt execOp
    simp only [ho, hx, Instr.loadAt, Instr.sureAddr, Sem.run_bind, Sem.run_pure, Result.andThen_ok, run_loadVar_cell W p ty v d (hc W hW) hu hd]
    exact ⟨rfl, rfl⟩

theorem qs_call (f : FuncId) (args : Array Value) (v : Value) (hg : o.guard = none) (hrun : ∀ W, (execOp a.eval o).run P W = .ok (.enter f args) W) (hc : ∀ W, C W → Calls P f args W fun e W' => e = .returned v ∧ C W')
    (h : wpQuiet P ops C Q rest (a.put o.dst v)) : wpQuiet P ops C Q (o :: rest) a :=
  wpQuiet_step fun K hK => by
    rw [if_pos (by simp [Region.wanted, hg])]
    exact ⟨v, fun W hW => by unfold Oper.quietAt; rw [hrun W]; exact ⟨rfl, hc W hW⟩, hK _ h⟩

/-- The class: what lay there lies there. -/
theorem wp_region_below {id : Nat} {Q : Exit → Act → World → Prop} {a : Act} {w : World} {l : List Oper} (hm : P.follows .mixedOrders = true) (hB : Region.lexB .any l.toArray = true)
    (h : wpQuiet P l.toArray (fun W => Below w.heap.size w W) (fun a' => ∀ W, Below w.heap.size w W → Q .normal a' W) l a) : (Code.region id l.toArray true).wp P Q a w :=
  wp_region_quiet (C := fun W => Below w.heap.size w W) hm hB ((Below.refl _ w).drew) (by simpa using h)

/-- A callee that keeps what lies there, met in a world of the class. -/
theorem in_class {w : World} {f : FuncId} {args : Array Value} {v : Value} (h : ∀ W, Below w.heap.size w W → Calls P f args W fun e W' => e = .returned v ∧ Below W.heap.size W W') :
    ∀ W, Below w.heap.size w W → Calls P f args W fun e W' => e = .returned v ∧ Below w.heap.size w W' :=
  fun W hW => (h W hW).mono fun _ _ ⟨he, hb⟩ => ⟨he, hW.trans (hb.mono hW.size)⟩
end

section
variable {P : Program} {ops : Array Oper} {w : World} {Q : Act → Prop} {a : Act} {o : Oper} {rest : List Oper}
/-- The same for a region whose first operations leave the very world alone. -/
theorem ss_run (v : Value) (hg : o.guard = none) (hrun : (execOp a.eval o).run P w = .ok (.value v) w) (h : wpStill P ops w Q rest (a.put o.dst v)) : wpStill P ops w Q (o :: rest) a :=
  wpStill_step fun K hK => by
    rw [if_pos (by simp [Region.wanted, hg])]
    unfold Oper.still
    rw [hrun]
    exact ⟨rfl, hK _ h⟩
theorem ss_load_cell (ty : TypeId) (x : Operand) (hg : o.guard = none) (ho : o.op = .load ty x) (p : Addr) (hx : a.eval x = .pointer (some p)) (v : Value) (d : TypeDesc) (hc : w.cell? p = some v)
    (hu : P.underlying ty = some d) (hd : d.isRow = false) (h : wpStill P ops w Q rest (a.put o.dst v)) : wpStill P ops w Q (o :: rest) a :=
  ss_run v hg (by
    unfold execOp
    simp only [ho, hx, Instr.loadAt, Instr.sureAddr, Sem.run_bind, Sem.run_pure, Result.andThen_ok, run_loadVar_cell w p ty v d hc hu hd]) h
theorem ss_load_mid (ty : TypeId) (x : Operand) (hg : o.guard = none) (ho : o.op = .load ty x) (b f : Nat) (hx : a.eval x = .pointer (some ⟨b, f, none⟩)) (cs : List Value) (d : TypeDesc) (hc : w.rangeAt b f cs)
    (hu : P.underlying ty = some d) (hd : d.isRow = true) (hi : (P.info? ty).map (·.size) = some cs.length) (h : wpStill P ops w Q rest (a.put o.dst (.agg cs.toArray))) : wpStill P ops w Q (o :: rest) a :=
  ss_run _ hg (by
    unfold execOp
    simp only [ho, hx, Instr.loadAt, Instr.sureAddr, Sem.run_bind, Sem.run_pure, Result.andThen_ok, run_loadVar_mid w b f ty cs d hc hu hd hi]) h
theorem ss_call (f : FuncId) (args : Array Value) (v : Value) (hg : o.guard = none) (hrun : (execOp a.eval o).run P w = .ok (.enter f args) w) (hc : Calls P f args w fun e W' => e = .returned v ∧ w = W')
    (h : wpStill P ops w Q rest (a.put o.dst v)) : wpStill P ops w Q (o :: rest) a :=
  wpStill_step fun K hK => by
    rw [if_pos (by simp [Region.wanted, hg])]
    unfold Oper.still
    rw [hrun]
    exact ⟨rfl, v, hc.mono fun _ _ ⟨h1, h2⟩ => ⟨h1, h2.symm⟩, hK _ h⟩
end

/-- The first n operations leave the very world alone; the rest stands in order. -/
theorem wp_region_tail {P : Program} {id : Nat} {Q : Exit → Act → World → Prop} {a : Act} {w : World} {l : List Oper} (n : Nat) (hm : P.follows .mixedOrders = true) (hB : Region.lexTailB .any l.toArray n = true)
    (h : ∀ W, W = w.drew → wpStill P l.toArray W (fun a' => wpList P l.toArray Q (l.drop n) a' W) (l.take n) a) : (Code.region id l.toArray true).wp P Q a w :=
  wp_region_still_tail n hm hB (h _ rfl)

/-! A region in whatever order, one step at a time: S is what every world on the way meets. -/
section
variable {P : Program} {ops : Array Oper} {Q : Exit → Act → World → Prop} {md : Region.Mode} {S : World → Prop} {fuel : Nat} {listed : Array Bool} {a : Act} {w : World}

theorem hw_begin {id : Nat} (S : World → Prop) (hm : P.follows .mixedOrders = true) (h : ∀ W, W = w.drew → wpAnyH P .any ops Q S ops.size (Array.replicate ops.size false) a W) : (Code.region id ops true).wp P Q a w :=
  wp_region_held (S := S) hm (h _ rfl)

/-- It yields its value in whatever world meets S: it may be taken now. -/
theorem hw_take (i : Nat) (d : Option Tmp) (o : Oper) (hd : o.dst = d) (hi : ops[i]? = some o) (hs : Region.noSelect ops = true) (hf : Region.free md ops listed i = true) (hr : (Region.ready md ops listed).contains i = true)
    (hQ : ∀ c a w v, Q (.panic c) (a.put d v) w → Q (.panic c) a w) (v : Value) (hg : o.guard = none) (hrun : ∀ W, S W → (execOp a.eval o).run P W = .ok (.value v) W) (hS : S w)
    (h : wpAnyH P md ops Q S fuel (listed.setIfInBounds i true) (a.put d v) w) : wpAnyH P md ops Q S (fuel + 1) listed a w := by
  subst hd
  exact wpAnyH_take hi hs hf hr (fun c a w => hQ c a w v) (.inl ⟨by simp [Region.wanted, hg], hrun⟩) hS h

/-- It is the only one that may come up. -/
theorem hw_only (i : Nat) (o : Oper) (hr : Region.ready md ops listed = [i]) (hi : ops[i]? = some o) (hg : o.guard = none)
    (h : ∀ K' : Act → World → Prop, (∀ a' w', S w' → wpAnyH P md ops Q S fuel (listed.setIfInBounds i true) a' w' → K' a' w') → o.wp P a w K' Q) : wpAnyH P md ops Q S (fuel + 1) listed a w :=
  wpAnyH_all hr (by simp) fun j hj => by
    obtain rfl : j = i := by simpa using hj
    exact wpOp_step hi fun K' hK => by
      rw [if_pos (by simp [Region.wanted, hg])]
      exact h K' fun a' w' h1 h2 => hK a' w' ⟨h1, h2⟩
theorem hw_value (i : Nat) (d : Option Tmp) (o : Oper) (hd : o.dst = d) (hr : Region.ready md ops listed = [i]) (hi : ops[i]? = some o) (hg : o.guard = none) (v : Value) (w1 : World) (hrun : (execOp a.eval o).run P w = .ok (.value v) w1) (hS : S w1)
    (h : wpAnyH P md ops Q S fuel (listed.setIfInBounds i true) (a.put d v) w1) : wpAnyH P md ops Q S (fuel + 1) listed a w := by
  subst hd
  exact hw_only i o hr hi hg fun K' hK => by
    unfold Oper.wp
    rw [hrun]
    exact hK _ _ hS h
theorem hw_skip (i : Nat) (o : Oper) (hd : o.dst = none) (hr : Region.ready md ops listed = [i]) (hi : ops[i]? = some o) (hg : o.guard = none) (w1 : World) (hrun : (execOp a.eval o).run P w = .ok .skip w1) (hS : S w1)
    (h : wpAnyH P md ops Q S fuel (listed.setIfInBounds i true) (a) w1) : wpAnyH P md ops Q S (fuel + 1) listed a w := by
  have e : a = a.put o.dst undef := by rw [hd]; rfl
  rw [e] at h
  exact hw_only i o hr hi hg fun K' hK => by
    unfold Oper.wp
    rw [hrun]
    exact hK _ _ hS h
theorem hw_call (i : Nat) (d : Option Tmp) (o : Oper) (hd : o.dst = d) (hr : Region.ready md ops listed = [i]) (hi : ops[i]? = some o) (hg : o.guard = none) (f : FuncId) (args : Array Value) (R : Value → World → Prop) (hrun : (execOp a.eval o).run P w = .ok (.enter f args) w)
    (hc : Calls P f args w fun e w' => ∃ v, e = .returned v ∧ R v w') (h : ∀ v w', R v w' → S w' ∧ wpAnyH P md ops Q S fuel (listed.setIfInBounds i true) (a.put d v) w') : wpAnyH P md ops Q S (fuel + 1) listed a w := by
  subst hd
  exact hw_only i o hr hi hg fun K' hK => by
    unfold Oper.wp
    rw [hrun, Oper.upon_enter]
    refine hc.mono fun e w' ⟨v, he, hR⟩ => ?_
    subst he
    obtain ⟨h1, h2⟩ := h v w' hR
    exact hK _ _ h1 h2
theorem hw_done (hr : Region.ready md ops listed = []) (h : Q .normal a w) : wpAnyH P md ops Q S fuel listed a w := wpAnyH_done hr h fuel
end
end Go.Proofs.Ytjmkkndglmapaaa
