/- More steps of regions; results of two kinds; a map made. -/
import Derived.Test.YtjmkkndglmapaaaData
set_option linter.unusedSimpArgs false
set_option linter.unusedVariables false
namespace Go.Proofs.Ytjmkkndglmapaaa
open Go.RowKit Go.Shelf Go.Lib Go.Sort

section
variable {P : Program} {ops : Array Oper} {Q : Exit → Act → World → Prop} {md : Region.Mode} {S : World → Prop} {fuel : Nat} {listed : Array Bool} {a : Act} {w : World}
/-- Two may come up. -/
theorem hw_two (i j : Nat) (oi oj : Oper) (hr : Region.ready md ops listed = [i, j]) (hi : ops[i]? = some oi) (hj : ops[j]? = some oj) (hgi : oi.guard = none) (hgj : oj.guard = none)
    (h1 : ∀ K' : Act → World → Prop, (∀ a' w', S w' → wpAnyH P md ops Q S fuel (listed.setIfInBounds i true) a' w' → K' a' w') → oi.wp P a w K' Q)
    (h2 : ∀ K' : Act → World → Prop, (∀ a' w', S w' → wpAnyH P md ops Q S fuel (listed.setIfInBounds j true) a' w' → K' a' w') → oj.wp P a w K' Q) : wpAnyH P md ops Q S (fuel + 1) listed a w :=
  wpAnyH_all hr (by simp) fun k hk => by
    simp only [List.mem_cons, List.not_mem_nil, or_false] at hk
    rcases hk with rfl | rfl
    · exact wpOp_step hi fun K' hK => by
        rw [if_pos (by simp [Region.wanted, hgi])]
        exact h1 K' fun a' w' g1 g2 => hK a' w' ⟨g1, g2⟩
    · exact wpOp_step hj fun K' hK => by
        rw [if_pos (by simp [Region.wanted, hgj])]
        exact h2 K' fun a' w' g1 g2 => hK a' w' ⟨g1, g2⟩
theorem op_value {o : Oper} {K : Act → World → Prop} (d : Option Tmp) (hd : o.dst = d) (v : Value) (w1 : World) (hrun : (execOp a.eval o).run P w = .ok (.value v) w1) (h : K (a.put d v) w1) : o.wp P a w K Q := by
  subst hd
  unfold Oper.wp
  rw [hrun]
  exact h
theorem op_call {o : Oper} {K : Act → World → Prop} (d : Option Tmp) (hd : o.dst = d) (f : FuncId) (args : Array Value) (R : Value → World → Prop) (hrun : (execOp a.eval o).run P w = .ok (.enter f args) w)
    (hc : Calls P f args w fun e w' => ∃ v, e = .returned v ∧ R v w') (h : ∀ v w', R v w' → K (a.put d v) w') : o.wp P a w K Q := by
  subst hd
  unfold Oper.wp
  rw [hrun, Oper.upon_enter]
  refine hc.mono fun e w' ⟨v, he, hR⟩ => ?_
  subst he
  exact h v w' hR
theorem hw_store_box (i : Nat) (o : Oper) (hd : o.dst = none) (hr : Region.ready md ops listed = [i]) (hi : ops[i]? = some o) (hg : o.guard = none) (ty : TypeId) (x y : Operand) (ho : o.op = .store ty x y) (b f : Nat) (vs : List Value) (hx : a.eval x = .pointer (some ⟨b, f, none⟩)) (hy : a.eval y = .agg vs.toArray)
    (cs : List Value) (t : TypeId) (hB : Box w b cs t) (hfit : f + vs.length ≤ cs.length) (hs : (P.info? ty).map (·.size) = some vs.length) (h1 : ∀ v ∈ vs, v.oneCell' = true)
    (h : ∀ W, Box W b (laid cs f vs) t → Only b w W → S W ∧ wpAnyH P md ops Q S fuel (listed.setIfInBounds i true) a W) : wpAnyH P md ops Q S (fuel + 1) listed a w :=
  hw_only i o hr hi hg fun K' hK' => by
    obtain ⟨g1, g2⟩ := h _ (hB.setCells vs f w cs hfit) (only_setCells b vs f w)
    have h2 := hK' _ _ g1 g2
    have hth := hB.there f _ hfit
    have hrun : (storeVar ty ⟨b, f, none⟩ (.agg vs.toArray)).run P w = .ok () (w.setCells b f vs) := by
      have := run_storeCells_cells (P := P) b f vs 0 w (fun j hj => by simpa using (hth j (by simpa using hj)).1) (fun j hj => by simpa using (hth j (by simpa using hj)).2) h1
      cases hq : P.info? ty with
      | none => simp [hq] at hs
      | some i =>
        have hs' : i.size = vs.length := by simpa [hq] using hs
        simp only [Nat.add_zero] at this
        simp [storeVar, sizeOf, typeInfo, hq, Value.cells, hs', this]
    unfold Oper.wp execOp
    simp only [ho, hx, hy, Instr.storeAt, Instr.sureAddr, Sem.run_bind, Sem.run_pure, Result.andThen_ok, hrun]
    have e : a.put o.dst undef = a := by rw [hd]; rfl
    show K' (a.put o.dst undef) _
    rw [e]
    exact h2
end

section
variable {P : Program} {ops : Array Oper} {rest : List Oper} {o : Oper} {a : Act} {w : World} {Q : Exit → Act → World → Prop}
theorem wpList_makeMap (hgd : o.guard = none) (t : TypeId) (ho : o.op = .makeMap t none) (h : ∀ W, BookAt W w.heap.size [] 0 → Below w.heap.size w W → w.heap.size < W.heap.size → wpList P ops Q rest (a.put o.dst (.map (some w.heap.size))) W) : wpList P ops Q (o :: rest) a w :=
  wpList_value hgd (.map (some w.heap.size)) (w.alloc (.map #[] 0)) (by unfold execOp; simp only [ho]; rfl) (h _ (BookAt.made w) ((Below.refl _ w).alloc (Nat.le_refl _) _) (by rw [size_alloc]; omega))
end

theorem results_cell_tmp {P : Program} {fn : Func} {p t : Tmp} {ty : TypeId} (h : fn.results = #[.cell p ty, .tmp t]) (tmps : Array Value) (w : World) (g : Nat) (cs : List Value) (d : TypeDesc) (hp : tmps.getD p undef = .pointer (some ⟨g, 0, none⟩)) (hc : w.rangeAt g 0 cs)
    (hu : P.underlying ty = some d) (hd : d.isRow = true) (hi : (P.info? ty).map (·.size) = some cs.length) : (results fn tmps).run P w = .ok (.tuple #[.agg cs.toArray, tmps.getD t undef]) w := by
  unfold results
  rw [h]
  simp only [List.mapM_toArray, List.mapM_cons, List.mapM_nil, hp, asAddr, Sem.run_bind, Sem.run_pure, Result.andThen_ok, run_loadVar_mid w g 0 ty cs d hc hu hd hi, Array.mapM_eq_mapM_toList]
  simp [Sem.run_bind, Sem.run_pure, Result.andThen_ok, run_loadVar_mid w g 0 ty cs d hc hu hd hi]
end Go.Proofs.Ytjmkkndglmapaaa
