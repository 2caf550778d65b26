/- A region in whatever order, one step at a time: S is what every world on the way meets but for the one behind the last operation. -/
import Derived.Test.YtjmkkndglmapaaaStep
set_option linter.unusedSimpArgs false
set_option linter.unusedVariables false
namespace Go.Proofs.Ytjmkkndglmapaaa
open Go.RowKit

section
variable {P : Program} {z : Nat} {ops : Array Oper} {Q : Exit → Act → World → Prop} {md : Region.Mode} {S : World → Prop}

def wpAnyU (P : Program) (z : Nat) (md : Region.Mode) (ops : Array Oper) (Q : Exit → Act → World → Prop) (S : World → Prop) : Nat → Array Bool → Act → World → Prop
  | 0, listed, a, w => Region.ready md ops listed = [] ∧ Q .normal a w
  | n + 1, listed, a, w => (Region.ready md ops listed = [] → Q .normal a w) ∧
    ∀ i ∈ Region.ready md ops listed, wpOp P ops Q i (fun a' w' => (i ≠ z → S w') ∧ wpAnyU P z md ops Q S n (listed.setIfInBounds i true) a' w') a w

theorem any_of_U : ∀ (n : Nat) (listed : Array Bool) (a : Act) (w : World), wpAnyU P z md ops Q S n listed a w → wpAny P md ops Q n listed a w
  | 0, _, _, _, h => h
  | n + 1, _, _, _, h => ⟨h.1, fun i hi => wpOp_mono (fun a' w' h' => any_of_U n _ a' w' h'.2) (h.2 i hi)⟩

/-- Operation z waits for operation i. -/
def Region.waits (md : Region.Mode) (ops : Array Oper) (z i : Nat) : Bool := match ops[z]? with | some o => o.after.any fun e => Region.binds md e && e.on == i | none => false

theorem U_first {i : Nat} {oi : Oper} {v : Value} (hi : ops[i]? = some oi) (hsel : ∀ (j : Nat) (o : Oper) cs b, ops[j]? = some o → o.op ≠ .select cs b) (hQ : ∀ c a w, Q (.panic c) (a.put oi.dst v) w → Q (.panic c) a w) (hz : Region.waits md ops z i = true) (n : Nat) :
    ∀ (listed : Array Bool) (a : Act) (w : World),
      (∀ j oj, ops[j]? = some oj → j ≠ i → listed.getD j true = false → (∀ e ∈ oj.after, Region.binds md e = true → e.on ≠ i) → oi.apart ops oj = true) →
      i ∈ Region.ready md ops listed → YieldsIf P ops S oi v a → S w →
      wpAnyU P z md ops Q S n (listed.setIfInBounds i true) (a.put oi.dst v) w → wpAnyU P z md ops Q S (n + 1) listed a w := by
  induction n with
  | zero =>
    intro listed a w _ hr hy hS H
    refine ⟨fun h => (by rw [h] at hr; cases hr), fun j hj => ?_⟩
    by_cases hji : j = i
    · subst hji
      exact hy.wpOp hi hS ⟨fun _ => hS, H⟩
    · have := ready_mono hj hji
      rw [H.1] at this
      cases this
  | succ n ih =>
    intro listed a w hfree hr hy hS H
    refine ⟨fun h => (by rw [h] at hr; cases hr), fun j hj => ?_⟩
    by_cases hji : j = i
    · subst hji
      exact hy.wpOp hi hS ⟨fun _ => hS, H⟩
    · obtain ⟨hjun, oj, hoj, hall⟩ := mem_ready.1 hj
      have hnot : ∀ e ∈ oj.after, Region.binds md e = true → e.on ≠ i := fun e he hb heq => by
        have h1 := hall e he hb
        have h0 := (mem_ready.1 hr).1
        rw [heq] at h1
        rcases Nat.lt_or_ge i listed.size with hq | hq
        · simp [hq] at h0 h1
          rw [h0] at h1
          cases h1
        · simp [Array.getElem?_eq_none hq] at h1
      have hjz : j ≠ z := fun e => by
        subst e
        unfold Region.waits at hz
        rw [hoj] at hz
        simp only [Array.any_eq_true, Bool.and_eq_true, beq_iff_eq] at hz
        obtain ⟨k, hk, h1, h2⟩ := hz
        exact hnot _ (Array.getElem_mem hk) h1 h2
      have h2 := wpOp_putIf hoj (hfree j oj hoj hji hjun hnot) (fun cs b => hsel i oi cs b hi) (fun cs b => hsel j oj cs b hoj) hQ hy (H.2 j (ready_mono hj hji))
      have hri := ready_mono hr (Ne.symm hji)
      refine wpOp_mono (fun a' w' h3 => ?_) h2
      have hS' : S w' := h3.2.1 hjz
      exact ⟨fun _ => hS', ih (listed.setIfInBounds j true) a' w' (fun k ok hk hki hun hno => by
        refine hfree k ok hk hki ?_ hno
        by_cases hjk : j = k
        · subst hjk; exact hjun
        · rw [getD_set_ne true hjk] at hun; exact hun) hri h3.1 hS' (by rw [Array.setIfInBounds_comm _ _ hji]; exact h3.2.2)⟩

/-- The beginning; the steps. -/
theorem hu_begin {id : Nat} {a : Act} {w : World} (z : Nat) (S : World → Prop) (hm : P.follows .mixedOrders = true) (h : ∀ W, W = w.drew → wpAnyU P z .any ops Q S ops.size (Array.replicate ops.size false) a W) : (Code.region id ops true).wp P Q a w :=
  wp_region_any hm (any_of_U _ _ _ _ (h _ rfl))
variable {n : Nat} {listed : Array Bool} {a : Act} {w : World}
theorem hu_take (i : Nat) (d : Option Tmp) (o : Oper) (hd : o.dst = d) (hi : ops[i]? = some o) (hs : Region.noSelect ops = true) (hf : Region.free md ops listed i = true) (hr : (Region.ready md ops listed).contains i = true) (hz : Region.waits md ops z i = true)
    (hQ : ∀ c a w v, Q (.panic c) (a.put d v) w → Q (.panic c) a w) (v : Value) (hg : o.guard = none) (hrun : ∀ W, S W → (execOp a.eval o).run P W = .ok (.value v) W) (hS : S w)
    (h : wpAnyU P z md ops Q S n (listed.setIfInBounds i true) (a.put d v) w) : wpAnyU P z md ops Q S (n + 1) listed a w := by
  subst hd
  exact U_first hi (Region.noSelect_spec hs) (fun c a w => hQ c a w v) hz n listed a w (Region.free_spec hi hf) (by simpa using hr) (.inl ⟨by simp [Region.wanted, hg], hrun⟩) hS h
theorem hu_only (i : Nat) (o : Oper) (hr : Region.ready md ops listed = [i]) (hi : ops[i]? = some o) (hg : o.guard = none)
    (h : ∀ K' : Act → World → Prop, (∀ a' w', (i ≠ z → S w') → wpAnyU P z md ops Q S n (listed.setIfInBounds i true) a' w' → K' a' w') → o.wp P a w K' Q) : wpAnyU P z md ops Q S (n + 1) listed a w := by
  refine ⟨fun h0 => ?_, fun j hj => ?_⟩
  · rw [hr] at h0
    cases h0
  · rw [hr] at hj
    obtain rfl : j = i := by simpa using hj
    refine wpOp_step hi fun K' hK => ?_
    rw [if_pos (by simp [Region.wanted, hg])]
    exact h K' fun a' w' h1 h2 => hK a' w' ⟨h1, h2⟩
theorem hu_value (i : Nat) (d : Option Tmp) (o : Oper) (hd : o.dst = d) (hr : Region.ready md ops listed = [i]) (hi : ops[i]? = some o) (hg : o.guard = none) (v : Value) (w1 : World) (hrun : (execOp a.eval o).run P w = .ok (.value v) w1) (hS : S w1)
    (h : wpAnyU P z md ops Q S n (listed.setIfInBounds i true) (a.put d v) w1) : wpAnyU P z md ops Q S (n + 1) listed a w :=
  hu_only i o hr hi hg fun K' hK => op_value d hd v w1 hrun (hK _ _ (fun _ => hS) h)
theorem hu_call (i : Nat) (d : Option Tmp) (o : Oper) (hd : o.dst = d) (hr : Region.ready md ops listed = [i]) (hi : ops[i]? = some o) (hg : o.guard = none) (f : FuncId) (args : Array Value) (R : Value → World → Prop) (hrun : (execOp a.eval o).run P w = .ok (.enter f args) w)
    (hc : Calls P f args w fun e w' => ∃ v, e = .returned v ∧ R v w') (h : ∀ v w', R v w' → (i ≠ z → S w') ∧ wpAnyU P z md ops Q S n (listed.setIfInBounds i true) (a.put d v) w') : wpAnyU P z md ops Q S (n + 1) listed a w :=
  hu_only i o hr hi hg fun K' hK => op_call d hd f args R hrun hc fun v w' hR => hK _ _ (h v w' hR).1 (h v w' hR).2
theorem hu_done (hr : Region.ready md ops listed = []) (h : Q .normal a w) : wpAnyU P z md ops Q S n listed a w := by
  cases n with
  | zero => exact ⟨hr, h⟩
  | succ n => exact ⟨fun _ => h, by rw [hr]; simp⟩
theorem hu_store_box (i : Nat) (o : Oper) (hd : o.dst = none) (hr : Region.ready md ops listed = [i]) (hi : ops[i]? = some o) (hg : o.guard = none) (ty : TypeId) (x y : Operand) (ho : o.op = .store ty x y) (b f : Nat) (vs : List Value) (hx : a.eval x = .pointer (some ⟨b, f, none⟩)) (hy : a.eval y = .agg vs.toArray)
    (cs : List Value) (t : TypeId) (hB : Box w b cs t) (hfit : f + vs.length ≤ cs.length) (hs : (P.info? ty).map (·.size) = some vs.length) (h1 : ∀ v ∈ vs, v.oneCell' = true)
    (h : ∀ W, Box W b (laid cs f vs) t → Only b w W → (i ≠ z → S W) ∧ wpAnyU P z md ops Q S n (listed.setIfInBounds i true) a W) : wpAnyU P z md ops Q S (n + 1) listed a w :=
  hu_only i o hr hi hg fun K' hK' => by
    obtain ⟨g1, g2⟩ := h _ (hB.setCells vs f w cs hfit) (only_setCells b vs f w)
    have h2 := hK' _ _ g1 g2
    have hth := hB.there f _ hfit
    have hrun : (storeVar ty ⟨b, f, none⟩ (.agg vs.toArray)).run P w = .ok () (w.setCells b f vs) := by
      have := run_storeCells_cells (P := P) b f vs 0 w (fun j hj => by simpa using (hth j (by simpa using hj)).1) (fun j hj => by simpa using (hth j (by simpa using hj)).2) h1
      cases hq : P.info? ty with
      | none => simp [hq] at hs
      | some i =>
        have hs' : i.size = vs.length := by simpa [hq] using hs
        simp only [Nat.add_zero] at this
        simp [storeVar, sizeOf, typeInfo, hq, Value.cells, hs', this]
    unfold Oper.wp execOp
    simp only [ho, hx, hy, Instr.storeAt, Instr.sureAddr, Sem.run_bind, Sem.run_pure, Result.andThen_ok, hrun]
    have e : a.put o.dst undef = a := by rw [hd]; rfl
    show K' (a.put o.dst undef) _
    rw [e]
    exact h2
end
end Go.Proofs.Ytjmkkndglmapaaa
