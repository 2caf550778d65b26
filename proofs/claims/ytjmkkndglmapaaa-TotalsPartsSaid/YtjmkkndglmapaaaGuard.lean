/- Steps of a region whose operations have guards. -/
import Derived.Test.YtjmkkndglmapaaaStep
set_option linter.unusedSimpArgs false
set_option linter.unusedVariables false
namespace Go.Proofs.Ytjmkkndglmapaaa
open Go.RowKit

section
variable {P : Program} {ops : Array Oper} {Q : Exit → Act → World → Prop} {md : Region.Mode} {S : World → Prop} {fuel : Nat} {listed : Array Bool} {a : Act} {w : World}
/-- A wanted one that yields its value in whatever world meets S. -/
theorem hg_take (i : Nat) (d : Option Tmp) (o : Oper) (hd : o.dst = d) (hi : ops[i]? = some o) (hs : Region.noSelect ops = true) (hf : Region.free md ops listed i = true) (hr : (Region.ready md ops listed).contains i = true)
    (hQ : ∀ c a w v, Q (.panic c) (a.put d v) w → Q (.panic c) a w) (v : Value) (hw : Region.wanted o (yielded ops a.tmps) = true) (hrun : ∀ W, S W → (execOp a.eval o).run P W = .ok (.value v) W) (hS : S w)
    (h : wpAnyH P md ops Q S fuel (listed.setIfInBounds i true) (a.put d v) w) : wpAnyH P md ops Q S (fuel + 1) listed a w := by
  subst hd
  exact wpAnyH_take hi hs hf hr (fun c a w => hQ c a w v) (.inl ⟨hw, hrun⟩) hS h
/-- One that is not wanted. -/
theorem hg_off (i : Nat) (d : Option Tmp) (o : Oper) (hd : o.dst = d) (hi : ops[i]? = some o) (hs : Region.noSelect ops = true) (hf : Region.free md ops listed i = true) (hr : (Region.ready md ops listed).contains i = true)
    (hQ : ∀ c a w v, Q (.panic c) (a.put d v) w → Q (.panic c) a w) (hw : Region.wanted o (yielded ops a.tmps) = false) (hS : S w)
    (h : wpAnyH P md ops Q S fuel (listed.setIfInBounds i true) (a.put d undef) w) : wpAnyH P md ops Q S (fuel + 1) listed a w := by
  subst hd
  exact wpAnyH_take hi hs hf hr (fun c a w => hQ c a w undef) (.inr ⟨hw, rfl⟩) hS h
theorem hg_only (i : Nat) (o : Oper) (hr : Region.ready md ops listed = [i]) (hi : ops[i]? = some o) (hw : Region.wanted o (yielded ops a.tmps) = true)
    (h : ∀ K' : Act → World → Prop, (∀ a' w', S w' → wpAnyH P md ops Q S fuel (listed.setIfInBounds i true) a' w' → K' a' w') → o.wp P a w K' Q) : wpAnyH P md ops Q S (fuel + 1) listed a w :=
  wpAnyH_all hr (by simp) fun j hj => by
    obtain rfl : j = i := by simpa using hj
    exact wpOp_step hi fun K' hK => by
      rw [if_pos hw]
      exact h K' fun a' w' h1 h2 => hK a' w' ⟨h1, h2⟩
theorem hg_value (i : Nat) (d : Option Tmp) (o : Oper) (hd : o.dst = d) (hr : Region.ready md ops listed = [i]) (hi : ops[i]? = some o) (hw : Region.wanted o (yielded ops a.tmps) = true) (v : Value) (w1 : World) (hrun : (execOp a.eval o).run P w = .ok (.value v) w1) (hS : S w1)
    (h : wpAnyH P md ops Q S fuel (listed.setIfInBounds i true) (a.put d v) w1) : wpAnyH P md ops Q S (fuel + 1) listed a w :=
  hg_only i o hr hi hw fun K' hK => op_value d hd v w1 hrun (hK _ _ hS h)
theorem hg_call (i : Nat) (d : Option Tmp) (o : Oper) (hd : o.dst = d) (hr : Region.ready md ops listed = [i]) (hi : ops[i]? = some o) (hw : Region.wanted o (yielded ops a.tmps) = true) (f : FuncId) (args : Array Value) (R : Value → World → Prop) (hrun : (execOp a.eval o).run P w = .ok (.enter f args) w)
    (hc : Calls P f args w fun e w' => ∃ v, e = .returned v ∧ R v w') (h : ∀ v w', R v w' → S w' ∧ wpAnyH P md ops Q S fuel (listed.setIfInBounds i true) (a.put d v) w') : wpAnyH P md ops Q S (fuel + 1) listed a w :=
  hg_only i o hr hi hw fun K' hK => op_call d hd f args R hrun hc fun v w' hR => hK _ _ (h v w' hR).1 (h v w' hR).2
/-- Two may come up, both wanted. -/
theorem hg_two (i j : Nat) (oi oj : Oper) (hr : Region.ready md ops listed = [i, j]) (hi : ops[i]? = some oi) (hj : ops[j]? = some oj) (hgi : Region.wanted oi (yielded ops a.tmps) = true) (hgj : Region.wanted oj (yielded ops a.tmps) = true)
    (h1 : ∀ K' : Act → World → Prop, (∀ a' w', S w' → wpAnyH P md ops Q S fuel (listed.setIfInBounds i true) a' w' → K' a' w') → oi.wp P a w K' Q)
    (h2 : ∀ K' : Act → World → Prop, (∀ a' w', S w' → wpAnyH P md ops Q S fuel (listed.setIfInBounds j true) a' w' → K' a' w') → oj.wp P a w K' Q) : wpAnyH P md ops Q S (fuel + 1) listed a w :=
  wpAnyH_all hr (by simp) fun k hk => by
    simp only [List.mem_cons, List.not_mem_nil, or_false] at hk
    rcases hk with rfl | rfl
    · exact wpOp_step hi fun K' hK => by
        rw [if_pos hgi]
        exact h1 K' fun a' w' g1 g2 => hK a' w' ⟨g1, g2⟩
    · exact wpOp_step hj fun K' hK => by
        rw [if_pos hgj]
        exact h2 K' fun a' w' g1 g2 => hK a' w' ⟨g1, g2⟩
/-- A call and a value, either of them first. -/
theorem hg_call_value (i j : Nat) (di dj : Option Tmp) (oi oj : Oper) (hdi : oi.dst = di) (hdj : oj.dst = dj) (hr : Region.ready md ops listed = [i, j]) (hi : ops[i]? = some oi) (hj : ops[j]? = some oj) (hgi : Region.wanted oi (yielded ops a.tmps) = true) (hgj : Region.wanted oj (yielded ops a.tmps) = true)
    (f : FuncId) (args : Array Value) (R : Value → World → Prop) (hrun : (execOp a.eval oi).run P w = .ok (.enter f args) w) (hc : Calls P f args w fun e w' => ∃ v, e = .returned v ∧ R v w')
    (v : Value) (w1 : World) (hrunj : (execOp a.eval oj).run P w = .ok (.value v) w1)
    (h1 : ∀ u w', R u w' → S w' ∧ wpAnyH P md ops Q S fuel (listed.setIfInBounds i true) (a.put di u) w')
    (h2 : S w1 ∧ wpAnyH P md ops Q S fuel (listed.setIfInBounds j true) (a.put dj v) w1) : wpAnyH P md ops Q S (fuel + 1) listed a w :=
  hg_two i j oi oj hr hi hj hgi hgj (fun K' hK => op_call di hdi f args R hrun hc fun u w' hR => hK _ _ (h1 u w' hR).1 (h1 u w' hR).2)
    (fun K' hK => op_value dj hdj v w1 hrunj (hK _ _ h2.1 h2.2))
end
end Go.Proofs.Ytjmkkndglmapaaa
