/- A row of totals that the call owns: sorted, it owns them still. A value of one operation. -/
import Derived.Test.YtjmkkndglmapaaaTot
import Derived.Sort.OwnSorted
set_option linter.unusedSimpArgs false
set_option linter.unusedVariables false
namespace Go.Proofs.Ytjmkkndglmapaaa
open Go.RowKit Go.Shelf Go.Lib Go.Sort

section
variable {P : Program} {ops : Array Oper} {rest : List Oper} {o : Oper} {a : Act} {w : World} {Q : Exit → Act → World → Prop}
theorem wpList_value (hgd : o.guard = none) (v : Value) (w1 : World) (hrun : (execOp a.eval o).run P w = .ok (.value v) w1) (h : wpList P ops Q rest (a.put o.dst v) w1) : wpList P ops Q (o :: rest) a w :=
  wpList_plain hgd fun K hK => by
    unfold Oper.wp
    rw [hrun]
    exact hK _ _ h
theorem wpList_range (hgd : o.guard = none) (t : TypeId) (x : Operand) (ho : o.op = .range t x) (m : Value) (hm : a.eval x = m) (v : Value) (w1 : World) (hrun : (Instr.range t m).run P w = .ok v w1) (h : wpList P ops Q rest (a.put o.dst v) w1) : wpList P ops Q (o :: rest) a w :=
  wpList_value hgd v w1 (by unfold execOp; simp only [ho, hm, Sem.run_bind, hrun]; rfl) h
theorem wpList_next (hgd : o.guard = none) (x : Operand) (b : Bool) (ho : o.op = .next x b) (m : Value) (hm : a.eval x = m) (t : TypeId) (ht : o.type = t) (v : Value) (w1 : World) (hrun : (Instr.next m b t).run P w = .ok v w1) (h : wpList P ops Q rest (a.put o.dst v) w1) : wpList P ops Q (o :: rest) a w :=
  wpList_value hgd v w1 (by unfold execOp; simp only [ho, hm, ht, Sem.run_bind, hrun]; rfl) h
theorem wpList_entry (hgd : o.guard = none) (x : Operand) (ho : o.op = .entry x) (m : Value) (hm : a.eval x = m) (v : Value) (w1 : World) (hrun : (Instr.entry m).run P w = .ok v w1) (h : wpList P ops Q rest (a.put o.dst v) w1) : wpList P ops Q (o :: rest) a w :=
  wpList_value hgd v w1 (by unfold execOp; simp only [ho, hm, Sem.run_bind, hrun]; rfl) h
end

theorem flat_get (R : List Tot) (t : Nat) : (R.flatMap encT)[t]? = (R[t / 35]?).bind fun x => (encT x)[t % 35]? := by
  induction R generalizing t with
  | nil => simp
  | cons x R ih =>
    rw [List.flatMap_cons]
    have hl := encT_len x
    by_cases h : t < 35
    · rw [List.getElem?_append_left (by omega), Nat.div_eq_of_lt h, Nat.mod_eq_of_lt h]
      rfl
    · rw [List.getElem?_append_right (by omega), ih, hl]
      have e1 : t / 35 = (t - 35) / 35 + 1 := by omega
      have e2 : t % 35 = (t - 35) % 35 := by omega
      rw [e1, e2]
      rfl
theorem flat_len (R : List Tot) : (R.flatMap encT).length = R.length * 35 := by
  induction R with
  | nil => rfl
  | cons x R ih => rw [List.flatMap_cons, List.length_append, ih, encT_len, List.length_cons]; omega
theorem flat_one (R : List Tot) : ∀ v ∈ R.flatMap encT, v.oneCell' = true := fun v hv => by
  obtain ⟨t, _, h⟩ := List.mem_flatMap.1 hv
  exact encT_one t v h
theorem flat_list (R : List Tot) : (flatK encT 35 R.toArray).toList = R.flatMap encT := by
  apply List.ext_getElem?
  intro t
  by_cases h : t < R.length * 35
  · have h1 : t / 35 < R.length := by omega
    have h2 : t % 35 < 35 := Nat.mod_lt _ (by omega)
    rw [flat_get]
    have h3 := get_flatK encT 35 R.toArray t (by simpa using h)
    rw [Array.getElem?_toList]
    have h4 : t < (flatK encT 35 R.toArray).size := by rw [size_flatK]; simpa using h
    rw [getElem!_pos (flatK encT 35 R.toArray) t h4] at h3
    rw [Array.getElem?_eq_getElem h4, h3, List.getElem?_eq_getElem h1]
    simp only [Option.bind_some]
    have e : R.toArray[t / 35]! = R[t / 35] := by rw [getElem!_pos R.toArray _ (by simpa using h1)]; simp
    rw [e]
    have h5 : t % 35 < (encT R[t / 35]).length := by rw [encT_len]; exact h2
    rw [getElem!_pos (encT R[t / 35]) (t % 35) h5, List.getElem?_eq_getElem h5]
  · rw [List.getElem?_eq_none (by rw [Array.length_toList, size_flatK]; simpa using h), List.getElem?_eq_none (by rw [flat_len]; omega)]

theorem holds_flat {w : World} {g : Nat} {cur : Array Value} {e : TypeId} {R : List Tot} (hb : w.heap[g]? = some (.cells cur e (0, 0))) (ht : cur.toList.take (R.length * 35) = R.flatMap encT) : HoldsK encT 35 w g 0 R.toArray := by
  intro j hj
  have hj' : j < R.length * 35 := by simpa using hj
  refine ⟨?_, by simp [World.frozen?, hb]⟩
  have h1 : (cur.toList.take (R.length * 35))[j]? = (flatK encT 35 R.toArray).toList[j]? := by rw [ht, flat_list]
  rw [List.getElem?_take_of_lt hj'] at h1
  simp only [World.cell?, hb, Nat.zero_add]
  simp only [Option.isSome_none, Bool.false_eq_true, if_false]
  rw [← Array.getElem?_toList, h1, Array.getElem?_toList, Array.getElem?_eq_getElem hj]
  rw [getElem!_pos (flatK encT 35 R.toArray) j hj]
  rfl

theorem heap_sortedK {w : World} {g n : Nat} {os : Array Obj} {cur : Array Value} {e : TypeId} {fr : Nat × Nat} (d : Array Value) (hb : w.heap[g]? = some (.cells cur e fr)) :
    (grow (putRow id (Sort.ahead w n) g 0 d) os).heap[g]? = some (.cells (putCells id 0 d cur) e fr) := by
  have hg : g < w.heap.size := (Array.getElem?_eq_some_iff.1 hb).1
  rw [heap_grow_old _ _ (by simpa using hg)]
  simp [putRow, mapBlock, Sort.ahead, Array.getElem?_modify, hb, onCells]
theorem grownBy_sortedK {w : World} {g n : Nat} {os : Array Obj} (d : Array Value) : w.grownBy (grow (putRow id (Sort.ahead w n) g 0 d) os) (some g) := by
  refine ⟨rfl, rfl, rfl, by simp, fun k hk hne => ?_⟩
  rw [heap_grow_old _ _ (by simpa using hk)]
  have : g ≠ k := fun e => hne (by rw [e])
  simp [putRow, mapBlock, Sort.ahead, Array.getElem?_modify, this]
theorem take_putK (cur d : Array Value) (h : d.size ≤ cur.size) : (putCells id 0 d cur).toList.take d.size = d.toList := by
  apply List.ext_getElem?
  intro j
  by_cases hj : j < d.size
  · rw [List.getElem?_take_of_lt hj, Array.getElem?_toList, Array.getElem?_toList]
    simp [putCells, hj, show j < cur.size by omega]
  · rw [List.getElem?_take_eq_none (by omega), List.getElem?_eq_none (by simp; omega)]

/-- The sort of a row that the call owns. -/
theorem sort_own (base : Nat) (v : Value) (R : List Tot) (w : World) (hown : w.ownsRow base 88 35 v R.length (R.flatMap encT)) (hR : R.length < 4611686018427387904) :
    Calls Try.prog 35 #[v, .func (.func 36) #[] #[]] w fun e w' =>
      e = .returned (.tuple #[]) ∧ ∃ R' : List Tot, w'.ownsRow base 88 35 v R.length (R'.flatMap encT) ∧ w.grownBy w' v.ownBlock ∧ R'.Perm R ∧ R'.Pairwise (fun a b => ¬ keyCmp b.k a.k < 0) := by
  rcases hown.2 with ⟨rfl, h0⟩ | ⟨g, cap, cur, rfl, hbase, hb, hn, hcap, hsz, htake⟩
  · have hnil : R = [] := List.eq_nil_of_length_eq_zero h0
    subst hnil
    refine (sort_none none 0 _ w).mono fun e w' ⟨he, hw⟩ => ?_
    subst hw
    exact ⟨he, [], hown, ⟨rfl, rfl, rfl, Nat.le_refl _, fun _ _ _ => rfl⟩, List.Perm.refl _, List.Pairwise.nil⟩
  · have hg : g < w.heap.size := (Array.getElem?_eq_some_iff.1 hb).1
    have hc := sort_any g cap R.toArray w (holds_flat hb htake) hg (by simpa using hR)
    rw [List.size_toArray] at hc
    refine hc.mono fun e w' ⟨he, d', n, os, hp, hs, hw⟩ => ⟨he, d'.toList, ?_, ?_, ?_, ?_⟩
    · have hsd : d'.size = R.length := by have := hp.1; simpa using this
      have hfl := flat_list d'.toList
      rw [hw]
      refine ⟨by rw [flat_len, Array.length_toList, hsd], .inr ⟨g, cap, _, rfl, hbase, heap_sortedK _ hb, hn, hcap, by simp [putCells, hsz], ?_⟩⟩
      have hfs : (flatK encT 35 d').size = R.length * 35 := by rw [size_flatK, hsd]
      rw [← hfs, take_putK _ _ (by rw [hfs, hsz]; omega)]
      exact hfl
    · rw [hw]
      exact grownBy_sortedK _
    · have := hp.2.2
      have hsd : d'.size = R.length := by have := hp.1; simpa using this
      have h1 : (d'.extract 0 R.length).toList = d'.toList := by rw [← hsd]; simp
      rw [h1] at this
      simpa using this
    · have hsd : d'.size = R.length := by have := hp.1; simpa using this
      rw [List.pairwise_iff_getElem]
      intro i j hi hj hij
      have hi' : i < d'.size := by simpa using hi
      have hj' : j < d'.size := by simpa using hj
      have := hs i j (Nat.zero_le _) hij (by omega)
      rw [getElem!_pos d' i hi', getElem!_pos d' j hj'] at this
      have h2 := of_decide_eq_false this
      simpa [totCmp] using h2
end Go.Proofs.Ytjmkkndglmapaaa
