/- Operations that make or write memory, the world behind each a letter. No condition. -/
import Derived.Test.YtjmkkndglmapaaaMem
import Derived.Test.YtjmkkndglmapaaaLaw
import Derived.Maps.AppendAt
set_option linter.unusedSimpArgs false
set_option linter.unusedVariables false
namespace Go.Proofs.Ytjmkkndglmapaaa
open Go.RowKit

/-- A world in which block m alone is another. -/
structure Only (m : Nat) (w w' : World) : Prop where
  os : w'.os = w.os
  tape : w'.tape = w.tape
  output : w'.output = w.output
  size : w'.heap.size = w.heap.size
  block : ∀ j, j ≠ m → w'.heap[j]? = w.heap[j]?
theorem Only.below {m B : Nat} {w w' : World} (h : Only m w w') (hB : B ≤ m) : Below B w w' := ⟨h.os, h.tape, h.output, by rw [h.size]; exact Nat.le_refl _, fun j hj => h.block j (by omega)⟩
theorem Only.grown {m : Nat} {w w' : World} (h : Only m w w') : w.grownBy w' (some m) := ⟨h.os, h.tape, h.output, by rw [h.size]; exact Nat.le_refl _, fun j _ hj => h.block j (fun e => hj (by rw [e]))⟩
theorem Only.box {m : Nat} {w w' : World} (h : Only m w w') {b : Nat} {cs : List Value} {t : TypeId} (hx : Box w b cs t) (hb : b ≠ m) : Box w' b cs t := (h.block b hb).trans hx
theorem Only.range {w W : World} {m b o : Nat} {cs : List Value} (ho : Only m w W) (h : w.rangeAt b o cs) (hb : b ≠ m) : W.rangeAt b o cs := fun j v hv => by
  rw [World.cell?_of_block (ho.block b hb)]
  exact h j v hv
theorem only_setCells (b : Nat) : ∀ (vs : List Value) (o : Nat) (w : World), Only b w (w.setCells b o vs) := by
  intro vs
  induction vs with
  | nil => intro o w; exact ⟨rfl, rfl, rfl, rfl, fun _ _ => rfl⟩
  | cons v vs ih =>
    intro o w
    have h := ih (o + 1) (w.setCell ⟨b, o, none⟩ v)
    exact ⟨h.os, h.tape, h.output, by rw [World.setCells, h.size]; simp [World.setCell], fun j hj => (h.block j hj).trans (Below.heap_setCell w _ v j hj)⟩
theorem below_grown {B : Nat} {w W : World} (h : Below B w W) (hB : B = w.heap.size) (row : Option Nat) : w.grownBy W row := ⟨h.os, h.tape, h.output, h.size, fun k hk _ => h.block k (by omega)⟩

theorem run_buildSlice_one {P : Program} {w : World} (t e : TypeId) (ht : P.underlying t = some (.slice e)) (z : Value) (hz : ∀ w, (zeroValue e).run P w = .ok z w) (n : Nat) (hn : ∀ w, (sizeOf e).run P w = .ok n w) (hzn : z.cells.size = n)
    (h0 : 0 < n) (hbig : n ≤ 16777216) (cs : List Value) (hl : cs.length = n) : (Instr.buildSlice t 1 #[(0, .agg cs.toArray)]).run P w = .ok (.slice (some ⟨w.heap.size, 0, none⟩) 1 1) (w.alloc (.cells cs.toArray e)) := by
  have hf : Instr.fill (fun i => some (i * n, n)) ((Array.range (1 * n)).map (fun i => z.cells[i % z.cells.size]!)) [(0, .agg cs.toArray)] = some cs.toArray := by
    have e1 : ((Array.range (1 * n)).map (fun i => z.cells[i % z.cells.size]!)) = z.cells.toList.toArray := by
      rw [Nat.one_mul, ← range_flat n z.cells hzn]
    rw [e1, fill_cons _ _ 0 _ _ 0 n (by simp) (by simpa [Value.cells] using hl) (by rw [Array.length_toList, hzn]; omega), fill_nil, laid_all _ _ (by show cs.toArray.size = _; rw [Array.length_toList, hzn, List.size_toArray, hl])]
    rfl
  unfold Instr.buildSlice
  rw [Sem.run_bind, run_underlying ht]
  simp only [Result.andThen_ok]
  rw [Sem.run_bind, hn]
  simp only [Result.andThen_ok]
  rw [if_neg (by omega), if_neg (by omega)]
  rw [Sem.run_bind, hz]
  simp only [Result.andThen_ok]
  rw [Sem.run_bind, Sem.run_pure]
  simp only [Result.andThen_ok]
  rw [hf]
  simp only [Result.andThen_ok, newRow, Sem.run_bind, newObj, Sem.run, Sem.run_pure]
  rfl

section
variable {P : Program} {ops : Array Oper} {rest : List Oper} {o : Oper} {a : Act} {w : World} {Q : Exit → Act → World → Prop}

/-- 'var x T': a new block of the type's zero. -/
theorem wpList_alloc_box (hgd : o.guard = none) (t : TypeId) (ho : o.op = .alloc t) (z : Value) (hz : ∀ w, (zeroValue t).run P w = .ok z w) (zs : List Value) (hzs : z.cells = zs.toArray)
    (h : ∀ W, Box W w.heap.size zs t → Below w.heap.size w W → w.heap.size < W.heap.size → wpList P ops Q rest (a.put o.dst (.pointer (some ⟨w.heap.size, 0, none⟩))) W) : wpList P ops Q (o :: rest) a w :=
  wpList_plain hgd fun K hK => by
    have h1 := h (w.alloc (.cells zs.toArray t)) (Box.new w zs t) ((Below.refl _ w).alloc (Nat.le_refl _) _) (by show _ < (w.heap.push _).size; simp)
    unfold Oper.wp execOp
    simp only [ho, Instr.alloc]
    rw [Sem.run_bind, Sem.run_bind, hz]
    simp only [Result.andThen_ok, newVar, newRow, Sem.run_bind, newObj, Sem.run, hzs, Sem.run_pure]
    exact hK _ _ h1

/-- A parameter, or '&T{..}': a new block of the value's cells. -/
theorem wpList_box_box (hgd : o.guard = none) (t : TypeId) (x : Operand) (ho : o.op = .box t x) (cs : List Value) (hx : a.eval x = .agg cs.toArray)
    (h : ∀ W, Box W w.heap.size cs t → Below w.heap.size w W → w.heap.size < W.heap.size → wpList P ops Q rest (a.put o.dst (.pointer (some ⟨w.heap.size, 0, none⟩))) W) : wpList P ops Q (o :: rest) a w :=
  wpList_plain hgd fun K hK => by
    have h1 := h (w.alloc (.cells cs.toArray t)) (Box.new w cs t) ((Below.refl _ w).alloc (Nat.le_refl _) _) (by show _ < (w.heap.push _).size; simp)
    unfold Oper.wp execOp
    simp only [ho, hx, Instr.box]
    rw [Sem.run_bind, Sem.run_bind]
    simp only [Result.andThen_ok, newVar, newRow, Sem.run_bind, newObj, Sem.run, Value.cells, Sem.run_pure]
    exact hK _ _ h1

/-- A slice literal of one element of whatever cells. -/
theorem wpList_slice_one (hgd : o.guard = none) (t e : TypeId) (x : Operand) (ho : o.op = .buildSlice t 1 #[(0, x)]) (ht : P.underlying t = some (.slice e)) (z : Value) (hz : ∀ w, (zeroValue e).run P w = .ok z w) (n : Nat) (hn : ∀ w, (sizeOf e).run P w = .ok n w) (hzn : z.cells.size = n)
    (h0 : 0 < n) (hbig : n ≤ 16777216) (cs : List Value) (hx : a.eval x = .agg cs.toArray) (hl : cs.length = n)
    (h : ∀ W, Box W w.heap.size cs e → Below w.heap.size w W → w.heap.size < W.heap.size → wpList P ops Q rest (a.put o.dst (.slice (some ⟨w.heap.size, 0, none⟩) 1 1)) W) : wpList P ops Q (o :: rest) a w :=
  wpList_plain hgd fun K hK => by
    have h1 := h (w.alloc (.cells cs.toArray e)) (Box.new w cs e) ((Below.refl _ w).alloc (Nat.le_refl _) _) (by show _ < (w.heap.push _).size; simp)
    unfold Oper.wp execOp
    simp only [ho, List.map_toArray, List.map_cons, List.map_nil, hx]
    rw [Sem.run_bind, run_buildSlice_one t e ht z hz n hn hzn h0 hbig cs hl]
    exact hK _ _ h1

/-- A store of so many cells into a block of one's own. -/
theorem wpList_store_box (hgd : o.guard = none) (ty : TypeId) (x y : Operand) (ho : o.op = .store ty x y) (b f : Nat) (vs : List Value) (hx : a.eval x = .pointer (some ⟨b, f, none⟩)) (hy : a.eval y = .agg vs.toArray) (cs : List Value) (t : TypeId) (hB : Box w b cs t)
    (hfit : f + vs.length ≤ cs.length) (hi : (P.info? ty).map (·.size) = some vs.length) (h1 : ∀ v ∈ vs, v.oneCell' = true)
    (h : ∀ W, Box W b (laid cs f vs) t → Only b w W → wpList P ops Q rest (a.put o.dst undef) W) : wpList P ops Q (o :: rest) a w :=
  wpList_store_mid hgd ty x y ho b f vs.toArray hx hy (by rw [List.size_toArray]; exact hB.there f _ hfit) (by rw [List.size_toArray]; exact hi) (all_oneCell_toArray h1)
    (h _ (hB.setCells vs f w cs hfit) (only_setCells b vs f w))

/-- A store of one cell. -/
theorem wpList_store_one (hgd : o.guard = none) (ty : TypeId) (x y : Operand) (ho : o.op = .store ty x y) (b f : Nat) (v : Value) (hx : a.eval x = .pointer (some ⟨b, f, none⟩)) (hy : a.eval y = v) (cs : List Value) (t : TypeId) (hB : Box w b cs t)
    (hfit : f < cs.length) (hc : v.cells = #[v]) (hi : (P.info? ty).map (·.size) = some 1) (h1 : v.oneCell' = true)
    (h : ∀ W, Box W b (laid cs f [v]) t → Only b w W → wpList P ops Q rest (a.put o.dst undef) W) : wpList P ops Q (o :: rest) a w :=
  wpList_plain hgd fun K hK => by
    have h2 := h _ (hB.setCells [v] f w cs (by show f + 1 ≤ _; omega)) (only_setCells b [v] f w)
    have hth := hB.there f 1 (by omega)
    have hrun : (storeVar ty ⟨b, f, none⟩ v).run P w = .ok () (w.setCells b f [v]) := by
      have := run_storeCells_cells (P := P) b f [v] 0 w (fun j hj => by simpa using (hth j (by simpa using hj)).1) (fun j hj => by simpa using (hth j (by simpa using hj)).2) (fun u hu => by simp at hu; subst hu; exact h1)
      cases hq : P.info? ty with
      | none => simp [hq] at hi
      | some i =>
        have hs : i.size = 1 := by simpa [hq] using hi
        simp only [Nat.add_zero] at this
        simp [storeVar, sizeOf, typeInfo, hq, hc, hs, this]
    unfold Oper.wp execOp
    simp only [ho, hx, hy, Instr.storeAt, Instr.sureAddr, Sem.run_bind, Sem.run_pure, Result.andThen_ok, hrun]
    exact hK _ _ h2

theorem wpList_load_cell (hgd : o.guard = none) (ty : TypeId) (x : Operand) (ho : o.op = .load ty x) (p : Addr) (hx : a.eval x = .pointer (some p)) (v : Value) (d : TypeDesc) (hc : w.cell? p = some v) (hu : P.underlying ty = some d) (hd : d.isRow = false)
    (h : wpList P ops Q rest (a.put o.dst v) w) : wpList P ops Q (o :: rest) a w :=
  wpList_plain hgd fun K hK => by
    unfold Oper.wp execOp
    simp only [ho, hx, Instr.loadAt, Instr.sureAddr, Sem.run_bind, Sem.run_pure, Result.andThen_ok, run_loadVar_cell w p ty v d hc hu hd]
    exact hK _ _ h
end
end Go.Proofs.Ytjmkkndglmapaaa
