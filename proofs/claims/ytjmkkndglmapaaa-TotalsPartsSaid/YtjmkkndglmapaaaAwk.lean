/- Steps of guarded operations in a region with an order; builds that moidorelaw27.awake makes. -/
import Derived.Test.YtjmkkndglmapaaaWhole
set_option linter.unusedSimpArgs false
set_option linter.unusedVariables false
namespace Go.Proofs.Ytjmkkndglmapaaa
open Go.RowKit Go.Shelf Go.Lib Go.Sort Go.WideShapes Go.ChangeShapes

section
variable {P : Program} {ops : Array Oper} {rest : List Oper} {o : Oper} {a : Act} {w : World} {Q : Exit → Act → World → Prop}
theorem wl_value (hw : Region.wanted o (yielded ops a.tmps) = true) (v : Value) (w1 : World) (hrun : (execOp a.eval o).run P w = .ok (.value v) w1) (h : wpList P ops Q rest (a.put o.dst v) w1) : wpList P ops Q (o :: rest) a w :=
  wpList_step fun K hK => by
    rw [if_pos hw]
    exact op_value o.dst rfl v w1 hrun (hK _ _ h)
theorem wl_call (hw : Region.wanted o (yielded ops a.tmps) = true) (f : FuncId) (args : Array Value) (R : Value → World → Prop) (hrun : (execOp a.eval o).run P w = .ok (.enter f args) w)
    (hc : Calls P f args w fun e w' => ∃ v, e = .returned v ∧ R v w') (h : ∀ v w', R v w' → wpList P ops Q rest (a.put o.dst v) w') : wpList P ops Q (o :: rest) a w :=
  wpList_step fun K hK => by
    rw [if_pos hw]
    exact op_call o.dst rfl f args R hrun hc fun v w' hR => hK _ _ (h v w' hR)
theorem wl_off (hw : Region.wanted o (yielded ops a.tmps) = false) (h : wpList P ops Q rest (a.put o.dst undef) w) : wpList P ops Q (o :: rest) a w :=
  wpList_step fun K hK => by
    rw [if_neg (by rw [hw]; simp)]
    exact hK _ _ h
end
open Classical in
theorem run_eql_op {P : Program} {o : Oper} {a : Act} {t t' : TypeId} {x y : Operand} {xs ys : List Value} (w : World) (ho : o.op = .binOp .eql t x y t') (hx : a.eval x = .agg xs.toArray) (hy : a.eval y = .agg ys.toArray) (h : KT P t) (fx : Fine P t xs) (fy : Fine P t ys) :
    (execOp a.eval o).run P w = .ok (.value (.bool (decide (xs = ys)))) w := by
  unfold execOp
  simp only [ho, hx, hy]
  rw [Sem.run_bind, run_eql_fine h fx fy]
  rfl
theorem run_build_op {P : Program} {o : Oper} {a : Act} {t : TypeId} {parts : List (Nat × Operand)} {vs : List (Nat × Value)} {cells : Array Value} (w : World) (ho : o.op = .build t parts.toArray) (hv : parts.map (fun (i, x) => (i, a.eval x)) = vs)
    (hrun : ∀ W, (Instr.build t vs.toArray).run P W = .ok (.agg cells) W) : (execOp a.eval o).run P w = .ok (.value (.agg cells)) w := by
  unfold execOp
  simp only [ho, List.map_toArray]
  rw [hv, Sem.run_bind, hrun]
  rfl

theorem run_alloc_op {P : Program} {o : Oper} {a : Act} {t : TypeId} (w : World) (ho : o.op = .alloc t) (z : Value) (hz : ∀ w, (zeroValue t).run P w = .ok z w) (zs : List Value) (hzs : z.cells = zs.toArray) :
    (execOp a.eval o).run P w = .ok (.value (.pointer (some ⟨w.heap.size, 0, none⟩))) (w.alloc (.cells zs.toArray t)) := by
  unfold execOp
  simp only [ho, Instr.alloc]
  rw [Sem.run_bind, Sem.run_bind, hz]
  simp only [Result.andThen_ok, newVar, newRow, Sem.run_bind, newObj, Sem.run, hzs, Sem.run_pure]
  rfl
section
variable {P : Program} {ops : Array Oper} {Q : Exit → Act → World → Prop} {md : Region.Mode} {S : World → Prop} {fuel : Nat} {listed : Array Bool} {a : Act} {w : World}
/-- Two values, either of them first. -/
theorem hg_value_value (i j : Nat) (di dj : Option Tmp) (oi oj : Oper) (hdi : oi.dst = di) (hdj : oj.dst = dj) (hr : Region.ready md ops listed = [i, j]) (hi : ops[i]? = some oi) (hj : ops[j]? = some oj) (hgi : Region.wanted oi (yielded ops a.tmps) = true) (hgj : Region.wanted oj (yielded ops a.tmps) = true)
    (u : Value) (w1 : World) (hrun : (execOp a.eval oi).run P w = .ok (.value u) w1) (v : Value) (w2 : World) (hrunj : (execOp a.eval oj).run P w = .ok (.value v) w2)
    (h1 : S w1 ∧ wpAnyH P md ops Q S fuel (listed.setIfInBounds i true) (a.put di u) w1)
    (h2 : S w2 ∧ wpAnyH P md ops Q S fuel (listed.setIfInBounds j true) (a.put dj v) w2) : wpAnyH P md ops Q S (fuel + 1) listed a w :=
  hg_two i j oi oj hr hi hj hgi hgj (fun K' hK => op_value di hdi u w1 hrun (hK _ _ h1.1 h1.2)) (fun K' hK => op_value dj hdj v w2 hrunj (hK _ _ h2.1 h2.2))
end
theorem laid_one (l : List Value) (off : Nat) (v : Value) (h : off < l.length) : laid l off [v] = l.set off v := by
  unfold laid
  rw [List.set_eq_take_append_cons_drop, if_pos h]
  simp
theorem run_buildSlice_two {P : Program} {w : World} (t e : TypeId) (ht : P.underlying t = some (.slice e)) (z : Value) (hz : ∀ w, (zeroValue e).run P w = .ok z w) (n : Nat) (hn : ∀ w, (sizeOf e).run P w = .ok n w) (hzn : z.cells.size = n)
    (h0 : 0 < n) (hbig : n ≤ 1048576) (cs ds : List Value) (hl : cs.length = n) (hd : ds.length = n) : (Instr.buildSlice t 2 #[(0, .agg cs.toArray), (1, .agg ds.toArray)]).run P w = .ok (.slice (some ⟨w.heap.size, 0, none⟩) 2 2) (w.alloc (.cells (cs ++ ds).toArray e)) := by
  have hf : Instr.fill (fun i => some (i * n, n)) ((Array.range (2 * n)).map (fun i => z.cells[i % z.cells.size]!)) [(0, .agg cs.toArray), (1, .agg ds.toArray)] = some (cs ++ ds).toArray := by
    generalize hx : ((Array.range (2 * n)).map (fun i => z.cells[i % z.cells.size]!)) = zs
    have hs : zs.size = 2 * n := by rw [← hx]; simp
    obtain ⟨zl, rfl⟩ : ∃ zl : List Value, zs = zl.toArray := ⟨zs.toList, by simp⟩
    have hzl : zl.length = n + n := by simp at hs; omega
    have e1 : laid zl 0 cs = cs ++ zl.drop n := by unfold laid; simp [hl]
    have e2 : laid (cs ++ zl.drop n) n ds = cs ++ ds := by
      have := laid_mid cs (zl.drop n) [] ds n hl (by rw [List.length_drop]; omega)
      simpa using this
    rw [fill_cons _ _ 0 _ _ 0 n (by simp) (by simpa [Value.cells] using hl) (by omega)]
    show Instr.fill _ (laid zl 0 cs).toArray _ = _
    rw [e1, fill_cons _ _ 1 _ _ n n (by simp) (by simpa [Value.cells] using hd) (by rw [List.length_append, List.length_drop]; omega)]
    show Instr.fill _ (laid (cs ++ zl.drop n) n ds).toArray _ = _
    rw [e2, fill_nil]
  unfold Instr.buildSlice
  rw [Sem.run_bind, run_underlying ht]
  simp only [Result.andThen_ok]
  rw [Sem.run_bind, hn]
  simp only [Result.andThen_ok]
  rw [if_neg (by omega), if_neg (by omega)]
  rw [Sem.run_bind, hz]
  simp only [Result.andThen_ok]
  rw [Sem.run_bind, Sem.run_pure]
  simp only [Result.andThen_ok]
  rw [hf]
  simp only [Result.andThen_ok, newRow, Sem.run_bind, newObj, Sem.run, Sem.run_pure]
  rfl

theorem run_slice_two_op {P : Program} {o : Oper} {a : Act} {t e : TypeId} {x y : Operand} {cs ds : List Value} (w : World) (ho : o.op = .buildSlice t 2 #[(0, x), (1, y)]) (hx : a.eval x = .agg cs.toArray) (hy : a.eval y = .agg ds.toArray) (ht : P.underlying t = some (.slice e)) (z : Value) (hz : ∀ w, (zeroValue e).run P w = .ok z w) (n : Nat) (hn : ∀ w, (sizeOf e).run P w = .ok n w) (hzn : z.cells.size = n)
    (h0 : 0 < n) (hbig : n ≤ 1048576) (hl : cs.length = n) (hd : ds.length = n) : (execOp a.eval o).run P w = .ok (.value (.slice (some ⟨w.heap.size, 0, none⟩) 2 2)) (w.alloc (.cells (cs ++ ds).toArray e)) := by
  unfold execOp
  simp only [ho, List.map_toArray, List.map_cons, List.map_nil, hx, hy]
  rw [Sem.run_bind, run_buildSlice_two t e ht z hz n hn hzn h0 hbig cs ds hl hd]
  rfl
theorem run_slice_wides {o : Oper} {a : Act} {x y : Operand} {u v : Int} (w : World) (ho : o.op = .buildSlice 77 2 #[(0, x), (1, y)]) (hx : a.eval x = .agg (encW u).toArray) (hy : a.eval y = .agg (encW v).toArray) :
    (execOp a.eval o).run Try.prog w = .ok (.value (.slice (some ⟨w.heap.size, 0, none⟩) 2 2)) (w.alloc (.cells (encW u ++ encW v).toArray 57)) :=
  run_slice_two_op w ho hx hy Try.underlying77 (.agg (encW 0).toArray) Try.zeroValue57 2 Try.sizeOf57 rfl (by omega) (by omega) rfl rfl
theorem plus_two (x y : Int) (b : Nat) (w : World) (hL : Box w b (encW x ++ encW y) 57) :
    Calls Try.prog 7 #[.slice (some ⟨b, 0, none⟩) 2 2] w fun e w' => ∃ v, e = .returned v ∧ (v = .agg (encW (x + y)).toArray ∧ Below w.heap.size w w') := by
  have hpl := plus_any [x, y] (some ⟨b, 0, none⟩) 2 2 b 0 w rfl (by omega) (fun _ => rfl) (fun i hi => by
    have : i = 0 ∨ i = 1 := by omega
    rcases this with rfl | rfl
    · exact hL.range 0 2
    · exact hL.range 2 2)
  have hs : [x, y].sum = x + y := by simp
  rw [hs] at hpl
  exact hpl.mono fun e w' h => ⟨_, h.1, rfl, h.2⟩

/-! The state of the example. -/
noncomputable def zSta : List Value := Try.zeroCells36.toList
theorem zSta_len : zSta.length = 182 := by kernel_rfl
theorem zSta_one : ∀ v ∈ zSta, v.oneCell' = true := by
  have : zSta.all (fun v => v.oneCell') = true := by kernel_rfl
  exact List.all_eq_true.1 this
noncomputable def staCs (sl : Value) (fees forf : Int) : List Value := ((zSta.set 44 sl).set 177 (.int .i64 fees)).set 178 (.int .i64 forf)
theorem staCs_len (sl : Value) (x y : Int) : (staCs sl x y).length = 182 := by simp [staCs, zSta_len]
theorem staCs_one (A : Option Addr) (n c : Nat) (x y : Int) : ∀ v ∈ staCs (.slice A n c) x y, v.oneCell' = true := fun v hv => by
  unfold staCs at hv
  rcases List.mem_or_eq_of_mem_set hv with hv | rfl
  · rcases List.mem_or_eq_of_mem_set hv with hv | rfl
    · rcases List.mem_or_eq_of_mem_set hv with hv | rfl
      · exact zSta_one v hv
      · rfl
    · rfl
  · rfl
theorem staCs_sl (sl : Value) (x y : Int) : (staCs sl x y)[44]? = some sl := by
  unfold staCs
  rw [List.getElem?_set_ne (by omega), List.getElem?_set_ne (by omega), List.getElem?_set_self (by rw [zSta_len]; omega)]
theorem staCs_fees (sl : Value) (x y : Int) : (staCs sl x y)[177]? = some (.int .i64 x) := by
  unfold staCs
  rw [List.getElem?_set_ne (by omega), List.getElem?_set_self (by rw [List.length_set, zSta_len]; omega)]
theorem staCs_forf (sl : Value) (x y : Int) : (staCs sl x y)[178]? = some (.int .i64 y) := by
  unfold staCs
  rw [List.getElem?_set_self (by rw [List.length_set, List.length_set, zSta_len]; omega)]
theorem zSta_mint : zSta[179]? = some (.slice none 0 0) := by kernel_rfl
theorem staCs_mint (sl : Value) (x y : Int) : (staCs sl x y)[179]? = some (.slice none 0 0) := by
  unfold staCs
  rw [List.getElem?_set_ne (by omega), List.getElem?_set_ne (by omega), List.getElem?_set_ne (by omega), zSta_mint]
theorem build_sta (A : Option Addr) (n c : Nat) (x y : Int) (W : World) : (Instr.build 36 #[(2, .slice A n c), (7, .int .i64 x), (8, .int .i64 y)]).run Try.prog W = .ok (.agg (staCs (.slice A n c) x y).toArray) W := by
  refine run_build_struct (zs := zSta) (Try.zeroValue36 W) Try.underlying36 #[(0, 12), (12, 32), (44, 1), (45, 1), (46, 67), (113, 32), (145, 32), (177, 1), (178, 1), (179, 1), (180, 1), (181, 1)] (by kernel_rfl) _ _ ?_
  have z := zSta_len
  rw [fill_cons _ _ 2 _ _ 44 1 rfl rfl (by omega)]
  show Instr.fill _ (laid zSta 44 [.slice A n c]).toArray _ = _
  rw [laid_one _ _ _ (by omega), fill_cons _ _ 7 _ _ 177 1 rfl rfl (by rw [List.length_set]; omega)]
  show Instr.fill _ (laid (zSta.set 44 (.slice A n c)) 177 [.int .i64 x]).toArray _ = _
  rw [laid_one _ _ _ (by rw [List.length_set]; omega), fill_cons _ _ 8 _ _ 178 1 rfl rfl (by rw [List.length_set, List.length_set]; omega)]
  show Instr.fill _ (laid ((zSta.set 44 (.slice A n c)).set 177 (.int .i64 x)) 178 [.int .i64 y]).toArray _ = _
  rw [laid_one _ _ _ (by rw [List.length_set, List.length_set]; omega), fill_nil]
  rfl
def zGen : List Value := List.replicate 13 (.int .i64 0) ++ [.slice none 0 0]
theorem zGen_len : zGen.length = 14 := by kernel_rfl
theorem zGen_one : ∀ v ∈ zGen, v.oneCell' = true := by
  have : zGen.all (fun v => v.oneCell') = true := by kernel_rfl
  exact List.all_eq_true.1 this
noncomputable def genCs (sl : Value) : List Value := zGen.set 13 sl
theorem genCs_len (sl : Value) : (genCs sl).length = 14 := by simp [genCs, zGen_len]
theorem genCs_sl (sl : Value) : (genCs sl)[13]? = some sl := by
  unfold genCs
  rw [List.getElem?_set_self (by rw [zGen_len]; omega)]
theorem genCs_one (A : Option Addr) (n c : Nat) : ∀ v ∈ genCs (.slice A n c), v.oneCell' = true := fun v hv => by
  unfold genCs at hv
  rcases List.mem_or_eq_of_mem_set hv with hv | rfl
  · exact zGen_one v hv
  · rfl
theorem build_gen (A : Option Addr) (n c : Nat) (W : World) : (Instr.build 72 #[(2, .slice A n c)]).run Try.prog W = .ok (.agg (genCs (.slice A n c)).toArray) W := by
  refine run_build_struct (zs := zGen) (Try.zeroValue72 W) Try.underlying72 #[(0, 12), (12, 1), (13, 1)] (by kernel_rfl) _ _ ?_
  have z := zGen_len
  rw [fill_cons _ _ 2 _ _ 13 1 rfl rfl (by omega)]
  show Instr.fill _ (laid zGen 13 [.slice A n c]).toArray _ = _
  rw [laid_one _ _ _ (by omega), fill_nil]
  rfl
theorem build_out1 (v : List Value) (hv : v.length = 2) (W : World) : (Instr.build 49 #[(1, .agg v.toArray)]).run Try.prog W = .ok (.agg ((Value.bool false :: z32) ++ v ++ outTail).toArray) W := by
  refine run_build_struct (zs := (Value.bool false :: z32) ++ zVal ++ outTail) (Try.zeroValue49 W) Try.underlying49 #[(0, 33), (33, 2), (35, 1), (36, 32), (68, 1)] (by kernel_rfl) _ _ ?_
  have e2 := laid_mid (Value.bool false :: z32) zVal outTail v 33 rfl (by rw [hv]; rfl)
  rw [fill_cons _ _ 1 _ _ 33 2 rfl (by simpa [Value.cells] using hv) (by simp [zVal, outTail, z32])]
  show Instr.fill _ (laid _ 33 v).toArray _ = _
  rw [e2, fill_nil]
theorem build_wide1 (x : Int) (W : World) : (Instr.build 57 #[(1, .int .u64 x)]).run Try.prog W = .ok (.agg #[.int .i64 0, .int .u64 x]) W := by
  refine run_build_struct (zs := encW 0) (Try.zeroValue57 W) Try.underlying57 #[(0, 1), (1, 1)] (by kernel_rfl) _ [.int .i64 0, .int .u64 x] ?_
  rw [fill_cons _ _ 1 _ _ 1 1 rfl rfl (by simp [encW]), fill_nil]
  rfl

/-- An entry of entry's. -/
def eOf (n m x : Int) : Ent := ⟨entCs n m x, adCs m, ⟨x, []⟩⟩
theorem fine_ad (m : Int) (h : (Try.prog.keyLits (Try.prog.types.size + 1) 40 (adCs m)).isSome = true) : Fine Try.prog 40 (adCs m) :=
  ⟨Option.isSome_iff_exists.1 h, by rw [show (adCs m).length = 33 by simp [adCs, hash1]]; kernel_rfl⟩
theorem as_nil (w : World) : AsAt w (.slice none 0 0) [] := ⟨none, 0, 0, 0, rfl, by simp, by simp, by simp, by simp, by simp⟩
theorem ts_nil (w : World) : TsAt w (.slice none 0 0) [] := ⟨none, 0, 0, 0, rfl, by simp, by simp, by simp, by simp, by simp⟩
theorem en_eOf (w : World) (n m x : Int) (hx : i64 x) (hf : Fine Try.prog 40 (adCs m)) : enEnt w (eOf n m x) (entCs n m x) := by
  have h1 : (z32 ++ [Value.int .i64 n]).length = 33 := rfl
  have h2 : (adCs m).length = 33 := by simp [adCs, hash1]
  refine ⟨rfl, entCs_len _ _ _, ?_, ?_, hf, entCs_one _ _ _⟩
  · show ((entCs n m x).drop 33).take 33 = adCs m
    unfold entCs outCs
    rw [List.drop_append_of_le_length (by omega), List.drop_of_length_le (by omega), List.nil_append, List.append_assoc, List.take_append_of_le_length (by omega), List.take_of_length_le (by omega)]
  · have e : vc (eOf n m x) = valCs x := by
      show ((entCs n m x).drop 66).take 2 = _
      unfold entCs outCs
      have h3 : ((z32 ++ [Value.int .i64 n]) ++ (adCs m)).length = 66 := by rw [List.length_append, h1, h2]
      rw [show (z32 ++ [Value.int .i64 n]) ++ (adCs m ++ valCs x ++ outTail) = ((z32 ++ [Value.int .i64 n]) ++ adCs m) ++ (valCs x ++ outTail) by simp, List.drop_append_of_le_length (by omega), List.drop_of_length_le (by omega)]
      rfl
    rw [e]
    exact ⟨_, rfl, hx, as_nil w⟩
theorem two_cells {w : World} {b : Nat} {cs ds : List Value} {t : TypeId} {n : Nat} (h : Box w b (cs ++ ds) t) (hc : cs.length = n) (hd : ds.length = n) : w.rangeAt b (0 + 0 * n) cs ∧ w.rangeAt b (0 + 1 * n) ds := by
  have h1 := h.range 0 n
  have h2 := h.range n n
  rw [List.drop_zero, List.take_append_of_le_length (by omega), List.take_of_length_le (by omega)] at h1
  rw [List.drop_append_of_le_length (by omega), List.drop_of_length_le (by omega), List.nil_append, List.take_of_length_le (by omega)] at h2
  rw [Nat.zero_mul, Nat.one_mul, Nat.zero_add]
  exact ⟨h1, by rw [Nat.zero_add]; exact h2⟩
end Go.Proofs.Ytjmkkndglmapaaa
