/- Names of assets: their cells; value.of, value.Wide. -/
import Derived.Test.YtjmkkndglmapaaaWide
import Derived.Test.YtjmkkndglmapaaaMem
set_option linter.unusedSimpArgs false
set_option linter.unusedVariables false
namespace Go.Proofs.Ytjmkkndglmapaaa
open Go.ChangeShapes Go.WideShapes Go.RowKit

theorem hi_div (x : Int) (hx : -9223372036854775808 ≤ x ∧ x ≤ 9223372036854775807) : x / 9223372036854775808 = hiW x ∧ IntKind.u64.wrap x = loW x := by
  have e : IntKind.u64.wrap x = x % 18446744073709551616 := by unfold IntKind.wrap; simp [IntKind.signed, IntKind.bits]
  unfold hiW loW
  rw [e]
  exact ⟨by omega, rfl⟩

set_option maxRecDepth 100000 in
set_option maxHeartbeats 1000000 in
theorem wide_any (x : Int) (hx : -9223372036854775808 ≤ x ∧ x ≤ 9223372036854775807) (w : World) :
    Calls Try.prog 8 #[.int .i64 x] w fun e w' => e = .returned (.agg #[.int .i64 (hiW x), .int .u64 (loW x)]) ∧ Below w.heap.size w w' := by
  have e := hi_div x hx
  go_enter Try.func8, Try.ntmps8
  go_wp2
  refine bodyPost_ret (results_cell_row rfl _ _ w.heap.size 57 #[.int .i64 (hiW x), .int .u64 (loW x)] (0, 0) _ rfl ?_ Try.underlying57 rfl (by kernel_rfl)) rfl ⟨rfl, ?_⟩
  · first | exact heap_alloc_new w _ | (rw [heap_setCell_same _ _ _ _ _ _ (heap_setCell_same _ _ _ _ _ _ (heap_alloc_new w _))]; rfl)
  · first | exact (Below.refl _ w).alloc (Nat.le_refl _) _ | exact (((Below.refl _ w).alloc (Nat.le_refl _) _).setCell (Nat.le_refl _) _).setCell (Nat.le_refl _) _

theorem build_name (p : List Value) (s : ByteArray) (hp : p.length = 32) (W : World) : (Instr.build 93 #[(0, .agg p.toArray), (1, .string s)]).run Try.prog W = .ok (.agg (p ++ [Value.string s]).toArray) W := by
  refine run_build_struct (Try.zeroValue93 W) Try.underlying93 #[(0, 32), (32, 1)] (by kernel_rfl) _ _ ?_
  rw [fill_cons _ _ 0 _ _ 0 32 rfl (by simpa [Value.cells] using hp) (by simp), fill_cons _ _ 1 _ _ 32 1 rfl rfl (by rw [laid_len _ _ _ (by simp [Value.cells, hp])]; simp), fill_nil]
  congr 2
  simp [laid, Value.cells, hp]

/-- A name's cells, none said. -/
def zName : List Value := List.replicate 32 (.int .u8 0) ++ [.string ⟨#[]⟩]
/-- Each a value of one cell. -/
def Ones (cs : List Value) : Prop := ∀ v ∈ cs, v.oneCell' = true
theorem Ones.all {cs : List Value} (h : Ones cs) : cs.toArray.all (·.oneCell') = true := all_oneCell_toArray h
theorem Ones.take {cs : List Value} (h : Ones cs) (n : Nat) : Ones (cs.take n) := fun v hv => h v (List.mem_of_mem_take hv)
theorem Ones.drop {cs : List Value} (h : Ones cs) (n : Nat) : Ones (cs.drop n) := fun v hv => h v (List.mem_of_mem_drop hv)
theorem Ones.append {cs ds : List Value} (h : Ones cs) (k : Ones ds) : Ones (cs ++ ds) := fun v hv => (List.mem_append.1 hv).elim (h v) (k v)

theorem size_alloc (w : World) (o : Obj) : (w.alloc o).heap.size = w.heap.size + 1 := by show (w.heap.push o).size = _; simp

set_option maxRecDepth 100000 in
set_option maxHeartbeats 1000000 in
theorem of_any (p : List Value) (s : ByteArray) (n : Value) (hp : p.length = 32) (ho : Ones p) (w : World) :
    Calls Try.prog 28 #[.agg (p ++ [.string s, n]).toArray] w fun e w' => e = .returned (.agg (p ++ [Value.string s]).toArray) ∧ Below w.heap.size w w' := by
  have hB0 := Box.new w (p ++ [.string s, n]) 97
  generalize hc : (p ++ [.string s, n] : List Value) = cs at *
  have h0 : (cs.drop 0).take 32 = p := by rw [← hc]; simp [hp]
  have hs : cs[32]? = some (.string s) := by rw [← hc]; simp [hp]
  have hsz : (Try.prog.info? 27).map (·.size) = some p.length := by rw [hp]; kernel_rfl
  have hb1 : Below w.heap.size w (w.alloc (.cells cs.toArray 97)) := (Below.refl _ w).alloc (Nat.le_refl _) _
  have hB1 := hB0.alloc (.cells zName.toArray 93)
  have hr := hB1.range 0 32
  rw [h0] at hr
  have hB2 := Box.new (w.alloc (.cells cs.toArray 97)) zName 93
  rw [size_alloc] at hB2
  have hl : (p ++ [Value.string s]).length = 33 := by simp [hp]
  have hone : Ones (p ++ [Value.string s]) := ho.append (fun v hv => by simp at hv; subst hv; rfl)
  have Hp := Lib.hid hp
  have HL := Lib.hid hl
  have HB2 := Lib.hid hB2
  have Hone := Lib.hid hone
  have Hb1 := Lib.hid hb1
  clear hc h0 hB0 hB1 hB2 hl hone hp ho hb1
  go_enter Try.func28, Try.ntmps28
  go_wp2_with (first
    | (refine wpList_load_mid rfl 27 _ rfl w.heap.size 0 rfl p _ hr Try.underlying27 rfl hsz ?_; simp only [Act.put, List.setIfInBounds_toArray, List.set_cons_zero, List.set_cons_succ])
    | (refine wpList_build rfl 93 _ rfl [(0, .agg p.toArray), (1, .string s)] rfl _ (build_name p s Hp.out) ?_; simp only [Act.put, List.setIfInBounds_toArray, List.set_cons_zero, List.set_cons_succ])
    | (refine wpList_store_mid rfl 93 _ _ rfl (w.heap.size + 1) 0 _ rfl rfl (HB2.out.there 0 _ (by simp [Hp.out, zName])) (by rw [List.size_toArray, HL.out]; kernel_rfl) Hone.out.all ?_; simp only [Act.put, List.setIfInBounds_toArray, List.set_cons_zero, List.set_cons_succ]))
  refine bodyPost_ret (results_box rfl _ _ (w.heap.size + 1) 93 (p ++ [Value.string s]) _ rfl ?_ Try.underlying93 rfl (by rw [HL.out]; kernel_rfl)) rfl ⟨rfl, ?_⟩
  · have := HB2.out.setCells (p ++ [Value.string s]) 0 _ zName (by simp [Hp.out, zName])
    rwa [laid_all _ _ (by rw [HL.out]; rfl)] at this
  · exact below_setCells (Hb1.out.alloc (by rw [size_alloc]; omega) _) (by omega) _ _
end Go.Proofs.Ytjmkkndglmapaaa
