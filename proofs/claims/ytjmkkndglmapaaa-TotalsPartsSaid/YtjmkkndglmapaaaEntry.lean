/- moidorelaw27.entry. -/
import Derived.Test.YtjmkkndglmapaaaGreat0
set_option linter.unusedSimpArgs false
set_option linter.unusedVariables false
namespace Go.Proofs.Ytjmkkndglmapaaa
open Go.RowKit Go.Shelf Go.Lib Go.Sort Go.WideShapes Go.ChangeShapes

def z32 : List Value := List.replicate 32 (.int .u8 0)
def hash1 (m : Int) : List Value := .int .u8 m :: List.replicate 31 (.int .u8 0)
def adCs (m : Int) : List Value := .bool false :: hash1 m
def valCs (x : Int) : List Value := [.int .i64 x, .slice none 0 0]
def outTail : List Value := [.int .i64 0] ++ z32 ++ [.slice none 0 0]
def outCs (m x : Int) : List Value := adCs m ++ valCs x ++ outTail
def entCs (n m x : Int) : List Value := z32 ++ [.int .i64 n] ++ outCs m x

theorem build_ref (n : Int) (W : World) : (Instr.build 38 #[(1, .int .i64 n)]).run Try.prog W = .ok (.agg (z32 ++ [Value.int .i64 n]).toArray) W := by
  refine run_build_struct (zs := z32 ++ [.int .i64 0]) (Try.zeroValue38 W) Try.underlying38 #[(0, 32), (32, 1)] (by kernel_rfl) _ _ ?_
  rw [fill_cons _ _ 1 _ _ 32 1 rfl rfl (by simp [z32]), fill_nil]
  rfl
theorem build_addr (h : List Value) (hl : h.length = 32) (W : World) : (Instr.build 40 #[(1, .agg h.toArray)]).run Try.prog W = .ok (.agg (Value.bool false :: h).toArray) W := by
  refine run_build_struct (zs := Value.bool false :: z32) (Try.zeroValue40 W) Try.underlying40 #[(0, 1), (1, 32)] (by kernel_rfl) _ _ ?_
  have e := laid_mid [Value.bool false] z32 [] h 1 rfl (by rw [hl]; rfl)
  rw [List.append_nil, List.append_nil] at e
  rw [fill_cons _ _ 1 _ _ 1 32 rfl (by simpa [Value.cells] using hl) (by simp [z32]), fill_nil]
  show some (laid ([Value.bool false] ++ z32) 1 h).toArray = _
  rw [e]
  rfl
theorem build_val (x : Int) (W : World) : (Instr.build 43 #[(0, .int .i64 x)]).run Try.prog W = .ok (.agg (valCs x).toArray) W := by
  refine run_build_struct (zs := zVal) (Try.zeroValue43 W) Try.underlying43 #[(0, 1), (1, 1)] (by kernel_rfl) _ _ ?_
  rw [fill_cons _ _ 0 _ _ 0 1 rfl rfl (by simp [zVal]), fill_nil]
  rfl
theorem build_hash (m : Int) (W : World) : (Instr.build 27 #[(0, .int .u8 m)]).run Try.prog W = .ok (.agg (hash1 m).toArray) W := by
  unfold Instr.build
  rw [Sem.run_bind, show (zeroValue 27).run Try.prog W = .ok (.agg z32.toArray) W from Try.zeroValue27 W]
  simp only [Result.andThen_ok, Value.cells]
  rw [Sem.run_bind, run_underlying Try.underlying27]
  simp only [Result.andThen_ok]
  rw [Sem.run_bind, Try.sizeOf5]
  simp only [Result.andThen_ok]
  have e : Instr.fill (fun i => some (i * 1, 1)) z32.toArray [(0, .int .u8 m)] = some (hash1 m).toArray := by
    rw [fill_cons _ _ 0 _ _ 0 1 rfl rfl (by simp [z32]), fill_nil]
    rfl
  rw [e]
  rfl
theorem build_out (a v : List Value) (ha : a.length = 33) (hv : v.length = 2) (W : World) : (Instr.build 49 #[(0, .agg a.toArray), (1, .agg v.toArray)]).run Try.prog W = .ok (.agg (a ++ v ++ outTail).toArray) W := by
  refine run_build_struct (zs := (Value.bool false :: z32) ++ zVal ++ outTail) (Try.zeroValue49 W) Try.underlying49 #[(0, 33), (33, 2), (35, 1), (36, 32), (68, 1)] (by kernel_rfl) _ _ ?_
  have e1 : laid ((Value.bool false :: z32) ++ zVal ++ outTail) 0 a = a ++ zVal ++ outTail := by
    have := laid_mid [] (Value.bool false :: z32) (zVal ++ outTail) a 0 rfl (by rw [ha]; rfl)
    simpa using this
  have e2 := laid_mid a zVal outTail v 33 ha (by rw [hv]; rfl)
  rw [fill_cons _ _ 0 _ _ 0 33 rfl (by simpa [Value.cells] using ha) (by simp [z32])]
  show Instr.fill _ (laid _ 0 a).toArray _ = _
  rw [e1, fill_cons _ _ 1 _ _ 33 2 rfl (by simpa [Value.cells] using hv) (by simp [ha, zVal, outTail, z32])]
  show Instr.fill _ (laid _ 33 v).toArray _ = _
  rw [e2, fill_nil]
theorem zEnt_is : zEnt = (z32 ++ [Value.int .i64 0]) ++ ((Value.bool false :: z32) ++ zVal ++ outTail) := by kernel_rfl
theorem build_ent (r u : List Value) (hr : r.length = 33) (hu : u.length = 69) (W : World) : (Instr.build 51 #[(0, .agg r.toArray), (1, .agg u.toArray)]).run Try.prog W = .ok (.agg (r ++ u).toArray) W := by
  refine run_build_struct (zs := zEnt) (Try.zeroValue51 W) Try.underlying51 #[(0, 33), (33, 69)] (by kernel_rfl) _ _ ?_
  have e1 : laid zEnt 0 r = r ++ ((Value.bool false :: z32) ++ zVal ++ outTail) := by
    rw [zEnt_is]
    have := laid_mid [] (z32 ++ [Value.int .i64 0]) ((Value.bool false :: z32) ++ zVal ++ outTail) r 0 rfl (by rw [hr]; rfl)
    simpa using this
  have e2 := laid_mid r ((Value.bool false :: z32) ++ zVal ++ outTail) [] u 33 hr (by rw [hu]; rfl)
  rw [List.append_nil, List.append_nil] at e2
  rw [fill_cons _ _ 0 _ _ 0 33 rfl (by simpa [Value.cells] using hr) (by rw [zEnt_len]; omega)]
  show Instr.fill _ (laid _ 0 r).toArray _ = _
  rw [e1, fill_cons _ _ 1 _ _ 33 69 rfl (by simpa [Value.cells] using hu) (by rw [List.length_append, hr]; simp [z32, zVal, outTail])]
  show Instr.fill _ (laid _ 33 u).toArray _ = _
  rw [e2, fill_nil]

theorem entCs_len (n m x : Int) : (entCs n m x).length = 102 := by simp [entCs, outCs, adCs, hash1, valCs, outTail, z32]
theorem entCs_one (n m x : Int) : ∀ v ∈ entCs n m x, v.oneCell' = true := fun v hv => by
  simp only [entCs, outCs, adCs, hash1, valCs, outTail, z32, List.mem_append, List.mem_cons, List.mem_replicate, List.not_mem_nil, or_false] at hv
  rcases hv with (⟨_, rfl⟩ | rfl) | ((rfl | rfl | ⟨_, rfl⟩) | rfl | rfl) | (rfl | ⟨_, rfl⟩) | rfl <;> rfl

set_option maxRecDepth 100000 in
theorem entry_any (n m x : Int) (hm : IntKind.u8.wrap n = m) (w : World) : Calls Try.prog 15 #[.int .i64 n, .int .i64 x] w fun e w' => e = .returned (.agg (entCs n m x).toArray) ∧ Below w.heap.size w w' := by
  go_enter Try.func15, Try.ntmps15
  go_wp2_with (first
    | (refine wpList_alloc_box rfl 51 rfl _ Try.zeroValue51 zEnt rfl ?_; intro W1 hx1 hb1 hs1; simp only [Act.put, List.setIfInBounds_toArray, List.set_cons_zero, List.set_cons_succ])
    | (refine wpList_build rfl 38 _ rfl [(1, .int .i64 n)] rfl _ (build_ref n) ?_; simp only [Act.put, List.setIfInBounds_toArray, List.set_cons_zero, List.set_cons_succ])
    | (refine wpList_build rfl 27 _ rfl [(0, .int .u8 m)] (by rw [← hm]; rfl) _ (build_hash m) ?_; simp only [Act.put, List.setIfInBounds_toArray, List.set_cons_zero, List.set_cons_succ])
    | (refine wpList_build rfl 40 _ rfl [(1, .agg (hash1 m).toArray)] rfl _ (build_addr (hash1 m) (by simp [hash1])) ?_; simp only [Act.put, List.setIfInBounds_toArray, List.set_cons_zero, List.set_cons_succ])
    | (refine wpList_build rfl 43 _ rfl [(0, .int .i64 x)] rfl _ (build_val x) ?_; simp only [Act.put, List.setIfInBounds_toArray, List.set_cons_zero, List.set_cons_succ])
    | (refine wpList_build rfl 49 _ rfl [(0, .agg (adCs m).toArray), (1, .agg (valCs x).toArray)] rfl _ (build_out (adCs m) (valCs x) (by simp [adCs, hash1]) rfl) ?_; simp only [Act.put, List.setIfInBounds_toArray, List.set_cons_zero, List.set_cons_succ])
    | (refine wpList_build rfl 51 _ rfl [(0, .agg (z32 ++ [Value.int .i64 n]).toArray), (1, .agg (outCs m x).toArray)] rfl _ (build_ent _ (outCs m x) rfl (by simp [outCs, adCs, hash1, valCs, outTail, z32])) ?_; simp only [Act.put, List.setIfInBounds_toArray, List.set_cons_zero, List.set_cons_succ])
    | (refine wpList_store_box rfl 51 _ _ rfl w.heap.size 0 (entCs n m x) rfl rfl zEnt _ hx1 (by rw [entCs_len, zEnt_len]; omega) (by rw [entCs_len]; kernel_rfl) (entCs_one n m x) ?_; intro W2 hx2 ho2; simp only [Act.put, List.setIfInBounds_toArray, List.set_cons_zero, List.set_cons_succ]))
  refine bodyPost_ret (results_box rfl _ _ w.heap.size 51 (entCs n m x) _ rfl (box_laid hx2 (by rw [entCs_len, zEnt_len])) Try.underlying51 rfl (by rw [entCs_len]; kernel_rfl)) rfl ⟨rfl, hb1.trans ((ho2.below (Nat.le_refl _)))⟩
end Go.Proofs.Ytjmkkndglmapaaa
