/- value.book's methods: add. -/
import Derived.Test.YtjmkkndglmapaaaBook
import Derived.Test.YtjmkkndglmapaaaWide
set_option linter.unusedSimpArgs false
set_option linter.unusedVariables false
namespace Go.Proofs.Ytjmkkndglmapaaa
open Go.ChangeShapes Go.WideShapes Go.RowKit

theorem run_lookup_op {P : Program} {o : Oper} {a : Act} {t : TypeId} {x y : Operand} {b : Bool} {m k : Value} {w : World} (ho : o.op = .lookup t x y b) (hm : a.eval x = m) (hk : a.eval y = k) :
    (execOp a.eval o).run P w = ((Instr.lookup t m k b).run P w).andThen fun v w' => .ok (.value v) w' := by
  unfold execOp
  simp only [ho, hm, hk, Sem.run_bind]
  rfl

theorem run_load_op {P : Program} {o : Oper} {a : Act} {t : TypeId} {x : Operand} {p : Addr} {v : Value} {w : World} (ho : o.op = .load t x) (hx : a.eval x = .pointer (some p)) (h : (loadVar t p).run P w = .ok v w) :
    (execOp a.eval o).run P w = .ok (.value v) w := by
  unfold execOp
  simp only [ho, hx, Instr.loadAt, Instr.sureAddr, Sem.run_bind, Sem.run_pure, Result.andThen_ok, h]

theorem rangeAt_only {w W : World} {m b o : Nat} {cs : List Value} (h : w.rangeAt b o cs) (ho : Only m w W) (hb : b ≠ m) : W.rangeAt b o cs := fun j v hv => by
  rw [World.cell?_of_block (ho.block b hb)]
  exact h j v hv

section
variable {ops : Array Oper} {Q : Exit → Act → World → Prop} {md : Region.Mode} {S : World → Prop} {fuel : Nat} {listed : Array Bool} {a : Act} {w : World}
theorem hw_update (i : Nat) (o : Oper) (hd : o.dst = none) (hr : Region.ready md ops listed = [i]) (hi : ops[i]? = some o) (hg : o.guard = none) (mx kx vx : Operand) (ho : o.op = .mapUpdate 90 mx kx vx) (m : Nat) (k : Key) (v : Int)
    (hm : a.eval mx = .map (some m)) (hk : a.eval kx = .agg (encK k).toArray) (hv : a.eval vx = .agg (encW v).toArray) {L : List (Key × Int × Nat)} {c : Nat} (h : BookAt w m L c) (hok : okK k)
    (hK : ∀ L' c' w', BookAt w' m L' c' → Only m w w' → L'.length ≤ L.length + 1 → valAt L' k = v → (∀ k', k' ≠ k → valAt L' k' = valAt L k') → (∀ x ∈ L', x.1 = k ∨ ∃ y ∈ L, y.1 = x.1) → S w' ∧ wpAnyH Try.prog md ops Q S fuel (listed.setIfInBounds i true) a w') :
    wpAnyH Try.prog md ops Q S (fuel + 1) listed a w :=
  hw_only i o hr hi hg fun K' hK' => by
    obtain ⟨L', c', w', hrun, h1, h2, h3, h4, h5, h6⟩ := h.update hok v
    obtain ⟨g1, g2⟩ := hK L' c' w' h1 h2 h3 h4 h5 h6
    unfold Oper.wp execOp
    simp only [ho, hm, hk, hv]
    rw [Sem.run_bind, hrun]
    have e : a.put o.dst undef = a := by rw [hd]; rfl
    show K' (a.put o.dst undef) w'
    rw [e]
    exact hK' _ _ g1 g2
end

/-- What one more of a name makes of a book. -/
structure Added (L L' : List (Key × Int × Nat)) (k : Key) (x : Int) : Prop where
  len : L'.length ≤ L.length + 1
  here : valAt L' k = valAt L k + x
  else_ : ∀ k', k' ≠ k → valAt L' k' = valAt L k'
  keys : ∀ y ∈ L', y.1 = k ∨ ∃ z ∈ L, z.1 = y.1

theorem grownBy_steps {w W w1 w2 : World} {m : Nat} (hm : m < w.heap.size) (h1 : Below w.heap.size w W) (h2 : Below W.heap.size W w1) (h3 : Only m w1 w2) : w.grownBy w2 (some m) := by
  have hb := h1.trans (h2.mono h1.size)
  exact ⟨h3.os.trans hb.os, h3.tape.trans hb.tape, h3.output.trans hb.output, by rw [h3.size]; exact hb.size, fun k hk hne => (h3.block k (fun e => hne (by rw [e]))).trans (hb.block k hk)⟩

set_option maxRecDepth 100000 in
set_option maxHeartbeats 1000000 in
theorem add_any (m : Nat) (L : List (Key × Int × Nat)) (c : Nat) (k : Key) (x : Int) (hk : okK k) (w : World) (h : BookAt w m L c) :
    Calls Try.prog 26 #[.map (some m), .agg (encK k).toArray, .agg (encW x).toArray] w fun e w' => e = .returned (.tuple #[]) ∧ (∃ L' c', BookAt w' m L' c' ∧ Added L L' k x) ∧ w.grownBy w' (some m) := by
  have hA := (Box.new w (encK k) 93).alloc (.cells (encW x).toArray 57)
  have hX := Box.new (w.alloc (.cells (encK k).toArray 93)) (encW x) 57
  rw [size_alloc] at hX
  have hb0 : Below w.heap.size w (((w.alloc (.cells (encK k).toArray 93)).alloc (.cells (encW x).toArray 57)).drew) := (((Below.refl _ w).alloc (Nat.le_refl _) _).alloc (by rw [size_alloc]; omega) _).drew
  have hM := h.below hb0
  have hl := hM.lookup hk
  have HA := Lib.hid (Box.drew hA).whole
  have HX := Lib.hid (Box.drew hX).whole
  have HZ : Hid ((Try.prog.info? 93).map (·.size) = some (encK k).length) := by show _ = _; rw [encK_len k hk.1]; kernel_rfl
  have HZ2 : Hid ((Try.prog.info? 57).map (·.size) = some (encW x).length) := by show _ = some 2; kernel_rfl
  have HL := Lib.hid hl
  have HB := Lib.hid hb0
  have HM := Lib.hid hM
  have Hk := Lib.hid hk
  have Hh := Lib.hid h
  clear hA hX hl hb0 hM hk h
  go_enter Try.func26, Try.ntmps26
  go_wp2
  refine hw_begin (fun W => W.rangeAt w.heap.size 0 (encK k) ∧ W.rangeAt (w.heap.size + 1) 0 (encW x)) mixed fun W hW => ?_
  rw [← hW] at HA HX HL HB HM
  clear hW
  have hS : W.rangeAt w.heap.size 0 (encK k) ∧ W.rangeAt (w.heap.size + 1) 0 (encW x) := ⟨HA.out, HX.out⟩
  have hb2 : Below W.heap.size W (W.alloc (.cells (encW (valAt L k) ++ encW x).toArray 57)) := (Below.refl _ W).alloc (Nat.le_refl _) _
  have hB := Box.new W (encW (valAt L k) ++ encW x) 57
  have hp := plus_any [valAt L k, x] (some ⟨W.heap.size, 0, none⟩) 2 2 W.heap.size 0 _ rfl (by omega) (fun _ => rfl) (fun i hi => by
    have : i = 0 ∨ i = 1 := by omega
    rcases this with rfl | rfl
    · exact hB.range 0 2
    · exact hB.range 2 2)
  have hs : [valAt L k, x].sum = valAt L k + x := by simp
  rw [hs] at hp
  have hM2 := HM.out.below hb2
  have HP := Lib.hid hp
  have HM2 := Lib.hid hM2
  clear hB hp hs hM2
  refine hw_take 0 (some 6) _ rfl rfl (by kernel_rfl) (by kernel_rfl) (by kernel_rfl) (fun _ _ _ _ h => h) (.map (some m)) rfl (fun W _ => by go_simp) hS ?_
  simp only [Act.put, List.setIfInBounds_toArray, List.set_cons_zero, List.set_cons_succ]
  refine hw_take 1 (some 7) _ rfl rfl (by kernel_rfl) (by kernel_rfl) (by kernel_rfl) (fun _ _ _ _ h => h) (.agg (encK k).toArray) rfl (fun W hW => run_load_op rfl rfl (run_loadVar_mid W _ _ _ _ _ hW.1 Try.underlying93 rfl HZ.out)) hS ?_
  simp only [Act.put, List.setIfInBounds_toArray, List.set_cons_zero, List.set_cons_succ]
  refine hw_take 2 (some 8) _ rfl rfl (by kernel_rfl) (by kernel_rfl) (by kernel_rfl) (fun _ _ _ _ h => h) (.map (some m)) rfl (fun W _ => by go_simp) hS ?_
  simp only [Act.put, List.setIfInBounds_toArray, List.set_cons_zero, List.set_cons_succ]
  refine hw_take 3 (some 9) _ rfl rfl (by kernel_rfl) (by kernel_rfl) (by kernel_rfl) (fun _ _ _ _ h => h) (.agg (encK k).toArray) rfl (fun W hW => run_load_op rfl rfl (run_loadVar_mid W _ _ _ _ _ hW.1 Try.underlying93 rfl HZ.out)) hS ?_
  simp only [Act.put, List.setIfInBounds_toArray, List.set_cons_zero, List.set_cons_succ]
  refine hw_take 5 (some 11) _ rfl rfl (by kernel_rfl) (by kernel_rfl) (by kernel_rfl) (fun _ _ _ _ h => h) (.agg #[.int .i64 (hiW x), .int .u64 (loW x)]) rfl (fun W hW => run_load_op rfl rfl (run_loadVar_mid W _ _ _ _ _ hW.2 Try.underlying57 rfl HZ2.out)) hS ?_
  simp only [Act.put, List.setIfInBounds_toArray, List.set_cons_zero, List.set_cons_succ]
  refine hw_value 4 (some 10) _ rfl (by kernel_rfl) rfl rfl (.agg #[.int .i64 (hiW (valAt L k)), .int .u64 (loW (valAt L k))]) W (by rw [run_lookup_op (P := Try.prog) (t := 90) (m := .map (some m)) (k := .agg (encK k).toArray) rfl rfl rfl, HL.out]; rfl) hS ?_
  simp only [Act.put, List.setIfInBounds_toArray, List.set_cons_zero, List.set_cons_succ]
  refine hw_value 6 (some 12) _ rfl (by kernel_rfl) rfl rfl (.slice (some ⟨W.heap.size, 0, none⟩) 2 2) (W.alloc (.cells #[.int .i64 (hiW (valAt L k)), .int .u64 (loW (valAt L k)), .int .i64 (hiW x), .int .u64 (loW x)] 57)) (by go_simp) ⟨rangeAt_below hS.1 hb2, rangeAt_below hS.2 hb2⟩ ?_
  simp only [Act.put, List.setIfInBounds_toArray, List.set_cons_zero, List.set_cons_succ]
  refine hw_call 7 (some 13) _ rfl (by kernel_rfl) rfl rfl 7 _ (fun v w' => v = .agg (encW (valAt L k + x)).toArray ∧ Below (W.alloc (.cells (encW (valAt L k) ++ encW x).toArray 57)).heap.size (W.alloc (.cells (encW (valAt L k) ++ encW x).toArray 57)) w') (by go_simp) (HP.out.mono fun e w' h => ⟨_, h.1, rfl, h.2⟩) ?_
  rintro v w1 ⟨rfl, hb3⟩
  refine ⟨⟨rangeAt_below (rangeAt_below hS.1 hb2) hb3, rangeAt_below (rangeAt_below hS.2 hb2) hb3⟩, ?_⟩
  simp only [Act.put, List.setIfInBounds_toArray, List.set_cons_zero, List.set_cons_succ]
  refine hw_update 8 _ rfl (by kernel_rfl) rfl rfl _ _ _ rfl m k (valAt L k + x) rfl rfl rfl (HM2.out.below hb3) Hk.out ?_
  intro L' c' w2 h1 h2 h3 h4 h5 h6
  refine ⟨⟨rangeAt_only (rangeAt_below (rangeAt_below hS.1 hb2) hb3) h2 (by have := Hh.out.lt; omega), rangeAt_only (rangeAt_below (rangeAt_below hS.2 hb2) hb3) h2 (by have := Hh.out.lt; omega)⟩, ?_⟩
  refine hw_done (by kernel_rfl) ?_
  go_wp2
  go_end0
  exact ⟨rfl, ⟨L', c', h1, h3, h4, h5, h6⟩, grownBy_steps Hh.out.lt HB.out (hb2.trans (hb3.mono (show W.heap.size ≤ _ by rw [size_alloc]; omega))) h2⟩
end Go.Proofs.Ytjmkkndglmapaaa
