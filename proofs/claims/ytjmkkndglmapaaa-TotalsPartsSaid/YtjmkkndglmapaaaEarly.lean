/- moidorelaw27.TotalsParts where the state, or the entry, is too great; all together. -/
import Derived.Test.YtjmkkndglmapaaaParts
import Derived.Test.YtjmkkndglmapaaaFrom
set_option linter.unusedSimpArgs false
set_option linter.unusedVariables false
namespace Go.Proofs.Ytjmkkndglmapaaa
open Go.RowKit Go.Shelf Go.Lib Go.Sort Go.WideShapes Go.ChangeShapes

set_option maxRecDepth 100000 in
set_option maxHeartbeats 4000000 in
theorem parts_great (cs xs : List Value) (nO : Int) (w : World) (hls : cs.length = 182) (hlx : xs.length = 102)
    (hG : ∀ W, Below w.heap.size w W → Calls Try.prog 5 #[.agg cs.toArray] W fun e w' => e = .returned (.bool true) ∧ Below W.heap.size W w')
    (hO : ∀ W, Below w.heap.size w W → Calls Try.prog 6 #[.agg (xs.drop 33).toArray, .int .i64 6000] W fun e w' => e = .returned (.int .i64 nO) ∧ Below W.heap.size W w') :
    Calls Try.prog 3 #[.agg cs.toArray, .agg xs.toArray] w fun e w' => e = .returned (.bool true) ∧ Below w.heap.size w w' := by
  have HLS := Lib.hid hls
  have HLX := Lib.hid hlx
  have HG := Lib.hid hG
  have HO := Lib.hid hO
  clear hls hlx hG hO
  go_enter Try.func3, Try.ntmps3
  go_wp2_with (first
    | (refine wpList_box_box rfl 36 _ rfl cs rfl ?_; intro W1 hx1 hb1 hs1; simp only [Act.put, List.setIfInBounds_toArray, List.set_cons_zero, List.set_cons_succ])
    | (refine wpList_box_box rfl 51 _ rfl xs rfl ?_; intro W2 hx2 hb2 hs2; have HB2 := Lib.hid (hb1.trans (hb2.mono hb1.size)); have HX1 := Lib.hid (hx1.below hb2); have HX2 := Lib.hid hx2; have HN2 := Lib.hid hs1; clear hx1 hb1 hs1 hx2 hb2 hs2; generalize W1.heap.size = p3 at *; simp only [Act.put, List.setIfInBounds_toArray, List.set_cons_zero, List.set_cons_succ])
    | (go_at_call 4; refine (awake_any W2).mono ?_; rintro e w3 ⟨rfl, hb3⟩; have HB3 := Lib.hid (HB2.out.trans (hb3.mono HB2.out.size)); have HX13 := Lib.hid (HX1.out.below hb3); have HX23 := Lib.hid (HX2.out.below hb3); clear hb3)
    | (refine wl_value (o := ⟨some 24, _, _, _, _, _⟩) (by rfl) (.agg cs.toArray) _ (run_load_op rfl rfl (run_loadVar_mid _ _ _ _ _ _ HX13.out.whole Try.underlying36 rfl (by rw [HLS.out]; kernel_rfl))) ?_; simp only [Act.put, List.setIfInBounds_toArray, List.set_cons_zero, List.set_cons_succ])
    | (go_at_call 5; refine (HG.out w3 HB3.out).mono ?_; rintro e w4 ⟨rfl, hb4⟩; have HB4 := Lib.hid (HB3.out.trans (hb4.mono HB3.out.size)); have HX14 := Lib.hid (HX13.out.below hb4); have HX24 := Lib.hid (HX23.out.below hb4); clear hb4)
    | (refine wl_value (o := ⟨some 28, _, _, _, _, _⟩) (by rfl) (.agg (xs.drop 33).toArray) _ (run_load_op rfl rfl (run_loadVar_mid _ p3 33 _ (xs.drop 33) _ (by have := HX24.out.range 33 69; rw [List.take_of_length_le (by rw [List.length_drop, HLX.out]; omega)] at this; exact this) Try.underlying49 rfl (by rw [List.length_drop, HLX.out]; kernel_rfl))) ?_; simp only [Act.put, List.setIfInBounds_toArray, List.set_cons_zero, List.set_cons_succ])
    | (refine wl_call (o := ⟨some 29, _, _, _, _, _⟩) (by rfl) 6 #[.agg (xs.drop 33).toArray, .int .i64 6000] (fun v w' => v = .int .i64 nO ∧ Below w4.heap.size w4 w') (by go_simp) ((HO.out w4 HB4.out).mono fun e w' h => ⟨_, h.1, rfl, h.2⟩) ?_; rintro v5 w5 ⟨rfl, hb5⟩; have HB5 := Lib.hid (HB4.out.trans (hb5.mono HB4.out.size)); have HX15 := Lib.hid (HX14.out.below hb5); have HX25 := Lib.hid (HX24.out.below hb5); clear hb5; simp only [Act.put, List.setIfInBounds_toArray, List.set_cons_zero, List.set_cons_succ]))
  go_ret
  exact ⟨rfl, HB4.out⟩

set_option maxRecDepth 100000 in
set_option maxHeartbeats 4000000 in
theorem parts_far (cs xs : List Value) (nO : Int) (w : World) (hls : cs.length = 182) (hlx : xs.length = 102) (hn : 6000 < nO)
    (hG : ∀ W, Below w.heap.size w W → Calls Try.prog 5 #[.agg cs.toArray] W fun e w' => e = .returned (.bool false) ∧ Below W.heap.size W w')
    (hO : ∀ W, Below w.heap.size w W → Calls Try.prog 6 #[.agg (xs.drop 33).toArray, .int .i64 6000] W fun e w' => e = .returned (.int .i64 nO) ∧ Below W.heap.size W w') :
    Calls Try.prog 3 #[.agg cs.toArray, .agg xs.toArray] w fun e w' => e = .returned (.bool true) ∧ Below w.heap.size w w' := by
  have HLS := Lib.hid hls
  have HLX := Lib.hid hlx
  have HG := Lib.hid hG
  have HO := Lib.hid hO
  clear hls hlx hG hO
  go_enter Try.func3, Try.ntmps3
  go_wp2_with (first
    | (refine wpList_box_box rfl 36 _ rfl cs rfl ?_; intro W1 hx1 hb1 hs1; simp only [Act.put, List.setIfInBounds_toArray, List.set_cons_zero, List.set_cons_succ])
    | (refine wpList_box_box rfl 51 _ rfl xs rfl ?_; intro W2 hx2 hb2 hs2; have HB2 := Lib.hid (hb1.trans (hb2.mono hb1.size)); have HX1 := Lib.hid (hx1.below hb2); have HX2 := Lib.hid hx2; have HN2 := Lib.hid hs1; clear hx1 hb1 hs1 hx2 hb2 hs2; generalize W1.heap.size = p3 at *; simp only [Act.put, List.setIfInBounds_toArray, List.set_cons_zero, List.set_cons_succ])
    | (go_at_call 4; refine (awake_any W2).mono ?_; rintro e w3 ⟨rfl, hb3⟩; have HB3 := Lib.hid (HB2.out.trans (hb3.mono HB2.out.size)); have HX13 := Lib.hid (HX1.out.below hb3); have HX23 := Lib.hid (HX2.out.below hb3); clear hb3)
    | (refine wl_value (o := ⟨some 24, _, _, _, _, _⟩) (by rfl) (.agg cs.toArray) _ (run_load_op rfl rfl (run_loadVar_mid _ _ _ _ _ _ HX13.out.whole Try.underlying36 rfl (by rw [HLS.out]; kernel_rfl))) ?_; simp only [Act.put, List.setIfInBounds_toArray, List.set_cons_zero, List.set_cons_succ])
    | (go_at_call 5; refine (HG.out w3 HB3.out).mono ?_; rintro e w4 ⟨rfl, hb4⟩; have HB4 := Lib.hid (HB3.out.trans (hb4.mono HB3.out.size)); have HX14 := Lib.hid (HX13.out.below hb4); have HX24 := Lib.hid (HX23.out.below hb4); clear hb4)
    | (refine wl_value (o := ⟨some 28, _, _, _, _, _⟩) (by rfl) (.agg (xs.drop 33).toArray) _ (run_load_op rfl rfl (run_loadVar_mid _ p3 33 _ (xs.drop 33) _ (by have := HX24.out.range 33 69; rw [List.take_of_length_le (by rw [List.length_drop, HLX.out]; omega)] at this; exact this) Try.underlying49 rfl (by rw [List.length_drop, HLX.out]; kernel_rfl))) ?_; simp only [Act.put, List.setIfInBounds_toArray, List.set_cons_zero, List.set_cons_succ])
    | (refine wl_call (o := ⟨some 29, _, _, _, _, _⟩) (by rfl) 6 #[.agg (xs.drop 33).toArray, .int .i64 6000] (fun v w' => v = .int .i64 nO ∧ Below w4.heap.size w4 w') (by go_simp) ((HO.out w4 HB4.out).mono fun e w' h => ⟨_, h.1, rfl, h.2⟩) ?_; rintro v5 w5 ⟨rfl, hb5⟩; have HB5 := Lib.hid (HB4.out.trans (hb5.mono HB4.out.size)); have HX15 := Lib.hid (HX14.out.below hb5); have HX25 := Lib.hid (HX24.out.below hb5); clear hb5; simp only [Act.put, List.setIfInBounds_toArray, List.set_cons_zero, List.set_cons_succ]))
  go_ret
  exact ⟨rfl, HB5.out⟩

/-- TotalsParts at whatever reads. -/
theorem parts_any {H : Type} {enc : TypeId × Value → H} (cs xs : List Value) (d dx : DataW H) (w : World) (h : Rd enc Try.prog w 36 cs d) (hx : Rd enc Try.prog w 51 xs dx) (hf : fits d = true) (hfx : fits dx = true) :
    Calls Try.prog 3 #[.agg cs.toArray, .agg xs.toArray] w fun e w' => e = .returned (.bool true) ∧ Below w.heap.size w w' := by
  have hG : ∀ W, Below w.heap.size w W → Calls Try.prog 5 #[.agg cs.toArray] W fun e w' => e = .returned (.bool (decide (dStateOf 6000 d > 6000))) ∧ Below W.heap.size W w' := fun W hb => great_any cs d W (h.below hb) hf
  have hlx := len_api_Entry hx
  have ho := fl_api_Entry_1 hx
  rw [List.take_of_length_le (l := xs.drop 33) (by rw [List.length_drop]; omega)] at ho
  have hO : ∀ W, Below w.heap.size w W → Calls Try.prog 6 #[.agg (xs.drop 33).toArray, .int .i64 6000] W fun e w' => e = .returned (.int .i64 (dOutputOf 6000 (fld 1 dx))) ∧ Below W.heap.size W w' := fun W hb => cOutputOf (xs.drop 33) (fld 1 dx) 6000 W (by omega) (ho.below hb) (fits_fld hfx 1)
  by_cases hg : dStateOf 6000 d > 6000
  · rw [decide_eq_true hg] at hG
    exact parts_great cs xs _ w (len_api_State h) hlx hG hO
  · rw [decide_eq_false hg] at hG
    by_cases hn : dOutputOf 6000 (fld 1 dx) > 6000
    · exact parts_far cs xs _ w (len_api_State h) hlx (by omega) hG hO
    · obtain ⟨S, hS, rfl, hSl, hSq⟩ := rd_sta h
      obtain ⟨X, ⟨hX, rfl⟩, hXl⟩ := rd_ent hx
      have h1 := state_le hf (by omega)
      have h2 := vlen_of hSl hSq
      have h3 := output_le (fits_fld hfx 1) (by omega)
      exact parts_main S X _ w hS hX (by omega) hG hO (by omega) (by omega) (by omega)
end Go.Proofs.Ytjmkkndglmapaaa
