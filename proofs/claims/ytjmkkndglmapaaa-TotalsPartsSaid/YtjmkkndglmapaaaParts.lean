/- moidorelaw27.TotalsParts: the walk. -/
import Derived.Test.YtjmkkndglmapaaaEnts
import Derived.Outline
import Derived.Deep.DeepCutAuto
set_option linter.unusedSimpArgs false
set_option linter.unusedVariables false
namespace Go.Proofs.Ytjmkkndglmapaaa
open Go.RowKit Go.Shelf Go.Lib Go.Sort Go.WideShapes Go.ChangeShapes

/-- Behind the first sum. -/
def R6 (w5 : World) (x : Int) (v6 : Value) (wx : World) : Prop := ∃ p6, v6 = .pointer (some ⟨p6, 0, none⟩) ∧ Box wx p6 (encW x) 57 ∧ Below w5.heap.size w5 wx ∧ w5.heap.size ≤ p6

set_option maxRecDepth 100000 in
set_option maxHeartbeats 100000000 in
theorem parts_main (S : Sta) (X : Ent) (nO : Int) (w : World) (h : enSta w S) (hx : enEnt w X X.cs) (hn : nO ≤ 6000)
    (hG : ∀ W, Below w.heap.size w W → Calls Try.prog 5 #[.agg S.cs.toArray] W fun e w' => e = .returned (.bool false) ∧ Below W.heap.size W w')
    (hO : ∀ W, Below w.heap.size w W → Calls Try.prog 6 #[.agg (X.cs.drop 33).toArray, .int .i64 6000] W fun e w' => e = .returned (.int .i64 nO) ∧ Below W.heap.size W w')
    (hl1 : S.es.length ≤ 6000) (hl2 : vlen (vals S.es) ≤ 6000) (hl3 : X.val.al.length ≤ 6000) :
    Calls Try.prog 3 #[.agg S.cs.toArray, .agg X.cs.toArray] w fun e w' => e = .returned (.bool true) ∧ Below w.heap.size w w' := by
  have HS := Lib.hid h
  have HX := Lib.hid hx
  have HG := Lib.hid hG
  have HO := Lib.hid hO
  have HL1 := Lib.hid hl1
  have HL2 := Lib.hid hl2
  have HL3 := Lib.hid hl3
  clear h hx hG hO hl1 hl2 hl3
  go_enter Try.func3, Try.ntmps3
  go_upto_region 6 with (first
    | (refine wpList_box_box rfl 36 _ rfl S.cs rfl ?_; intro W1 hx1 hb1 hs1; simp only [Act.put, List.setIfInBounds_toArray, List.set_cons_zero, List.set_cons_succ])
    | (refine wpList_box_box rfl 51 _ rfl X.cs rfl ?_; intro W2 hx2 hb2 hs2; have HB2 := Lib.hid (hb1.trans (hb2.mono hb1.size)); have HX1 := Lib.hid (hx1.below hb2); have HX2 := Lib.hid hx2; have HN2 := Lib.hid hs1; clear hx1 hb1 hs1 hx2 hb2 hs2; generalize W1.heap.size = p3 at *; simp only [Act.put, List.setIfInBounds_toArray, List.set_cons_zero, List.set_cons_succ])
    | (go_at_call 4; refine (awake_any W2).mono ?_; rintro e w3 ⟨rfl, hb3⟩; have HB3 := Lib.hid (HB2.out.trans (hb3.mono HB2.out.size)); have HX13 := Lib.hid (HX1.out.below hb3); have HX23 := Lib.hid (HX2.out.below hb3); clear hb3)
    | (refine wl_value (o := ⟨some 24, _, _, _, _, _⟩) (by rfl) (.agg S.cs.toArray) _ (run_load_op rfl rfl (run_loadVar_mid _ _ _ _ _ _ HX13.out.whole Try.underlying36 rfl (by rw [HS.out.len]; kernel_rfl))) ?_; simp only [Act.put, List.setIfInBounds_toArray, List.set_cons_zero, List.set_cons_succ])
    | (go_at_call 5; refine (HG.out w3 HB3.out).mono ?_; rintro e w4 ⟨rfl, hb4⟩; have HB4 := Lib.hid (HB3.out.trans (hb4.mono HB3.out.size)); have HX14 := Lib.hid (HX13.out.below hb4); have HX24 := Lib.hid (HX23.out.below hb4); clear hb4)
    | (refine wl_value (o := ⟨some 28, _, _, _, _, _⟩) (by rfl) (.agg (X.cs.drop 33).toArray) _ (run_load_op rfl rfl (run_loadVar_mid _ p3 33 _ (X.cs.drop 33) _ (by have := HX24.out.range 33 69; rw [List.take_of_length_le (by rw [List.length_drop, HX.out.len]; omega)] at this; exact this) Try.underlying49 rfl (by rw [List.length_drop, HX.out.len]; kernel_rfl))) ?_; simp only [Act.put, List.setIfInBounds_toArray, List.set_cons_zero, List.set_cons_succ])
    | (refine wl_call (o := ⟨some 29, _, _, _, _, _⟩) (by rfl) 6 #[.agg (X.cs.drop 33).toArray, .int .i64 6000] (fun v w' => v = .int .i64 nO ∧ Below w4.heap.size w4 w') (by go_simp) ((HO.out w4 HB4.out).mono fun e w' h => ⟨_, h.1, rfl, h.2⟩) ?_; rintro v5 w5 ⟨rfl, hb5⟩; have HB5 := Lib.hid (HB4.out.trans (hb5.mono HB4.out.size)); have HX15 := Lib.hid (HX14.out.below hb5); have HX25 := Lib.hid (HX24.out.below hb5); clear hb5; simp only [Act.put, List.setIfInBounds_toArray, List.set_cons_zero, List.set_cons_succ]))
  have hlt5 := HX15.out.lt
  have HF1 := Lib.hid HS.out.fees.2
  have HF2 := Lib.hid HS.out.forf.2
  go_cut [6] (fun v6 wx => R6 w5 (S.fees + S.forf) v6 wx)
  case first =>
    --[r6
    refine hw_begin (fun W => Box W w.heap.size S.cs 36) mixed fun W hW => ?_
    have hS : Box W w.heap.size S.cs 36 := by
      rw [hW]
      exact HX15.out.drew
    have hB : Below w5.heap.size w5 W := by
      rw [hW]
      exact (Below.refl _ _).drew
    clear hW
    refine hw_take 0 (some 32) _ rfl rfl (by kernel_rfl) (by kernel_rfl) (by kernel_rfl) (fun _ _ _ _ h => h) (.pointer (some ⟨w.heap.size, 177, none⟩)) rfl (fun W _ => by go_simp) hS ?_
    simp only [Act.put, List.setIfInBounds_toArray, List.set_cons_zero, List.set_cons_succ]
    refine hw_take 1 (some 33) _ rfl rfl (by kernel_rfl) (by kernel_rfl) (by kernel_rfl) (fun _ _ _ _ h => h) (.int .i64 S.fees) rfl (fun W hW => run_load_op rfl rfl (run_loadVar_cell W _ _ _ _ (hW.cell HS.out.fees.1) Try.underlying2 rfl)) hS ?_
    simp only [Act.put, List.setIfInBounds_toArray, List.set_cons_zero, List.set_cons_succ]
    refine hw_take 3 (some 35) _ rfl rfl (by kernel_rfl) (by kernel_rfl) (by kernel_rfl) (fun _ _ _ _ h => h) (.pointer (some ⟨w.heap.size, 178, none⟩)) rfl (fun W _ => by go_simp) hS ?_
    simp only [Act.put, List.setIfInBounds_toArray, List.set_cons_zero, List.set_cons_succ]
    refine hw_take 4 (some 36) _ rfl rfl (by kernel_rfl) (by kernel_rfl) (by kernel_rfl) (fun _ _ _ _ h => h) (.int .i64 S.forf) rfl (fun W hW => run_load_op rfl rfl (run_loadVar_cell W _ _ _ _ (hW.cell HS.out.forf.1) Try.underlying2 rfl)) hS ?_
    simp only [Act.put, List.setIfInBounds_toArray, List.set_cons_zero, List.set_cons_succ]
    refine hg_call_value 2 8 (some 34) (some 6) _ _ rfl rfl (by kernel_rfl) rfl rfl (by rfl) (by rfl) 8 #[.int .i64 S.fees] (fun v w' => v = .agg (encW S.fees).toArray ∧ Below W.heap.size W w') (by go_simp) ((wide_any S.fees HF1.out W).mono fun e w' h => ⟨_, h.1, rfl, h.2⟩) _ _ (run_alloc_op _ rfl _ Try.zeroValue57 (encW 0) rfl) ?_ ?_
    · rintro v V1 ⟨rfl, hb⟩
      have hS := Box.below hS hb
      have hB := hB.trans (hb.mono hB.size)
      refine ⟨hS, ?_⟩
      simp only [Act.put, List.setIfInBounds_toArray, List.set_cons_zero, List.set_cons_succ]
      clear hb
      refine hg_call_value 5 8 (some 37) (some 6) _ _ rfl rfl (by kernel_rfl) rfl rfl (by rfl) (by rfl) 8 #[.int .i64 S.forf] (fun v w' => v = .agg (encW S.forf).toArray ∧ Below V1.heap.size V1 w') (by go_simp) ((wide_any S.forf HF2.out V1).mono fun e w' h => ⟨_, h.1, rfl, h.2⟩) _ _ (run_alloc_op _ rfl _ Try.zeroValue57 (encW 0) rfl) ?_ ?_
      · rintro v V2 ⟨rfl, hb⟩
        have hS := Box.below hS hb
        have hB := hB.trans (hb.mono hB.size)
        refine ⟨hS, ?_⟩
        simp only [Act.put, List.setIfInBounds_toArray, List.set_cons_zero, List.set_cons_succ]
        clear hb
        refine hg_value_value 6 8 (some 38) (some 6) _ _ rfl rfl (by kernel_rfl) rfl rfl (by rfl) (by rfl) (.slice (some ⟨V2.heap.size, 0, none⟩) 2 2) (V2.alloc (.cells (encW S.fees ++ encW S.forf).toArray 57)) (run_slice_wides _ rfl rfl rfl) _ _ (run_alloc_op _ rfl _ Try.zeroValue57 (encW 0) rfl) ?_ ?_
        · skip
          have hL : Box (V2.alloc (.cells (encW S.fees ++ encW S.forf).toArray 57)) V2.heap.size (encW S.fees ++ encW S.forf) 57 := Box.new _ _ _
          have hb : Below V2.heap.size V2 (V2.alloc (.cells (encW S.fees ++ encW S.forf).toArray 57)) := (Below.refl _ _).alloc (Nat.le_refl _) _
          have hS := Box.below hS hb
          have hB := hB.trans (hb.mono hB.size)
          clear hb
          generalize V2.alloc (.cells (encW S.fees ++ encW S.forf).toArray 57) = V3 at *
          generalize V2.heap.size = q4 at *
          refine ⟨hS, ?_⟩
          simp only [Act.put, List.setIfInBounds_toArray, List.set_cons_zero, List.set_cons_succ]
          have hpl := plus_two S.fees S.forf q4 V3 hL
          refine hg_call_value 7 8 (some 39) (some 6) _ _ rfl rfl (by kernel_rfl) rfl rfl (by rfl) (by rfl) 7 #[.slice (some ⟨q4, 0, none⟩) 2 2] (fun v w' => v = .agg (encW (S.fees + S.forf)).toArray ∧ Below V3.heap.size V3 w') (by go_simp) hpl _ _ (run_alloc_op _ rfl _ Try.zeroValue57 (encW 0) rfl) ?_ ?_
          · rintro v V5 ⟨rfl, hb⟩
            have hS := Box.below hS hb
            have hL := Box.below hL hb
            have hB := hB.trans (hb.mono hB.size)
            refine ⟨hS, ?_⟩
            simp only [Act.put, List.setIfInBounds_toArray, List.set_cons_zero, List.set_cons_succ]
            refine hw_value 8 (some 6) _ rfl (by kernel_rfl) rfl rfl _ _ (run_alloc_op _ rfl _ Try.zeroValue57 (encW 0) rfl) (Box.below hS ((Below.refl _ _).alloc (Nat.le_refl _) _)) ?_
            have hP := Box.new V5 (encW 0) 57
            have hge : w5.heap.size ≤ V5.heap.size := hB.size
            have hS := Box.below hS ((Below.refl _ _).alloc (Nat.le_refl _) (.cells (encW 0).toArray 57))
            have hB := hB.trans (((Below.refl _ V5).alloc (Nat.le_refl _) (.cells (encW 0).toArray 57)).mono hB.size)
            generalize V5.alloc (.cells (encW 0).toArray 57) = V7 at *
            generalize V5.heap.size = q6 at *
            simp only [Act.put, List.setIfInBounds_toArray, List.set_cons_zero, List.set_cons_succ]
            refine hw_store_box 9 _ rfl (by kernel_rfl) rfl rfl 57 _ _ rfl q6 0 (encW (S.fees + S.forf)) rfl rfl _ _ hP (Nat.le_refl _) (by kernel_rfl) (encW_one _) ?_
            intro W9 hx9 ho9
            refine ⟨ho9.box hS (by omega), ?_⟩
            refine hw_done (by kernel_rfl) ?_
            go_wp2
            go_meet
            case rel => exact ⟨_, rfl, box_laid hx9 rfl, hB.trans (ho9.below hge), hge⟩
          · skip
            have hP := Box.new V3 (encW 0) 57
            have hbA : Below V3.heap.size V3 (V3.alloc (.cells (encW 0).toArray 57)) := (Below.refl _ _).alloc (Nat.le_refl _) _
            have hge : w5.heap.size ≤ V3.heap.size := hB.size
            have hS := Box.below hS hbA
            have hL := Box.below hL hbA
            have hB := hB.trans (hbA.mono hB.size)
            clear hbA
            generalize V3.alloc (.cells (encW 0).toArray 57) = V8 at *
            generalize V3.heap.size = q9 at *
            refine ⟨hS, ?_⟩
            simp only [Act.put, List.setIfInBounds_toArray, List.set_cons_zero, List.set_cons_succ]
            have hpl := plus_two S.fees S.forf q4 V8 hL
            refine hw_call 7 (some 39) _ rfl (by kernel_rfl) rfl rfl 7 #[.slice (some ⟨q4, 0, none⟩) 2 2] (fun v w' => v = .agg (encW (S.fees + S.forf)).toArray ∧ Below V8.heap.size V8 w') (by go_simp) hpl ?_
            rintro v V10 ⟨rfl, hb⟩
            have hS := Box.below hS hb
            have hP := Box.below hP hb
            have hL := Box.below hL hb
            have hB := hB.trans (hb.mono hB.size)
            refine ⟨hS, ?_⟩
            simp only [Act.put, List.setIfInBounds_toArray, List.set_cons_zero, List.set_cons_succ]
            clear hb hpl
            refine hw_store_box 9 _ rfl (by kernel_rfl) rfl rfl 57 _ _ rfl q9 0 (encW (S.fees + S.forf)) rfl rfl _ _ hP (Nat.le_refl _) (by kernel_rfl) (encW_one _) ?_
            intro W9 hx9 ho9
            refine ⟨ho9.box hS (by omega), ?_⟩
            refine hw_done (by kernel_rfl) ?_
            go_wp2
            go_meet
            case rel => exact ⟨_, rfl, box_laid hx9 rfl, hB.trans (ho9.below hge), hge⟩
        · skip
          have hP := Box.new V2 (encW 0) 57
          have hbA : Below V2.heap.size V2 (V2.alloc (.cells (encW 0).toArray 57)) := (Below.refl _ _).alloc (Nat.le_refl _) _
          have hge : w5.heap.size ≤ V2.heap.size := hB.size
          have hS := Box.below hS hbA
          have hB := hB.trans (hbA.mono hB.size)
          clear hbA
          generalize V2.alloc (.cells (encW 0).toArray 57) = V11 at *
          generalize V2.heap.size = q12 at *
          refine ⟨hS, ?_⟩
          simp only [Act.put, List.setIfInBounds_toArray, List.set_cons_zero, List.set_cons_succ]
          refine hw_value 6 (some 38) _ rfl (by kernel_rfl) rfl rfl (.slice (some ⟨V11.heap.size, 0, none⟩) 2 2) (V11.alloc (.cells (encW S.fees ++ encW S.forf).toArray 57)) (run_slice_wides _ rfl rfl rfl) (Box.below hS ((Below.refl _ _).alloc (Nat.le_refl _) _)) ?_
          have hL : Box (V11.alloc (.cells (encW S.fees ++ encW S.forf).toArray 57)) V11.heap.size (encW S.fees ++ encW S.forf) 57 := Box.new _ _ _
          have hb : Below V11.heap.size V11 (V11.alloc (.cells (encW S.fees ++ encW S.forf).toArray 57)) := (Below.refl _ _).alloc (Nat.le_refl _) _
          have hS := Box.below hS hb
          have hP := Box.below hP hb
          have hB := hB.trans (hb.mono hB.size)
          clear hb
          generalize V11.alloc (.cells (encW S.fees ++ encW S.forf).toArray 57) = V13 at *
          generalize V11.heap.size = q14 at *
          skip
          simp only [Act.put, List.setIfInBounds_toArray, List.set_cons_zero, List.set_cons_succ]
          have hpl := plus_two S.fees S.forf q14 V13 hL
          refine hw_call 7 (some 39) _ rfl (by kernel_rfl) rfl rfl 7 #[.slice (some ⟨q14, 0, none⟩) 2 2] (fun v w' => v = .agg (encW (S.fees + S.forf)).toArray ∧ Below V13.heap.size V13 w') (by go_simp) hpl ?_
          rintro v V15 ⟨rfl, hb⟩
          have hS := Box.below hS hb
          have hP := Box.below hP hb
          have hL := Box.below hL hb
          have hB := hB.trans (hb.mono hB.size)
          refine ⟨hS, ?_⟩
          simp only [Act.put, List.setIfInBounds_toArray, List.set_cons_zero, List.set_cons_succ]
          clear hb hpl
          refine hw_store_box 9 _ rfl (by kernel_rfl) rfl rfl 57 _ _ rfl q12 0 (encW (S.fees + S.forf)) rfl rfl _ _ hP (Nat.le_refl _) (by kernel_rfl) (encW_one _) ?_
          intro W9 hx9 ho9
          refine ⟨ho9.box hS (by omega), ?_⟩
          refine hw_done (by kernel_rfl) ?_
          go_wp2
          go_meet
          case rel => exact ⟨_, rfl, box_laid hx9 rfl, hB.trans (ho9.below hge), hge⟩
      · skip
        have hP := Box.new V1 (encW 0) 57
        have hbA : Below V1.heap.size V1 (V1.alloc (.cells (encW 0).toArray 57)) := (Below.refl _ _).alloc (Nat.le_refl _) _
        have hge : w5.heap.size ≤ V1.heap.size := hB.size
        have hS := Box.below hS hbA
        have hB := hB.trans (hbA.mono hB.size)
        clear hbA
        generalize V1.alloc (.cells (encW 0).toArray 57) = V16 at *
        generalize V1.heap.size = q17 at *
        refine ⟨hS, ?_⟩
        simp only [Act.put, List.setIfInBounds_toArray, List.set_cons_zero, List.set_cons_succ]
        refine hw_call 5 (some 37) _ rfl (by kernel_rfl) rfl rfl 8 #[.int .i64 S.forf] (fun v w' => v = .agg (encW S.forf).toArray ∧ Below V16.heap.size V16 w') (by go_simp) ((wide_any S.forf HF2.out V16).mono fun e w' h => ⟨_, h.1, rfl, h.2⟩) ?_
        rintro v V18 ⟨rfl, hb⟩
        have hS := Box.below hS hb
        have hP := Box.below hP hb
        have hB := hB.trans (hb.mono hB.size)
        refine ⟨hS, ?_⟩
        simp only [Act.put, List.setIfInBounds_toArray, List.set_cons_zero, List.set_cons_succ]
        clear hb
        refine hw_value 6 (some 38) _ rfl (by kernel_rfl) rfl rfl (.slice (some ⟨V18.heap.size, 0, none⟩) 2 2) (V18.alloc (.cells (encW S.fees ++ encW S.forf).toArray 57)) (run_slice_wides _ rfl rfl rfl) (Box.below hS ((Below.refl _ _).alloc (Nat.le_refl _) _)) ?_
        have hL : Box (V18.alloc (.cells (encW S.fees ++ encW S.forf).toArray 57)) V18.heap.size (encW S.fees ++ encW S.forf) 57 := Box.new _ _ _
        have hb : Below V18.heap.size V18 (V18.alloc (.cells (encW S.fees ++ encW S.forf).toArray 57)) := (Below.refl _ _).alloc (Nat.le_refl _) _
        have hS := Box.below hS hb
        have hP := Box.below hP hb
        have hB := hB.trans (hb.mono hB.size)
        clear hb
        generalize V18.alloc (.cells (encW S.fees ++ encW S.forf).toArray 57) = V19 at *
        generalize V18.heap.size = q20 at *
        skip
        simp only [Act.put, List.setIfInBounds_toArray, List.set_cons_zero, List.set_cons_succ]
        have hpl := plus_two S.fees S.forf q20 V19 hL
        refine hw_call 7 (some 39) _ rfl (by kernel_rfl) rfl rfl 7 #[.slice (some ⟨q20, 0, none⟩) 2 2] (fun v w' => v = .agg (encW (S.fees + S.forf)).toArray ∧ Below V19.heap.size V19 w') (by go_simp) hpl ?_
        rintro v V21 ⟨rfl, hb⟩
        have hS := Box.below hS hb
        have hP := Box.below hP hb
        have hL := Box.below hL hb
        have hB := hB.trans (hb.mono hB.size)
        refine ⟨hS, ?_⟩
        simp only [Act.put, List.setIfInBounds_toArray, List.set_cons_zero, List.set_cons_succ]
        clear hb hpl
        refine hw_store_box 9 _ rfl (by kernel_rfl) rfl rfl 57 _ _ rfl q17 0 (encW (S.fees + S.forf)) rfl rfl _ _ hP (Nat.le_refl _) (by kernel_rfl) (encW_one _) ?_
        intro W9 hx9 ho9
        refine ⟨ho9.box hS (by omega), ?_⟩
        refine hw_done (by kernel_rfl) ?_
        go_wp2
        go_meet
        case rel => exact ⟨_, rfl, box_laid hx9 rfl, hB.trans (ho9.below hge), hge⟩
    · skip
      have hP := Box.new W (encW 0) 57
      have hbA : Below W.heap.size W (W.alloc (.cells (encW 0).toArray 57)) := (Below.refl _ _).alloc (Nat.le_refl _) _
      have hge : w5.heap.size ≤ W.heap.size := hB.size
      have hS := Box.below hS hbA
      have hB := hB.trans (hbA.mono hB.size)
      clear hbA
      generalize W.alloc (.cells (encW 0).toArray 57) = V22 at *
      generalize W.heap.size = q23 at *
      refine ⟨hS, ?_⟩
      simp only [Act.put, List.setIfInBounds_toArray, List.set_cons_zero, List.set_cons_succ]
      refine hw_call 2 (some 34) _ rfl (by kernel_rfl) rfl rfl 8 #[.int .i64 S.fees] (fun v w' => v = .agg (encW S.fees).toArray ∧ Below V22.heap.size V22 w') (by go_simp) ((wide_any S.fees HF1.out V22).mono fun e w' h => ⟨_, h.1, rfl, h.2⟩) ?_
      rintro v V24 ⟨rfl, hb⟩
      have hS := Box.below hS hb
      have hP := Box.below hP hb
      have hB := hB.trans (hb.mono hB.size)
      refine ⟨hS, ?_⟩
      simp only [Act.put, List.setIfInBounds_toArray, List.set_cons_zero, List.set_cons_succ]
      clear hb
      refine hw_call 5 (some 37) _ rfl (by kernel_rfl) rfl rfl 8 #[.int .i64 S.forf] (fun v w' => v = .agg (encW S.forf).toArray ∧ Below V24.heap.size V24 w') (by go_simp) ((wide_any S.forf HF2.out V24).mono fun e w' h => ⟨_, h.1, rfl, h.2⟩) ?_
      rintro v V25 ⟨rfl, hb⟩
      have hS := Box.below hS hb
      have hP := Box.below hP hb
      have hB := hB.trans (hb.mono hB.size)
      refine ⟨hS, ?_⟩
      simp only [Act.put, List.setIfInBounds_toArray, List.set_cons_zero, List.set_cons_succ]
      clear hb
      refine hw_value 6 (some 38) _ rfl (by kernel_rfl) rfl rfl (.slice (some ⟨V25.heap.size, 0, none⟩) 2 2) (V25.alloc (.cells (encW S.fees ++ encW S.forf).toArray 57)) (run_slice_wides _ rfl rfl rfl) (Box.below hS ((Below.refl _ _).alloc (Nat.le_refl _) _)) ?_
      have hL : Box (V25.alloc (.cells (encW S.fees ++ encW S.forf).toArray 57)) V25.heap.size (encW S.fees ++ encW S.forf) 57 := Box.new _ _ _
      have hb : Below V25.heap.size V25 (V25.alloc (.cells (encW S.fees ++ encW S.forf).toArray 57)) := (Below.refl _ _).alloc (Nat.le_refl _) _
      have hS := Box.below hS hb
      have hP := Box.below hP hb
      have hB := hB.trans (hb.mono hB.size)
      clear hb
      generalize V25.alloc (.cells (encW S.fees ++ encW S.forf).toArray 57) = V26 at *
      generalize V25.heap.size = q27 at *
      skip
      simp only [Act.put, List.setIfInBounds_toArray, List.set_cons_zero, List.set_cons_succ]
      have hpl := plus_two S.fees S.forf q27 V26 hL
      refine hw_call 7 (some 39) _ rfl (by kernel_rfl) rfl rfl 7 #[.slice (some ⟨q27, 0, none⟩) 2 2] (fun v w' => v = .agg (encW (S.fees + S.forf)).toArray ∧ Below V26.heap.size V26 w') (by go_simp) hpl ?_
      rintro v V28 ⟨rfl, hb⟩
      have hS := Box.below hS hb
      have hP := Box.below hP hb
      have hL := Box.below hL hb
      have hB := hB.trans (hb.mono hB.size)
      refine ⟨hS, ?_⟩
      simp only [Act.put, List.setIfInBounds_toArray, List.set_cons_zero, List.set_cons_succ]
      clear hb hpl
      refine hw_store_box 9 _ rfl (by kernel_rfl) rfl rfl 57 _ _ rfl q23 0 (encW (S.fees + S.forf)) rfl rfl _ _ hP (Nat.le_refl _) (by kernel_rfl) (encW_one _) ?_
      intro W9 hx9 ho9
      refine ⟨ho9.box hS (by omega), ?_⟩
      refine hw_done (by kernel_rfl) ?_
      go_wp2
      go_meet
      case rel => exact ⟨_, rfl, box_laid hx9 rfl, hB.trans (ho9.below hge), hge⟩
    --]r6
  case rest =>
    obtain ⟨p6, rfl, hc6, hb6, hg6⟩ := hcut
    have HC6 := Lib.hid hc6
    have HB6 := Lib.hid hb6
    have HG6 := Lib.hid hg6
    have hM0 : M1 w5 wc.heap.size p6 (cseen S []) [] [] [] (.slice none 0 0) (.slice none 0 0) wc := ⟨hb6, hg6, hc6.lt, Nat.le_refl _, by have e : cseen S [] = S.fees + S.forf := by unfold cseen; simp
                                                                                                                                          rw [e]; exact hc6, World.ownsRow_nil _ _ _ _, World.ownsRow_nil _ _ _ _, rfl, by simp⟩
    have HM0 := Lib.hid hM0
    have hL0 := L1.start S
    have HL0 := Lib.hid hL0
    obtain ⟨es0, hes0, hesat⟩ := HS.out.ents
    have HEA := Lib.hid hesat
    obtain ⟨A0, c0, b0, o0, rfl, hlc0, hcm0, hnil0, hA0, hx0⟩ := hesat
    have HES0 := Lib.hid hes0
    have HA0 := Lib.hid hA0
    have HXE := Lib.hid hx0
    have hn63 : S.es.length < 9223372036854775807 := by have := HL1.out; omega
    have HW5C := Lib.hid (HB5.out.trans (hb6.mono HB5.out.size))
    clear hc6 hb6 hg6 hM0 hL0 hes0 hlc0 hcm0 hnil0 hA0 hx0
    go_wp2
    go_loopw [5, 7, 8] (fun v5 v7 i wr => RL1 S w5 (World.heap wc).size p6 v5 v7 i wr) (fun _ _ i _ => S.es.length - (intOf i).toNat)
    case atStart => exact ⟨0, [], [], [], Nat.zero_le _, rfl, HM0.out, HL0.out⟩
    case round =>
      obtain ⟨k, seen, sls, Rs, hk, rfl, hM, hL⟩ := hrel
      have HM := Lib.hid hM
      have HL := Lib.hid hL
      have HBR := Lib.hid (HB5.out.trans (hM.bl.mono HB5.out.size))
      have HXR := Lib.hid (HX15.out.below hM.bl)
      clear hM hL
      by_cases hlt : k < S.es.length
      · --[l1
        have hge : S.es[k]? = some S.es[k] := List.getElem?_eq_getElem hlt
        generalize S.es[k] = e at hge
        obtain ⟨cs1, heo, hl1', hr1⟩ := HXE.out k e hge
        obtain rfl := heo.same
        obtain rfl := HA0.out (by omega)
        have hr2 := rangeAt_below hr1 HBR.out
        have hr3 : wr.rangeAt b0 (o0 + k * 102 + 33) e.ad := by
          have := range_part hr2 33 33
          rw [heo.addr] at this
          exact this
        have HR3 := Lib.hid hr3
        have HE := Lib.hid heo
        have HGE := Lib.hid hge
        have HAL := Lib.hid (ad_len heo.fine)
        have HAO : Hid (∀ v ∈ e.ad, v.oneCell' = true) := heo.ad_one
        clear hr1 hr2 hr3 heo hge hl1'
        go_wp2_with (first
          | (refine wpList_load_cell rfl 28 _ rfl ⟨w.heap.size, 44, none⟩ rfl _ _ (HXR.out.cell HES0.out) Try.underlying28 rfl ?_; simp only [Act.put, List.setIfInBounds_toArray, List.set_cons_zero, List.set_cons_succ])
          | (refine wpList_load_mid rfl 40 _ rfl b0 (o0 + k * 102 + 33) rfl e.ad _ HR3.out Try.underlying40 rfl (by rw [HAL.out]; kernel_rfl) ?_; simp only [Act.put, List.setIfInBounds_toArray, List.set_cons_zero, List.set_cons_succ])
          | (refine wpList_alloc_box rfl 40 rfl _ Try.zeroValue40 zAd rfl ?_; intro W7 hx7 hb7 hs7; simp only [Act.put, List.setIfInBounds_toArray, List.set_cons_zero, List.set_cons_succ])
          | (refine wpList_store_box rfl 40 _ _ rfl wr.heap.size 0 e.ad rfl rfl zAd _ hx7 (by rw [HAL.out]; simp [zAd, z32]) (by rw [HAL.out]; kernel_rfl) HAO.out ?_; intro W8 hx8 ho8; have HX8 := Lib.hid (box_laid hx8 (by rw [HAL.out]; simp [zAd, z32])); have HB8 := Lib.hid (hb7.trans (ho8.below (Nat.le_refl _))); have HM8 := Lib.hid (HM.out.step (hb7.trans (ho8.below (Nat.le_refl _)))); clear hx7 hb7 hs7 hx8 ho8; simp only [Act.put, List.setIfInBounds_toArray, List.set_cons_zero, List.set_cons_succ]))
        have hA8 := HM8.out.ads (HL.out.fines HEA.out)
        obtain ⟨A5, c5, b5, o5, e5, hlc5, hcm5, -, hA5, hx5⟩ := hA8
        subst e5
        have HA5 := Lib.hid hA5
        have HX5 := Lib.hid hx5
        have hsl : seen.length < 9223372036854775807 := by have := HL.out.seen_len; have := HL1.out; omega
        clear hlc5 hcm5 hA5 hx5
        obtain ⟨wo, rfl⟩ : ∃ wo : World, wo = wr := ⟨_, rfl⟩
        have H59 : Hid (∀ g, Value.ownBlock (.slice A5 seen.length c5) = some g → g < wo.heap.size) := fun g hg => (HM.out.o5.lt g hg).2
        generalize hp9 : wo.heap.size = p9 at *
        clear hp9
        go_loopw [10, 11] (fun v10 i wr => RL2 seen e.ad W8 v10 i wr) (fun _ i _ => seen.length - (intOf i).toNat)
        case atStart => exact ⟨0, false, Nat.zero_le _, rfl, rfl, by simp, Below.refl _ _⟩
        case round =>
          obtain ⟨j, b, hj, rfl, rfl, hbm, hB2⟩ := hrel
          have HB2 := Lib.hid hB2
          have HBM := Lib.hid hbm
          clear hB2 hbm
          by_cases hlt2 : j < seen.length
          · --[l2
            have hga : seen[j]? = some seen[j] := List.getElem?_eq_getElem hlt2
            generalize seen[j] = a at hga
            obtain ⟨csa, ⟨hcsa, hfa, _⟩, hla, hra⟩ := HX5.out j a hga
            rw [hcsa] at hla hra
            obtain rfl := HA5.out (by omega)
            have HRA := Lib.hid hra
            have HFA := Lib.hid hfa
            have HAL2 := Lib.hid hla
            have HGA := Lib.hid hga
            have htk := take_more hga
            have HTK := Lib.hid htk
            clear hra hfa hla hga htk
            cases b
            · go_wp2
              refine wp_region_below mixed (by kernel_rfl) ?_
              refine qg_run (.bool false) (by rfl) (fun W _ => by go_simp) ?_
              simp only [Act.put, List.setIfInBounds_toArray, List.set_cons_zero, List.set_cons_succ]
              refine qg_run (.bool false) (by rfl) (fun W _ => by go_simp) ?_
              simp only [Act.put, List.setIfInBounds_toArray, List.set_cons_zero, List.set_cons_succ]
              refine qg_run (.slice (some ⟨b5, o5, none⟩) seen.length c5) (by rfl) (fun W _ => by go_simp) ?_
              simp only [Act.put, List.setIfInBounds_toArray, List.set_cons_zero, List.set_cons_succ]
              refine qg_run (.int .i64 j) (by rfl) (fun W _ => by go_simp) ?_
              simp only [Act.put, List.setIfInBounds_toArray, List.set_cons_zero, List.set_cons_succ]
              refine qg_run (.pointer (some ⟨b5, o5 + j * 33, none⟩)) (by rfl) (fun W _ => by go_simp) ?_
              simp only [Act.put, List.setIfInBounds_toArray, List.set_cons_zero, List.set_cons_succ]
              refine qg_run (.agg a.toArray) (by rfl) (fun W hW => run_load_op rfl rfl (run_loadVar_mid W _ _ _ _ _ (rangeAt_below HRA.out (HB2.out.trans (hW.mono HB2.out.size))) Try.underlying40 rfl (by rw [HAL2.out]; kernel_rfl))) ?_
              simp only [Act.put, List.setIfInBounds_toArray, List.set_cons_zero, List.set_cons_succ]
              refine qg_run (.agg e.ad.toArray) (by rfl) (fun W hW => run_load_op rfl rfl (run_loadVar_mid W _ _ _ _ _ (HX8.out.below (HB2.out.trans (hW.mono HB2.out.size))).whole Try.underlying40 rfl (by rw [HAL.out]; kernel_rfl))) ?_
              simp only [Act.put, List.setIfInBounds_toArray, List.set_cons_zero, List.set_cons_succ]
              refine qg_run (.bool (same a e.ad)) (by rfl) (fun W _ => run_eql_same W rfl rfl rfl kt_addr HFA.out HE.out.fine) ?_
              simp only [Act.put, List.setIfInBounds_toArray, List.set_cons_zero, List.set_cons_succ]
              refine qg_run (.bool (same a e.ad)) (by rfl) (fun W _ => by go_simp) ?_
              simp only [Act.put, List.setIfInBounds_toArray, List.set_cons_zero, List.set_cons_succ]
              refine qg_run (.bool (same a e.ad)) (by rfl) (fun W _ => by go_simp) ?_
              simp only [Act.put, List.setIfInBounds_toArray, List.set_cons_zero, List.set_cons_succ]
              refine wpQuiet_nil ?_
              intro W hW
              have HW := Lib.hid hW
              clear hW
              have hend : RL2 seen e.ad W8 (.bool (same a e.ad)) (.int .i64 (↑(j + 1))) W := ⟨j + 1, same a e.ad, by omega, rfl, rfl, by
                rw [HTK.out, List.mem_append, List.mem_singleton, same_iff]
                exact ⟨fun h => .inr h.symm, fun h => h.elim (fun h => absurd (HBM.out.2 h) (by simp)) fun h => h.symm⟩, HB2.out.trans (HW.out.mono HB2.out.size)⟩
              have HEND := Lib.hid hend
              clear hend
              go_wp2
              refine ⟨?_, by simp [intOf]; omega⟩
              first | exact HEND.out | ((repeat apply Exists.intro); exact ⟨HEND.out, rfl⟩)
            · have hin : e.ad ∈ seen.take j := HBM.out.1 rfl
              have HIN := Lib.hid hin
              clear hin
              go_wp2
              refine wp_region_below mixed (by kernel_rfl) ?_
              refine qg_run (.bool true) (by rfl) (fun W _ => by go_simp) ?_
              simp only [Act.put, List.setIfInBounds_toArray, List.set_cons_zero, List.set_cons_succ]
              refine qg_run (.bool true) (by rfl) (fun W _ => by go_simp) ?_
              simp only [Act.put, List.setIfInBounds_toArray, List.set_cons_zero, List.set_cons_succ]
              refine qg_off (by rfl) ?_
              simp only [Act.put, List.setIfInBounds_toArray, List.set_cons_zero, List.set_cons_succ]
              refine qg_off (by rfl) ?_
              simp only [Act.put, List.setIfInBounds_toArray, List.set_cons_zero, List.set_cons_succ]
              refine qg_off (by rfl) ?_
              simp only [Act.put, List.setIfInBounds_toArray, List.set_cons_zero, List.set_cons_succ]
              refine qg_off (by rfl) ?_
              simp only [Act.put, List.setIfInBounds_toArray, List.set_cons_zero, List.set_cons_succ]
              refine qg_off (by rfl) ?_
              simp only [Act.put, List.setIfInBounds_toArray, List.set_cons_zero, List.set_cons_succ]
              refine qg_off (by rfl) ?_
              simp only [Act.put, List.setIfInBounds_toArray, List.set_cons_zero, List.set_cons_succ]
              refine qg_run (.bool true) (by rfl) (fun W _ => by go_simp) ?_
              simp only [Act.put, List.setIfInBounds_toArray, List.set_cons_zero, List.set_cons_succ]
              refine qg_run (.bool true) (by rfl) (fun W _ => by go_simp) ?_
              simp only [Act.put, List.setIfInBounds_toArray, List.set_cons_zero, List.set_cons_succ]
              refine wpQuiet_nil ?_
              intro W hW
              have HW := Lib.hid hW
              clear hW
              have hend : RL2 seen e.ad W8 (.bool true) (.int .i64 (↑(j + 1))) W := ⟨j + 1, true, by omega, rfl, rfl, by
                rw [HTK.out, List.mem_append]
                exact ⟨fun _ => .inl HIN.out, fun _ => rfl⟩, HB2.out.trans (HW.out.mono HB2.out.size)⟩
              have HEND := Lib.hid hend
              clear hend
              go_wp2
              refine ⟨?_, by simp [intOf]; omega⟩
              first | exact HEND.out | ((repeat apply Exists.intro); exact ⟨HEND.out, rfl⟩)
            --]l2
          · have hje : j = seen.length := by omega
            have hbm2 := HBM.out
            rw [hje, List.take_length] at hbm2
            have HBM2 := Lib.hid hbm2
            have HMJ := Lib.hid (HM8.out.step HB2.out)
            clear hbm2
            cases b
            · --[new
              have hnot : e.ad ∉ seen := fun h => by have := HBM2.out.2 h; simp at this
              have HNOT := Lib.hid hnot
              have HXJ := Lib.hid (HX8.out.below HB2.out)
              have HS5 := Lib.hid (HS.out.below HB5.out)
              have HB5R := Lib.hid HMJ.out.bl
              have HXSJ := Lib.hid (HX15.out.below HMJ.out.bl)
              obtain ⟨ia, za, hia1, hia2, hia3, hia4, hia5⟩ := info_addr
              obtain ⟨ir, zr, hir1, hir2, hir3, hir4, hir5⟩ := info_row
              have hsl2 : seen.length ≤ 6000 := by have := HL.out.seen_len; have := HL1.out; omega
              have HSL2 := Lib.hid hsl2
              have HSLS : Hid (sls.length ≤ 6000) := by
                have := HL.out.len
                have := HM.out.len
                show _ ≤ _
                omega
              clear hnot hsl2
              go_wp2_with (first
                | (refine wl_value (o := ⟨some 71, _, _, _, _, _⟩) (by rfl) (.agg e.ad.toArray) _ (run_load_op rfl rfl (run_loadVar_mid _ _ _ _ _ _ HXJ.out.whole Try.underlying40 rfl (by rw [HAL.out]; kernel_rfl))) ?_; simp only [Act.put, List.setIfInBounds_toArray, List.set_cons_zero, List.set_cons_succ])
                | (refine wpList_slice_one rfl 55 40 _ rfl Try.underlying55 (.agg zAd.toArray) Try.zeroValue40 33 Try.sizeOf40 rfl (by omega) (by omega) e.ad rfl HAL.out ?_; intro W11 hx11 hb11 hs11; have HM11 := Lib.hid (HMJ.out.step hb11); have HX11 := Lib.hid (HXJ.out.below hb11); have HN11 := Lib.hid hx11; clear hx11 hb11 hs11; simp only [Act.put, List.setIfInBounds_toArray, List.set_cons_zero, List.set_cons_succ])
                | (at_builtin; refine wpList_append_own_at (o := ⟨some 73, _, _, _, _, _⟩) _ rfl _ _ _ rfl wc.heap.size 40 ia za 33 33 Try.underlying55 hia1 hia2 hia4 hia5 hia3 (by omega) _ seen.length seen.flatten rfl HM11.out.o5 ⟨wr.heap.size, 0, none⟩ 1 1 e.ad rfl HAL.out HN11.out.news HAO.out (by have := HSL2.out; simp only [maxLen]; omega) (by have := HSL2.out; omega) HM11.out.sz ?_; intro v12 w12 ho12 hg12 hn12 ha12; have HM12 := Lib.hid (HM11.out.saw (seen' := seen ++ [e.ad]) hg12 (by rw [flat_snoc, List.length_append]; exact ho12)); have HX12 := Lib.hid (box_grown HX11.out hg12 (fun h => by have := H59.out _ h; omega)); have HXS12 := Lib.hid (HX15.out.below HM12.out.bl); have HB12 := Lib.hid (HB5.out.trans (HM12.out.bl.mono HB5.out.size)); clear ho12 hg12 hn12 ha12; simp only [Act.put, List.setIfInBounds_toArray, List.set_cons_zero, List.set_cons_succ])
                | (refine wl_value (o := ⟨some 75, _, _, _, _, _⟩) (by rfl) (.agg S.cs.toArray) _ (run_load_op rfl rfl (run_loadVar_mid _ _ _ _ _ _ HXS12.out.whole Try.underlying36 rfl (by rw [HS.out.len]; kernel_rfl))) ?_; simp only [Act.put, List.setIfInBounds_toArray, List.set_cons_zero, List.set_cons_succ])
                | (refine wl_value (o := ⟨some 76, _, _, _, _, _⟩) (by rfl) (.agg e.ad.toArray) _ (run_load_op rfl rfl (run_loadVar_mid _ _ _ _ _ _ HX12.out.whole Try.underlying40 rfl (by rw [HAL.out]; kernel_rfl))) ?_; simp only [Act.put, List.setIfInBounds_toArray, List.set_cons_zero, List.set_cons_succ])
                | (go_at_call 9; refine (balance_at S e.ad w12 (HS.out.below HB12.out) HE.out.fine (by have := HL1.out; omega) (by have := HL2.out; omega)).mono ?_; rintro x w13 ⟨sl, R, rfl, hro, hb13, hT⟩; obtain ⟨Asl, csl, rfl, _⟩ := own_form hro; have HM13 := Lib.hid (HM12.out.step hb13); have HRO := Lib.hid (own_base hro HM12.out.sz rfl); have HT := Lib.hid hT; clear hro hb13 hT)
                | (refine wpList_alloc_box rfl 57 rfl _ Try.zeroValue57 (encW 0) rfl ?_; intro W14 hx14 hb14 hs14; simp only [Act.put, List.setIfInBounds_toArray, List.set_cons_zero, List.set_cons_succ])
                | (refine wpList_store_box rfl 57 _ _ rfl w13.heap.size 0 (encW (csum (vals (S.es.filter (ofAddr e.ad))))) rfl rfl (encW 0) _ hx14 (Nat.le_refl _) (by kernel_rfl) (encW_one _) ?_; intro W15 hx15 ho15; have HW15 := Lib.hid (box_laid hx15 rfl); have hb15 := hb14.trans (ho15.below (Nat.le_refl _)); have HM15 := Lib.hid (HM13.out.step hb15); have HRO15 := Lib.hid (HRO.out.kept (below_grown hb15 rfl none) (by cases Value.ownBlock _ <;> simp)); clear hx14 hb14 hs14 hx15 ho15 hb15; generalize w13.heap.size = p15 at *; simp only [Act.put, List.setIfInBounds_toArray, List.set_cons_zero, List.set_cons_succ])
                | (refine wl_value (o := ⟨some 80, _, _, _, _, _⟩) (by rfl) (.agg (encW (cseen S seen)).toArray) _ (run_load_op rfl rfl (run_loadVar_mid _ _ _ _ _ _ HM15.out.coin.whole Try.underlying57 rfl (by kernel_rfl))) ?_; simp only [Act.put, List.setIfInBounds_toArray, List.set_cons_zero, List.set_cons_succ])
                | (refine wl_value (o := ⟨some 81, _, _, _, _, _⟩) (by rfl) (.agg (encW (csum (vals (S.es.filter (ofAddr e.ad))))).toArray) _ (run_load_op rfl rfl (run_loadVar_mid _ _ _ _ _ _ HW15.out.whole Try.underlying57 rfl (by kernel_rfl))) ?_; simp only [Act.put, List.setIfInBounds_toArray, List.set_cons_zero, List.set_cons_succ])
                | (refine wl_value (o := ⟨some 82, _, _, _, _, _⟩) (by rfl) _ _ (run_slice_wides _ rfl rfl rfl) ?_; have HPL := Lib.hid (Box.new W15 (encW (cseen S seen) ++ encW (csum (vals (S.es.filter (ofAddr e.ad))))) 57); have hb16 : Below W15.heap.size W15 (W15.alloc (.cells (encW (cseen S seen) ++ encW (csum (vals (S.es.filter (ofAddr e.ad))))).toArray 57)) := (Below.refl _ _).alloc (Nat.le_refl _) _; have HM16 := Lib.hid (HM15.out.step hb16); have HRO16 := Lib.hid (HRO15.out.kept (below_grown hb16 rfl none) (by cases Value.ownBlock _ <;> simp)); clear hb16; generalize W15.alloc (.cells (encW (cseen S seen) ++ encW (csum (vals (S.es.filter (ofAddr e.ad))))).toArray 57) = w16 at *; generalize W15.heap.size = b16 at *; simp only [Act.put, List.setIfInBounds_toArray, List.set_cons_zero, List.set_cons_succ])
                | (refine wl_call (o := ⟨some 83, _, _, _, _, _⟩) (by rfl) 7 #[.slice (some ⟨b16, 0, none⟩) 2 2] _ (by go_simp) (plus_two _ _ _ _ HPL.out) ?_; rintro v17 w17 ⟨rfl, hb17⟩; have HM17 := Lib.hid (HM16.out.step hb17); have HRO17 := Lib.hid (HRO16.out.kept (below_grown hb17 rfl none) (by cases Value.ownBlock _ <;> simp)); clear hb17; simp only [Act.put, List.setIfInBounds_toArray, List.set_cons_zero, List.set_cons_succ])
                | (refine wpList_store_box rfl 57 _ _ rfl p6 0 (encW (cseen S seen + csum (vals (S.es.filter (ofAddr e.ad))))) rfl rfl _ _ HM17.out.coin (Nat.le_refl _) (by kernel_rfl) (encW_one _) ?_; intro W18 hx18 ho18; have HM18 := Lib.hid (HM17.out.coined (box_laid hx18 rfl) ho18); have HRO18 := Lib.hid (HRO17.out.kept ho18.grown (.inr (own_box_ne HRO17.out HM17.out.coin (by decide)))); clear hx18 ho18; simp only [Act.put, List.setIfInBounds_toArray, List.set_cons_zero, List.set_cons_succ])
                | (refine wl_value (o := ⟨some 86, _, _, _, _, _⟩) (by rfl) (.slice (some ⟨W18.heap.size, 0, none⟩) 1 1) (W18.alloc (.cells #[.slice Asl R.length csl] 33)) (by go_simp) ?_; have hx19 := Box.new W18 [.slice Asl R.length csl] 33; have hb19 : Below W18.heap.size W18 (W18.alloc (.cells #[.slice Asl R.length csl] 33)) := (Below.refl _ _).alloc (Nat.le_refl _) _; have HN19 := Lib.hid hx19; have HM19 := Lib.hid (HM18.out.step hb19); have HRO19 := Lib.hid (HRO18.out.kept (below_grown hb19 rfl none) (by cases Value.ownBlock _ <;> simp)); clear hx19 hb19; generalize W18.alloc (.cells #[.slice Asl R.length csl] 33) = w19 at *; generalize W18.heap.size = b19 at *; simp only [Act.put, List.setIfInBounds_toArray, List.set_cons_zero, List.set_cons_succ])
                | (at_builtin; refine wpList_append_own_at (o := ⟨some 87, _, _, _, _, _⟩) _ rfl _ _ _ rfl wc.heap.size 33 ir zr 1 24 Try.underlying60 hir1 hir2 hir4 hir5 hir3 (by omega) _ sls.length sls rfl HM19.out.o7 ⟨b19, 0, none⟩ 1 1 [.slice Asl R.length csl] rfl rfl HN19.out.news (fun u hu => by rw [List.mem_singleton.1 hu]; rfl) (by have := HSLS.out; simp only [maxLen]; omega) (by have := HSLS.out; omega) HM19.out.sz ?_; intro v20 w20 ho20 hg20 hn20 ha20; have HM20 := Lib.hid (HM19.out.rowed HRO19.out hg20 (by rw [List.length_append]; exact ho20)); clear ho20 hg20 hn20 ha20; simp only [Act.put, List.setIfInBounds_toArray, List.set_cons_zero, List.set_cons_succ]))
              have hend : RL1 S w5 wc.heap.size p6 v12 v20 (.int .i64 (↑(k + 1))) w20 := ⟨k + 1, seen ++ [e.ad], sls ++ [.slice Asl R.length csl], Rs ++ [R], by omega, rfl, by rw [cseen_more]; exact HM20.out, HL.out.more HGE.out HNOT.out HT.out⟩
              have HEND := Lib.hid hend
              clear hend
              refine ⟨?_, by simp [intOf]; omega⟩
              first | exact HEND.out | ((repeat apply Exists.intro); exact ⟨HEND.out, rfl⟩)
              --]new
            · --[old
              have hin : e.ad ∈ seen := HBM2.out.1 rfl
              have hL9 := HL.out.known HGE.out hin
              have hend : RL1 S w5 wc.heap.size p6 (.slice A5 seen.length c5) u7 (.int .i64 (↑(k + 1))) wr := ⟨k + 1, seen, sls, Rs, by omega, rfl, HMJ.out, hL9⟩
              have HEND := Lib.hid hend
              clear hin hL9 hend
              go_wp2
              refine ⟨?_, by simp [intOf]; omega⟩
              first | exact HEND.out | ((repeat apply Exists.intro); exact ⟨HEND.out, rfl⟩)
              --]old
            --]l1
      · have hke : k = S.es.length := by omega
        have hcs := HL.out.coins hke
        have HCS := Lib.hid hcs.symm
        have HNM : Hid (∀ n, encW (tsum Rs.flatten n) = encW (vsum (vals S.es) n)) := HL.out.names hke
        have HRS := Lib.hid HM.out.rs
        have HRL := Lib.hid (HL.out.rlen_le HL1.out HL2.out)
        have HSR := Lib.hid (HS.out.below HBR.out)
        clear hk hlt hcs
        subst hke
        go_upto_region 22 with (refine wpList_load_cell rfl 28 _ rfl ⟨w.heap.size, 44, none⟩ rfl _ _ (HXR.out.cell HES0.out) Try.underlying28 rfl ?_; simp only [Act.put, List.setIfInBounds_toArray, List.set_cons_zero, List.set_cons_succ])
        go_cut [99] (fun v wx => RNo wr v wx)
        case first =>
            --[r22
            refine hw_begin (fun W => Box W p6 (encW (cseen S seen)) 57 ∧ Box W w.heap.size S.cs 36) mixed fun W hW => ?_
            have hS : Box W p6 (encW (cseen S seen)) 57 ∧ Box W w.heap.size S.cs 36 := by
              rw [hW]
              exact ⟨HM.out.coin.drew, HXR.out.drew⟩
            have hB : Below wr.heap.size wr W := by
              rw [hW]
              exact (Below.refl _ _).drew
            clear hW
            refine hw_take 0 (some 88) _ rfl rfl (by kernel_rfl) (by kernel_rfl) (by kernel_rfl) (fun _ _ _ _ h => h) (.agg (encW (cseen S seen)).toArray) rfl (fun W hW => run_load_op rfl rfl (run_loadVar_mid W _ _ _ _ _ hW.1.whole Try.underlying57 rfl (by kernel_rfl))) hS ?_
            simp only [Act.put, List.setIfInBounds_toArray, List.set_cons_zero, List.set_cons_succ]
            refine hw_take 1 (some 89) _ rfl rfl (by kernel_rfl) (by kernel_rfl) (by kernel_rfl) (fun _ _ _ _ h => h) (.agg S.cs.toArray) rfl (fun W hW => run_load_op rfl rfl (run_loadVar_mid W _ _ _ _ _ hW.2.whole Try.underlying36 rfl (by rw [HS.out.len]; kernel_rfl))) hS ?_
            simp only [Act.put, List.setIfInBounds_toArray, List.set_cons_zero, List.set_cons_succ]
            refine hw_call 2 (some 90) _ rfl (by kernel_rfl) rfl rfl 10 #[.agg S.cs.toArray] (fun v w' => v = .agg (encW (cseen S seen)).toArray ∧ Below W.heap.size W w') (by go_simp) (coins_to S W (HSR.out.below hB) (by have := HL1.out; omega) (by have := HL2.out; omega) _ HCS.out) ?_
            rintro v W1 ⟨rfl, hb⟩
            have hS := And.intro (hS.1.below hb) (hS.2.below hb)
            have hB := hB.trans (hb.mono hB.size)
            refine ⟨hS, ?_⟩
            simp only [Act.put, List.setIfInBounds_toArray, List.set_cons_zero, List.set_cons_succ]
            refine hw_take 3 (some 91) _ rfl rfl (by kernel_rfl) (by kernel_rfl) (by kernel_rfl) (fun _ _ _ _ h => h) (.bool false) rfl (fun W _ => run_neq_no W rfl rfl rfl kt_wide (fine_wide _)) hS ?_
            simp only [Act.put, List.setIfInBounds_toArray, List.set_cons_zero, List.set_cons_succ]
            refine hw_take 4 (some 92) _ rfl rfl (by kernel_rfl) (by kernel_rfl) (by kernel_rfl) (fun _ _ _ _ h => h) (.bool false) rfl (fun W _ => by go_simp) hS ?_
            simp only [Act.put, List.setIfInBounds_toArray, List.set_cons_zero, List.set_cons_succ]
            refine hg_take 5 (some 93) _ rfl rfl (by kernel_rfl) (by kernel_rfl) (by kernel_rfl) (fun _ _ _ _ h => h) u7 (by rfl) (fun W _ => by go_simp) hS ?_
            simp only [Act.put, List.setIfInBounds_toArray, List.set_cons_zero, List.set_cons_succ]
            refine hg_take 7 (some 95) _ rfl rfl (by kernel_rfl) (by kernel_rfl) (by kernel_rfl) (fun _ _ _ _ h => h) (.agg S.cs.toArray) (by rfl) (fun W hW => run_load_op rfl rfl (run_loadVar_mid W _ _ _ _ _ hW.2.whole Try.underlying36 rfl (by rw [HS.out.len]; kernel_rfl))) hS ?_
            simp only [Act.put, List.setIfInBounds_toArray, List.set_cons_zero, List.set_cons_succ]
            refine hg_call 6 (some 94) _ rfl (by kernel_rfl) rfl (by rfl) 12 #[u7] (RowPost (tsum Rs.flatten) W1) (by go_simp) (merge_to Rs u7 W1 (SlAt.below stays_row HRS.out hB) (by have := HRL.out; omega)) ?_
            rintro v2 W2 ⟨Y, hY, hb, hTY⟩
            have hS := And.intro (hS.1.below hb) (hS.2.below hb)
            have hB := hB.trans (hb.mono hB.size)
            refine ⟨hS, ?_⟩
            simp only [Act.put, List.setIfInBounds_toArray, List.set_cons_zero, List.set_cons_succ]
            refine hg_call 8 (some 96) _ rfl (by kernel_rfl) rfl (by rfl) 13 #[.agg S.cs.toArray] (RowPost (vsum (vals S.es)) W2) (by go_simp) (assets_at S W2 (HSR.out.below hB) (by have := HL1.out; omega) (by have := HL2.out; omega)) ?_
            rintro v3 W3 ⟨Z, hZ, hb3, hTZ⟩
            have hS := And.intro (hS.1.below hb3) (hS.2.below hb3)
            have hB := hB.trans (hb3.mono hB.size)
            refine ⟨hS, ?_⟩
            simp only [Act.put, List.setIfInBounds_toArray, List.set_cons_zero, List.set_cons_succ]
            refine hg_call 9 (some 97) _ rfl (by kernel_rfl) rfl (by rfl) 11 #[v2, v3] (BoolPost (Y.map encT = Z.map encT) W3) (by go_simp) (same_to Y Z v2 v3 W3 (SlAt.below stays_tot (TsAt.own hY) hb3) (TsAt.own hZ)) ?_
            rintro v4 W4 ⟨⟨bb, rfl, hbb⟩, hb4⟩
            have hS := And.intro (hS.1.below hb4) (hS.2.below hb4)
            have hB := hB.trans (hb4.mono hB.size)
            refine ⟨hS, ?_⟩
            simp only [Act.put, List.setIfInBounds_toArray, List.set_cons_zero, List.set_cons_succ]
            obtain rfl : bb = true := hbb.2 (told_same hTY hTZ HNM.out)
            refine hg_take 10 (some 98) _ rfl rfl (by kernel_rfl) (by kernel_rfl) (by kernel_rfl) (fun _ _ _ _ h => h) (.bool false) (by rfl) (fun W _ => by go_simp) hS ?_
            simp only [Act.put, List.setIfInBounds_toArray, List.set_cons_zero, List.set_cons_succ]
            refine hw_take 11 (some 99) _ rfl rfl (by kernel_rfl) (by kernel_rfl) (by kernel_rfl) (fun _ _ _ _ h => h) (.bool false) rfl (fun W _ => by go_simp) hS ?_
            simp only [Act.put, List.setIfInBounds_toArray, List.set_cons_zero, List.set_cons_succ]
            refine hw_done (by kernel_rfl) ?_
            go_wp2
            go_meet
            case rel => exact ⟨rfl, hB⟩
            --]r22
        case rest =>
          obtain ⟨rfl, hb22⟩ := hcut
          obtain ⟨wq, rfl⟩ : ∃ wq : World, wq = wc := ⟨_, rfl⟩
          have HMQ := Lib.hid (HM.out.step hb22)
          have HXSQ := Lib.hid (HXR.out.below hb22)
          have HX3Q := Lib.hid (HX25.out.below HMQ.out.bl)
          have HBQ := Lib.hid (HB5.out.trans (HMQ.out.bl.mono HB5.out.size))
          have HEQ := Lib.hid (SlAt.below stays_ent HEA.out HBQ.out)
          have HXE25 := Lib.hid (stays_ent _ _ _ _ HX.out HBQ.out)
          clear hb22
          go_upto_region 25 with (first
            | (refine wl_value (o := ⟨some 100, _, _, _, _, _⟩) (by rfl) (.agg S.cs.toArray) _ (run_load_op rfl rfl (run_loadVar_mid _ _ _ _ _ _ HXSQ.out.whole Try.underlying36 rfl (by rw [HS.out.len]; kernel_rfl))) ?_; simp only [Act.put, List.setIfInBounds_toArray, List.set_cons_zero, List.set_cons_succ])
            | (refine wpList_alloc_box rfl 36 rfl _ Try.zeroValue36 zSta rfl ?_; intro W24 hx24 hb24 hs24; simp only [Act.put, List.setIfInBounds_toArray, List.set_cons_zero, List.set_cons_succ])
            | (refine wpList_store_box rfl 36 _ _ rfl wq.heap.size 0 S.cs rfl rfl zSta _ hx24 (by rw [zSta_len, HS.out.len]; omega) (by rw [HS.out.len]; kernel_rfl) HS.out.one ?_; intro W25 hx25 ho25; have HP25 := Lib.hid (box_laid hx25 (by rw [zSta_len, HS.out.len])); have HB25 := Lib.hid (hb24.trans (ho25.below (Nat.le_refl _))); have HZ25 : Hid (wq.heap.size + 1 ≤ W25.heap.size) := (box_laid hx25 (by rw [zSta_len, HS.out.len])).lt; clear hx24 hb24 hs24 hx25 ho25; simp only [Act.put, List.setIfInBounds_toArray, List.set_cons_zero, List.set_cons_succ]))
          go_cut [] (fun wx => R25 S X wq wx)
          case first =>
            --[r25
            refine hw_begin (fun W => Below wq.heap.size wq W) mixed fun W hW => ?_
            have hS : Below wq.heap.size wq W := by
              rw [hW]
              exact HB25.out.trans (((Below.refl _ _).drew).mono HB25.out.size)
            have hP : Box W wq.heap.size S.cs 36 := by
              rw [hW]
              exact HP25.out.drew
            have hZ : wq.heap.size + 1 ≤ W.heap.size := by
              rw [hW]
              exact HZ25.out
            clear hW
            refine hw_take 1 (some 102) _ rfl rfl (by kernel_rfl) (by kernel_rfl) (by kernel_rfl) (fun _ _ _ _ h => h) (.pointer (some ⟨w.heap.size, 44, none⟩)) rfl (fun W _ => by go_simp) hS ?_
            simp only [Act.put, List.setIfInBounds_toArray, List.set_cons_zero, List.set_cons_succ]
            refine hw_take 2 (some 103) _ rfl rfl (by kernel_rfl) (by kernel_rfl) (by kernel_rfl) (fun _ _ _ _ h => h) (.slice A0 S.es.length c0) rfl (fun W hW => run_load_op rfl rfl (run_loadVar_cell W _ _ _ _ ((HXSQ.out.below hW).cell HES0.out) Try.underlying28 rfl)) hS ?_
            simp only [Act.put, List.setIfInBounds_toArray, List.set_cons_zero, List.set_cons_succ]
            refine hw_take 4 (some 105) _ rfl rfl (by kernel_rfl) (by kernel_rfl) (by kernel_rfl) (fun _ _ _ _ h => h) (.agg X.cs.toArray) rfl (fun W hW => run_load_op rfl rfl (run_loadVar_mid W _ _ _ _ _ (HX3Q.out.below hW).whole Try.underlying51 rfl (by rw [HX.out.len]; kernel_rfl))) hS ?_
            simp only [Act.put, List.setIfInBounds_toArray, List.set_cons_zero, List.set_cons_succ]
            refine hg_value_value 0 5 (some 101) (some 106) _ _ rfl rfl (by kernel_rfl) rfl rfl (by rfl) (by rfl) (.slice (some ⟨W.heap.size, 0, none⟩) 0 0) (W.alloc (.cells #[] 51)) (run_slice_nil_op _ rfl Try.underlying28 (.agg zEnt.toArray) Try.zeroValue51 102 Try.sizeOf51 (by omega) (by omega)) (.slice (some ⟨W.heap.size, 0, none⟩) 1 1) (W.alloc (.cells X.cs.toArray 51)) (run_slice_one_op _ rfl rfl Try.underlying28 (.agg zEnt.toArray) Try.zeroValue51 102 Try.sizeOf51 (by show zEnt.toArray.size = _; rw [List.size_toArray, zEnt_len]) (by omega) (by omega) HX.out.len) ?_ ?_
            · skip
              have hZ0 := hZ
              have hbA : Below W.heap.size W (W.alloc (.cells #[] 51)) := (Below.refl _ _).alloc (Nat.le_refl _) _
              replace hP := Box.below hP hbA
              replace hZ := Nat.le_trans hZ hbA.size
              replace hS := hS.trans (hbA.mono hS.size)
              clear hbA
              have hO : (W.alloc (.cells #[] 51)).ownsRow (wq.heap.size + 1) 51 102 (.slice (some ⟨W.heap.size, 0, none⟩) 0 0) 0 [] := World.ownsRow_lit W #[] 0 hZ0 (by simp [maxLen]) (by simp)
              clear hZ0
              generalize W.alloc (.cells #[] 51) = V1 at *
              generalize W.heap.size = q2 at *
              refine ⟨hS, ?_⟩
              simp only [Act.put, List.setIfInBounds_toArray, List.set_cons_zero, List.set_cons_succ]
              refine hg_ex_value 3 5 (some 104) (some 106) _ _ rfl rfl (by kernel_rfl) rfl rfl (by rfl) (by rfl) (run_append_es V1 rfl (wq.heap.size + 1) (.slice (some ⟨q2, 0, none⟩) 0 0) 0 [] rfl hO _ rfl S.es (SlAt.below stays_ent HEQ.out hS) (by have := HL1.out; omega) hZ) (.slice (some ⟨V1.heap.size, 0, none⟩) 1 1) (V1.alloc (.cells X.cs.toArray 51)) (run_slice_one_op _ rfl rfl Try.underlying28 (.agg zEnt.toArray) Try.zeroValue51 102 Try.sizeOf51 (by show zEnt.toArray.size = _; rw [List.size_toArray, zEnt_len]) (by omega) (by omega) HX.out.len) ?_ ?_
              · rintro va3 wa3 ⟨hoa3, hga3, hwa3⟩
                replace hP := box_grown hP hga3 (own_box_ne hO hP (by decide))
                replace hS := below_row hS hga3 hS.size (fun g h => by have := (hO.lt g h).1; omega)
                replace hZ := Nat.le_trans hZ hga3.size
                replace hO := hoa3
                rw [Nat.zero_add, List.nil_append] at hO
                clear hoa3 hga3 hwa3
                refine ⟨hS, ?_⟩
                simp only [Act.put, List.setIfInBounds_toArray, List.set_cons_zero, List.set_cons_succ]
                refine hg_value1 5 (some 106) _ rfl (by kernel_rfl) rfl (by rfl) (.slice (some ⟨wa3.heap.size, 0, none⟩) 1 1) (wa3.alloc (.cells X.cs.toArray 51)) (run_slice_one_op _ rfl rfl Try.underlying28 (.agg zEnt.toArray) Try.zeroValue51 102 Try.sizeOf51 (by show zEnt.toArray.size = _; rw [List.size_toArray, zEnt_len]) (by omega) (by omega) HX.out.len) ?_
                have hbA : Below wa3.heap.size wa3 (wa3.alloc (.cells X.cs.toArray 51)) := (Below.refl _ _).alloc (Nat.le_refl _) _
                replace hP := Box.below hP hbA
                replace hZ := Nat.le_trans hZ hbA.size
                replace hS := hS.trans (hbA.mono hS.size)
                replace hO := hO.alloc (.cells X.cs.toArray 51)
                clear hbA
                have hX5 := Box.new wa3 X.cs 51
                have hb5 : wa3.heap.size < (wa3.alloc (.cells X.cs.toArray 51)).heap.size := hX5.lt
                generalize wa3.alloc (.cells X.cs.toArray 51) = V4 at *
                generalize wa3.heap.size = q5 at *
                refine ⟨hS, ?_⟩
                simp only [Act.put, List.setIfInBounds_toArray, List.set_cons_zero, List.set_cons_succ]
                refine hg_ex 6 (some 107) _ rfl (by kernel_rfl) rfl (by rfl) (run_append_one V4 rfl (wq.heap.size + 1) va3 S.es.length (entsOf S.es) rfl hO q5 rfl X (stays_ent _ _ _ _ HXE25.out hS) hX5 (by have := HL1.out; omega) hZ) ?_
                rintro va6 wa6 ⟨hoa6, hga6, hwa6⟩
                replace hP := box_grown hP hga6 (own_box_ne hO hP (by decide))
                replace hS := below_row hS hga6 hS.size (fun g h => by have := (hO.lt g h).1; omega)
                replace hZ := Nat.le_trans hZ hga6.size
                replace hO := hoa6
                clear hoa6 hga6 hwa6
                refine ⟨hS, ?_⟩
                simp only [Act.put, List.setIfInBounds_toArray, List.set_cons_zero, List.set_cons_succ]
                refine hw_take 7 (some 108) _ rfl rfl (by kernel_rfl) (by kernel_rfl) (by kernel_rfl) (fun _ _ _ _ h => h) (.pointer (some ⟨wq.heap.size, 44, none⟩)) rfl (fun W _ => by go_simp) hS ?_
                simp only [Act.put, List.setIfInBounds_toArray, List.set_cons_zero, List.set_cons_succ]
                obtain ⟨A6, c6, rfl⟩ := es_form (X := X) hO
                refine hw_store_one 8 _ rfl (by kernel_rfl) rfl rfl 28 _ _ rfl wq.heap.size 44 (.slice A6 (S.es ++ [X]).length c6) rfl rfl _ _ hP (by rw [HS.out.len]; omega) rfl (by kernel_rfl) rfl ?_
                intro W9 hx9 ho9
                have hS9 := hS.trans ((ho9.below (Nat.le_refl _)).mono (Nat.le_refl _))
                refine ⟨hS9, ?_⟩
                have hrel : R25 S X wq W9 := ⟨A6, c6, by rw [laid_one _ _ _ (by rw [HS.out.len]; omega)] at hx9; exact hx9, es_at (hO.kept ho9.grown (.inr (own_box_ne hO hP (by decide)))) (fun e he => stays_ent _ _ _ _ (EsAt.ents HEQ.out e he) hS9) (stays_ent _ _ _ _ HXE25.out hS9), hS9⟩
                have HREL := Lib.hid hrel
                clear hrel hx9 ho9 hS9 hO hP hS
                refine hw_done (by kernel_rfl) ?_
                go_wp2
                go_meet
                case rel => exact HREL.out
              · skip
                have hne : Value.ownBlock (.slice (some ⟨q2, 0, none⟩) 0 0) ≠ some V1.heap.size := fun h => by have := (hO.lt _ h).2; omega
                have hbA : Below V1.heap.size V1 (V1.alloc (.cells X.cs.toArray 51)) := (Below.refl _ _).alloc (Nat.le_refl _) _
                replace hP := Box.below hP hbA
                replace hZ := Nat.le_trans hZ hbA.size
                replace hS := hS.trans (hbA.mono hS.size)
                replace hO := hO.alloc (.cells X.cs.toArray 51)
                clear hbA
                have hX5 := Box.new V1 X.cs 51
                have hb5 : V1.heap.size < (V1.alloc (.cells X.cs.toArray 51)).heap.size := hX5.lt
                generalize V1.alloc (.cells X.cs.toArray 51) = V7 at *
                generalize V1.heap.size = q8 at *
                refine ⟨hS, ?_⟩
                simp only [Act.put, List.setIfInBounds_toArray, List.set_cons_zero, List.set_cons_succ]
                refine hg_ex 3 (some 104) _ rfl (by kernel_rfl) rfl (by rfl) (run_append_es V7 rfl (wq.heap.size + 1) (.slice (some ⟨q2, 0, none⟩) 0 0) 0 [] rfl hO _ rfl S.es (SlAt.below stays_ent HEQ.out hS) (by have := HL1.out; omega) hZ) ?_
                rintro va9 wa9 ⟨hoa9, hga9, hwa9⟩
                replace hP := box_grown hP hga9 (own_box_ne hO hP (by decide))
                replace hS := below_row hS hga9 hS.size (fun g h => by have := (hO.lt g h).1; omega)
                replace hZ := Nat.le_trans hZ hga9.size
                replace hX5 := box_grown hX5 hga9 hne
                replace hO := hoa9
                rw [Nat.zero_add, List.nil_append] at hO
                clear hoa9 hga9 hwa9
                refine ⟨hS, ?_⟩
                simp only [Act.put, List.setIfInBounds_toArray, List.set_cons_zero, List.set_cons_succ]
                refine hg_ex 6 (some 107) _ rfl (by kernel_rfl) rfl (by rfl) (run_append_one wa9 rfl (wq.heap.size + 1) va9 S.es.length (entsOf S.es) rfl hO q8 rfl X (stays_ent _ _ _ _ HXE25.out hS) hX5 (by have := HL1.out; omega) hZ) ?_
                rintro va10 wa10 ⟨hoa10, hga10, hwa10⟩
                replace hP := box_grown hP hga10 (own_box_ne hO hP (by decide))
                replace hS := below_row hS hga10 hS.size (fun g h => by have := (hO.lt g h).1; omega)
                replace hZ := Nat.le_trans hZ hga10.size
                replace hO := hoa10
                clear hoa10 hga10 hwa10
                refine ⟨hS, ?_⟩
                simp only [Act.put, List.setIfInBounds_toArray, List.set_cons_zero, List.set_cons_succ]
                refine hw_take 7 (some 108) _ rfl rfl (by kernel_rfl) (by kernel_rfl) (by kernel_rfl) (fun _ _ _ _ h => h) (.pointer (some ⟨wq.heap.size, 44, none⟩)) rfl (fun W _ => by go_simp) hS ?_
                simp only [Act.put, List.setIfInBounds_toArray, List.set_cons_zero, List.set_cons_succ]
                obtain ⟨A6, c6, rfl⟩ := es_form (X := X) hO
                refine hw_store_one 8 _ rfl (by kernel_rfl) rfl rfl 28 _ _ rfl wq.heap.size 44 (.slice A6 (S.es ++ [X]).length c6) rfl rfl _ _ hP (by rw [HS.out.len]; omega) rfl (by kernel_rfl) rfl ?_
                intro W9 hx9 ho9
                have hS9 := hS.trans ((ho9.below (Nat.le_refl _)).mono (Nat.le_refl _))
                refine ⟨hS9, ?_⟩
                have hrel : R25 S X wq W9 := ⟨A6, c6, by rw [laid_one _ _ _ (by rw [HS.out.len]; omega)] at hx9; exact hx9, es_at (hO.kept ho9.grown (.inr (own_box_ne hO hP (by decide)))) (fun e he => stays_ent _ _ _ _ (EsAt.ents HEQ.out e he) hS9) (stays_ent _ _ _ _ HXE25.out hS9), hS9⟩
                have HREL := Lib.hid hrel
                clear hrel hx9 ho9 hS9 hO hP hS
                refine hw_done (by kernel_rfl) ?_
                go_wp2
                go_meet
                case rel => exact HREL.out
            · skip
              have hbA : Below W.heap.size W (W.alloc (.cells X.cs.toArray 51)) := (Below.refl _ _).alloc (Nat.le_refl _) _
              replace hP := Box.below hP hbA
              replace hZ := Nat.le_trans hZ hbA.size
              replace hS := hS.trans (hbA.mono hS.size)
              clear hbA
              have hX5 := Box.new W X.cs 51
              have hb5 : W.heap.size < (W.alloc (.cells X.cs.toArray 51)).heap.size := hX5.lt
              generalize W.alloc (.cells X.cs.toArray 51) = V11 at *
              generalize W.heap.size = q12 at *
              refine ⟨hS, ?_⟩
              simp only [Act.put, List.setIfInBounds_toArray, List.set_cons_zero, List.set_cons_succ]
              refine hg_value1 0 (some 101) _ rfl (by kernel_rfl) rfl (by rfl) (.slice (some ⟨V11.heap.size, 0, none⟩) 0 0) (V11.alloc (.cells #[] 51)) (run_slice_nil_op _ rfl Try.underlying28 (.agg zEnt.toArray) Try.zeroValue51 102 Try.sizeOf51 (by omega) (by omega)) ?_
              have hZ0 := hZ
              have hbA : Below V11.heap.size V11 (V11.alloc (.cells #[] 51)) := (Below.refl _ _).alloc (Nat.le_refl _) _
              replace hP := Box.below hP hbA
              replace hZ := Nat.le_trans hZ hbA.size
              replace hS := hS.trans (hbA.mono hS.size)
              replace hX5 := Box.below hX5 hbA
              clear hbA
              have hne : Value.ownBlock (.slice (some ⟨V11.heap.size, 0, none⟩) 0 0) ≠ some q12 := fun h => by simp [Value.ownBlock] at h; omega
              have hO : (V11.alloc (.cells #[] 51)).ownsRow (wq.heap.size + 1) 51 102 (.slice (some ⟨V11.heap.size, 0, none⟩) 0 0) 0 [] := World.ownsRow_lit V11 #[] 0 hZ0 (by simp [maxLen]) (by simp)
              clear hZ0
              generalize V11.alloc (.cells #[] 51) = V13 at *
              generalize V11.heap.size = q14 at *
              refine ⟨hS, ?_⟩
              simp only [Act.put, List.setIfInBounds_toArray, List.set_cons_zero, List.set_cons_succ]
              refine hg_ex 3 (some 104) _ rfl (by kernel_rfl) rfl (by rfl) (run_append_es V13 rfl (wq.heap.size + 1) (.slice (some ⟨q14, 0, none⟩) 0 0) 0 [] rfl hO _ rfl S.es (SlAt.below stays_ent HEQ.out hS) (by have := HL1.out; omega) hZ) ?_
              rintro va15 wa15 ⟨hoa15, hga15, hwa15⟩
              replace hP := box_grown hP hga15 (own_box_ne hO hP (by decide))
              replace hS := below_row hS hga15 hS.size (fun g h => by have := (hO.lt g h).1; omega)
              replace hZ := Nat.le_trans hZ hga15.size
              replace hX5 := box_grown hX5 hga15 hne
              replace hO := hoa15
              rw [Nat.zero_add, List.nil_append] at hO
              clear hoa15 hga15 hwa15
              refine ⟨hS, ?_⟩
              simp only [Act.put, List.setIfInBounds_toArray, List.set_cons_zero, List.set_cons_succ]
              refine hg_ex 6 (some 107) _ rfl (by kernel_rfl) rfl (by rfl) (run_append_one wa15 rfl (wq.heap.size + 1) va15 S.es.length (entsOf S.es) rfl hO q12 rfl X (stays_ent _ _ _ _ HXE25.out hS) hX5 (by have := HL1.out; omega) hZ) ?_
              rintro va16 wa16 ⟨hoa16, hga16, hwa16⟩
              replace hP := box_grown hP hga16 (own_box_ne hO hP (by decide))
              replace hS := below_row hS hga16 hS.size (fun g h => by have := (hO.lt g h).1; omega)
              replace hZ := Nat.le_trans hZ hga16.size
              replace hO := hoa16
              clear hoa16 hga16 hwa16
              refine ⟨hS, ?_⟩
              simp only [Act.put, List.setIfInBounds_toArray, List.set_cons_zero, List.set_cons_succ]
              refine hw_take 7 (some 108) _ rfl rfl (by kernel_rfl) (by kernel_rfl) (by kernel_rfl) (fun _ _ _ _ h => h) (.pointer (some ⟨wq.heap.size, 44, none⟩)) rfl (fun W _ => by go_simp) hS ?_
              simp only [Act.put, List.setIfInBounds_toArray, List.set_cons_zero, List.set_cons_succ]
              obtain ⟨A6, c6, rfl⟩ := es_form (X := X) hO
              refine hw_store_one 8 _ rfl (by kernel_rfl) rfl rfl 28 _ _ rfl wq.heap.size 44 (.slice A6 (S.es ++ [X]).length c6) rfl rfl _ _ hP (by rw [HS.out.len]; omega) rfl (by kernel_rfl) rfl ?_
              intro W9 hx9 ho9
              have hS9 := hS.trans ((ho9.below (Nat.le_refl _)).mono (Nat.le_refl _))
              refine ⟨hS9, ?_⟩
              have hrel : R25 S X wq W9 := ⟨A6, c6, by rw [laid_one _ _ _ (by rw [HS.out.len]; omega)] at hx9; exact hx9, es_at (hO.kept ho9.grown (.inr (own_box_ne hO hP (by decide)))) (fun e he => stays_ent _ _ _ _ (EsAt.ents HEQ.out e he) hS9) (stays_ent _ _ _ _ HXE25.out hS9), hS9⟩
              have HREL := Lib.hid hrel
              clear hrel hx9 ho9 hS9 hO hP hS
              refine hw_done (by kernel_rfl) ?_
              go_wp2
              go_meet
              case rel => exact HREL.out
            --]r25
          case rest =>
            obtain ⟨A9, c9, hx14, hE9, hb25⟩ := hcut
            obtain ⟨wy, rfl⟩ : ∃ wy : World, wy = wc := ⟨_, rfl⟩
            have HX14 := Lib.hid hx14
            have HB9 := Lib.hid (HBQ.out.trans (hb25.mono HBQ.out.size))
            have HS9 := Lib.hid (HS.out.below HB9.out)
            have HT9 := Lib.hid (en_staMore HS9.out hE9)
            have HXS9 := Lib.hid (HXSQ.out.below hb25)
            have HX39 := Lib.hid (HX3Q.out.below hb25)
            have HMY := Lib.hid (HMQ.out.step hb25)
            have HXE9 := Lib.hid (stays_ent _ _ _ _ HX.out HB9.out)
            have HTL1 : Hid ((S.es ++ [X]).length ≤ 1000000) := by
              show _ ≤ _
              rw [List.length_append]
              have := HL1.out
              simp
              omega
            have HVC : Hid ((vc X).length = 2) := by
              show _ = _
              unfold vc
              rw [List.length_take, List.length_drop, HX.out.len]
              rfl
            have HVL1 : Hid (vlen [X.val] ≤ 6000) := by
              show vlen [X.val] ≤ _
              have := HL3.out
              simp [vlen]
              omega
            have HTL2 : Hid (vlen (vals (S.es ++ [X])) ≤ 1000000) := by
              show _ ≤ _
              rw [vals_more, vlen_app]
              have := HL2.out
              have := HVL1.out
              omega
            clear hx14 hE9 hb25
            go_upto_region 27 with (first
              | (refine wl_value (o := ⟨some 112, _, _, _, _, _⟩) (by rfl) (.agg (vc X).toArray) _ (run_load_op rfl rfl (run_loadVar_mid _ p3 66 _ (vc X) _ (HX39.out.range 66 2) Try.underlying43 rfl (by rw [HVC.out]; kernel_rfl))) ?_; simp only [Act.put, List.setIfInBounds_toArray, List.set_cons_zero, List.set_cons_succ])
              | (refine wpList_slice_one rfl 95 43 _ rfl Try.underlying95 (.agg zVal.toArray) Try.zeroValue43 2 Try.sizeOf43 rfl (by omega) (by omega) (vc X) rfl HVC.out ?_; intro Wa hxa hba hsa; have HVS := Lib.hid (vs_one hxa (stays_val _ _ _ _ HXE9.out.val hba) HVC.out); have HBA := Lib.hid hba; clear hxa hba hsa; simp only [Act.put, List.setIfInBounds_toArray, List.set_cons_zero, List.set_cons_succ])
              | (go_at_call 14; refine (sums_to [X.val] _ _ HVS.out (by have := HVL1.out; omega)).mono ?_; rintro e wb ⟨AX, cX, RX, rfl, hTX, hbb, hTOX⟩; have HTXB := Lib.hid hTX; have HTOX := Lib.hid hTOX; have HBB := Lib.hid (HBA.out.trans (hbb.mono HBA.out.size)); clear hTX hbb hTOX)
              | (refine wpList_alloc_box rfl 57 rfl _ Try.zeroValue57 (encW 0) rfl ?_; intro Wc hxc hbc hsc; simp only [Act.put, List.setIfInBounds_toArray, List.set_cons_zero, List.set_cons_succ])
              | (refine wpList_store_box rfl 57 _ _ rfl wb.heap.size 0 (encW (csum [X.val])) rfl rfl (encW 0) _ hxc (Nat.le_refl _) (by kernel_rfl) (encW_one _) ?_; intro Wd hxd hod; have HW15 := Lib.hid (box_laid hxd rfl); have hbd := hbc.trans (hod.below (Nat.le_refl _)); have HTX := Lib.hid (SlAt.below stays_tot HTXB.out hbd); have HBD := Lib.hid (HBB.out.trans (hbd.mono HBB.out.size)); clear hxc hbc hsc hxd hod hbd; generalize wb.heap.size = p15 at *; simp only [Act.put, List.setIfInBounds_toArray, List.set_cons_zero, List.set_cons_succ]))
            have HX14' := Lib.hid (HX14.out.below HBD.out)
            have HXS9' := Lib.hid (HXS9.out.below HBD.out)
            have HT9' := Lib.hid (HT9.out.below HBD.out)
            have HS9' := Lib.hid (HS9.out.below HBD.out)
            go_cut [135] (fun v wx => RNo Wd v wx)
            case first =>
              --[r27
              replace HX14 := HX14'
              replace HXS9 := HXS9'
              replace HT9 := HT9'
              replace HS9 := HS9'
              refine hw_begin (fun W => Below Wd.heap.size Wd W) mixed fun W hW => ?_
              have hS : Below Wd.heap.size Wd W := by
                rw [hW]
                exact (Below.refl _ _).drew
              clear hW
              refine hw_take 0 (some 117) _ rfl rfl (by kernel_rfl) (by kernel_rfl) (by kernel_rfl) (fun _ _ _ _ h => h) (.agg (staMore S X (.slice A9 (S.es ++ [X]).length c9)).cs.toArray) rfl (fun W hW => run_load_op rfl rfl (run_loadVar_mid W _ _ _ _ _ (HX14.out.below hW).whole Try.underlying36 rfl (by rw [HT9.out.len]; kernel_rfl))) hS ?_
              simp only [Act.put, List.setIfInBounds_toArray, List.set_cons_zero, List.set_cons_succ]
              refine hw_take 2 (some 119) _ rfl rfl (by kernel_rfl) (by kernel_rfl) (by kernel_rfl) (fun _ _ _ _ h => h) (.agg S.cs.toArray) rfl (fun W hW => run_load_op rfl rfl (run_loadVar_mid W _ _ _ _ _ (HXS9.out.below hW).whole Try.underlying36 rfl (by rw [HS.out.len]; kernel_rfl))) hS ?_
              simp only [Act.put, List.setIfInBounds_toArray, List.set_cons_zero, List.set_cons_succ]
              refine hw_take 4 (some 121) _ rfl rfl (by kernel_rfl) (by kernel_rfl) (by kernel_rfl) (fun _ _ _ _ h => h) (.agg (encW (csum [X.val])).toArray) rfl (fun W hW => run_load_op rfl rfl (run_loadVar_mid W _ _ _ _ _ (HW15.out.below hW).whole Try.underlying57 rfl (by kernel_rfl))) hS ?_
              simp only [Act.put, List.setIfInBounds_toArray, List.set_cons_zero, List.set_cons_succ]
              refine hw_call 1 (some 118) _ rfl (by kernel_rfl) rfl rfl 10 #[.agg (staMore S X (.slice A9 (S.es ++ [X]).length c9)).cs.toArray] (fun v w' => v = .agg (encW ((csum (vals S.es) + S.fees + S.forf) + csum [X.val])).toArray ∧ Below W.heap.size W w') (by go_simp) (coins_to (staMore S X (.slice A9 (S.es ++ [X]).length c9)) W (HT9.out.below hS) HTL1.out HTL2.out _ (coins_more S X _)) ?_
              rintro v W1 ⟨rfl, hb⟩
              replace hS := hS.trans (hb.mono hS.size)
              refine ⟨hS, ?_⟩
              simp only [Act.put, List.setIfInBounds_toArray, List.set_cons_zero, List.set_cons_succ]
              refine hw_call 3 (some 120) _ rfl (by kernel_rfl) rfl rfl 10 #[.agg S.cs.toArray] (fun v w' => v = .agg (encW (csum (vals S.es) + S.fees + S.forf)).toArray ∧ Below W1.heap.size W1 w') (by go_simp) (coins_to S W1 (HS9.out.below hS) (by have := HL1.out; omega) (by have := HL2.out; omega) _ rfl) ?_
              rintro v2 W2 ⟨rfl, hb2⟩
              replace hS := hS.trans (hb2.mono hS.size)
              refine ⟨hS, ?_⟩
              simp only [Act.put, List.setIfInBounds_toArray, List.set_cons_zero, List.set_cons_succ]
              refine hg_value1 5 (some 122) _ rfl (by kernel_rfl) rfl (by rfl) _ _ (run_slice_wides _ rfl rfl rfl) ?_
              have hL3 := Box.new W2 (encW (csum (vals S.es) + S.fees + S.forf) ++ encW (csum [X.val])) 57
              have hb3 : Below W2.heap.size W2 (W2.alloc (.cells (encW (csum (vals S.es) + S.fees + S.forf) ++ encW (csum [X.val])).toArray 57)) := (Below.refl _ _).alloc (Nat.le_refl _) _
              replace hS := hS.trans (hb3.mono hS.size)
              clear hb3
              generalize W2.alloc (.cells (encW (csum (vals S.es) + S.fees + S.forf) ++ encW (csum [X.val])).toArray 57) = W3 at *
              generalize W2.heap.size = q3 at *
              refine ⟨hS, ?_⟩
              simp only [Act.put, List.setIfInBounds_toArray, List.set_cons_zero, List.set_cons_succ]
              refine hw_call 6 (some 123) _ rfl (by kernel_rfl) rfl rfl 7 #[.slice (some ⟨q3, 0, none⟩) 2 2] (fun v w' => v = .agg (encW ((csum (vals S.es) + S.fees + S.forf) + csum [X.val])).toArray ∧ Below W3.heap.size W3 w') (by go_simp) (plus_two _ _ _ _ hL3) ?_
              rintro v4 W4 ⟨rfl, hb4⟩
              replace hS := hS.trans (hb4.mono hS.size)
              refine ⟨hS, ?_⟩
              simp only [Act.put, List.setIfInBounds_toArray, List.set_cons_zero, List.set_cons_succ]
              refine hw_take 7 (some 124) _ rfl rfl (by kernel_rfl) (by kernel_rfl) (by kernel_rfl) (fun _ _ _ _ h => h) (.bool false) rfl (fun W _ => run_neq_no W rfl rfl rfl kt_wide (fine_wide _)) hS ?_
              simp only [Act.put, List.setIfInBounds_toArray, List.set_cons_zero, List.set_cons_succ]
              refine hw_take 8 (some 125) _ rfl rfl (by kernel_rfl) (by kernel_rfl) (by kernel_rfl) (fun _ _ _ _ h => h) (.bool false) rfl (fun W _ => by go_simp) hS ?_
              simp only [Act.put, List.setIfInBounds_toArray, List.set_cons_zero, List.set_cons_succ]
              refine hg_take 9 (some 126) _ rfl rfl (by kernel_rfl) (by kernel_rfl) (by kernel_rfl) (fun _ _ _ _ h => h) (.agg (staMore S X (.slice A9 (S.es ++ [X]).length c9)).cs.toArray) (by rfl) (fun W hW => run_load_op rfl rfl (run_loadVar_mid W _ _ _ _ _ (HX14.out.below hW).whole Try.underlying36 rfl (by rw [HT9.out.len]; kernel_rfl))) hS ?_
              simp only [Act.put, List.setIfInBounds_toArray, List.set_cons_zero, List.set_cons_succ]
              refine hg_take 11 (some 128) _ rfl rfl (by kernel_rfl) (by kernel_rfl) (by kernel_rfl) (fun _ _ _ _ h => h) (.agg S.cs.toArray) (by rfl) (fun W hW => run_load_op rfl rfl (run_loadVar_mid W _ _ _ _ _ (HXS9.out.below hW).whole Try.underlying36 rfl (by rw [HS.out.len]; kernel_rfl))) hS ?_
              simp only [Act.put, List.setIfInBounds_toArray, List.set_cons_zero, List.set_cons_succ]
              refine hg_take 13 (some 130) _ rfl rfl (by kernel_rfl) (by kernel_rfl) (by kernel_rfl) (fun _ _ _ _ h => h) (.slice AX RX.length cX) (by rfl) (fun W _ => by go_simp) hS ?_
              simp only [Act.put, List.setIfInBounds_toArray, List.set_cons_zero, List.set_cons_succ]
              refine hg_call 10 (some 127) _ rfl (by kernel_rfl) rfl (by rfl) 13 #[.agg (staMore S X (.slice A9 (S.es ++ [X]).length c9)).cs.toArray] (RowPost (vsum (vals (staMore S X (.slice A9 (S.es ++ [X]).length c9)).es)) W4) (by go_simp) (assets_at (staMore S X (.slice A9 (S.es ++ [X]).length c9)) W4 (HT9.out.below hS) (Nat.le_trans HTL1.out (by omega)) (Nat.le_trans HTL2.out (by omega))) ?_
              rintro v5 W5 ⟨TA, hTA, hb5, hTTA⟩
              replace hS := hS.trans (hb5.mono hS.size)
              refine ⟨hS, ?_⟩
              simp only [Act.put, List.setIfInBounds_toArray, List.set_cons_zero, List.set_cons_succ]
              refine hg_call 12 (some 129) _ rfl (by kernel_rfl) rfl (by rfl) 13 #[.agg S.cs.toArray] (RowPost (vsum (vals S.es)) W5) (by go_simp) (assets_at S W5 (HS9.out.below hS) (by have := HL1.out; omega) (by have := HL2.out; omega)) ?_
              rintro v6 W6 ⟨Z, hZ, hb6, hTZ⟩
              replace hS := hS.trans (hb6.mono hS.size)
              refine ⟨hS, ?_⟩
              simp only [Act.put, List.setIfInBounds_toArray, List.set_cons_zero, List.set_cons_succ]
              obtain ⟨Az, cz, rfl, _⟩ := own_form hZ
              have hTS5 : TsAt W6 v5 TA := SlAt.below stays_tot (TsAt.own hTA) hb6
              have hTS6 : TsAt W6 (.slice Az Z.length cz) Z := TsAt.own hZ
              refine hg_value1 14 (some 131) _ rfl (by kernel_rfl) rfl (by rfl) (.slice (some ⟨W6.heap.size, 0, none⟩) 2 2) (W6.alloc (.cells #[.slice Az Z.length cz, .slice AX RX.length cX] 33)) (by go_simp) ?_
              have hL7 : Box (W6.alloc (.cells #[.slice Az Z.length cz, .slice AX RX.length cX] 33)) W6.heap.size [.slice Az Z.length cz, .slice AX RX.length cX] 33 := Box.new _ _ _
              have hb7 : Below W6.heap.size W6 (W6.alloc (.cells #[.slice Az Z.length cz, .slice AX RX.length cX] 33)) := (Below.refl _ _).alloc (Nat.le_refl _) _
              replace hS := hS.trans (hb7.mono hS.size)
              replace hTS5 := SlAt.below stays_tot hTS5 hb7
              replace hTS6 := SlAt.below stays_tot hTS6 hb7
              clear hb7 hZ hTA
              generalize W6.alloc (.cells #[.slice Az Z.length cz, .slice AX RX.length cX] 33) = W7 at *
              generalize W6.heap.size = q7 at *
              refine ⟨hS, ?_⟩
              simp only [Act.put, List.setIfInBounds_toArray, List.set_cons_zero, List.set_cons_succ]
              refine hg_call 15 (some 132) _ rfl (by kernel_rfl) rfl (by rfl) 12 #[.slice (some ⟨q7, 0, none⟩) 2 2] (RowPost (tsum [Z, RX].flatten) W7) (by go_simp) (merge_to [Z, RX] _ W7 (rs_two hL7 hTS6 (SlAt.below stays_tot HTX.out hS)) (by have h1 := told_len hTZ; have h2 := told_len HTOX.out; have := HL2.out; have := HVL1.out; simp [rlen]; omega)) ?_
              rintro v8 W8 ⟨Y, hY, hb8, hTY⟩
              replace hS := hS.trans (hb8.mono hS.size)
              refine ⟨hS, ?_⟩
              simp only [Act.put, List.setIfInBounds_toArray, List.set_cons_zero, List.set_cons_succ]
              refine hg_call 16 (some 133) _ rfl (by kernel_rfl) rfl (by rfl) 11 #[v5, v8] (BoolPost (TA.map encT = Y.map encT) W8) (by go_simp) (same_to TA Y v5 v8 W8 (SlAt.below stays_tot hTS5 hb8) (TsAt.own hY)) ?_
              rintro v9 W9 ⟨⟨bb, rfl, hbb⟩, hb9⟩
              replace hS := hS.trans (hb9.mono hS.size)
              refine ⟨hS, ?_⟩
              simp only [Act.put, List.setIfInBounds_toArray, List.set_cons_zero, List.set_cons_succ]
              obtain rfl : bb = true := hbb.2 (told_same hTTA hTY (names_more hTZ HTOX.out))
              refine hg_take 17 (some 134) _ rfl rfl (by kernel_rfl) (by kernel_rfl) (by kernel_rfl) (fun _ _ _ _ h => h) (.bool false) (by rfl) (fun W _ => by go_simp) hS ?_
              simp only [Act.put, List.setIfInBounds_toArray, List.set_cons_zero, List.set_cons_succ]
              refine hw_take 18 (some 135) _ rfl rfl (by kernel_rfl) (by kernel_rfl) (by kernel_rfl) (fun _ _ _ _ h => h) (.bool false) rfl (fun W _ => by go_simp) hS ?_
              simp only [Act.put, List.setIfInBounds_toArray, List.set_cons_zero, List.set_cons_succ]
              have HSS := Lib.hid hS
              clear hS
              refine hw_done (by kernel_rfl) ?_
              go_wp2
              go_meet
              case rel => exact ⟨rfl, HSS.out⟩
              --]r27
            case rest =>
              obtain ⟨rfl, hb27⟩ := hcut
              obtain ⟨wz, rfl⟩ : ∃ wz : World, wz = wc := ⟨_, rfl⟩
              have HXSZ := Lib.hid (HXS9'.out.below hb27)
              have HX14Z := Lib.hid (HX14'.out.below hb27)
              have HTZ := Lib.hid (HT9'.out.below hb27)
              have HSZ := Lib.hid (HS9'.out.below hb27)
              have HBDZ := Lib.hid (HBD.out.trans (hb27.mono HBD.out.size))
              have HX3Z := Lib.hid (HX39.out.below HBDZ.out)
              have HMZ := Lib.hid (HMY.out.step HBDZ.out)
              have HBZ := Lib.hid (HB9.out.trans (HBDZ.out.mono HB9.out.size))
              obtain ⟨A5, c5, b5, o5, e5, hlc5, hcm5, -, hA5, hx5⟩ := HMZ.out.ads (HL.out.fines HEA.out)
              subst e5
              have HA5 := Lib.hid hA5
              have HX5 := Lib.hid hx5
              have hsl : seen.length < 9223372036854775807 := by have := HL.out.seen_len; have := HL1.out; omega
              have HXL := Lib.hid (ad_len HX.out.fine)
              clear hlc5 hcm5 hA5 hx5 hb27
              go_wp2
              go_loopw [17] (fun i wr => RL3 seen (World.heap wz).size wz i wr) (fun i _ => seen.length - (intOf i).toNat)
              case atStart => exact ⟨0, Nat.zero_le _, rfl, Below.refl _ _⟩
              case round =>
                obtain ⟨j, hj, rfl, hBW⟩ := hrel
                have HBW := Lib.hid hBW
                clear hBW
                by_cases hlt : j < seen.length
                · --[l3
                  have hga : seen[j]? = some seen[j] := List.getElem?_eq_getElem hlt
                  generalize seen[j] = a at hga
                  obtain ⟨csa, ⟨hcsa, hfa, hal⟩, hla, hra⟩ := HX5.out j a hga
                  rw [hcsa] at hra
                  obtain rfl := HA5.out (by omega)
                  have HRA := Lib.hid hra
                  have HFA := Lib.hid hfa
                  have HAL := Lib.hid hal
                  clear hra hfa hal hla hga hcsa csa
                  have HSR3 := Lib.hid (HSZ.out.below HBW.out)
                  have HXSR3 := Lib.hid (HXSZ.out.below HBW.out)
                  go_upto_region 32 with fail
                  go_cut [18, 19] (fun v v' wx => RB S a wr v v' wx)
                  case first =>
                      --[r32
                      refine hw_begin (fun W => Below wr.heap.size wr W) mixed fun W hW => ?_
                      have hS : Below wr.heap.size wr W := by
                        rw [hW]
                        exact (Below.refl _ _).drew
                      clear hW
                      refine hw_take 0 (some 143) _ rfl rfl (by kernel_rfl) (by kernel_rfl) (by kernel_rfl) (fun _ _ _ _ h => h) (.agg S.cs.toArray) rfl (fun W hW => run_load_op rfl rfl (run_loadVar_mid W _ _ _ _ _ (HXSR3.out.below hW).whole Try.underlying36 rfl (by rw [HS.out.len]; kernel_rfl))) hS ?_
                      simp only [Act.put, List.setIfInBounds_toArray, List.set_cons_zero, List.set_cons_succ]
                      refine hw_take 1 (some 144) _ rfl rfl (by kernel_rfl) (by kernel_rfl) (by kernel_rfl) (fun _ _ _ _ h => h) (.slice (some ⟨b5, o5, none⟩) seen.length c5) rfl (fun W _ => by go_simp) hS ?_
                      simp only [Act.put, List.setIfInBounds_toArray, List.set_cons_zero, List.set_cons_succ]
                      refine hw_take 2 (some 145) _ rfl rfl (by kernel_rfl) (by kernel_rfl) (by kernel_rfl) (fun _ _ _ _ h => h) (.int .i64 j) rfl (fun W _ => by go_simp) hS ?_
                      simp only [Act.put, List.setIfInBounds_toArray, List.set_cons_zero, List.set_cons_succ]
                      refine hw_take 3 (some 146) _ rfl rfl (by kernel_rfl) (by kernel_rfl) (by kernel_rfl) (fun _ _ _ _ h => h) (.pointer (some ⟨b5, o5 + j * 33, none⟩)) rfl (fun W _ => by go_simp) hS ?_
                      simp only [Act.put, List.setIfInBounds_toArray, List.set_cons_zero, List.set_cons_succ]
                      refine hw_take 4 (some 147) _ rfl rfl (by kernel_rfl) (by kernel_rfl) (by kernel_rfl) (fun _ _ _ _ h => h) (.agg a.toArray) rfl (fun W hW => run_load_op rfl rfl (run_loadVar_mid W _ _ _ _ _ (rangeAt_below HRA.out (HBW.out.trans (hW.mono HBW.out.size))) Try.underlying40 rfl (by rw [HAL.out]; kernel_rfl))) hS ?_
                      simp only [Act.put, List.setIfInBounds_toArray, List.set_cons_zero, List.set_cons_succ]
                      refine hg_call_value 5 9 (some 148) (some 18) _ _ rfl rfl (by kernel_rfl) rfl rfl (by rfl) (by rfl) 9 #[.agg S.cs.toArray, .agg a.toArray] (BalRow S a W) (by go_simp) (balance_to S a W (HSR3.out.below hS) HFA.out (by have := HL1.out; omega) (by have := HL2.out; omega)) _ _ (run_alloc_op _ rfl _ Try.zeroValue57 (encW 0) rfl) ?_ ?_
                      · skip
                        rintro v WB ⟨A, c, R, rfl, hTS, hbB, hTD⟩
                        replace hS := hS.trans (hbB.mono hS.size)
                        clear hbB
                        refine ⟨hS, ?_⟩
                        simp only [Act.put, List.setIfInBounds_toArray, List.set_cons_zero, List.set_cons_succ]
                        refine hw_take 6 (some 142) _ rfl rfl (by kernel_rfl) (by kernel_rfl) (by kernel_rfl) (fun _ _ _ _ h => h) (.tuple #[.agg (encW (csum (vals (S.es.filter (ofAddr a))))).toArray, .slice A R.length c]) rfl (fun W _ => by go_simp) hS ?_
                        simp only [Act.put, List.setIfInBounds_toArray, List.set_cons_zero, List.set_cons_succ]
                        refine hw_take 7 (some 149) _ rfl rfl (by kernel_rfl) (by kernel_rfl) (by kernel_rfl) (fun _ _ _ _ h => h) (.agg (encW (csum (vals (S.es.filter (ofAddr a))))).toArray) rfl (fun W _ => by go_simp) hS ?_
                        simp only [Act.put, List.setIfInBounds_toArray, List.set_cons_zero, List.set_cons_succ]
                        refine hw_take 8 (some 150) _ rfl rfl (by kernel_rfl) (by kernel_rfl) (by kernel_rfl) (fun _ _ _ _ h => h) (.slice A R.length c) rfl (fun W _ => by go_simp) hS ?_
                        simp only [Act.put, List.setIfInBounds_toArray, List.set_cons_zero, List.set_cons_succ]
                        refine hg_value1 9 (some 18) _ rfl (by kernel_rfl) rfl (by rfl) _ _ (run_alloc_op _ rfl _ Try.zeroValue57 (encW 0) rfl) ?_
                        have hP := Box.new WB (encW 0) 57
                        have hge : wr.heap.size ≤ WB.heap.size := hS.size
                        have hbA : Below WB.heap.size WB (WB.alloc (.cells (encW 0).toArray 57)) := (Below.refl _ _).alloc (Nat.le_refl _) _
                        replace hS := hS.trans (hbA.mono hS.size)
                        replace hTS := hTS.alloc (.cells (encW 0).toArray 57)
                        clear hbA
                        generalize WB.alloc (.cells (encW 0).toArray 57) = WA at *
                        generalize WB.heap.size = pA at *
                        refine ⟨hS, ?_⟩
                        simp only [Act.put, List.setIfInBounds_toArray, List.set_cons_zero, List.set_cons_succ]
                        refine hw_store_box 10 _ rfl (by kernel_rfl) rfl rfl 57 _ _ rfl pA 0 (encW (csum (vals (S.es.filter (ofAddr a))))) rfl rfl _ _ hP (Nat.le_refl _) (by kernel_rfl) (encW_one _) ?_
                        intro W9 hx9 ho9
                        have hT9 := TsAt.own (hTS.kept ho9.grown (.inr (own_box_ne hTS hP (by decide))))
                        have hrel : RB S a wr (.pointer (some ⟨pA, 0, none⟩)) (.slice A R.length c) W9 := ⟨pA, A, c, R, rfl, box_laid hx9 rfl, rfl, hT9, hTD, hS.trans (ho9.below hge)⟩
                        have hS9 := hS.trans (ho9.below hge)
                        refine ⟨hS9, ?_⟩
                        have HREL := Lib.hid hrel
                        clear hrel hx9 ho9 hT9 hTS hP hS hTD hge
                        refine hw_take 11 (some 19) _ rfl rfl (by kernel_rfl) (by kernel_rfl) (by kernel_rfl) (fun _ _ _ _ h => h) (.slice A R.length c) rfl (fun W _ => by go_simp) hS9 ?_
                        simp only [Act.put, List.setIfInBounds_toArray, List.set_cons_zero, List.set_cons_succ]
                        refine hw_done (by kernel_rfl) ?_
                        go_wp2
                        go_meet
                        case rel => exact HREL.out
                      · skip
                        have hP := Box.new W (encW 0) 57
                        have hge : wr.heap.size ≤ W.heap.size := hS.size
                        have hbA : Below W.heap.size W (W.alloc (.cells (encW 0).toArray 57)) := (Below.refl _ _).alloc (Nat.le_refl _) _
                        replace hS := hS.trans (hbA.mono hS.size)
                        clear hbA
                        generalize W.alloc (.cells (encW 0).toArray 57) = WA at *
                        generalize W.heap.size = pA at *
                        refine ⟨hS, ?_⟩
                        simp only [Act.put, List.setIfInBounds_toArray, List.set_cons_zero, List.set_cons_succ]
                        refine hw_call 5 (some 148) _ rfl (by kernel_rfl) rfl rfl 9 #[.agg S.cs.toArray, .agg a.toArray] (BalRow S a WA) (by go_simp) (balance_to S a WA (HSR3.out.below hS) HFA.out (by have := HL1.out; omega) (by have := HL2.out; omega)) ?_
                        rintro v WB ⟨A, c, R, rfl, hTS, hbB, hTD⟩
                        replace hS := hS.trans (hbB.mono hS.size)
                        replace hP := Box.below hP hbB
                        clear hbB
                        refine ⟨hS, ?_⟩
                        simp only [Act.put, List.setIfInBounds_toArray, List.set_cons_zero, List.set_cons_succ]
                        refine hw_take 6 (some 142) _ rfl rfl (by kernel_rfl) (by kernel_rfl) (by kernel_rfl) (fun _ _ _ _ h => h) (.tuple #[.agg (encW (csum (vals (S.es.filter (ofAddr a))))).toArray, .slice A R.length c]) rfl (fun W _ => by go_simp) hS ?_
                        simp only [Act.put, List.setIfInBounds_toArray, List.set_cons_zero, List.set_cons_succ]
                        refine hw_take 7 (some 149) _ rfl rfl (by kernel_rfl) (by kernel_rfl) (by kernel_rfl) (fun _ _ _ _ h => h) (.agg (encW (csum (vals (S.es.filter (ofAddr a))))).toArray) rfl (fun W _ => by go_simp) hS ?_
                        simp only [Act.put, List.setIfInBounds_toArray, List.set_cons_zero, List.set_cons_succ]
                        refine hw_take 8 (some 150) _ rfl rfl (by kernel_rfl) (by kernel_rfl) (by kernel_rfl) (fun _ _ _ _ h => h) (.slice A R.length c) rfl (fun W _ => by go_simp) hS ?_
                        simp only [Act.put, List.setIfInBounds_toArray, List.set_cons_zero, List.set_cons_succ]
                        refine hw_store_box 10 _ rfl (by kernel_rfl) rfl rfl 57 _ _ rfl pA 0 (encW (csum (vals (S.es.filter (ofAddr a))))) rfl rfl _ _ hP (Nat.le_refl _) (by kernel_rfl) (encW_one _) ?_
                        intro W9 hx9 ho9
                        have hT9 := TsAt.own (hTS.kept ho9.grown (.inr (own_box_ne hTS hP (by decide))))
                        have hrel : RB S a wr (.pointer (some ⟨pA, 0, none⟩)) (.slice A R.length c) W9 := ⟨pA, A, c, R, rfl, box_laid hx9 rfl, rfl, hT9, hTD, hS.trans (ho9.below hge)⟩
                        have hS9 := hS.trans (ho9.below hge)
                        refine ⟨hS9, ?_⟩
                        have HREL := Lib.hid hrel
                        clear hrel hx9 ho9 hT9 hTS hP hS hTD hge
                        refine hw_take 11 (some 19) _ rfl rfl (by kernel_rfl) (by kernel_rfl) (by kernel_rfl) (fun _ _ _ _ h => h) (.slice A R.length c) rfl (fun W _ => by go_simp) hS9 ?_
                        simp only [Act.put, List.setIfInBounds_toArray, List.set_cons_zero, List.set_cons_succ]
                        refine hw_done (by kernel_rfl) ?_
                        go_wp2
                        go_meet
                        case rel => exact HREL.out
                      --]r32
                  case rest =>
                    obtain ⟨p18, A1, c1, R1, rfl, hp18, rfl, hts1, htd1, hb32⟩ := hcut
                    obtain ⟨wh, rfl⟩ : ∃ wh : World, wh = wc := ⟨_, rfl⟩
                    have HBH := Lib.hid (HBW.out.trans (hb32.mono HBW.out.size))
                    have HP18 := Lib.hid hp18
                    have HTS1 := Lib.hid hts1
                    have HTD1 := Lib.hid htd1
                    have HT33 := Lib.hid (HTZ.out.below HBH.out)
                    have HX33 := Lib.hid (HX14Z.out.below HBH.out)
                    clear hp18 hts1 htd1 hb32
                    go_upto_region 33 with fail
                    go_cut [20, 21] (fun v v' wx => RB (staMore S X (.slice A9 (S.es ++ [X]).length c9)) a wh v v' wx)
                    case first =>
                        --[r33
                        refine hw_begin (fun W => Below wh.heap.size wh W) mixed fun W hW => ?_
                        have hS : Below wh.heap.size wh W := by
                          rw [hW]
                          exact (Below.refl _ _).drew
                        clear hW
                        refine hw_take 0 (some 152) _ rfl rfl (by kernel_rfl) (by kernel_rfl) (by kernel_rfl) (fun _ _ _ _ h => h) (.agg (staMore S X (.slice A9 (S.es ++ [X]).length c9)).cs.toArray) rfl (fun W hW => run_load_op rfl rfl (run_loadVar_mid W _ _ _ _ _ (HX33.out.below hW).whole Try.underlying36 rfl (by rw [HT33.out.len]; kernel_rfl))) hS ?_
                        simp only [Act.put, List.setIfInBounds_toArray, List.set_cons_zero, List.set_cons_succ]
                        refine hw_take 1 (some 153) _ rfl rfl (by kernel_rfl) (by kernel_rfl) (by kernel_rfl) (fun _ _ _ _ h => h) (.slice (some ⟨b5, o5, none⟩) seen.length c5) rfl (fun W _ => by go_simp) hS ?_
                        simp only [Act.put, List.setIfInBounds_toArray, List.set_cons_zero, List.set_cons_succ]
                        refine hw_take 2 (some 154) _ rfl rfl (by kernel_rfl) (by kernel_rfl) (by kernel_rfl) (fun _ _ _ _ h => h) (.int .i64 j) rfl (fun W _ => by go_simp) hS ?_
                        simp only [Act.put, List.setIfInBounds_toArray, List.set_cons_zero, List.set_cons_succ]
                        refine hw_take 3 (some 155) _ rfl rfl (by kernel_rfl) (by kernel_rfl) (by kernel_rfl) (fun _ _ _ _ h => h) (.pointer (some ⟨b5, o5 + j * 33, none⟩)) rfl (fun W _ => by go_simp) hS ?_
                        simp only [Act.put, List.setIfInBounds_toArray, List.set_cons_zero, List.set_cons_succ]
                        refine hw_take 4 (some 156) _ rfl rfl (by kernel_rfl) (by kernel_rfl) (by kernel_rfl) (fun _ _ _ _ h => h) (.agg a.toArray) rfl (fun W hW => run_load_op rfl rfl (run_loadVar_mid W _ _ _ _ _ (rangeAt_below HRA.out (HBH.out.trans (hW.mono HBH.out.size))) Try.underlying40 rfl (by rw [HAL.out]; kernel_rfl))) hS ?_
                        simp only [Act.put, List.setIfInBounds_toArray, List.set_cons_zero, List.set_cons_succ]
                        refine hg_call_value 5 9 (some 157) (some 20) _ _ rfl rfl (by kernel_rfl) rfl rfl (by rfl) (by rfl) 9 #[.agg (staMore S X (.slice A9 (S.es ++ [X]).length c9)).cs.toArray, .agg a.toArray] (BalRow (staMore S X (.slice A9 (S.es ++ [X]).length c9)) a W) (by go_simp) (balance_to (staMore S X (.slice A9 (S.es ++ [X]).length c9)) a W (HT33.out.below hS) HFA.out HTL1.out HTL2.out) _ _ (run_alloc_op _ rfl _ Try.zeroValue57 (encW 0) rfl) ?_ ?_
                        · skip
                          rintro v WB ⟨A, c, R, rfl, hTS, hbB, hTD⟩
                          replace hS := hS.trans (hbB.mono hS.size)
                          clear hbB
                          refine ⟨hS, ?_⟩
                          simp only [Act.put, List.setIfInBounds_toArray, List.set_cons_zero, List.set_cons_succ]
                          refine hw_take 6 (some 151) _ rfl rfl (by kernel_rfl) (by kernel_rfl) (by kernel_rfl) (fun _ _ _ _ h => h) (.tuple #[.agg (encW (csum (vals ((staMore S X (.slice A9 (S.es ++ [X]).length c9)).es.filter (ofAddr a))))).toArray, .slice A R.length c]) rfl (fun W _ => by go_simp) hS ?_
                          simp only [Act.put, List.setIfInBounds_toArray, List.set_cons_zero, List.set_cons_succ]
                          refine hw_take 7 (some 158) _ rfl rfl (by kernel_rfl) (by kernel_rfl) (by kernel_rfl) (fun _ _ _ _ h => h) (.agg (encW (csum (vals ((staMore S X (.slice A9 (S.es ++ [X]).length c9)).es.filter (ofAddr a))))).toArray) rfl (fun W _ => by go_simp) hS ?_
                          simp only [Act.put, List.setIfInBounds_toArray, List.set_cons_zero, List.set_cons_succ]
                          refine hw_take 8 (some 159) _ rfl rfl (by kernel_rfl) (by kernel_rfl) (by kernel_rfl) (fun _ _ _ _ h => h) (.slice A R.length c) rfl (fun W _ => by go_simp) hS ?_
                          simp only [Act.put, List.setIfInBounds_toArray, List.set_cons_zero, List.set_cons_succ]
                          refine hg_value1 9 (some 20) _ rfl (by kernel_rfl) rfl (by rfl) _ _ (run_alloc_op _ rfl _ Try.zeroValue57 (encW 0) rfl) ?_
                          have hP := Box.new WB (encW 0) 57
                          have hge : wh.heap.size ≤ WB.heap.size := hS.size
                          have hbA : Below WB.heap.size WB (WB.alloc (.cells (encW 0).toArray 57)) := (Below.refl _ _).alloc (Nat.le_refl _) _
                          replace hS := hS.trans (hbA.mono hS.size)
                          replace hTS := hTS.alloc (.cells (encW 0).toArray 57)
                          clear hbA
                          generalize WB.alloc (.cells (encW 0).toArray 57) = WA at *
                          generalize WB.heap.size = pA at *
                          refine ⟨hS, ?_⟩
                          simp only [Act.put, List.setIfInBounds_toArray, List.set_cons_zero, List.set_cons_succ]
                          refine hw_store_box 10 _ rfl (by kernel_rfl) rfl rfl 57 _ _ rfl pA 0 (encW (csum (vals ((staMore S X (.slice A9 (S.es ++ [X]).length c9)).es.filter (ofAddr a))))) rfl rfl _ _ hP (Nat.le_refl _) (by kernel_rfl) (encW_one _) ?_
                          intro W9 hx9 ho9
                          have hT9 := TsAt.own (hTS.kept ho9.grown (.inr (own_box_ne hTS hP (by decide))))
                          have hrel : RB (staMore S X (.slice A9 (S.es ++ [X]).length c9)) a wh (.pointer (some ⟨pA, 0, none⟩)) (.slice A R.length c) W9 := ⟨pA, A, c, R, rfl, box_laid hx9 rfl, rfl, hT9, hTD, hS.trans (ho9.below hge)⟩
                          have hS9 := hS.trans (ho9.below hge)
                          refine ⟨hS9, ?_⟩
                          have HREL := Lib.hid hrel
                          clear hrel hx9 ho9 hT9 hTS hP hS hTD hge
                          refine hw_take 11 (some 21) _ rfl rfl (by kernel_rfl) (by kernel_rfl) (by kernel_rfl) (fun _ _ _ _ h => h) (.slice A R.length c) rfl (fun W _ => by go_simp) hS9 ?_
                          simp only [Act.put, List.setIfInBounds_toArray, List.set_cons_zero, List.set_cons_succ]
                          refine hw_done (by kernel_rfl) ?_
                          go_wp2
                          go_meet
                          case rel => exact HREL.out
                        · skip
                          have hP := Box.new W (encW 0) 57
                          have hge : wh.heap.size ≤ W.heap.size := hS.size
                          have hbA : Below W.heap.size W (W.alloc (.cells (encW 0).toArray 57)) := (Below.refl _ _).alloc (Nat.le_refl _) _
                          replace hS := hS.trans (hbA.mono hS.size)
                          clear hbA
                          generalize W.alloc (.cells (encW 0).toArray 57) = WA at *
                          generalize W.heap.size = pA at *
                          refine ⟨hS, ?_⟩
                          simp only [Act.put, List.setIfInBounds_toArray, List.set_cons_zero, List.set_cons_succ]
                          refine hw_call 5 (some 157) _ rfl (by kernel_rfl) rfl rfl 9 #[.agg (staMore S X (.slice A9 (S.es ++ [X]).length c9)).cs.toArray, .agg a.toArray] (BalRow (staMore S X (.slice A9 (S.es ++ [X]).length c9)) a WA) (by go_simp) (balance_to (staMore S X (.slice A9 (S.es ++ [X]).length c9)) a WA (HT33.out.below hS) HFA.out HTL1.out HTL2.out) ?_
                          rintro v WB ⟨A, c, R, rfl, hTS, hbB, hTD⟩
                          replace hS := hS.trans (hbB.mono hS.size)
                          replace hP := Box.below hP hbB
                          clear hbB
                          refine ⟨hS, ?_⟩
                          simp only [Act.put, List.setIfInBounds_toArray, List.set_cons_zero, List.set_cons_succ]
                          refine hw_take 6 (some 151) _ rfl rfl (by kernel_rfl) (by kernel_rfl) (by kernel_rfl) (fun _ _ _ _ h => h) (.tuple #[.agg (encW (csum (vals ((staMore S X (.slice A9 (S.es ++ [X]).length c9)).es.filter (ofAddr a))))).toArray, .slice A R.length c]) rfl (fun W _ => by go_simp) hS ?_
                          simp only [Act.put, List.setIfInBounds_toArray, List.set_cons_zero, List.set_cons_succ]
                          refine hw_take 7 (some 158) _ rfl rfl (by kernel_rfl) (by kernel_rfl) (by kernel_rfl) (fun _ _ _ _ h => h) (.agg (encW (csum (vals ((staMore S X (.slice A9 (S.es ++ [X]).length c9)).es.filter (ofAddr a))))).toArray) rfl (fun W _ => by go_simp) hS ?_
                          simp only [Act.put, List.setIfInBounds_toArray, List.set_cons_zero, List.set_cons_succ]
                          refine hw_take 8 (some 159) _ rfl rfl (by kernel_rfl) (by kernel_rfl) (by kernel_rfl) (fun _ _ _ _ h => h) (.slice A R.length c) rfl (fun W _ => by go_simp) hS ?_
                          simp only [Act.put, List.setIfInBounds_toArray, List.set_cons_zero, List.set_cons_succ]
                          refine hw_store_box 10 _ rfl (by kernel_rfl) rfl rfl 57 _ _ rfl pA 0 (encW (csum (vals ((staMore S X (.slice A9 (S.es ++ [X]).length c9)).es.filter (ofAddr a))))) rfl rfl _ _ hP (Nat.le_refl _) (by kernel_rfl) (encW_one _) ?_
                          intro W9 hx9 ho9
                          have hT9 := TsAt.own (hTS.kept ho9.grown (.inr (own_box_ne hTS hP (by decide))))
                          have hrel : RB (staMore S X (.slice A9 (S.es ++ [X]).length c9)) a wh (.pointer (some ⟨pA, 0, none⟩)) (.slice A R.length c) W9 := ⟨pA, A, c, R, rfl, box_laid hx9 rfl, rfl, hT9, hTD, hS.trans (ho9.below hge)⟩
                          have hS9 := hS.trans (ho9.below hge)
                          refine ⟨hS9, ?_⟩
                          have HREL := Lib.hid hrel
                          clear hrel hx9 ho9 hT9 hTS hP hS hTD hge
                          refine hw_take 11 (some 21) _ rfl rfl (by kernel_rfl) (by kernel_rfl) (by kernel_rfl) (fun _ _ _ _ h => h) (.slice A R.length c) rfl (fun W _ => by go_simp) hS9 ?_
                          simp only [Act.put, List.setIfInBounds_toArray, List.set_cons_zero, List.set_cons_succ]
                          refine hw_done (by kernel_rfl) ?_
                          go_wp2
                          go_meet
                          case rel => exact HREL.out
                        --]r33
                    case rest =>
                      obtain ⟨p20, A2, c2, R2, rfl, hp20, rfl, hts2, htd2, hb33⟩ := hcut
                      obtain ⟨wi, rfl⟩ : ∃ wi : World, wi = wc := ⟨_, rfl⟩
                      have HB33 := Lib.hid hb33
                      have HBI := Lib.hid (HBH.out.trans (hb33.mono HBH.out.size))
                      have HXAD : Hid (wi.rangeAt p3 33 X.ad) := by
                        have := (HX3Z.out.below HBI.out).range 33 33
                        rw [HX.out.addr] at this
                        exact this
                      have HTS1I := Lib.hid (SlAt.below stays_tot HTS1.out hb33)
                      have HTS2 := Lib.hid hts2
                      have HP20' := Lib.hid hp20
                      have HTD2' := Lib.hid htd2
                      clear hb33 hts2 hp20 htd2
                      --[r34
                      by_cases hax : a = X.ad
                      · have hsm : same a X.ad = true := (same_iff _ _).2 hax
                        have HSM := Lib.hid hsm
                        clear hsm hax
                        go_wp2
                        refine hw_begin (fun W => Below wi.heap.size wi W) mixed fun W hW => ?_
                        have hS : Below wi.heap.size wi W := by
                          rw [hW]
                          exact (Below.refl _ _).drew
                        clear hW
                        refine hw_take 0 (some 160) _ rfl rfl (by kernel_rfl) (by kernel_rfl) (by kernel_rfl) (fun _ _ _ _ h => h) (.slice (some ⟨b5, o5, none⟩) seen.length c5) rfl (fun W _ => by go_simp) hS ?_
                        simp only [Act.put, List.setIfInBounds_toArray, List.set_cons_zero, List.set_cons_succ]
                        refine hw_take 1 (some 161) _ rfl rfl (by kernel_rfl) (by kernel_rfl) (by kernel_rfl) (fun _ _ _ _ h => h) (.int .i64 j) rfl (fun W _ => by go_simp) hS ?_
                        simp only [Act.put, List.setIfInBounds_toArray, List.set_cons_zero, List.set_cons_succ]
                        refine hw_take 2 (some 162) _ rfl rfl (by kernel_rfl) (by kernel_rfl) (by kernel_rfl) (fun _ _ _ _ h => h) (.pointer (some ⟨b5, o5 + j * 33, none⟩)) rfl (fun W _ => by go_simp) hS ?_
                        simp only [Act.put, List.setIfInBounds_toArray, List.set_cons_zero, List.set_cons_succ]
                        refine hw_take 3 (some 163) _ rfl rfl (by kernel_rfl) (by kernel_rfl) (by kernel_rfl) (fun _ _ _ _ h => h) (.agg a.toArray) rfl (fun W hW => run_load_op rfl rfl (run_loadVar_mid W _ _ _ _ _ (rangeAt_below HRA.out (HBI.out.trans (hW.mono HBI.out.size))) Try.underlying40 rfl (by rw [HAL.out]; kernel_rfl))) hS ?_
                        simp only [Act.put, List.setIfInBounds_toArray, List.set_cons_zero, List.set_cons_succ]
                        refine hw_take 4 (some 164) _ rfl rfl (by kernel_rfl) (by kernel_rfl) (by kernel_rfl) (fun _ _ _ _ h => h) (.pointer (some ⟨p3, 33, none⟩)) rfl (fun W _ => by go_simp) hS ?_
                        simp only [Act.put, List.setIfInBounds_toArray, List.set_cons_zero, List.set_cons_succ]
                        refine hw_take 5 (some 165) _ rfl rfl (by kernel_rfl) (by kernel_rfl) (by kernel_rfl) (fun _ _ _ _ h => h) (.pointer (some ⟨p3, 33, none⟩)) rfl (fun W _ => by go_simp) hS ?_
                        simp only [Act.put, List.setIfInBounds_toArray, List.set_cons_zero, List.set_cons_succ]
                        refine hw_take 6 (some 166) _ rfl rfl (by kernel_rfl) (by kernel_rfl) (by kernel_rfl) (fun _ _ _ _ h => h) (.agg X.ad.toArray) rfl (fun W hW => run_load_op rfl rfl (run_loadVar_mid W _ _ _ _ _ (rangeAt_below HXAD.out hW) Try.underlying40 rfl (by rw [HXL.out]; kernel_rfl))) hS ?_
                        simp only [Act.put, List.setIfInBounds_toArray, List.set_cons_zero, List.set_cons_succ]
                        refine hw_take 7 (some 167) _ rfl rfl (by kernel_rfl) (by kernel_rfl) (by kernel_rfl) (fun _ _ _ _ h => h) (.bool false) rfl (fun W _ => run_neq_is false true HSM.out rfl W rfl rfl rfl kt_addr HFA.out HX.out.fine) hS ?_
                        simp only [Act.put, List.setIfInBounds_toArray, List.set_cons_zero, List.set_cons_succ]
                        refine hw_take 8 (some 168) _ rfl rfl (by kernel_rfl) (by kernel_rfl) (by kernel_rfl) (fun _ _ _ _ h => h) (.bool false) rfl (fun W _ => run_move_op W rfl rfl) hS ?_
                        simp only [Act.put, List.setIfInBounds_toArray, List.set_cons_zero, List.set_cons_succ]
                        refine hg_off 9 (some 169) _ rfl rfl (by kernel_rfl) (by kernel_rfl) (by kernel_rfl) (fun _ _ _ _ h => h) (by rfl) hS ?_
                        simp only [Act.put, List.setIfInBounds_toArray, List.set_cons_zero, List.set_cons_succ]
                        refine hg_off 10 (some 170) _ rfl rfl (by kernel_rfl) (by kernel_rfl) (by kernel_rfl) (fun _ _ _ _ h => h) (by rfl) hS ?_
                        simp only [Act.put, List.setIfInBounds_toArray, List.set_cons_zero, List.set_cons_succ]
                        refine hg_off 11 (some 171) _ rfl rfl (by kernel_rfl) (by kernel_rfl) (by kernel_rfl) (fun _ _ _ _ h => h) (by rfl) hS ?_
                        simp only [Act.put, List.setIfInBounds_toArray, List.set_cons_zero, List.set_cons_succ]
                        refine hg_off 12 (some 172) _ rfl rfl (by kernel_rfl) (by kernel_rfl) (by kernel_rfl) (fun _ _ _ _ h => h) (by rfl) hS ?_
                        simp only [Act.put, List.setIfInBounds_toArray, List.set_cons_zero, List.set_cons_succ]
                        refine hg_off 13 (some 173) _ rfl rfl (by kernel_rfl) (by kernel_rfl) (by kernel_rfl) (fun _ _ _ _ h => h) (by rfl) hS ?_
                        simp only [Act.put, List.setIfInBounds_toArray, List.set_cons_zero, List.set_cons_succ]
                        refine hg_off 14 (some 174) _ rfl rfl (by kernel_rfl) (by kernel_rfl) (by kernel_rfl) (fun _ _ _ _ h => h) (by rfl) hS ?_
                        simp only [Act.put, List.setIfInBounds_toArray, List.set_cons_zero, List.set_cons_succ]
                        refine hg_off 15 (some 175) _ rfl rfl (by kernel_rfl) (by kernel_rfl) (by kernel_rfl) (fun _ _ _ _ h => h) (by rfl) hS ?_
                        simp only [Act.put, List.setIfInBounds_toArray, List.set_cons_zero, List.set_cons_succ]
                        refine hg_off 16 (some 176) _ rfl rfl (by kernel_rfl) (by kernel_rfl) (by kernel_rfl) (fun _ _ _ _ h => h) (by rfl) hS ?_
                        simp only [Act.put, List.setIfInBounds_toArray, List.set_cons_zero, List.set_cons_succ]
                        refine hg_off 17 (some 177) _ rfl rfl (by kernel_rfl) (by kernel_rfl) (by kernel_rfl) (fun _ _ _ _ h => h) (by rfl) hS ?_
                        simp only [Act.put, List.setIfInBounds_toArray, List.set_cons_zero, List.set_cons_succ]
                        refine hw_take 18 (some 178) _ rfl rfl (by kernel_rfl) (by kernel_rfl) (by kernel_rfl) (fun _ _ _ _ h => h) (.bool false) rfl (fun W _ => run_pick_op W rfl rfl rfl) hS ?_
                        simp only [Act.put, List.setIfInBounds_toArray, List.set_cons_zero, List.set_cons_succ]
                        have hend : RL3 seen wz.heap.size wz (.int .i64 (↑(j + 1))) W := ⟨j + 1, by omega, rfl, HBI.out.trans (hS.mono HBI.out.size)⟩
                        have HEND := Lib.hid hend
                        clear hend hS
                        refine hw_done (by kernel_rfl) ?_
                        go_wp2
                        refine ⟨?_, by simp [intOf]; omega⟩
                        first | exact HEND.out | ((repeat apply Exists.intro); exact ⟨HEND.out, rfl⟩)
                      · --[r34n
                        have hsm : same a X.ad = false := by
                          rw [Bool.eq_false_iff]
                          exact fun h => hax ((same_iff _ _).1 h)
                        have hfi : (staMore S X (.slice A9 (S.es ++ [X]).length c9)).es.filter (ofAddr a) = S.es.filter (ofAddr a) := filter_other S.es X fun h => hax h.symm
                        have HP20 : Hid (Box wi p20 (encW (csum (vals (S.es.filter (ofAddr a))))) 57) := by
                          have := HP20'.out
                          rw [hfi] at this
                          exact this
                        have htd2 := HTD2'.out
                        rw [hfi] at htd2
                        have HSAME : Hid (∀ W, Below wi.heap.size wi W → Calls Try.prog 11 #[.slice A1 R1.length c1, .slice A2 R2.length c2] W fun e W' => e = .returned (.bool true) ∧ Below wi.heap.size wi W') := fun W hW =>
                          (same_any R1 R2 _ _ W (SlAt.below stays_tot HTS1I.out hW) (SlAt.below stays_tot HTS2.out hW)).mono fun e W' ⟨⟨b, h1, h2⟩, h3⟩ => by
                            have hb : b = true := h2.2 (told_same HTD1.out htd2 fun _ => rfl)
                            subst hb
                            exact ⟨h1, hW.trans (h3.mono hW.size)⟩
                        have HSM := Lib.hid hsm
                        clear hsm hax hfi htd2
                        go_wp2
                        refine wp_region_below mixed (by kernel_rfl) ?_
                        refine qg_run (.slice (some ⟨b5, o5, none⟩) seen.length c5) (by rfl) (fun W _ => by go_simp) ?_
                        simp only [Act.put, List.setIfInBounds_toArray, List.set_cons_zero, List.set_cons_succ]
                        refine qg_run (.int .i64 j) (by rfl) (fun W _ => by go_simp) ?_
                        simp only [Act.put, List.setIfInBounds_toArray, List.set_cons_zero, List.set_cons_succ]
                        refine qg_run (.pointer (some ⟨b5, o5 + j * 33, none⟩)) (by rfl) (fun W _ => by go_simp) ?_
                        simp only [Act.put, List.setIfInBounds_toArray, List.set_cons_zero, List.set_cons_succ]
                        refine qg_run (.agg a.toArray) (by rfl) (fun W hW => run_load_op rfl rfl (run_loadVar_mid W _ _ _ _ _ (rangeAt_below HRA.out (HBI.out.trans (hW.mono HBI.out.size))) Try.underlying40 rfl (by rw [HAL.out]; kernel_rfl))) ?_
                        simp only [Act.put, List.setIfInBounds_toArray, List.set_cons_zero, List.set_cons_succ]
                        refine qg_run (.pointer (some ⟨p3, 33, none⟩)) (by rfl) (fun W _ => by go_simp) ?_
                        simp only [Act.put, List.setIfInBounds_toArray, List.set_cons_zero, List.set_cons_succ]
                        refine qg_run (.pointer (some ⟨p3, 33, none⟩)) (by rfl) (fun W _ => by go_simp) ?_
                        simp only [Act.put, List.setIfInBounds_toArray, List.set_cons_zero, List.set_cons_succ]
                        refine qg_run (.agg X.ad.toArray) (by rfl) (fun W hW => run_load_op rfl rfl (run_loadVar_mid W _ _ _ _ _ (rangeAt_below HXAD.out hW) Try.underlying40 rfl (by rw [HXL.out]; kernel_rfl))) ?_
                        simp only [Act.put, List.setIfInBounds_toArray, List.set_cons_zero, List.set_cons_succ]
                        refine qg_run (.bool true) (by rfl) (fun W _ => run_neq_is true false HSM.out rfl W rfl rfl rfl kt_addr HFA.out HX.out.fine) ?_
                        simp only [Act.put, List.setIfInBounds_toArray, List.set_cons_zero, List.set_cons_succ]
                        refine qg_run (.bool true) (by rfl) (fun W _ => by go_simp) ?_
                        simp only [Act.put, List.setIfInBounds_toArray, List.set_cons_zero, List.set_cons_succ]
                        refine qg_run (.agg (encW (csum (vals (S.es.filter (ofAddr a))))).toArray) (by rfl) (fun W hW => run_load_op rfl rfl (run_loadVar_mid W _ _ _ _ _ (HP18.out.below (HB33.out.trans (hW.mono HB33.out.size))).whole Try.underlying57 rfl (by kernel_rfl))) ?_
                        simp only [Act.put, List.setIfInBounds_toArray, List.set_cons_zero, List.set_cons_succ]
                        refine qg_run (.agg (encW (csum (vals (S.es.filter (ofAddr a))))).toArray) (by rfl) (fun W hW => run_load_op rfl rfl (run_loadVar_mid W _ _ _ _ _ (HP20.out.below hW).whole Try.underlying57 rfl (by kernel_rfl))) ?_
                        simp only [Act.put, List.setIfInBounds_toArray, List.set_cons_zero, List.set_cons_succ]
                        refine qg_run (.bool false) (by rfl) (fun W _ => run_neq_no W rfl rfl rfl kt_wide (fine_wide _)) ?_
                        simp only [Act.put, List.setIfInBounds_toArray, List.set_cons_zero, List.set_cons_succ]
                        refine qg_run (.bool false) (by rfl) (fun W _ => by go_simp) ?_
                        simp only [Act.put, List.setIfInBounds_toArray, List.set_cons_zero, List.set_cons_succ]
                        refine qg_run (.slice A1 R1.length c1) (by rfl) (fun W _ => by go_simp) ?_
                        simp only [Act.put, List.setIfInBounds_toArray, List.set_cons_zero, List.set_cons_succ]
                        refine qg_run (.slice A2 R2.length c2) (by rfl) (fun W _ => by go_simp) ?_
                        simp only [Act.put, List.setIfInBounds_toArray, List.set_cons_zero, List.set_cons_succ]
                        refine qg_call 11 #[.slice A1 R1.length c1, .slice A2 R2.length c2] (.bool true) (by rfl) (fun W => by go_simp) (fun W hW => HSAME.out W hW) ?_
                        simp only [Act.put, List.setIfInBounds_toArray, List.set_cons_zero, List.set_cons_succ]
                        refine qg_run (.bool false) (by rfl) (fun W _ => by go_simp) ?_
                        simp only [Act.put, List.setIfInBounds_toArray, List.set_cons_zero, List.set_cons_succ]
                        refine qg_run (.bool false) (by rfl) (fun W _ => by go_simp) ?_
                        simp only [Act.put, List.setIfInBounds_toArray, List.set_cons_zero, List.set_cons_succ]
                        refine qg_run (.bool false) (by rfl) (fun W _ => by go_simp) ?_
                        simp only [Act.put, List.setIfInBounds_toArray, List.set_cons_zero, List.set_cons_succ]
                        refine wpQuiet_nil ?_
                        intro W hW
                        have hend : RL3 seen wz.heap.size wz (.int .i64 (↑(j + 1))) W := ⟨j + 1, by omega, rfl, HBI.out.trans (hW.mono HBI.out.size)⟩
                        have HEND := Lib.hid hend
                        clear hend hW
                        go_wp2
                        refine ⟨?_, by simp [intOf]; omega⟩
                        first | exact HEND.out | ((repeat apply Exists.intro); exact ⟨HEND.out, rfl⟩)
                        --]r34n
                      --]r34
                  --]l3
                · have hje : j = seen.length := by omega
                  subst hje
                  have HFIN := Lib.hid (HBZ.out.trans (HBW.out.mono HBZ.out.size))
                  go_wp2
                  go_ret
                  exact ⟨rfl, HFIN.out⟩
end Go.Proofs.Ytjmkkndglmapaaa
