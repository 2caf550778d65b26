/- moidorelaw27.awake: true. -/
import Derived.Test.YtjmkkndglmapaaaAwk
import Derived.Outline
set_option linter.unusedSimpArgs false
set_option linter.unusedVariables false
namespace Go.Proofs.Ytjmkkndglmapaaa
open Go.RowKit Go.Shelf Go.Lib Go.Sort Go.WideShapes Go.ChangeShapes

theorem f_ad0 : Fine Try.prog 40 (adCs 0) := fine_ad 0 (by kernel_rfl)
theorem f_ad1 : Fine Try.prog 40 (adCs 1) := fine_ad 1 (by kernel_rfl)
theorem f_ad2 : Fine Try.prog 40 (adCs 2) := fine_ad 2 (by kernel_rfl)
def esK : List Ent := [eOf 1 1 5, eOf 2 2 6]
noncomputable def staK (b : Nat) : Sta := ⟨staCs (.slice (some ⟨b, 0, none⟩) 2 2) 2 1, esK, 2, 1⟩
noncomputable def genK (b : Nat) : Gen := ⟨genCs (.slice (some ⟨b, 0, none⟩) 1 1), [eOf 0 0 14]⟩
theorem staK_len (b : Nat) : (staK b).cs.length = 182 := staCs_len _ _ _
theorem genK_len (b : Nat) : (genK b).cs.length = 14 := genCs_len _
theorem i64_small (x : Int) (h : 0 ≤ x ∧ x ≤ 1000) : i64 x := by unfold i64; omega
theorem en_staK {w : World} {b : Nat} (h : Box w b (entCs 1 1 5 ++ entCs 2 2 6) 51) : enSta w (staK b) := by
  have h2 := two_cells h (entCs_len _ _ _) (entCs_len _ _ _)
  refine ⟨staCs_len _ _ _, ⟨_, staCs_sl _ _ _, ⟨some ⟨b, 0, none⟩, 2, b, 0, rfl, by simp [staK, esK], by simp [maxLen], by simp, fun _ => rfl, fun i e he => ?_⟩⟩, ⟨staCs_fees _ _ _, i64_small 2 (by omega)⟩, ⟨staCs_forf _ _ _, i64_small 1 (by omega)⟩, staCs_one _ _ _ _ _⟩
  have hi : i = 0 ∨ i = 1 := by
    have := (List.getElem?_eq_some_iff.1 he).1
    simp [staK, esK] at this
    omega
  rcases hi with rfl | rfl
  · obtain rfl : eOf 1 1 5 = e := by simpa [staK, esK] using he
    exact ⟨_, en_eOf w 1 1 5 (i64_small 5 (by omega)) f_ad1, entCs_len _ _ _, h2.1⟩
  · obtain rfl : eOf 2 2 6 = e := by simpa [staK, esK] using he
    exact ⟨_, en_eOf w 2 2 6 (i64_small 6 (by omega)) f_ad2, entCs_len _ _ _, h2.2⟩
theorem en_genK {w : World} {b : Nat} (h : Box w b (outCs 0 14) 49) : enGen w (genK b) := by
  refine ⟨genCs_len _, ⟨_, genCs_sl _, ⟨some ⟨b, 0, none⟩, 1, b, 0, rfl, by simp [genK], by simp [maxLen], by simp, fun _ => rfl, fun i e he => ?_⟩⟩, genCs_one _ _ _⟩
  have hi : i = 0 := by
    have := (List.getElem?_eq_some_iff.1 he).1
    simp [genK] at this
    omega
  subst hi
  obtain rfl : eOf 0 0 14 = e := by simpa [genK] using he
  exact ⟨outCs 0 14, ⟨rfl, en_eOf w 0 0 14 (i64_small 14 (by omega)) f_ad0⟩, by simp [outCs, adCs, hash1, valCs, outTail, z32], h.whole⟩
theorem coins_k : csum (vals esK) = 11 := rfl
theorem filter_k : esK.filter (ofAddr (adCs 2)) = [eOf 2 2 6] := by
  have h1 : ofAddr (adCs 2) (eOf 1 1 5) = false := by
    rw [Bool.eq_false_iff]
    intro h
    have := (ofAddr_iff _ _).1 h
    simp [eOf, adCs, hash1] at this
  have h2 : ofAddr (adCs 2) (eOf 2 2 6) = true := (ofAddr_iff _ _).2 rfl
  unfold esK
  rw [List.filter_cons_of_neg (by rw [h1]; simp), List.filter_cons_of_pos h2]
  rfl
theorem told_zero {T : Key → Int} {R : List Tot} (h : Told T R) (hz : ∀ k, T k = 0) : R = [] := by
  cases R with
  | nil => rfl
  | cons t R =>
    have := (h.val t (by simp))
    rw [this.1, hz] at this
    exact absurd rfl this.2
theorem whole_k (b c : Nat) : WholeIs (csum (vals esK) + 2 + 1) (csum (vals [eOf 0 0 14])) (staK b) (genK c) [] := ⟨rfl, fun k => rfl⟩
theorem encW14 : (#[Value.int .i64 0, .int .u64 14] : Array Value) = (encW 14).toArray := rfl
theorem encW6 : (#[Value.int .i64 0, .int .u64 6] : Array Value) = (encW 6).toArray := rfl

theorem bal_k (b : Nat) (w : World) (h : Box w b (entCs 1 1 5 ++ entCs 2 2 6) 51) : Calls Try.prog 9 #[.agg (staK b).cs.toArray, .agg (adCs 2).toArray] w fun e w' => (∃ A c, e = .returned (.tuple #[.agg (encW 6).toArray, .slice A 0 c])) ∧ Below w.heap.size w w' := by
  have hf : (staK b).es.filter (ofAddr (adCs 2)) = [eOf 2 2 6] := filter_k
  refine (balance_any (staK b) (adCs 2) w (en_staK h) f_ad2 (by simp [staK, esK]) (by rw [hf]; simp [vals, vlen, eOf])).mono ?_
  rintro e w' ⟨sl, R, rfl, ho, hb, ht⟩
  rw [hf] at ht
  obtain rfl := told_zero ht fun k => rfl
  obtain ⟨A, c, rfl, _⟩ := own_form ho
  rw [hf]
  exact ⟨⟨A, c, rfl⟩, hb⟩
theorem coins_at_k (b : Nat) (w : World) (h : Box w b (entCs 1 1 5 ++ entCs 2 2 6) 51) : Calls Try.prog 10 #[.agg (staK b).cs.toArray] w fun e w' => e = .returned (.agg (encW 14).toArray) ∧ Below w.heap.size w w' :=
  coins_at (staK b) 11 coins_k w (en_staK h) (by simp [staK, esK]) (by show vlen (vals esK) ≤ _; simp [esK, vals, vlen, eOf])
theorem whole_at_k (b c : Nat) (w : World) (h : Box w b (entCs 1 1 5 ++ entCs 2 2 6) 51) (h' : Box w c (outCs 0 14) 49) :
    Calls Try.prog 16 #[.agg (staK b).cs.toArray, .agg (genK c).cs.toArray] w fun e w' => ∃ v, e = .returned v ∧ (v = .bool true ∧ Below w.heap.size w w') := by
  refine (whole_any (staK b) (genK c) [] (.slice none 0 0) 14 14 rfl rfl w (en_staK h) (en_genK h') ⟨staCs_mint _ _ _, ts_nil w⟩ (by simp [staK, esK]) (by show vlen (vals esK) ≤ _; simp [esK, vals, vlen, eOf]) (by simp [genK]) (by show vlen (vals [eOf 0 0 14]) ≤ _; simp [vals, vlen, eOf]) (by simp)).mono ?_
  rintro e w' ⟨⟨v, rfl, hv⟩, hb⟩
  have : v = true := hv.2 (whole_k b c)
  subst this
  exact ⟨_, rfl, rfl, hb⟩
theorem run_eql_yes {P : Program} {o : Oper} {a : Act} {t t' : TypeId} {x y : Operand} {xs : List Value} (w : World) (ho : o.op = .binOp .eql t x y t') (hx : a.eval x = .agg xs.toArray) (hy : a.eval y = .agg xs.toArray) (h : KT P t) (fx : Fine P t xs) :
    (execOp a.eval o).run P w = .ok (.value (.bool true)) w := by
  rw [run_eql_op w ho hx hy h fx fx]
  congr 3
  simp
theorem fine14 : Fine Try.prog 57 (encW 14) := fine_wide 14
theorem fine6 : Fine Try.prog 57 (encW 6) := fine_wide 6

set_option maxRecDepth 100000 in
set_option maxHeartbeats 4000000 in
theorem awake_any (w : World) : Calls Try.prog 4 #[] w fun e w' => e = .returned (.bool true) ∧ Below w.heap.size w w' := by
  go_enter Try.func4, Try.ntmps4
  go_wp2_with (first
    | (go_at_call 15; ((with_reducible refine (entry_any 1 1 5 rfl _).mono ?_); rintro e w1 ⟨rfl, hb1⟩); have HB1 := Lib.hid hb1; clear hb1)
    | (go_at_call 15; ((with_reducible refine (entry_any 2 2 6 rfl _).mono ?_); rintro e w2 ⟨rfl, hb2⟩); have HB2 := Lib.hid (HB1.out.trans (hb2.mono HB1.out.size)); clear hb2)
    | (refine wpList_buildSlice rfl 28 51 2 [(0, _), (1, _)] rfl [(0, .agg (entCs 1 1 5).toArray), (1, .agg (entCs 2 2 6).toArray)] rfl (entCs 1 1 5 ++ entCs 2 2 6).toArray (fun W => run_buildSlice_two _ _ Try.underlying28 (.agg zEnt.toArray) Try.zeroValue51 102 Try.sizeOf51 (by show zEnt.toArray.size = _; rw [List.size_toArray, zEnt_len]) (by omega) (by omega) _ _ (entCs_len _ _ _) (entCs_len _ _ _)) ?_; have hx3 := Box.new w2 (entCs 1 1 5 ++ entCs 2 2 6) 51; have hb3 := HB2.out.trans (((Below.refl _ w2).alloc (Nat.le_refl _) (.cells (entCs 1 1 5 ++ entCs 2 2 6).toArray 51)).mono HB2.out.size); generalize (w2.alloc (.cells (entCs 1 1 5 ++ entCs 2 2 6).toArray 51)) = w3 at *; generalize w2.heap.size = b3 at *; have HX3 := Lib.hid hx3; have HB3 := Lib.hid hb3; clear hx3 hb3; simp only [Act.put, List.setIfInBounds_toArray, List.set_cons_zero, List.set_cons_succ])
    | (refine wpList_build rfl 36 _ rfl [(2, .slice (some ⟨b3, 0, none⟩) 2 2), (7, .int .i64 2), (8, .int .i64 1)] rfl _ (build_sta _ _ _ _ _) ?_; simp only [Act.put, List.setIfInBounds_toArray, List.set_cons_zero, List.set_cons_succ])
    | (refine wpList_alloc_box rfl 36 rfl _ Try.zeroValue36 zSta rfl ?_; intro W4 hx4 hb4 hs4; simp only [Act.put, List.setIfInBounds_toArray, List.set_cons_zero, List.set_cons_succ])
    | (refine wpList_store_box rfl 36 _ _ rfl w3.heap.size 0 (staK b3).cs rfl rfl zSta _ hx4 (by rw [zSta_len]; have := staK_len b3; omega) (by rw [staK_len]; kernel_rfl) (staCs_one _ _ _ _ _) ?_; intro W5 hx5 ho5; have HX5 := Lib.hid (box_laid hx5 ((staK_len b3).trans zSta_len.symm)); have HY5 := Lib.hid (HX3.out.below (hb4.trans (ho5.below (Nat.le_refl _)))); have HB5 := Lib.hid (HB3.out.trans ((hb4.trans (ho5.below (Nat.le_refl _))).mono HB3.out.size)); clear hx4 hb4 hs4 hx5 ho5; generalize w3.heap.size = p5 at *; simp only [Act.put, List.setIfInBounds_toArray, List.set_cons_zero, List.set_cons_succ])
    | (refine wpList_build rfl 43 _ rfl [(0, .int .i64 14)] rfl _ (build_val 14) ?_; simp only [Act.put, List.setIfInBounds_toArray, List.set_cons_zero, List.set_cons_succ])
    | (refine wpList_build rfl 49 _ rfl [(1, .agg (valCs 14).toArray)] rfl (outCs 0 14).toArray (build_out1 (valCs 14) rfl) ?_; simp only [Act.put, List.setIfInBounds_toArray, List.set_cons_zero, List.set_cons_succ])
    | (refine wpList_slice_one rfl 70 49 _ rfl Try.underlying70 (.agg ((Value.bool false :: z32) ++ zVal ++ outTail).toArray) Try.zeroValue49 69 Try.sizeOf49 rfl (by omega) (by omega) (outCs 0 14) rfl rfl ?_; intro W6 hx6 hb6 hs6; have HX6 := Lib.hid hx6; have HB6 := Lib.hid (HB5.out.trans (hb6.mono HB5.out.size)); have HXS6 := Lib.hid (HX5.out.below hb6); have HY6 := Lib.hid (HY5.out.below hb6); clear hx6 hb6 hs6; generalize W5.heap.size = b6 at *; simp only [Act.put, List.setIfInBounds_toArray, List.set_cons_zero, List.set_cons_succ])
    | (refine wpList_build rfl 72 _ rfl [(2, .slice (some ⟨b6, 0, none⟩) 1 1)] rfl _ (build_gen _ _ _) ?_; simp only [Act.put, List.setIfInBounds_toArray, List.set_cons_zero, List.set_cons_succ])
    | (refine wpList_alloc_box rfl 72 rfl _ Try.zeroValue72 zGen rfl ?_; intro W7 hx7 hb7 hs7; simp only [Act.put, List.setIfInBounds_toArray, List.set_cons_zero, List.set_cons_succ])
    | (refine wpList_store_box rfl 72 _ _ rfl W6.heap.size 0 (genK b6).cs rfl rfl zGen _ hx7 (by rw [zGen_len]; have := genK_len b6; omega) (by rw [genK_len]; kernel_rfl) (genCs_one _ _ _) ?_; intro W8 hx8 ho8; have HX8 := Lib.hid (box_laid hx8 ((genK_len b6).trans zGen_len.symm)); have hb8 := hb7.trans (ho8.below (Nat.le_refl _)); have HXS8 := Lib.hid (HXS6.out.below hb8); have HY8 := Lib.hid (HY6.out.below hb8); have HZ8 := Lib.hid (HX6.out.below hb8); have HB8 := Lib.hid (HB6.out.trans (hb8.mono HB6.out.size)); clear hx7 hb7 hs7 hx8 ho8 hb8; generalize W6.heap.size = p8 at *; simp only [Act.put, List.setIfInBounds_toArray, List.set_cons_zero, List.set_cons_succ])
    | (refine wl_value (o := ⟨some 14, _, _, _, _, _⟩) (by rfl) (.agg (staK b3).cs.toArray) _ (run_load_op rfl rfl (run_loadVar_mid _ _ _ _ _ _ HXS8.out.whole Try.underlying36 rfl (by rw [staK_len]; kernel_rfl))) ?_; simp only [Act.put, List.setIfInBounds_toArray, List.set_cons_zero, List.set_cons_succ])
    | (refine wpList_build rfl 27 _ rfl [(0, .int .u8 2)] rfl _ (build_hash 2) ?_; simp only [Act.put, List.setIfInBounds_toArray, List.set_cons_zero, List.set_cons_succ])
    | (refine wpList_build rfl 40 _ rfl [(1, .agg (hash1 2).toArray)] rfl (adCs 2).toArray (build_addr (hash1 2) rfl) ?_; simp only [Act.put, List.setIfInBounds_toArray, List.set_cons_zero, List.set_cons_succ])
    | (go_at_call 9; refine (bal_k b3 _ HY8.out).mono ?_; rintro e w9 ⟨⟨A9, c9, rfl⟩, hb9⟩; have HXS9 := Lib.hid (HXS8.out.below hb9); have HXG9 := Lib.hid (HX8.out.below hb9); have HY9 := Lib.hid (HY8.out.below hb9); have HZ9 := Lib.hid (HZ8.out.below hb9); have HB9 := Lib.hid (HB8.out.trans (hb9.mono HB8.out.size)); clear hb9)
    | (refine wpList_alloc_box rfl 57 rfl _ Try.zeroValue57 (encW 0) rfl ?_; intro W10 hx10 hb10 hs10; simp only [Act.put, List.setIfInBounds_toArray, List.set_cons_zero, List.set_cons_succ])
    | (refine wpList_store_box rfl 57 _ _ rfl w9.heap.size 0 (encW 6) rfl rfl (encW 0) _ hx10 (Nat.le_refl _) (by kernel_rfl) (encW_one _) ?_; intro W11 hx11 ho11; have HW11 := Lib.hid (box_laid hx11 rfl); have hb11 := hb10.trans (ho11.below (Nat.le_refl _)); have HXS11 := Lib.hid (HXS9.out.below hb11); have HXG11 := Lib.hid (HXG9.out.below hb11); have HY11 := Lib.hid (HY9.out.below hb11); have HZ11 := Lib.hid (HZ9.out.below hb11); have HB11 := Lib.hid (HB9.out.trans (hb11.mono HB9.out.size)); clear hx10 hb10 hs10 hx11 ho11 hb11; generalize w9.heap.size = p11 at *; simp only [Act.put, List.setIfInBounds_toArray, List.set_cons_zero, List.set_cons_succ])
    | (refine wl_value (o := ⟨some 20, _, _, _, _, _⟩) (by rfl) (.agg (staK b3).cs.toArray) _ (run_load_op rfl rfl (run_loadVar_mid _ _ _ _ _ _ HXS11.out.whole Try.underlying36 rfl (by rw [staK_len]; kernel_rfl))) ?_; simp only [Act.put, List.setIfInBounds_toArray, List.set_cons_zero, List.set_cons_succ])
    | (go_at_call 10; refine (coins_at_k b3 _ HY11.out).mono ?_; rintro e w12 ⟨rfl, hb12⟩; have HXS12 := Lib.hid (HXS11.out.below hb12); have HXG12 := Lib.hid (HXG11.out.below hb12); have HY12 := Lib.hid (HY11.out.below hb12); have HZ12 := Lib.hid (HZ11.out.below hb12); have HW12 := Lib.hid (HW11.out.below hb12); have HB12 := Lib.hid (HB11.out.trans (hb12.mono HB11.out.size)); clear hb12)
    | (refine wl_value (o := ⟨some 22, _, _, _, _, _⟩) (by rfl) (.agg (encW 14).toArray) _ (run_build_op _ rfl rfl (build_wide1 14)) ?_; simp only [Act.put, List.setIfInBounds_toArray, List.set_cons_zero, List.set_cons_succ])
    | (refine wl_value (o := ⟨some 23, _, _, _, _, _⟩) (by rfl) (.bool true) _ (run_eql_yes _ rfl rfl rfl kt_wide fine14) ?_; simp only [Act.put, List.setIfInBounds_toArray, List.set_cons_zero, List.set_cons_succ])
    | (refine wl_value (o := ⟨some 25, _, _, _, _, _⟩) (by rfl) (.agg (staK b3).cs.toArray) _ (run_load_op rfl rfl (run_loadVar_mid _ _ _ _ _ _ HXS12.out.whole Try.underlying36 rfl (by rw [staK_len]; kernel_rfl))) ?_; simp only [Act.put, List.setIfInBounds_toArray, List.set_cons_zero, List.set_cons_succ])
    | (refine wl_value (o := ⟨some 26, _, _, _, _, _⟩) (by rfl) (.agg (genK b6).cs.toArray) _ (run_load_op rfl rfl (run_loadVar_mid _ _ _ _ _ _ HXG12.out.whole Try.underlying72 rfl (by rw [genK_len]; kernel_rfl))) ?_; simp only [Act.put, List.setIfInBounds_toArray, List.set_cons_zero, List.set_cons_succ])
    | (refine wl_call (o := ⟨some 27, _, _, _, _, _⟩) (by rfl) 16 #[.agg (staK b3).cs.toArray, .agg (genK b6).cs.toArray] (fun v w' => v = .bool true ∧ Below w12.heap.size w12 w') (by go_simp) (whole_at_k b3 b6 w12 HY12.out HZ12.out) ?_; rintro v13 w13 ⟨rfl, hb13⟩; have HW13 := Lib.hid (HW12.out.below hb13); have HB13 := Lib.hid (HB12.out.trans (hb13.mono HB12.out.size)); clear hb13; simp only [Act.put, List.setIfInBounds_toArray, List.set_cons_zero, List.set_cons_succ])
    | (refine wl_value (o := ⟨some 30, _, _, _, _, _⟩) (by rfl) (.agg (encW 6).toArray) _ (run_load_op rfl rfl (run_loadVar_mid _ _ _ _ _ _ HW13.out.whole Try.underlying57 rfl (by kernel_rfl))) ?_; simp only [Act.put, List.setIfInBounds_toArray, List.set_cons_zero, List.set_cons_succ])
    | (refine wl_value (o := ⟨some 31, _, _, _, _, _⟩) (by rfl) (.agg (encW 6).toArray) _ (run_build_op _ rfl rfl (build_wide1 6)) ?_; simp only [Act.put, List.setIfInBounds_toArray, List.set_cons_zero, List.set_cons_succ])
    | (refine wl_value (o := ⟨some 32, _, _, _, _, _⟩) (by rfl) (.bool true) _ (run_eql_yes _ rfl rfl rfl kt_wide fine6) ?_; simp only [Act.put, List.setIfInBounds_toArray, List.set_cons_zero, List.set_cons_succ]))
  go_ret
  exact ⟨rfl, HB13.out⟩
end Go.Proofs.Ytjmkkndglmapaaa
