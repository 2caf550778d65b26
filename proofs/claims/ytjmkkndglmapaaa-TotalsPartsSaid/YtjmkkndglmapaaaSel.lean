/- totals.of: the sums of the entries that are chosen. -/
import Derived.Test.YtjmkkndglmapaaaEnt
set_option linter.unusedSimpArgs false
set_option linter.unusedVariables false
namespace Go.Proofs.Ytjmkkndglmapaaa
open Go.RowKit Go.Shelf Go.Lib Go.Sort Go.WideShapes Go.ChangeShapes

/-- What of answers. -/
def OfPost (w : World) (vs : List Val) (e : Ending) (w' : World) : Prop :=
  ∃ p sl R, e = .returned (.pointer (some ⟨p, 0, none⟩)) ∧ w.heap.size ≤ p ∧ Box w' p (encW (csum vs) ++ [sl]) 85 ∧ w'.ownsRow w.heap.size 88 35 sl R.length (R.flatMap encT) ∧ Told (vsum vs) R ∧ Below w.heap.size w w'

set_option maxRecDepth 100000 in
set_option maxHeartbeats 4000000 in
theorem of_each (es : List Ent) (pr : Ent → Bool) (v : Value) (caps : Array Value) (w : World) (h : EsAt w v es) (hlen : es.length ≤ 1099511627776) (hvl : vlen (vals (es.filter pr)) ≤ 1099511627776)
    (hf : ∀ W, Below w.heap.size w W → ∀ e ∈ es, Calls Try.prog 23 (#[.agg (e.cs.drop 33).toArray] ++ caps) W fun x W' => x = .returned (.bool (pr e)) ∧ Below W.heap.size W W') :
    Calls Try.prog 21 #[.func (.func 23) #[] caps, v] w fun e w' => OfPost w (vals (es.filter pr)) e w' := by
  obtain ⟨A, c, b, o, rfl, hlc, hcm, -, hA, hx⟩ := h
  have HA := Lib.hid hA
  have HX := Lib.hid hx
  have HF : Hid (∀ W, Below w.heap.size w W → ∀ e ∈ es, Calls Try.prog 23 (#[.agg (e.cs.drop 33).toArray] ++ caps) W fun x W' => x = .returned (.bool (pr e)) ∧ Below W.heap.size W W') := hf
  have Hvl := Lib.hid hvl
  have Hlen := Lib.hid hlen
  have hn63 : es.length < 9223372036854775807 := by omega
  clear hA hx hf hvl hlen hlc hcm
  go_enter Try.func21, Try.ntmps21
  go_wp2
  go_loopw [5, 11] (fun v i wr => ∃ k : Nat, k ≤ es.length ∧ i = .int .i64 k ∧ wr.ownsRow (World.heap w).size 43 2 v ((es.take k).filter pr).length (cellsOf ((es.take k).filter pr)) ∧ Below (World.heap w).size w wr) (fun _ i _ => es.length - (intOf i).toNat)
  case atStart => exact ⟨0, Nat.zero_le _, rfl, World.ownsRow_nil _ _ _ _, Below.refl _ _⟩
  case round =>
    obtain ⟨k, hk, rfl, hown, hB⟩ := hrel
    have HO := Lib.hid hown
    have HB := Lib.hid hB
    clear hown hB
    by_cases hlt : k < es.length
    · have hg : es[k]? = some es[k] := List.getElem?_eq_getElem hlt
      generalize es[k] = e at hg
      obtain ⟨cs1, hen, hl1, hr1⟩ := HX.out k e hg
      obtain rfl := hen.same
      obtain rfl := HA.out (by omega)
      have hr2 := rangeAt_below hr1 HB.out
      have HE := Lib.hid hen
      have HL := Lib.hid hl1
      have HG := Lib.hid hg
      have hmem := List.mem_of_getElem? hg
      have HM := Lib.hid hmem
      clear hr1 hen hl1 hg hmem
      have hv2 : (vc e).length = 2 := by unfold vc; rw [List.length_take, List.length_drop, HL.out]; rfl
      have hvo : ∀ v ∈ vc e, v.oneCell' = true := fun v hv => HE.out.one v (List.mem_of_mem_drop (List.mem_of_mem_take hv))
      have hkl : ((es.take k).filter pr).length ≤ 1099511627776 := by
        have h1 := List.length_filter_le pr (es.take k)
        have h2 := List.length_take_le k es
        have h3 := Hlen.out
        have h4 : (es.take k).length ≤ k := by rw [List.length_take]; omega
        omega
      have hkl2 : ((es.take k).filter pr).length + 1 ≤ 1099511627777 := by omega
      have HV := Lib.hid hv2
      have HVO : Hid (∀ v ∈ vc e, v.oneCell' = true) := hvo
      have HKL := Lib.hid hkl
      obtain ⟨im, hi1, hi2, hi3, hi4⟩ := info_value
      clear hv2 hvo hkl hkl2
      by_cases hp : pr e = true
      · have HP := Lib.hid hp
        clear hp
        go_wp2_with (first
          | (refine wpList_load_mid rfl 51 _ rfl b (o + k * 102) rfl _ _ hr2 Try.underlying51 rfl (by rw [HL.out]; kernel_rfl) ?_; simp only [Act.put, List.setIfInBounds_toArray, List.set_cons_zero, List.set_cons_succ])
          | (refine wpList_alloc_box rfl 51 rfl _ Try.zeroValue51 zEnt rfl ?_; intro W3 hx3 hb3 hs3; simp only [Act.put, List.setIfInBounds_toArray, List.set_cons_zero, List.set_cons_succ])
          | (refine wpList_store_box rfl 51 _ _ rfl _ 0 e.cs rfl rfl _ _ hx3 (by rw [HL.out, zEnt_len]; omega) (by rw [HL.out]; kernel_rfl) HE.out.one ?_; intro W4 hx4 ho4; have HX4 := Lib.hid (box_laid hx4 (by rw [HL.out, zEnt_len])); have HB4 := Lib.hid (hb3.trans (ho4.below (Nat.le_refl _))); simp only [Act.put, List.setIfInBounds_toArray, List.set_cons_zero, List.set_cons_succ])
          | (refine wpList_load_mid rfl 49 _ rfl wr.heap.size 33 rfl (e.cs.drop 33) _ (fun j u hu => HX4.out.range 33 69 j u (by rw [List.take_of_length_le (by rw [List.length_drop, HL.out]; exact Nat.le_refl _)]; exact hu)) Try.underlying49 rfl (by rw [List.length_drop, HL.out]; kernel_rfl) ?_; simp only [Act.put, List.setIfInBounds_toArray, List.set_cons_zero, List.set_cons_succ])
          | (go_at_call 23; refine (HF.out W4 (HB.out.trans (HB4.out.mono HB.out.size)) e HM.out).mono ?_; rintro x w5 ⟨rfl, hb5⟩; simp only [HP.out]; have HB5 := Lib.hid (HB4.out.trans (hb5.mono HB4.out.size)); have HX5 := Lib.hid (HX4.out.below hb5))
          | (refine wpList_load_mid rfl 43 _ rfl wr.heap.size 66 rfl (vc e) _ (HX5.out.range 66 2) Try.underlying43 rfl (by rw [HV.out]; kernel_rfl) ?_; simp only [Act.put, List.setIfInBounds_toArray, List.set_cons_zero, List.set_cons_succ])
          | (refine wpList_slice_one rfl _ 43 _ rfl Try.underlying95 (.agg zVal.toArray) Try.zeroValue43 2 Try.sizeOf43 rfl (by omega) (by omega) (vc e) rfl HV.out ?_; intro W6 hx6 hb6 hs6; have HO6 := Lib.hid (HO.out.kept (below_grown (HB5.out.trans (hb6.mono HB5.out.size)) rfl none) (by cases Value.ownBlock _ <;> simp)); have HB6 := Lib.hid (HB5.out.trans (hb6.mono HB5.out.size)); simp only [Act.put, List.setIfInBounds_toArray, List.set_cons_zero, List.set_cons_succ])
          | (at_builtin; refine wpList_append_own_at _ rfl _ _ _ rfl _ _ im _ 2 32 Try.underlying95 hi1 hi2 hi3 hi4 rfl (by omega) _ _ _ rfl HO6.out ⟨w5.heap.size, 0, none⟩ 1 1 (vc e) rfl HV.out hx6.news HVO.out (by have := HKL.out; simp only [maxLen]; omega) (by have := HKL.out; omega) (HB.out.trans (HB6.out.mono HB.out.size)).size ?_; intro v7 w7 ho7 hg7 hn7 ha7; simp only [Act.put, List.setIfInBounds_toArray, List.set_cons_zero, List.set_cons_succ]))
        refine ⟨?_, by simp [intOf]; omega⟩
        have ho9 : w7.ownsRow w.heap.size 43 2 v7 ((es.take (k + 1)).filter pr).length (cellsOf ((es.take (k + 1)).filter pr)) := by
          rw [filter_more HG.out, HP.out, if_pos rfl, List.length_append, cellsOf_more]
          exact ho7
        have hb9 : Below w.heap.size w w7 := by
          have hbw := HB.out.trans (HB6.out.mono HB.out.size)
          exact ⟨hg7.os.trans hbw.os, hg7.tape.trans hbw.tape, hg7.output.trans hbw.output, by have := hbw.size; have := hg7.size; omega, fun j hj => (hg7.block j (by have := hbw.size; omega) (fun e => by
            have := (HO6.out.lt j e.symm).1
            omega)).trans (hbw.block j hj)⟩
        first | exact ⟨k + 1, by omega, by go_num, ho9, hb9⟩ | ((repeat apply Exists.intro); exact ⟨⟨k + 1, by omega, by go_num, ho9, hb9⟩, rfl⟩)
      · have hp' : pr e = false := by simpa using hp
        have HP := Lib.hid hp'
        clear hp hp'
        go_wp2_with (first
          | (refine wpList_load_mid rfl 51 _ rfl b (o + k * 102) rfl _ _ hr2 Try.underlying51 rfl (by rw [HL.out]; kernel_rfl) ?_; simp only [Act.put, List.setIfInBounds_toArray, List.set_cons_zero, List.set_cons_succ])
          | (refine wpList_alloc_box rfl 51 rfl _ Try.zeroValue51 zEnt rfl ?_; intro W3 hx3 hb3 hs3; simp only [Act.put, List.setIfInBounds_toArray, List.set_cons_zero, List.set_cons_succ])
          | (refine wpList_store_box rfl 51 _ _ rfl _ 0 e.cs rfl rfl _ _ hx3 (by rw [HL.out, zEnt_len]; omega) (by rw [HL.out]; kernel_rfl) HE.out.one ?_; intro W4 hx4 ho4; have HX4 := Lib.hid (box_laid hx4 (by rw [HL.out, zEnt_len])); have HB4 := Lib.hid (hb3.trans (ho4.below (Nat.le_refl _))); simp only [Act.put, List.setIfInBounds_toArray, List.set_cons_zero, List.set_cons_succ])
          | (refine wpList_load_mid rfl 49 _ rfl wr.heap.size 33 rfl (e.cs.drop 33) _ (fun j u hu => HX4.out.range 33 69 j u (by rw [List.take_of_length_le (by rw [List.length_drop, HL.out]; exact Nat.le_refl _)]; exact hu)) Try.underlying49 rfl (by rw [List.length_drop, HL.out]; kernel_rfl) ?_; simp only [Act.put, List.setIfInBounds_toArray, List.set_cons_zero, List.set_cons_succ])
          | (go_at_call 23; refine (HF.out W4 (HB.out.trans (HB4.out.mono HB.out.size)) e HM.out).mono ?_; rintro x w5 ⟨rfl, hb5⟩; simp only [HP.out]; have HB5 := Lib.hid (HB4.out.trans (hb5.mono HB4.out.size)); have HX5 := Lib.hid (HX4.out.below hb5)))
        refine ⟨?_, by simp [intOf]; omega⟩
        have ho9 : w5.ownsRow w.heap.size 43 2 u5 ((es.take (k + 1)).filter pr).length (cellsOf ((es.take (k + 1)).filter pr)) := by
          rw [filter_more HG.out, HP.out, if_neg (by simp), List.append_nil]
          exact HO.out.kept (below_grown HB5.out rfl none) (by cases Value.ownBlock _ <;> simp)
        have hb9 : Below w.heap.size w w5 := HB.out.trans (HB5.out.mono HB.out.size)
        first | exact ⟨k + 1, by omega, by go_num, ho9, hb9⟩ | ((repeat apply Exists.intro); exact ⟨⟨k + 1, by omega, by go_num, ho9, hb9⟩, rfl⟩)
    · have hke : k = es.length := by omega
      have ho := HO.out
      rw [hke, List.take_length] at ho
      have hvs : ∀ e ∈ es.filter pr, enVal w e.val (vc e) := fun e he => by
        obtain ⟨i, hi⟩ := List.mem_iff_getElem?.1 (List.mem_filter.1 he).1
        obtain ⟨cs, hen, _, _⟩ := HX.out i e hi
        exact hen.val
      have hV := VsAt.own ho (fun e he => stays_val _ _ _ _ (hvs e he) HB.out)
      generalize hvv : vals (es.filter pr) = vv at *
      have HV := Lib.hid hV
      have HVL : Hid (vlen vv ≤ 1099511627776) := Hvl
      clear hV ho HO hvs HF hk hlt
      go_wp2_with (first
        | (refine wpList_box_box rfl 85 _ rfl zSums rfl ?_; intro W3 hx3 hb3 hs3; have HS := Lib.hid (sums_at vv _ W3 (SlAt.below stays_val HV.out hb3) _ rfl HVL.out); simp only [Act.put, List.setIfInBounds_toArray, List.set_cons_zero, List.set_cons_succ])
        | (go_at_call 14; refine HS.out.mono ?_; rintro e w5 ⟨sl, R, rfl, ho5, hb5, ht5⟩; have HX5 := Lib.hid (hx3.below hb5))
        | (refine wpList_store_box rfl 57 _ _ rfl _ 0 (encW (csum vv)) rfl rfl _ _ HX5.out (by simp [zSums, encW]) (by kernel_rfl) (encW_one _) ?_; intro W6 hx6 ho6; simp only [Act.put, List.setIfInBounds_toArray, List.set_cons_zero, List.set_cons_succ])
        | (refine wpList_store_one rfl 33 _ _ rfl _ 2 sl rfl rfl _ _ hx6 (by simp [laid, zSums, encW]) (by obtain ⟨A9, c9, rfl, _⟩ := own_form ho5; rfl) (by kernel_rfl) (by obtain ⟨A9, c9, rfl, _⟩ := own_form ho5; rfl) ?_; intro W7 hx7 ho7; simp only [Act.put, List.setIfInBounds_toArray, List.set_cons_zero, List.set_cons_succ]))
      go_ret
      rw [hvv]
      have hne : ∀ {W : World} {base : Nat}, W.ownsRow base 88 35 sl R.length (R.flatMap encT) → W3.heap.size ≤ base → (sl.ownBlock = none ∨ sl.ownBlock ≠ some wr.heap.size) := fun hr hb => by
        cases hv : sl.ownBlock with
        | none => simp
        | some g => right; have := (hr.lt g hv).1; simp; omega
      have ho6' := ho5.kept ho6.grown (hne ho5 (Nat.le_refl _))
      have ho7' := ho6'.kept ho7.grown (hne ho6' (Nat.le_refl _))
      refine ⟨wr.heap.size, sl, R, rfl, HB.out.size, hx7, own_base ho7' (by have := HB.out.size; omega) rfl, ht5, ?_⟩
      exact HB.out.trans ((((hb3.trans (hb5.mono hb3.size)).trans (ho6.below (Nat.le_refl _))).trans (ho7.below (Nat.le_refl _))).mono HB.out.size)
set_option maxRecDepth 100000 in
set_option maxHeartbeats 4000000 in
theorem of_chosen (es : List Ent) (pr : Ent → Bool) (v : Value) (caps : Array Value) (w : World) (h : EsAt w v es) (hlen : es.length ≤ 1099511627776) (hvl : vlen (vals (es.filter pr)) ≤ 1099511627776)
    (hf : ∀ W, Below w.heap.size w W → ∀ e ∈ es, Calls Try.prog 22 (#[.agg (e.cs.drop 33).toArray] ++ caps) W fun x W' => x = .returned (.bool (pr e)) ∧ Below W.heap.size W W') :
    Calls Try.prog 21 #[.func (.func 22) #[] caps, v] w fun e w' => OfPost w (vals (es.filter pr)) e w' := by
  obtain ⟨A, c, b, o, rfl, hlc, hcm, -, hA, hx⟩ := h
  have HA := Lib.hid hA
  have HX := Lib.hid hx
  have HF : Hid (∀ W, Below w.heap.size w W → ∀ e ∈ es, Calls Try.prog 22 (#[.agg (e.cs.drop 33).toArray] ++ caps) W fun x W' => x = .returned (.bool (pr e)) ∧ Below W.heap.size W W') := hf
  have Hvl := Lib.hid hvl
  have Hlen := Lib.hid hlen
  have hn63 : es.length < 9223372036854775807 := by omega
  clear hA hx hf hvl hlen hlc hcm
  go_enter Try.func21, Try.ntmps21
  go_wp2
  go_loopw [5, 11] (fun v i wr => ∃ k : Nat, k ≤ es.length ∧ i = .int .i64 k ∧ wr.ownsRow (World.heap w).size 43 2 v ((es.take k).filter pr).length (cellsOf ((es.take k).filter pr)) ∧ Below (World.heap w).size w wr) (fun _ i _ => es.length - (intOf i).toNat)
  case atStart => exact ⟨0, Nat.zero_le _, rfl, World.ownsRow_nil _ _ _ _, Below.refl _ _⟩
  case round =>
    obtain ⟨k, hk, rfl, hown, hB⟩ := hrel
    have HO := Lib.hid hown
    have HB := Lib.hid hB
    clear hown hB
    by_cases hlt : k < es.length
    · have hg : es[k]? = some es[k] := List.getElem?_eq_getElem hlt
      generalize es[k] = e at hg
      obtain ⟨cs1, hen, hl1, hr1⟩ := HX.out k e hg
      obtain rfl := hen.same
      obtain rfl := HA.out (by omega)
      have hr2 := rangeAt_below hr1 HB.out
      have HE := Lib.hid hen
      have HL := Lib.hid hl1
      have HG := Lib.hid hg
      have hmem := List.mem_of_getElem? hg
      have HM := Lib.hid hmem
      clear hr1 hen hl1 hg hmem
      have hv2 : (vc e).length = 2 := by unfold vc; rw [List.length_take, List.length_drop, HL.out]; rfl
      have hvo : ∀ v ∈ vc e, v.oneCell' = true := fun v hv => HE.out.one v (List.mem_of_mem_drop (List.mem_of_mem_take hv))
      have hkl : ((es.take k).filter pr).length ≤ 1099511627776 := by
        have h1 := List.length_filter_le pr (es.take k)
        have h2 := List.length_take_le k es
        have h3 := Hlen.out
        have h4 : (es.take k).length ≤ k := by rw [List.length_take]; omega
        omega
      have hkl2 : ((es.take k).filter pr).length + 1 ≤ 1099511627777 := by omega
      have HV := Lib.hid hv2
      have HVO : Hid (∀ v ∈ vc e, v.oneCell' = true) := hvo
      have HKL := Lib.hid hkl
      obtain ⟨im, hi1, hi2, hi3, hi4⟩ := info_value
      clear hv2 hvo hkl hkl2
      by_cases hp : pr e = true
      · have HP := Lib.hid hp
        clear hp
        go_wp2_with (first
          | (refine wpList_load_mid rfl 51 _ rfl b (o + k * 102) rfl _ _ hr2 Try.underlying51 rfl (by rw [HL.out]; kernel_rfl) ?_; simp only [Act.put, List.setIfInBounds_toArray, List.set_cons_zero, List.set_cons_succ])
          | (refine wpList_alloc_box rfl 51 rfl _ Try.zeroValue51 zEnt rfl ?_; intro W3 hx3 hb3 hs3; simp only [Act.put, List.setIfInBounds_toArray, List.set_cons_zero, List.set_cons_succ])
          | (refine wpList_store_box rfl 51 _ _ rfl _ 0 e.cs rfl rfl _ _ hx3 (by rw [HL.out, zEnt_len]; omega) (by rw [HL.out]; kernel_rfl) HE.out.one ?_; intro W4 hx4 ho4; have HX4 := Lib.hid (box_laid hx4 (by rw [HL.out, zEnt_len])); have HB4 := Lib.hid (hb3.trans (ho4.below (Nat.le_refl _))); simp only [Act.put, List.setIfInBounds_toArray, List.set_cons_zero, List.set_cons_succ])
          | (refine wpList_load_mid rfl 49 _ rfl wr.heap.size 33 rfl (e.cs.drop 33) _ (fun j u hu => HX4.out.range 33 69 j u (by rw [List.take_of_length_le (by rw [List.length_drop, HL.out]; exact Nat.le_refl _)]; exact hu)) Try.underlying49 rfl (by rw [List.length_drop, HL.out]; kernel_rfl) ?_; simp only [Act.put, List.setIfInBounds_toArray, List.set_cons_zero, List.set_cons_succ])
          | (go_at_call 22; refine (HF.out W4 (HB.out.trans (HB4.out.mono HB.out.size)) e HM.out).mono ?_; rintro x w5 ⟨rfl, hb5⟩; simp only [HP.out]; have HB5 := Lib.hid (HB4.out.trans (hb5.mono HB4.out.size)); have HX5 := Lib.hid (HX4.out.below hb5))
          | (refine wpList_load_mid rfl 43 _ rfl wr.heap.size 66 rfl (vc e) _ (HX5.out.range 66 2) Try.underlying43 rfl (by rw [HV.out]; kernel_rfl) ?_; simp only [Act.put, List.setIfInBounds_toArray, List.set_cons_zero, List.set_cons_succ])
          | (refine wpList_slice_one rfl _ 43 _ rfl Try.underlying95 (.agg zVal.toArray) Try.zeroValue43 2 Try.sizeOf43 rfl (by omega) (by omega) (vc e) rfl HV.out ?_; intro W6 hx6 hb6 hs6; have HO6 := Lib.hid (HO.out.kept (below_grown (HB5.out.trans (hb6.mono HB5.out.size)) rfl none) (by cases Value.ownBlock _ <;> simp)); have HB6 := Lib.hid (HB5.out.trans (hb6.mono HB5.out.size)); simp only [Act.put, List.setIfInBounds_toArray, List.set_cons_zero, List.set_cons_succ])
          | (at_builtin; refine wpList_append_own_at _ rfl _ _ _ rfl _ _ im _ 2 32 Try.underlying95 hi1 hi2 hi3 hi4 rfl (by omega) _ _ _ rfl HO6.out ⟨w5.heap.size, 0, none⟩ 1 1 (vc e) rfl HV.out hx6.news HVO.out (by have := HKL.out; simp only [maxLen]; omega) (by have := HKL.out; omega) (HB.out.trans (HB6.out.mono HB.out.size)).size ?_; intro v7 w7 ho7 hg7 hn7 ha7; simp only [Act.put, List.setIfInBounds_toArray, List.set_cons_zero, List.set_cons_succ]))
        refine ⟨?_, by simp [intOf]; omega⟩
        have ho9 : w7.ownsRow w.heap.size 43 2 v7 ((es.take (k + 1)).filter pr).length (cellsOf ((es.take (k + 1)).filter pr)) := by
          rw [filter_more HG.out, HP.out, if_pos rfl, List.length_append, cellsOf_more]
          exact ho7
        have hb9 : Below w.heap.size w w7 := by
          have hbw := HB.out.trans (HB6.out.mono HB.out.size)
          exact ⟨hg7.os.trans hbw.os, hg7.tape.trans hbw.tape, hg7.output.trans hbw.output, by have := hbw.size; have := hg7.size; omega, fun j hj => (hg7.block j (by have := hbw.size; omega) (fun e => by
            have := (HO6.out.lt j e.symm).1
            omega)).trans (hbw.block j hj)⟩
        first | exact ⟨k + 1, by omega, by go_num, ho9, hb9⟩ | ((repeat apply Exists.intro); exact ⟨⟨k + 1, by omega, by go_num, ho9, hb9⟩, rfl⟩)
      · have hp' : pr e = false := by simpa using hp
        have HP := Lib.hid hp'
        clear hp hp'
        go_wp2_with (first
          | (refine wpList_load_mid rfl 51 _ rfl b (o + k * 102) rfl _ _ hr2 Try.underlying51 rfl (by rw [HL.out]; kernel_rfl) ?_; simp only [Act.put, List.setIfInBounds_toArray, List.set_cons_zero, List.set_cons_succ])
          | (refine wpList_alloc_box rfl 51 rfl _ Try.zeroValue51 zEnt rfl ?_; intro W3 hx3 hb3 hs3; simp only [Act.put, List.setIfInBounds_toArray, List.set_cons_zero, List.set_cons_succ])
          | (refine wpList_store_box rfl 51 _ _ rfl _ 0 e.cs rfl rfl _ _ hx3 (by rw [HL.out, zEnt_len]; omega) (by rw [HL.out]; kernel_rfl) HE.out.one ?_; intro W4 hx4 ho4; have HX4 := Lib.hid (box_laid hx4 (by rw [HL.out, zEnt_len])); have HB4 := Lib.hid (hb3.trans (ho4.below (Nat.le_refl _))); simp only [Act.put, List.setIfInBounds_toArray, List.set_cons_zero, List.set_cons_succ])
          | (refine wpList_load_mid rfl 49 _ rfl wr.heap.size 33 rfl (e.cs.drop 33) _ (fun j u hu => HX4.out.range 33 69 j u (by rw [List.take_of_length_le (by rw [List.length_drop, HL.out]; exact Nat.le_refl _)]; exact hu)) Try.underlying49 rfl (by rw [List.length_drop, HL.out]; kernel_rfl) ?_; simp only [Act.put, List.setIfInBounds_toArray, List.set_cons_zero, List.set_cons_succ])
          | (go_at_call 22; refine (HF.out W4 (HB.out.trans (HB4.out.mono HB.out.size)) e HM.out).mono ?_; rintro x w5 ⟨rfl, hb5⟩; simp only [HP.out]; have HB5 := Lib.hid (HB4.out.trans (hb5.mono HB4.out.size)); have HX5 := Lib.hid (HX4.out.below hb5)))
        refine ⟨?_, by simp [intOf]; omega⟩
        have ho9 : w5.ownsRow w.heap.size 43 2 u5 ((es.take (k + 1)).filter pr).length (cellsOf ((es.take (k + 1)).filter pr)) := by
          rw [filter_more HG.out, HP.out, if_neg (by simp), List.append_nil]
          exact HO.out.kept (below_grown HB5.out rfl none) (by cases Value.ownBlock _ <;> simp)
        have hb9 : Below w.heap.size w w5 := HB.out.trans (HB5.out.mono HB.out.size)
        first | exact ⟨k + 1, by omega, by go_num, ho9, hb9⟩ | ((repeat apply Exists.intro); exact ⟨⟨k + 1, by omega, by go_num, ho9, hb9⟩, rfl⟩)
    · have hke : k = es.length := by omega
      have ho := HO.out
      rw [hke, List.take_length] at ho
      have hvs : ∀ e ∈ es.filter pr, enVal w e.val (vc e) := fun e he => by
        obtain ⟨i, hi⟩ := List.mem_iff_getElem?.1 (List.mem_filter.1 he).1
        obtain ⟨cs, hen, _, _⟩ := HX.out i e hi
        exact hen.val
      have hV := VsAt.own ho (fun e he => stays_val _ _ _ _ (hvs e he) HB.out)
      generalize hvv : vals (es.filter pr) = vv at *
      have HV := Lib.hid hV
      have HVL : Hid (vlen vv ≤ 1099511627776) := Hvl
      clear hV ho HO hvs HF hk hlt
      go_wp2_with (first
        | (refine wpList_box_box rfl 85 _ rfl zSums rfl ?_; intro W3 hx3 hb3 hs3; have HS := Lib.hid (sums_at vv _ W3 (SlAt.below stays_val HV.out hb3) _ rfl HVL.out); simp only [Act.put, List.setIfInBounds_toArray, List.set_cons_zero, List.set_cons_succ])
        | (go_at_call 14; refine HS.out.mono ?_; rintro e w5 ⟨sl, R, rfl, ho5, hb5, ht5⟩; have HX5 := Lib.hid (hx3.below hb5))
        | (refine wpList_store_box rfl 57 _ _ rfl _ 0 (encW (csum vv)) rfl rfl _ _ HX5.out (by simp [zSums, encW]) (by kernel_rfl) (encW_one _) ?_; intro W6 hx6 ho6; simp only [Act.put, List.setIfInBounds_toArray, List.set_cons_zero, List.set_cons_succ])
        | (refine wpList_store_one rfl 33 _ _ rfl _ 2 sl rfl rfl _ _ hx6 (by simp [laid, zSums, encW]) (by obtain ⟨A9, c9, rfl, _⟩ := own_form ho5; rfl) (by kernel_rfl) (by obtain ⟨A9, c9, rfl, _⟩ := own_form ho5; rfl) ?_; intro W7 hx7 ho7; simp only [Act.put, List.setIfInBounds_toArray, List.set_cons_zero, List.set_cons_succ]))
      go_ret
      rw [hvv]
      have hne : ∀ {W : World} {base : Nat}, W.ownsRow base 88 35 sl R.length (R.flatMap encT) → W3.heap.size ≤ base → (sl.ownBlock = none ∨ sl.ownBlock ≠ some wr.heap.size) := fun hr hb => by
        cases hv : sl.ownBlock with
        | none => simp
        | some g => right; have := (hr.lt g hv).1; simp; omega
      have ho6' := ho5.kept ho6.grown (hne ho5 (Nat.le_refl _))
      have ho7' := ho6'.kept ho7.grown (hne ho6' (Nat.le_refl _))
      refine ⟨wr.heap.size, sl, R, rfl, HB.out.size, hx7, own_base ho7' (by have := HB.out.size; omega) rfl, ht5, ?_⟩
      exact HB.out.trans ((((hb3.trans (hb5.mono hb3.size)).trans (ho6.below (Nat.le_refl _))).trans (ho7.below (Nat.le_refl _))).mono HB.out.size)
end Go.Proofs.Ytjmkkndglmapaaa
