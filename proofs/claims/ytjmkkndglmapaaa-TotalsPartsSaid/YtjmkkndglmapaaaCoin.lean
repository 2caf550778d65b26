/- totals.Assets, sums.add, Coins. -/
import Derived.Test.YtjmkkndglmapaaaBal
set_option linter.unusedSimpArgs false
set_option linter.unusedVariables false
namespace Go.Proofs.Ytjmkkndglmapaaa
open Go.RowKit Go.Shelf Go.Lib Go.Sort Go.WideShapes Go.ChangeShapes

theorem filter_all (es : List Ent) : es.filter (fun _ => true) = es := by simp

theorem of_all (es : List Ent) (v : Value) (w : World) (h : EsAt w v es) (hlen : es.length ≤ 1099511627776) (hvl : vlen (vals es) ≤ 1099511627776) :
    Calls Try.prog 21 #[.func (.func 23) #[] #[], v] w fun e w' => OfPost w (vals es) e w' := by
  have := of_each es (fun _ => true) v #[] w h hlen (by rw [filter_all]; exact hvl) fun W _ e _ => (by
    show Calls _ _ #[_] _ _
    exact (each_any (e.cs.drop 33) W).mono fun x W' h => h)
  rwa [filter_all] at this

set_option maxRecDepth 100000 in
set_option maxHeartbeats 4000000 in
theorem assets_any (S : Sta) (w : World) (h : enSta w S) (hlen : S.es.length ≤ 1099511627776) (hvl : vlen (vals S.es) ≤ 1099511627776) :
    Calls Try.prog 13 #[.agg S.cs.toArray] w fun e w' => ∃ sl R, e = .returned sl ∧ w'.ownsRow w.heap.size 88 35 sl R.length (R.flatMap encT) ∧ Below w.heap.size w w' ∧ Told (vsum (vals S.es)) R := by
  obtain ⟨es0, hc, hes⟩ := h.ents
  have HC := Lib.hid hc
  have HOF : Hid (∀ W, Below w.heap.size w W → Calls Try.prog 21 #[.func (.func 23) #[] #[], es0] W fun e w' => OfPost W (vals S.es) e w') := fun W hb => of_all S.es es0 W (hes.below stays_ent hb) hlen hvl
  clear h hc hes hlen hvl
  go_enter Try.func13, Try.ntmps13
  go_wp2_with (first
    | (refine wpList_box_box rfl 36 _ rfl S.cs rfl ?_; intro W1 hx1 hb1 hs1; simp only [Act.put, List.setIfInBounds_toArray, List.set_cons_zero, List.set_cons_succ])
    | (refine wpList_load_cell rfl 28 _ rfl ⟨w.heap.size, 44, none⟩ rfl es0 _ (hx1.cell HC.out) Try.underlying28 rfl ?_; simp only [Act.put, List.setIfInBounds_toArray, List.set_cons_zero, List.set_cons_succ])
    | (go_at_call 21; refine (HOF.out W1 hb1).mono ?_; rintro e w5 ⟨p, sl, R, rfl, hp, hxp, hro, hto, hbo⟩; have HXP := Lib.hid hxp; have HRO := Lib.hid hro; have HTO := Lib.hid hto; have HBO := Lib.hid hbo)
    | (refine wpList_load_cell rfl 33 _ rfl ⟨p, 2, none⟩ rfl sl _ (HXP.out.cell rfl) Try.underlying33 rfl ?_; simp only [Act.put, List.setIfInBounds_toArray, List.set_cons_zero, List.set_cons_succ]))
  go_ret
  exact ⟨_, R, rfl, own_base HRO.out hb1.size rfl, hb1.trans (HBO.out.mono hb1.size), HTO.out⟩

theorem sum_more {l : List Int} {k : Nat} {x : Int} (h : l[k]? = some x) : (l.take (k + 1)).sum = (l.take k).sum + x := by
  rw [take_more h]
  simp

set_option maxRecDepth 100000 in
set_option maxHeartbeats 4000000 in
/-- sums.add at a row of numbers. -/
theorem sadd_any (l : List Int) (hl : ∀ x ∈ l, i64 x) (hn : l.length < 1000) (p b cap : Nat) (x0 : Int) (sl : Value) (w : World) (hp : Box w p (encW x0 ++ [sl]) 85) (hb : Box w b (l.map (Value.int .i64)) 2) (hpb : p < b) :
    Calls Try.prog 24 #[.pointer (some ⟨p, 0, none⟩), .slice (some ⟨b, 0, none⟩) l.length cap] w fun e w' => e = .returned (.tuple #[]) ∧ Box w' p (encW (x0 + l.sum) ++ [sl]) 85 ∧ w.grownBy w' (some p) := by
  have HL : Hid (∀ x ∈ l, i64 x) := hl
  have HP := Lib.hid hp
  have HB := Lib.hid hb
  have hn63 : l.length < 9223372036854775807 := by omega
  clear hp hb hl
  go_enter Try.func24, Try.ntmps24
  go_wp2
  go_loopw [8] (fun i wr => ∃ k : Nat, k ≤ l.length ∧ i = .int .i64 k ∧ Box wr p (encW (x0 + (l.take k).sum) ++ [sl]) 85 ∧ World.grownBy w wr (some p)) (fun i _ => l.length - (intOf i).toNat)
  case atStart => exact ⟨0, Nat.zero_le _, rfl, by simpa using HP.out, ⟨rfl, rfl, rfl, Nat.le_refl _, fun _ _ _ => rfl⟩⟩
  case round =>
    obtain ⟨k, hk, rfl, hX, hG⟩ := hrel
    have HX := Lib.hid hX
    have HG := Lib.hid hG
    clear hX hG
    by_cases hlt : k < l.length
    · have hg : l[k]? = some l[k] := List.getElem?_eq_getElem hlt
      generalize l[k] = x at hg
      have hc1 : wr.cell? ⟨b, 0 + k, none⟩ = some (.int .i64 x) := by
        have hBr : Box wr b (l.map (Value.int .i64)) 2 := (HG.out.block b HB.out.lt (by simp; omega)).trans HB.out
        rw [Nat.zero_add]
        exact hBr.cell (by rw [List.getElem?_map, hg]; rfl)
      have hxi := HL.out x (List.mem_of_getElem? hg)
      have hsm := sum_more hg
      have HXI := Lib.hid hxi
      have HSM := Lib.hid hsm
      have HC1 := Lib.hid hc1
      clear hg hc1 hxi hsm
      generalize (l.take k).sum = q at *
      generalize hy : x0 + q = y at *
      go_wp2_with (first
        | (refine wpList_load_cell rfl 2 _ rfl ⟨b, 0 + k, none⟩ rfl _ _ HC1.out Try.underlying2 rfl ?_; simp only [Act.put, List.setIfInBounds_toArray, List.set_cons_zero, List.set_cons_succ])
        | (refine wpList_load_cell rfl 2 _ rfl ⟨b, k, none⟩ rfl _ _ (by have := HC1.out; rw [Nat.zero_add] at this; exact this) Try.underlying2 rfl ?_; simp only [Act.put, List.setIfInBounds_toArray, List.set_cons_zero, List.set_cons_succ]))
      refine hu_begin 11 (fun W => Box W p (encW y ++ [sl]) 85) mixed fun W hW => ?_
      have hS : Box W p (encW y ++ [sl]) 85 := by
        rw [hW]
        exact HX.out.drew
      have hB0 : Below wr.heap.size wr W := by
        rw [hW]
        exact (Below.refl _ _).drew
      clear hW
      refine hu_take 0 (some 12) _ rfl rfl (by kernel_rfl) (by kernel_rfl) (by kernel_rfl) (by kernel_rfl) (fun _ _ _ _ h => h) (.pointer (some ⟨p, 0, none⟩)) rfl (fun W _ => by go_simp) hS ?_
      simp only [Act.put, List.setIfInBounds_toArray, List.set_cons_zero, List.set_cons_succ]
      refine hu_take 1 (some 13) _ rfl rfl (by kernel_rfl) (by kernel_rfl) (by kernel_rfl) (by kernel_rfl) (fun _ _ _ _ h => h) (.pointer (some ⟨p, 0, none⟩)) rfl (fun W _ => by go_simp) hS ?_
      simp only [Act.put, List.setIfInBounds_toArray, List.set_cons_zero, List.set_cons_succ]
      refine hu_take 2 (some 14) _ rfl rfl (by kernel_rfl) (by kernel_rfl) (by kernel_rfl) (by kernel_rfl) (fun _ _ _ _ h => h) (.pointer (some ⟨p, 0, none⟩)) rfl (fun W _ => by go_simp) hS ?_
      simp only [Act.put, List.setIfInBounds_toArray, List.set_cons_zero, List.set_cons_succ]
      refine hu_take 3 (some 15) _ rfl rfl (by kernel_rfl) (by kernel_rfl) (by kernel_rfl) (by kernel_rfl) (fun _ _ _ _ h => h) (.pointer (some ⟨p, 0, none⟩)) rfl (fun W _ => by go_simp) hS ?_
      simp only [Act.put, List.setIfInBounds_toArray, List.set_cons_zero, List.set_cons_succ]
      refine hu_take 4 (some 16) _ rfl rfl (by kernel_rfl) (by kernel_rfl) (by kernel_rfl) (by kernel_rfl) (fun _ _ _ _ h => h) (.agg #[.int .i64 (hiW y), .int .u64 (loW y)]) rfl (fun W hW => run_load_op rfl rfl (run_loadVar_mid W _ _ _ _ _ (row_piece hW) Try.underlying57 rfl (by kernel_rfl))) hS ?_
      simp only [Act.put, List.setIfInBounds_toArray, List.set_cons_zero, List.set_cons_succ]
      refine hu_take 5 (some 17) _ rfl rfl (by kernel_rfl) (by kernel_rfl) (by kernel_rfl) (by kernel_rfl) (fun _ _ _ _ h => h) (.int .i64 x) rfl (fun W _ => by go_simp) hS ?_
      simp only [Act.put, List.setIfInBounds_toArray, List.set_cons_zero, List.set_cons_succ]
      refine hu_call 6 (some 18) _ rfl (by kernel_rfl) rfl rfl 8 #[.int .i64 x] (fun v w' => v = .agg #[.int .i64 (hiW x), .int .u64 (loW x)] ∧ Below W.heap.size W w') (by go_simp) ((wide_any x HXI.out W).mono fun e w' h => ⟨_, h.1, rfl, h.2⟩) ?_
      rintro v5 w5 ⟨rfl, hb5⟩
      have hS5 := Box.below hS hb5
      refine ⟨fun _ => hS5, ?_⟩
      simp only [Act.put, List.setIfInBounds_toArray, List.set_cons_zero, List.set_cons_succ]
      have hb6 : Below w5.heap.size w5 (w5.alloc (.cells (encW y ++ encW x).toArray 57)) := (Below.refl _ w5).alloc (Nat.le_refl _) _
      refine hu_value 7 (some 19) _ rfl (by kernel_rfl) rfl rfl (.slice (some ⟨w5.heap.size, 0, none⟩) 2 2) (w5.alloc (.cells #[.int .i64 (hiW y), .int .u64 (loW y), .int .i64 (hiW x), .int .u64 (loW x)] 57)) (by go_simp) (Box.below hS5 hb6) ?_
      simp only [Act.put, List.setIfInBounds_toArray, List.set_cons_zero, List.set_cons_succ]
      have hB := Box.new w5 (encW y ++ encW x) 57
      have hpl := plus_any [y, x] (some ⟨w5.heap.size, 0, none⟩) 2 2 w5.heap.size 0 _ rfl (by omega) (fun _ => rfl) (fun i hi => by
        have : i = 0 ∨ i = 1 := by omega
        rcases this with rfl | rfl
        · exact hB.range 0 2
        · exact hB.range 2 2)
      have hs : [y, x].sum = y + x := by simp
      rw [hs] at hpl
      refine hu_call 8 (some 20) _ rfl (by kernel_rfl) rfl rfl 7 _ (fun v w' => v = .agg (encW (y + x)).toArray ∧ Below (w5.alloc (.cells (encW y ++ encW x).toArray 57)).heap.size (w5.alloc (.cells (encW y ++ encW x).toArray 57)) w') (by go_simp) (hpl.mono fun e w' h => ⟨_, h.1, rfl, h.2⟩) ?_
      rintro v7 w7 ⟨rfl, hb7⟩
      have hS7 := Box.below (Box.below hS5 hb6) hb7
      have hB7 : Below wr.heap.size wr w7 := ((hB0.trans (hb5.mono hB0.size)).trans (hb6.mono (hB0.trans (hb5.mono hB0.size)).size)).trans (hb7.mono ((hB0.trans (hb5.mono hB0.size)).trans (hb6.mono (hB0.trans (hb5.mono hB0.size)).size)).size)
      refine ⟨fun _ => hS7, ?_⟩
      simp only [Act.put, List.setIfInBounds_toArray, List.set_cons_zero, List.set_cons_succ]
      clear hpl hB hb6 hb5 hS5 hS hB0 hb7
      refine hu_value 9 (some 21) _ rfl (by kernel_rfl) rfl rfl (.pointer (some ⟨p, 0, none⟩)) w7 (by go_simp) hS7 ?_
      simp only [Act.put, List.setIfInBounds_toArray, List.set_cons_zero, List.set_cons_succ]
      refine hu_value 10 (some 22) _ rfl (by kernel_rfl) rfl rfl (.pointer (some ⟨p, 0, none⟩)) w7 (by go_simp) hS7 ?_
      simp only [Act.put, List.setIfInBounds_toArray, List.set_cons_zero, List.set_cons_succ]
      refine hu_store_box 11 _ rfl (by kernel_rfl) rfl rfl 57 _ _ rfl p 0 (encW (y + x)) rfl rfl _ _ hS7 (by simp [encW]) (by kernel_rfl) (encW_one _) ?_
      intro W8 hx8 ho8
      refine ⟨fun h => absurd rfl h, ?_⟩
      refine hu_done (by kernel_rfl) ?_
      have hX8 : Box W8 p (encW (x0 + (l.take (k + 1)).sum) ++ [sl]) 85 := by
        rw [HSM.out, ← Int.add_assoc, hy]
        exact hx8
      have hG8 : World.grownBy w W8 (some p) := by
        have hg7 := HG.out
        refine ⟨ho8.os.trans (hB7.os.trans hg7.os), ho8.tape.trans (hB7.tape.trans hg7.tape), ho8.output.trans (hB7.output.trans hg7.output), by have := hB7.size; have := hg7.size; have := ho8.size; omega, fun j hj hne => ?_⟩
        exact ((ho8.block j (fun e => hne (by rw [e]))).trans (hB7.block j (by have := hg7.size; omega))).trans (hg7.block j hj hne)
      have HX8 := Lib.hid hX8
      have HG8 := Lib.hid hG8
      clear hX8 hG8 hx8 ho8 hB7 hS7 HX HG
      go_wp2
      refine ⟨?_, by simp [intOf]; omega⟩
      first | exact ⟨k + 1, by omega, by go_num, HX8.out, HG8.out⟩ | ((repeat apply Exists.intro); exact ⟨⟨k + 1, by omega, by go_num, HX8.out, HG8.out⟩, rfl⟩)
    · have hke : k = l.length := by omega
      have hX := HX.out
      rw [hke, List.take_length] at hX
      have HX1 := Lib.hid hX
      clear hX HX
      go_wp2
      go_end0
      exact ⟨rfl, HX1.out, HG.out⟩

set_option maxRecDepth 100000 in
set_option maxHeartbeats 4000000 in
theorem coins_at (S : Sta) (xx : Int) (hxx : csum (vals S.es) = xx) (w : World) (h : enSta w S) (hlen : S.es.length ≤ 1099511627776) (hvl : vlen (vals S.es) ≤ 1099511627776) :
    Calls Try.prog 10 #[.agg S.cs.toArray] w fun e w' => e = .returned (.agg (encW (xx + S.fees + S.forf)).toArray) ∧ Below w.heap.size w w' := by
  obtain ⟨es0, hc, hes⟩ := h.ents
  have HC := Lib.hid hc
  have HF1 := Lib.hid h.fees.1
  have HF2 := Lib.hid h.forf.1
  have HI : Hid (∀ x ∈ [S.fees, S.forf], i64 x) := fun x hx => by
    simp only [List.mem_cons, List.not_mem_nil, or_false] at hx
    rcases hx with rfl | rfl
    · exact h.fees.2
    · exact h.forf.2
  have HOF : Hid (∀ W, Below w.heap.size w W → Calls Try.prog 21 #[.func (.func 23) #[] #[], es0] W fun e w' => OfPost W (vals S.es) e w') := fun W hb => of_all S.es es0 W (hes.below stays_ent hb) hlen hvl
  have HXX := Lib.hid hxx
  clear h hc hes hlen hvl hxx
  go_enter Try.func10, Try.ntmps10
  go_wp2_with (first
    | (refine wpList_box_box rfl 36 _ rfl S.cs rfl ?_; intro W1 hx1 hb1 hs1; simp only [Act.put, List.setIfInBounds_toArray, List.set_cons_zero, List.set_cons_succ])
    | (refine wpList_alloc_box rfl 57 rfl _ Try.zeroValue57 (encW 0) rfl ?_; intro W2 hx2 hb2 hs2; have HB2 := Lib.hid (hb1.trans (hb2.mono hb1.size)); have HX1 := Lib.hid (hx1.below hb2); simp only [Act.put, List.setIfInBounds_toArray, List.set_cons_zero, List.set_cons_succ])
    | (refine wpList_load_cell rfl 28 _ rfl ⟨w.heap.size, 44, none⟩ rfl es0 _ (HX1.out.cell HC.out) Try.underlying28 rfl ?_; simp only [Act.put, List.setIfInBounds_toArray, List.set_cons_zero, List.set_cons_succ])
    | (go_at_call 21; refine (HOF.out W2 HB2.out).mono ?_; rintro e w5 ⟨p, sl, R, rfl, hp, hxp, hro, hto, hbo⟩; rw [HXX.out] at hxp; have HXP := Lib.hid hxp; have HX5 := Lib.hid (HX1.out.below hbo); have HX2 := Lib.hid (hx2.below hbo); have HB5 := Lib.hid (HB2.out.trans (hbo.mono HB2.out.size)); have HPW := Lib.hid hp; clear hro hto hbo hxp)
    | (refine wpList_load_cell rfl 2 _ rfl ⟨w.heap.size, 177, none⟩ rfl (.int .i64 S.fees) _ (HX5.out.cell HF1.out) Try.underlying2 rfl ?_; simp only [Act.put, List.setIfInBounds_toArray, List.set_cons_zero, List.set_cons_succ])
    | (refine wpList_load_cell rfl 2 _ rfl ⟨w.heap.size, 178, none⟩ rfl (.int .i64 S.forf) _ (HX5.out.cell HF2.out) Try.underlying2 rfl ?_; simp only [Act.put, List.setIfInBounds_toArray, List.set_cons_zero, List.set_cons_succ])
    | (go_at_call 24; refine (sadd_any [S.fees, S.forf] HI.out (by simp) p w5.heap.size 2 xx sl (w5.alloc (.cells #[.int .i64 S.fees, .int .i64 S.forf] 2)) (HXP.out.alloc _) (Box.new w5 [.int .i64 S.fees, .int .i64 S.forf] 2) HXP.out.lt).mono ?_; rintro e w7 ⟨rfl, hx7, hg7⟩; have HX7 := Lib.hid hx7; have HG7 := Lib.hid hg7; have HX27 := Lib.hid ((hg7.block W1.heap.size (by rw [size_alloc]; have := HX2.out.lt; omega) (by simp; have := HPW.out; omega)).trans (HX2.out.alloc _)))
    | (refine wpList_load_mid rfl 57 _ rfl p 0 rfl (encW (xx + [S.fees, S.forf].sum)) _ (row_piece HX7.out) Try.underlying57 rfl (by kernel_rfl) ?_; simp only [Act.put, List.setIfInBounds_toArray, List.set_cons_zero, List.set_cons_succ])
    | (refine wpList_store_box rfl 57 _ _ rfl W1.heap.size 0 (encW (xx + [S.fees, S.forf].sum)) rfl rfl (encW 0) 57 HX27.out (Nat.le_refl _) (by kernel_rfl) (encW_one _) ?_; intro W8 hx8 ho8; simp only [Act.put, List.setIfInBounds_toArray, List.set_cons_zero, List.set_cons_succ]))
  have hsum : xx + [S.fees, S.forf].sum = xx + S.fees + S.forf := by simp [Int.add_assoc]
  rw [hsum] at hx8
  refine bodyPost_ret (results_box rfl _ _ W1.heap.size 57 (encW (xx + S.fees + S.forf)) _ rfl (box_laid hx8 rfl) Try.underlying57 rfl (by kernel_rfl)) rfl ⟨rfl, ?_⟩
  have hg := HG7.out
  have hb5 := HB5.out
  have hle : w.heap.size ≤ W1.heap.size := hb1.size
  have hpw := HPW.out
  have hsz : (w5.alloc (.cells #[.int .i64 S.fees, .int .i64 S.forf] 2)).heap.size = w5.heap.size + 1 := size_alloc _ _
  have hal : Below w.heap.size w (w5.alloc (.cells #[.int .i64 S.fees, .int .i64 S.forf] 2)) := hb5.alloc hb5.size _
  have hb7 : Below w.heap.size w w7 := ⟨hg.os.trans hal.os, hg.tape.trans hal.tape, hg.output.trans hal.output, by have := hal.size; have := hg.size; omega, fun j hj => (hg.block j (by have := hal.size; omega) (by simp; omega)).trans (hal.block j hj)⟩
  exact hb7.trans (ho8.below hle)
end Go.Proofs.Ytjmkkndglmapaaa
