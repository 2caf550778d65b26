/- value.Sums: the walk. -/
import Derived.Test.YtjmkkndglmapaaaAcc
import Derived.Test.YtjmkkndglmapaaaAnyU
set_option linter.unusedSimpArgs false
set_option linter.unusedVariables false
namespace Go.Proofs.Ytjmkkndglmapaaa
open Go.RowKit Go.Shelf Go.Lib Go.Sort Go.WideShapes Go.ChangeShapes

set_option maxRecDepth 100000 in
set_option maxHeartbeats 4000000 in
theorem sums_at (vs : List Val) (v : Value) (w : World) (h : VsAt w v vs) (xs : Int) (hxs : csum vs = xs) (hlen : vlen vs ≤ 1099511627776) :
    Calls Try.prog 14 #[v] w fun e w' => ∃ sl R, e = .returned (.tuple #[.agg (encW xs).toArray, sl]) ∧ w'.ownsRow w.heap.size 88 35 sl R.length (R.flatMap encT) ∧ Below w.heap.size w w' ∧ Told (vsum vs) R := by
  obtain ⟨A, c, b, o, rfl, hlc, hcm, -, hA, hx⟩ := h
  have Hlen := Lib.hid hlen
  have Hxs : Hid (csum vs = xs) := hxs
  clear hxs
  have HA := Lib.hid hA
  have HX := Lib.hid hx
  have Hlc := Lib.hid hlc
  have Hcm := Lib.hid hcm
  clear hlen hA hx hlc hcm
  go_enter Try.func14, Try.ntmps14
  go_wp2_with (first
    | (refine wpList_alloc_box rfl 57 rfl _ Try.zeroValue57 (encW 0) rfl ?_; intro W1 hx1 hb1 hs1; simp only [Act.put, List.setIfInBounds_toArray, List.set_cons_zero, List.set_cons_succ])
    | (refine wpList_makeMap rfl _ rfl ?_; intro W2 hm2 hb2 hs2; simp only [Act.put, List.setIfInBounds_toArray, List.set_cons_zero, List.set_cons_succ]))
  generalize hm : W1.heap.size = m at *
  have hbk := hx1.lt
  have hAcc : Acc w W2 w.heap.size m (vsum (vs.take 0)) (vlen (vs.take 0)) (csum (vs.take 0)) :=
    ⟨⟨[], 0, hm2, fun j => rfl, Nat.zero_le _⟩, by rw [← hm] at hb2; exact hx1.below hb2, hb1.trans (hb2.mono (by omega)), Nat.le_refl _, by omega⟩
  clear hm2 hb2 hs2 hx1 hb1 hs1 hbk hm
  go_loopw [12] (fun i wr => ∃ k : Nat, k ≤ vs.length ∧ i = .int .i64 k ∧ Acc w wr (World.heap w).size m (vsum (vs.take k)) (vlen (vs.take k)) (csum (vs.take k))) (fun i _ => vs.length - (intOf i).toNat)
  case atStart => exact ⟨0, Nat.zero_le _, rfl, hAcc⟩
  case round =>
    obtain ⟨k, hk, rfl, hR⟩ := hrel
    clear hAcc
    have HR := Lib.hid hR
    clear hR
    by_cases hlt : k < vs.length
    · have hg : vs[k]? = some vs[k] := List.getElem?_eq_getElem hlt
      generalize vs[k] = xv at hg
      obtain ⟨cs1, ⟨sl, rfl, hci, has⟩, hl1, hr1⟩ := HX.out k xv hg
      obtain ⟨A2, c2, b2, o2, rfl, hlc2, hcm2, -, hA2, hx2⟩ := has
      have hr2 := rangeAt_below hr1 HR.out.bl
      obtain rfl := HA.out (by omega)
      have HG := Lib.hid hg
      have HA2 := Lib.hid hA2
      have HX2 := Lib.hid hx2
      have Hlc2 := Lib.hid hlc2
      have Hcm2 := Lib.hid hcm2
      have HCI := Lib.hid hci
      have hkn : k < 9223372036854775807 := by have := Hlc.out; have := Hcm.out; simp only [maxLen] at this; omega
      clear hA2 hx2 hlc2 hcm2 hr1 hg hci hl1
      go_wp2_with (first
        | (refine wpList_load_mid rfl 43 _ rfl b (o + k * 2) rfl _ _ hr2 Try.underlying43 rfl (by kernel_rfl) ?_; simp only [Act.put, List.setIfInBounds_toArray, List.set_cons_zero, List.set_cons_succ])
        | (refine wpList_alloc_box rfl 43 rfl _ Try.zeroValue43 zVal rfl ?_; intro W3 hx3 hb3 hs3; simp only [Act.put, List.setIfInBounds_toArray, List.set_cons_zero, List.set_cons_succ])
        | (refine wpList_store_box rfl 43 _ _ rfl _ 0 [.int .i64 xv.coin, .slice A2 xv.al.length c2] rfl rfl _ _ hx3 (by simp [zVal]) (by kernel_rfl) (by intro u hu; simp only [List.mem_cons, List.not_mem_nil, or_false] at hu; rcases hu with rfl | rfl <;> rfl) ?_; intro W4 hx4 ho4; have HX4 := Lib.hid (box_laid hx4 rfl); simp only [Act.put, List.setIfInBounds_toArray, List.set_cons_zero, List.set_cons_succ]))
      have hA4 := HR.out.step (hb3.trans (ho4.below (Nat.le_refl _)))
      have HA4 := Lib.hid hA4
      clear hA4 ho4 hx4 hb3 hx3 hr2
      generalize hx0 : csum (vs.take k) = x0 at *
      generalize hxc : xv.coin = xc at *
      generalize hb6 : wr.heap.size = b6 at *
      refine hu_begin 6 (fun W => Acc w W w.heap.size m (vsum (vs.take k)) (vlen (vs.take k)) x0 ∧ Box W b6 [.int .i64 xc, .slice A2 xv.al.length c2] 43) mixed fun W hW => ?_
      have hS : Acc w W w.heap.size m (vsum (vs.take k)) (vlen (vs.take k)) x0 ∧ Box W b6 [.int .i64 xc, .slice A2 xv.al.length c2] 43 := by
        rw [hW]
        exact ⟨HA4.out.step ((Below.refl _ _).drew), HX4.out.drew⟩
      clear hW
      refine hu_take 0 (some 16) _ rfl rfl (by kernel_rfl) (by kernel_rfl) (by kernel_rfl) (by kernel_rfl) (fun _ _ _ _ h => h) (.agg #[.int .i64 (hiW x0), .int .u64 (loW x0)]) rfl (fun W hW => run_load_op rfl rfl (run_loadVar_mid W _ _ _ _ _ hW.1.coin.whole Try.underlying57 rfl (by kernel_rfl))) hS ?_
      simp only [Act.put, List.setIfInBounds_toArray, List.set_cons_zero, List.set_cons_succ]
      refine hu_take 1 (some 17) _ rfl rfl (by kernel_rfl) (by kernel_rfl) (by kernel_rfl) (by kernel_rfl) (fun _ _ _ _ h => h) (.pointer (some ⟨b6, 0, none⟩)) rfl (fun W _ => by go_simp) hS ?_
      simp only [Act.put, List.setIfInBounds_toArray, List.set_cons_zero, List.set_cons_succ]
      refine hu_take 2 (some 18) _ rfl rfl (by kernel_rfl) (by kernel_rfl) (by kernel_rfl) (by kernel_rfl) (fun _ _ _ _ h => h) (.int .i64 xc) rfl (fun W hW => run_load_op rfl rfl (run_loadVar_cell W _ _ _ _ (hW.2.cell rfl) Try.underlying2 rfl)) hS ?_
      simp only [Act.put, List.setIfInBounds_toArray, List.set_cons_zero, List.set_cons_succ]
      refine hu_call 3 (some 19) _ rfl (by kernel_rfl) rfl rfl 8 #[.int .i64 xc] (fun v w' => v = .agg #[.int .i64 (hiW xc), .int .u64 (loW xc)] ∧ Below W.heap.size W w') (by go_simp) ((wide_any xc HCI.out W).mono fun e w' h => ⟨_, h.1, rfl, h.2⟩) ?_
      rintro v5 w5 ⟨rfl, hb5⟩
      have hS5 : Acc w w5 w.heap.size m (vsum (vs.take k)) (vlen (vs.take k)) x0 ∧ Box w5 b6 [.int .i64 xc, .slice A2 xv.al.length c2] 43 := ⟨hS.1.step hb5, hS.2.below hb5⟩
      refine ⟨fun _ => hS5, ?_⟩
      simp only [Act.put, List.setIfInBounds_toArray, List.set_cons_zero, List.set_cons_succ]
      clear hS hb5
      have hb6' : Below w5.heap.size w5 (w5.alloc (.cells (encW x0 ++ encW xc).toArray 57)) := (Below.refl _ w5).alloc (Nat.le_refl _) _
      refine hu_value 4 (some 20) _ rfl (by kernel_rfl) rfl rfl (.slice (some ⟨w5.heap.size, 0, none⟩) 2 2) (w5.alloc (.cells #[.int .i64 (hiW x0), .int .u64 (loW x0), .int .i64 (hiW xc), .int .u64 (loW xc)] 57)) (by go_simp) ⟨hS5.1.step hb6', hS5.2.below hb6'⟩ ?_
      simp only [Act.put, List.setIfInBounds_toArray, List.set_cons_zero, List.set_cons_succ]
      have hB := Box.new w5 (encW x0 ++ encW xc) 57
      have hp := plus_any [x0, xc] (some ⟨w5.heap.size, 0, none⟩) 2 2 w5.heap.size 0 _ rfl (by omega) (fun _ => rfl) (fun i hi => by
        have : i = 0 ∨ i = 1 := by omega
        rcases this with rfl | rfl
        · exact hB.range 0 2
        · exact hB.range 2 2)
      have hs : [x0, xc].sum = x0 + xc := by simp
      rw [hs] at hp
      refine hu_call 5 (some 21) _ rfl (by kernel_rfl) rfl rfl 7 _ (fun v w' => v = .agg (encW (x0 + xc)).toArray ∧ Below (w5.alloc (.cells (encW x0 ++ encW xc).toArray 57)).heap.size (w5.alloc (.cells (encW x0 ++ encW xc).toArray 57)) w') (by go_simp) (hp.mono fun e w' h => ⟨_, h.1, rfl, h.2⟩) ?_
      rintro v7 w7 ⟨rfl, hb7⟩
      have hS7 : Acc w w7 w.heap.size m (vsum (vs.take k)) (vlen (vs.take k)) x0 ∧ Box w7 b6 [.int .i64 xc, .slice A2 xv.al.length c2] 43 := ⟨(hS5.1.step hb6').step hb7, (hS5.2.below hb6').below hb7⟩
      refine ⟨fun _ => hS7, ?_⟩
      simp only [Act.put, List.setIfInBounds_toArray, List.set_cons_zero, List.set_cons_succ]
      clear hb7 hp hB hb6' hS5
      refine hu_store_box 6 _ rfl (by kernel_rfl) rfl rfl 57 _ _ rfl w.heap.size 0 (encW (x0 + xc)) rfl rfl _ _ hS7.1.coin (Nat.le_refl _) (by kernel_rfl) (encW_one _) ?_
      intro W8 hx8 ho8
      refine ⟨fun h => absurd rfl h, ?_⟩
      refine hu_done (by kernel_rfl) ?_
      have hA8 := hS7.1.stored (box_laid hx8 rfl) ho8
      have hX8 := ho8.box hS7.2 (by have := HR.out.coin.lt; omega)
      have HA8 := Lib.hid hA8
      have HX8 := Lib.hid hX8
      clear hS7 hx8 ho8 hA8 hX8 HA4 HX4
      go_wp2_with (refine wpList_load_cell rfl 41 _ rfl ⟨b6, 1, none⟩ rfl (.slice A2 xv.al.length c2) _ (HX8.out.cell rfl) Try.underlying41 rfl ?_; simp only [Act.put, List.setIfInBounds_toArray, List.set_cons_zero, List.set_cons_succ])
      have hA9 : Acc w W8 w.heap.size m (fun q => vsum (vs.take k) q + asum (xv.al.take 0) q) (vlen (vs.take k) + 0) (x0 + xc) := HA8.out.next (fun j => by simp [asum]) (Nat.le_refl _)
      have hb6w : w.heap.size < b6 := by have := HR.out.coin.lt; omega
      clear HA8 HX8 HR
      go_loopw [25] (fun i wr => ∃ j : Nat, j ≤ xv.al.length ∧ i = .int .i64 j ∧ Acc w wr (World.heap w).size m (fun q => vsum (vs.take k) q + asum (xv.al.take j) q) (vlen (vs.take k) + j) (x0 + xc)) (fun i _ => xv.al.length - (intOf i).toNat)
      case atStart => exact ⟨0, Nat.zero_le _, rfl, hA9⟩
      case round =>
        obtain ⟨j, hj, rfl, hR⟩ := hrel
        clear hA9
        have HR := Lib.hid hR
        clear hR
        by_cases hjl : j < xv.al.length
        · have hg : xv.al[j]? = some xv.al[j] := List.getElem?_eq_getElem hjl
          generalize xv.al[j] = ax at hg
          obtain ⟨cs3, ⟨rfl, hok, hi3⟩, hl3, hr3⟩ := HX2.out j ax hg
          have hr4 := rangeAt_below hr3 HR.out.bl
          obtain rfl := HA2.out (by omega)
          have HG2 := Lib.hid hg
          have HL3 := Lib.hid hl3
          have HOK := Lib.hid hok
          have HI3 := Lib.hid hi3
          have hjn : j < 9223372036854775807 := by have := Hlc2.out; have := Hcm2.out; simp only [maxLen] at this; omega
          clear hr3 hg hok hi3 hl3
          go_wp2_with (first
            | (refine wpList_load_mid rfl 97 _ rfl b2 (o2 + j * 34) rfl _ _ hr4 Try.underlying97 rfl (by rw [HL3.out]; kernel_rfl) ?_; simp only [Act.put, List.setIfInBounds_toArray, List.set_cons_zero, List.set_cons_succ])
            | (refine wpList_alloc_box rfl 97 rfl _ Try.zeroValue97 zAsset rfl ?_; intro W3 hx3 hb3 hs3; simp only [Act.put, List.setIfInBounds_toArray, List.set_cons_zero, List.set_cons_succ])
            | (refine wpList_store_box rfl 97 _ _ rfl _ 0 (encA ax) rfl rfl _ _ hx3 (by rw [HL3.out]; simp [zAsset]) (by rw [HL3.out]; kernel_rfl) (encA_one _) ?_; intro W4 hx4 ho4; have HX4 := Lib.hid (box_laid hx4 (by rw [HL3.out]; simp [zAsset])); simp only [Act.put, List.setIfInBounds_toArray, List.set_cons_zero, List.set_cons_succ]))
          have hA4 := HR.out.step (hb3.trans (ho4.below (Nat.le_refl _)))
          have HA4 := Lib.hid hA4
          have hmq : m < wr.heap.size := by obtain ⟨L, c, h1, _⟩ := HR.out.book; exact h1.lt
          clear hA4 ho4 hx4 hb3 hx3 hr4
          generalize hb8 : wr.heap.size = b8 at *
          refine hw_begin (fun W => Box W b8 (encA ax) 97) mixed fun W hW => ?_
          have hA5 : Acc w W w.heap.size m (fun q => vsum (vs.take k) q + asum (xv.al.take j) q) (vlen (vs.take k) + j) (x0 + xc) := by
            rw [hW]
            exact HA4.out.step ((Below.refl _ _).drew)
          have hS : Box W b8 (encA ax) 97 := by
            rw [hW]
            exact HX4.out.drew
          clear hW HA4 HX4
          refine hw_take 0 (some 29) _ rfl rfl (by kernel_rfl) (by kernel_rfl) (by kernel_rfl) (fun _ _ _ _ h => h) (.map (some m)) rfl (fun W _ => by go_simp) hS ?_
          simp only [Act.put, List.setIfInBounds_toArray, List.set_cons_zero, List.set_cons_succ]
          refine hw_take 1 (some 30) _ rfl rfl (by kernel_rfl) (by kernel_rfl) (by kernel_rfl) (fun _ _ _ _ h => h) (.agg (encA ax).toArray) rfl (fun W hW => run_load_op rfl rfl (run_loadVar_mid W _ _ _ _ _ hW.whole Try.underlying97 rfl (by rw [HL3.out]; kernel_rfl))) hS ?_
          simp only [Act.put, List.setIfInBounds_toArray, List.set_cons_zero, List.set_cons_succ]
          refine hw_take 3 (some 32) _ rfl rfl (by kernel_rfl) (by kernel_rfl) (by kernel_rfl) (fun _ _ _ _ h => h) (.pointer (some ⟨b8, 33, none⟩)) rfl (fun W _ => by go_simp) hS ?_
          simp only [Act.put, List.setIfInBounds_toArray, List.set_cons_zero, List.set_cons_succ]
          refine hw_take 4 (some 33) _ rfl rfl (by kernel_rfl) (by kernel_rfl) (by kernel_rfl) (fun _ _ _ _ h => h) (.int .i64 ax.2) rfl (fun W hW => run_load_op rfl rfl (run_loadVar_cell W _ _ _ _ (hW.cell (by simp [encA, encB, HOK.out.1])) Try.underlying2 rfl)) hS ?_
          simp only [Act.put, List.setIfInBounds_toArray, List.set_cons_zero, List.set_cons_succ]
          refine hw_call 2 (some 31) _ rfl (by kernel_rfl) rfl rfl 28 #[.agg (encA ax).toArray] (fun v w' => v = .agg (encK ax.1).toArray ∧ Below W.heap.size W w') (by go_simp) ((of_any (encB ax.1.pol) ax.1.nm (.int .i64 ax.2) (by rw [encB_len]; exact HOK.out.1) (encB_one _) W).mono fun e w' h => ⟨_, h.1, rfl, h.2⟩) ?_
          rintro v5 w5 ⟨rfl, hb5⟩
          have hA6 := hA5.step hb5
          have hS6 := Box.below hS hb5
          refine ⟨hS6, ?_⟩
          simp only [Act.put, List.setIfInBounds_toArray, List.set_cons_zero, List.set_cons_succ]
          clear hS hA5 hb5
          refine hw_call 5 (some 34) _ rfl (by kernel_rfl) rfl rfl 8 #[.int .i64 ax.2] (fun v w' => v = .agg #[.int .i64 (hiW ax.2), .int .u64 (loW ax.2)] ∧ Below w5.heap.size w5 w') (by go_simp) ((wide_any ax.2 HI3.out w5).mono fun e w' h => ⟨_, h.1, rfl, h.2⟩) ?_
          rintro v7 w7 ⟨rfl, hb7⟩
          have hA8 := hA6.step hb7
          have hS8 := Box.below hS6 hb7
          refine ⟨hS8, ?_⟩
          simp only [Act.put, List.setIfInBounds_toArray, List.set_cons_zero, List.set_cons_succ]
          clear hS6 hA6 hb7
          obtain ⟨L8, c8, hbk8, hT8, hl8⟩ := hA8.book
          refine hw_call 6 (some 35) _ rfl (by kernel_rfl) rfl rfl 26 #[.map (some m), .agg (encK ax.1).toArray, .agg #[.int .i64 (hiW ax.2), .int .u64 (loW ax.2)]] (fun v w' => v = .tuple #[] ∧ (∃ L' c', BookAt w' m L' c' ∧ Added L8 L' ax.1 ax.2) ∧ w7.grownBy w' (some m)) (by go_simp) ((add_any m L8 c8 ax.1 ax.2 HOK.out w7 hbk8).mono fun e w' h => ⟨_, h.1, rfl, h.2⟩) ?_
          rintro v9 w9 ⟨rfl, ⟨L9, c9, hbk9, hadd⟩, hg9⟩
          have ham := asum_more HG2.out
          have hA9 : Acc w w9 w.heap.size m (fun q => vsum (vs.take k) q + asum (xv.al.take (j + 1)) q) (vlen (vs.take k) + (j + 1)) (x0 + xc) :=
            (hA8.added hbk9 (hadd.tells hT8 (T' := fun q => vsum (vs.take k) q + asum (xv.al.take (j + 1)) q) (by show vsum (vs.take k) ax.1 + asum (xv.al.take (j + 1)) ax.1 = _; rw [ham.1]; omega) (fun q hq => by show vsum (vs.take k) q + asum (xv.al.take (j + 1)) q = _; rw [ham.2 q hq])) (by have := hadd.len; omega) hg9)
          have hS9 : Box w9 b8 (encA ax) 97 := (hg9.block b8 (by have := hS8.lt; omega) (by simp; omega)).trans hS8
          refine ⟨hS9, ?_⟩
          simp only [Act.put, List.setIfInBounds_toArray, List.set_cons_zero, List.set_cons_succ]
          clear hS9 hS8 hA8 hbk8 hT8 hl8 hbk9 hadd hg9 ham
          have HA9 := Lib.hid hA9
          clear hA9
          refine hw_done (by kernel_rfl) ?_
          go_wp2
          refine ⟨?_, by simp [intOf]; omega⟩
          first | exact ⟨j + 1, by omega, by go_num, HA9.out⟩ | ((repeat apply Exists.intro); exact ⟨⟨j + 1, by omega, by go_num, HA9.out⟩, rfl⟩)
        · have hje : j = xv.al.length := by omega
          subst hje
          have hA9 : Acc w wr w.heap.size m (vsum (vs.take (k + 1))) (vlen (vs.take (k + 1))) (csum (vs.take (k + 1))) := by
            have h1 := csum_more HG.out
            rw [hx0, hxc] at h1
            rw [h1]
            exact HR.out.next (fun q => by rw [vsum_more HG.out, List.take_length]) (by rw [vlen_more HG.out]; omega)
          have HA9 := Lib.hid hA9
          clear hA9 HR
          go_wp2
          refine ⟨?_, by simp [intOf]; omega⟩
          first | exact ⟨k + 1, by omega, by go_num, HA9.out⟩ | ((repeat apply Exists.intro); exact ⟨⟨k + 1, by omega, by go_num, HA9.out⟩, rfl⟩)
    · have hke : k = vs.length := by omega
      subst hke
      have hA := HR.out
      rw [List.take_length, Hxs.out] at hA
      have HA1 := Lib.hid hA
      clear hA HR HX HA
      go_wp2
      refine hw_begin (fun W => Box W w.heap.size (encW (xs)) 57) mixed fun W hW => ?_
      have hA5 : Acc w W w.heap.size m (vsum vs) (vlen vs) (xs) := by
        rw [hW]
        exact HA1.out.step ((Below.refl _ _).drew)
      clear hW HA1
      have hS := hA5.coin
      obtain ⟨L, cl, hbk, hT, hl⟩ := hA5.book
      have hle2 : L.length ≤ 1099511627776 := by have := Hlen.out; omega
      have hc : Calls Try.prog 27 #[.map (some m)] W (fun e w' => ∃ v, e = .returned v ∧ (fun (v : Value) (w' : World) => ∃ R : List Tot, w'.ownsRow W.heap.size 88 35 v R.length (R.flatMap encT) ∧ Below W.heap.size W w' ∧ Told (valAt L) R) v w') :=
        (totals_any m L cl W hbk hle2).mono fun e w' h => by
          obtain ⟨v, R, h1, h2, h3, h4⟩ := h
          exact ⟨v, h1, R, h2, h3, h4⟩
      have HC := Lib.hid hc
      clear hc
      refine hw_take 0 (some 38) _ rfl rfl (by kernel_rfl) (by kernel_rfl) (by kernel_rfl) (fun _ _ _ _ h => h) (.agg (encW (xs)).toArray) rfl (fun W hW => run_load_op rfl rfl (run_loadVar_mid W _ _ _ _ _ hW.whole Try.underlying57 rfl (by kernel_rfl))) hS ?_
      simp only [Act.put, List.setIfInBounds_toArray, List.set_cons_zero, List.set_cons_succ]
      refine hw_take 1 (some 39) _ rfl rfl (by kernel_rfl) (by kernel_rfl) (by kernel_rfl) (fun _ _ _ _ h => h) (.map (some m)) rfl (fun W _ => by go_simp) hS ?_
      simp only [Act.put, List.setIfInBounds_toArray, List.set_cons_zero, List.set_cons_succ]
      refine hw_call 2 (some 40) _ rfl (by kernel_rfl) rfl rfl 27 #[.map (some m)] _ (by go_simp) HC.out ?_
      rintro v6 w6 ⟨R, ho6, hb6, ht6⟩
      refine ⟨hS.below hb6, ?_⟩
      simp only [Act.put, List.setIfInBounds_toArray, List.set_cons_zero, List.set_cons_succ]
      refine hw_store_box 3 _ rfl (by kernel_rfl) rfl rfl 57 _ _ rfl w.heap.size 0 (encW (xs)) rfl rfl _ _ (hS.below hb6) (Nat.le_refl _) (by kernel_rfl) (encW_one _) ?_
      intro W8 hx8 ho8
      refine ⟨box_laid hx8 rfl, ?_⟩
      have hw8 : W8.ownsRow W.heap.size 88 35 v6 R.length (R.flatMap encT) := ho6.kept ho8.grown (by
        cases hv : v6.ownBlock with
        | none => simp
        | some g => right; have := (ho6.lt g hv).1; have := hS.lt; simp; omega)
      refine hw_value 4 (some 3) _ rfl (by kernel_rfl) rfl rfl v6 W8 (by unfold execOp; rfl) (box_laid hx8 rfl) ?_
      simp only [Act.put, List.setIfInBounds_toArray, List.set_cons_zero, List.set_cons_succ]
      have hbw : Below w.heap.size w W8 := (hA5.bl.trans (hb6.mono hA5.bl.size)).trans (ho8.below (Nat.le_refl _))
      have hle := hA5.bl.size
      have HX8 := Lib.hid (box_laid hx8 rfl)
      refine hw_done (by kernel_rfl) ?_
      go_wp2
      refine bodyPost_ret (results_cell_tmp rfl _ _ w.heap.size (encW (xs)) _ rfl HX8.out.whole Try.underlying57 rfl (by kernel_rfl)) rfl ⟨v6, rfl, R, own_base hw8 hle rfl, hbw, ?_⟩
      have : valAt L = vsum vs := funext hT
      rw [← this]
      exact ht6

theorem sums_any (vs : List Val) (v : Value) (w : World) (h : VsAt w v vs) (hlen : vlen vs ≤ 1099511627776) :
    Calls Try.prog 14 #[v] w fun e w' => ∃ sl R, e = .returned (.tuple #[.agg (encW (csum vs)).toArray, sl]) ∧ w'.ownsRow w.heap.size 88 35 sl R.length (R.flatMap encT) ∧ Below w.heap.size w w' ∧ Told (vsum vs) R :=
  sums_at vs v w h _ rfl hlen
end Go.Proofs.Ytjmkkndglmapaaa
