/- totals.each, the closure of totals.Balance, Balance. -/
import Derived.Test.YtjmkkndglmapaaaSel
set_option linter.unusedSimpArgs false
set_option linter.unusedVariables false
namespace Go.Proofs.Ytjmkkndglmapaaa
open Go.RowKit Go.Shelf Go.Lib Go.Sort Go.WideShapes Go.ChangeShapes

theorem each_any (out : List Value) (w : World) : Calls Try.prog 23 #[.agg out.toArray] w fun e w' => e = .returned (.bool true) ∧ Below w.heap.size w w' := by
  go_enter Try.func23, Try.ntmps23
  go_wp2_with (refine wpList_box_box rfl 49 _ rfl out rfl ?_; intro W1 hx1 hb1 hs1; simp only [Act.put, List.setIfInBounds_toArray, List.set_cons_zero, List.set_cons_succ])
  go_ret
  exact ⟨rfl, hb1⟩

theorem chosen_any (out ad ea : List Value) (b : Nat) (w : World) (hb : Box w b ad 40) (hl : out.length = 69) (hea : out.take 33 = ea) (f1 : Fine Try.prog 40 ea) (f2 : Fine Try.prog 40 ad) (kt : KT Try.prog 40) :
    Calls Try.prog 22 #[.agg out.toArray, .pointer (some ⟨b, 0, none⟩)] w fun e w' => (∃ v, e = .returned (.bool v) ∧ (v = true ↔ ea = ad)) ∧ Below w.heap.size w w' := by
  have HB := Lib.hid hb
  have HL1 : Hid (ea.length = 33) := by show _ = _; rw [← hea, List.length_take, hl]; rfl
  have HL2 : Hid ((Try.prog.info? 40).map (·.size) = some ad.length) := by show _ = _; rw [f2.2, sz_api_Address]; kernel_rfl
  have HE := Lib.hid hea
  have F1 := Lib.hid f1
  have F2 := Lib.hid f2
  clear hb hl hea f1 f2
  go_enter Try.func22, Try.ntmps22
  go_wp2_with (first
    | (refine wpList_box_box rfl 49 _ rfl out rfl ?_; intro W1 hx1 hb1 hs1; simp only [Act.put, List.setIfInBounds_toArray, List.set_cons_zero, List.set_cons_succ])
    | (refine wpList_load_mid rfl 40 _ rfl w.heap.size 0 rfl ea _ (by have := hx1.range 0 33; rw [List.drop_zero, HE.out] at this; exact this) Try.underlying40 rfl (by rw [HL1.out]; kernel_rfl) ?_; simp only [Act.put, List.setIfInBounds_toArray, List.set_cons_zero, List.set_cons_succ])
    | (refine wpList_load_mid rfl 40 _ rfl b 0 rfl ad _ (HB.out.below hb1).whole Try.underlying40 rfl HL2.out ?_; simp only [Act.put, List.setIfInBounds_toArray, List.set_cons_zero, List.set_cons_succ])
    | (refine wpList_eql_fine rfl _ _ _ _ rfl ea ad rfl rfl kt F1.out F2.out ?_; simp only [Act.put, List.setIfInBounds_toArray, List.set_cons_zero, List.set_cons_succ]))
  go_ret
  exact ⟨⟨_, rfl, by simp⟩, hb1⟩

theorem kt_addr : KT Try.prog 40 := ⟨by kernel_rfl, by kernel_rfl, smallTypes, laidOut, of_decide_eq_true (by kernel_rfl), by kernel_rfl⟩

/-- A state: its cells, and what the totals are told by. -/
structure Sta where
  cs : List Value
  es : List Ent
  fees : Int
  forf : Int
structure enSta (w : World) (S : Sta) : Prop where
  len : S.cs.length = 182
  ents : ∃ sl, S.cs[44]? = some sl ∧ EsAt w sl S.es
  fees : S.cs[177]? = some (.int .i64 S.fees) ∧ i64 S.fees
  forf : S.cs[178]? = some (.int .i64 S.forf) ∧ i64 S.forf
  one : ∀ v ∈ S.cs, v.oneCell' = true
theorem enSta.below {w W : World} {S : Sta} (h : enSta w S) (hb : Below w.heap.size w W) : enSta W S := by
  obtain ⟨sl, h1, h2⟩ := h.ents
  exact ⟨h.len, ⟨sl, h1, h2.below stays_ent hb⟩, h.fees, h.forf, h.one⟩
/-- The entries of an address. -/
noncomputable def ofAddr (ad : List Value) (e : Ent) : Bool := by classical exact decide (e.ad = ad)
theorem ofAddr_iff (ad : List Value) (e : Ent) : ofAddr ad e = true ↔ e.ad = ad := by
  unfold ofAddr
  simp

set_option maxRecDepth 100000 in
set_option maxHeartbeats 4000000 in
theorem balance_any (S : Sta) (ad : List Value) (w : World) (h : enSta w S) (hf : Fine Try.prog 40 ad) (hlen : S.es.length ≤ 1099511627776) (hvl : vlen (vals (S.es.filter (ofAddr ad))) ≤ 1099511627776) :
    Calls Try.prog 9 #[.agg S.cs.toArray, .agg ad.toArray] w fun e w' => ∃ sl R, e = .returned (.tuple #[.agg (encW (csum (vals (S.es.filter (ofAddr ad))))).toArray, sl]) ∧ w'.ownsRow w.heap.size 88 35 sl R.length (R.flatMap encT) ∧ Below w.heap.size w w' ∧ Told (vsum (vals (S.es.filter (ofAddr ad)))) R := by
  obtain ⟨es0, hc, hes⟩ := h.ents
  have HS := Lib.hid h
  have HC := Lib.hid hc
  have HES := Lib.hid hes
  have HFI := Lib.hid hf
  have Hlen := Lib.hid hlen
  generalize hvv : vals (S.es.filter (ofAddr ad)) = vv at *
  have Hvl := Lib.hid hvl
  have HVV := Lib.hid hvv
  generalize hxx : csum vv = xx
  have HXX := Lib.hid hxx
  clear h hc hes hf hlen hvl hvv hxx
  go_enter Try.func9, Try.ntmps9
  go_wp2_with (first
    | (refine wpList_box_box rfl 36 _ rfl S.cs rfl ?_; intro W1 hx1 hb1 hs1; simp only [Act.put, List.setIfInBounds_toArray, List.set_cons_zero, List.set_cons_succ])
    | (refine wpList_box_box rfl 40 _ rfl ad rfl ?_; intro W2 hx2 hb2 hs2; simp only [Act.put, List.setIfInBounds_toArray, List.set_cons_zero, List.set_cons_succ])
    | (refine wpList_alloc_box rfl 57 rfl _ Try.zeroValue57 (encW 0) rfl ?_; intro W3 hx3 hb3 hs3; have HB3 := Lib.hid ((hb1.trans (hb2.mono hb1.size)).trans (hb3.mono (hb1.trans (hb2.mono hb1.size)).size)); have HX1 := Lib.hid ((hx1.below hb2).below hb3); simp only [Act.put, List.setIfInBounds_toArray, List.set_cons_zero, List.set_cons_succ])
    | (refine wpList_load_cell rfl 28 _ rfl ⟨w.heap.size, 44, none⟩ rfl es0 _ (HX1.out.cell HC.out) Try.underlying28 rfl ?_; simp only [Act.put, List.setIfInBounds_toArray, List.set_cons_zero, List.set_cons_succ]))
  have hcall : Calls Try.prog 21 #[.func (.func 22) #[] #[.pointer (some ⟨W1.heap.size, 0, none⟩)], es0] W3 fun e w' => OfPost W3 vv e w' := by
    rw [← HVV.out]
    refine of_chosen S.es (ofAddr ad) es0 #[.pointer (some ⟨W1.heap.size, 0, none⟩)] W3 (HES.out.below stays_ent HB3.out) Hlen.out (by rw [HVV.out]; exact Hvl.out) fun W hb e he => ?_
    obtain ⟨i, hi⟩ := List.mem_iff_getElem?.1 he
    obtain ⟨A, c, b, o, _, _, _, _, _, hx⟩ := HES.out
    obtain ⟨cs, hen, _, _⟩ := hx i e hi
    have hB : Box W W1.heap.size ad 40 := (hx2.below hb3).below hb
    have hl : (e.cs.drop 33).length = 69 := by rw [List.length_drop, hen.len]
    show Calls _ _ #[_, _] _ _
    refine (chosen_any (e.cs.drop 33) ad e.ad W1.heap.size W hB hl hen.addr hen.fine HFI.out kt_addr).mono fun x W' ⟨⟨v, h1, h2⟩, h3⟩ => ⟨?_, h3⟩
    have : v = ofAddr ad e := Bool.eq_iff_iff.2 (h2.trans (ofAddr_iff ad e).symm)
    rw [h1, this]
  have HCALL := Lib.hid hcall
  have HX3 := Lib.hid hx3
  clear hcall
  go_wp2_with (go_at_call 21; refine HCALL.out.mono ?_; rintro e w5 ⟨p, sl, R, rfl, hp, hxp, hro, hto, hbo⟩)
  rw [HXX.out] at hxp
  have HR5 := Lib.hid hro
  have HT5 := Lib.hid hto
  have HB5 := Lib.hid (HB3.out.trans (hbo.mono HB3.out.size))
  have hp2 : W2.heap.size < p := by omega
  have hx5 := HX3.out.below hbo
  have hl3 := HX3.out.lt
  have hxp5 := hxp
  clear hro hto hp hbo HCALL HVV Hvl Hlen
  refine hw_begin (fun W => Box W p (encW xx ++ [sl]) 85) mixed fun W hW => ?_
  have hS : Box W p (encW xx ++ [sl]) 85 := by
    rw [hW]
    exact hxp.drew
  have hx5' : Box W W2.heap.size (encW 0) 57 := by
    rw [hW]
    exact hx5.drew
  have hr5 : W.ownsRow W3.heap.size 88 35 sl R.length (R.flatMap encT) := by
    rw [hW]
    exact HR5.out.kept (below_grown ((Below.refl _ _).drew) rfl none) (by cases Value.ownBlock sl <;> simp)
  have hb5 : Below w.heap.size w W := by
    rw [hW]
    exact HB5.out.trans (((Below.refl _ _).drew).mono HB5.out.size)
  clear hW hxp hxp5 hx5 HR5 HB5
  refine hw_take 0 (some 11) _ rfl rfl (by kernel_rfl) (by kernel_rfl) (by kernel_rfl) (fun _ _ _ _ h => h) (.pointer (some ⟨p, 0, none⟩)) rfl (fun W _ => by go_simp) hS ?_
  simp only [Act.put, List.setIfInBounds_toArray, List.set_cons_zero, List.set_cons_succ]
  refine hw_take 1 (some 12) _ rfl rfl (by kernel_rfl) (by kernel_rfl) (by kernel_rfl) (fun _ _ _ _ h => h) (.pointer (some ⟨p, 0, none⟩)) rfl (fun W _ => by go_simp) hS ?_
  simp only [Act.put, List.setIfInBounds_toArray, List.set_cons_zero, List.set_cons_succ]
  refine hw_take 2 (some 13) _ rfl rfl (by kernel_rfl) (by kernel_rfl) (by kernel_rfl) (fun _ _ _ _ h => h) (.pointer (some ⟨p, 0, none⟩)) rfl (fun W _ => by go_simp) hS ?_
  simp only [Act.put, List.setIfInBounds_toArray, List.set_cons_zero, List.set_cons_succ]
  refine hw_take 3 (some 14) _ rfl rfl (by kernel_rfl) (by kernel_rfl) (by kernel_rfl) (fun _ _ _ _ h => h) (.agg (encW xx).toArray) rfl (fun W hW => run_load_op rfl rfl (run_loadVar_mid W _ _ _ _ _ (row_piece hW) Try.underlying57 rfl (by kernel_rfl))) hS ?_
  simp only [Act.put, List.setIfInBounds_toArray, List.set_cons_zero, List.set_cons_succ]
  refine hw_take 4 (some 15) _ rfl rfl (by kernel_rfl) (by kernel_rfl) (by kernel_rfl) (fun _ _ _ _ h => h) (.pointer (some ⟨p, 0, none⟩)) rfl (fun W _ => by go_simp) hS ?_
  simp only [Act.put, List.setIfInBounds_toArray, List.set_cons_zero, List.set_cons_succ]
  refine hw_take 5 (some 16) _ rfl rfl (by kernel_rfl) (by kernel_rfl) (by kernel_rfl) (fun _ _ _ _ h => h) (.pointer (some ⟨p, 0, none⟩)) rfl (fun W _ => by go_simp) hS ?_
  simp only [Act.put, List.setIfInBounds_toArray, List.set_cons_zero, List.set_cons_succ]
  refine hw_take 6 (some 17) _ rfl rfl (by kernel_rfl) (by kernel_rfl) (by kernel_rfl) (fun _ _ _ _ h => h) (.pointer (some ⟨p, 2, none⟩)) rfl (fun W _ => by go_simp) hS ?_
  simp only [Act.put, List.setIfInBounds_toArray, List.set_cons_zero, List.set_cons_succ]
  refine hw_take 7 (some 18) _ rfl rfl (by kernel_rfl) (by kernel_rfl) (by kernel_rfl) (fun _ _ _ _ h => h) sl rfl (fun W hW => run_load_op rfl rfl (run_loadVar_cell W _ _ _ _ (hW.cell rfl) Try.underlying33 rfl)) hS ?_
  simp only [Act.put, List.setIfInBounds_toArray, List.set_cons_zero, List.set_cons_succ]
  refine hw_store_box 8 _ rfl (by kernel_rfl) rfl rfl 57 _ _ rfl W2.heap.size 0 (encW xx) rfl rfl _ _ hx5' (Nat.le_refl _) (by kernel_rfl) (encW_one _) ?_
  intro W8 hx8 ho8
  have hS8 := ho8.box hS (by omega)
  refine ⟨hS8, ?_⟩
  refine hw_value 9 (some 5) _ rfl (by kernel_rfl) rfl rfl sl W8 (by unfold execOp; rfl) hS8 ?_
  simp only [Act.put, List.setIfInBounds_toArray, List.set_cons_zero, List.set_cons_succ]
  have HX8 := Lib.hid (box_laid hx8 rfl)
  have hle : W2.heap.size < W3.heap.size := hs3
  have hw2 : w.heap.size ≤ W2.heap.size := by omega
  have hro8 : W8.ownsRow W3.heap.size 88 35 sl R.length (R.flatMap encT) := hr5.kept ho8.grown (by
    cases hv : sl.ownBlock with
    | none => simp
    | some g => right; have := (hr5.lt g hv).1; simp; omega)
  have HO8 := Lib.hid hro8
  have HB8 := Lib.hid (hb5.trans (ho8.below hw2))
  refine hw_done (by kernel_rfl) ?_
  go_wp2
  refine bodyPost_ret (results_cell_tmp rfl _ _ W2.heap.size (encW xx) _ rfl HX8.out.whole Try.underlying57 rfl (by kernel_rfl)) rfl ?_
  first | exact ⟨sl, R, rfl, own_base HO8.out (by omega) rfl, HB8.out, HT5.out⟩ | exact ⟨sl, rfl, R, own_base HO8.out (by omega) rfl, HB8.out, HT5.out⟩
end Go.Proofs.Ytjmkkndglmapaaa
