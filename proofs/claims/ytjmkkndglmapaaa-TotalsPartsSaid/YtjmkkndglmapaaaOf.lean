/- How the kit of the statements counts: its functions' contracts: each answers a number that is told by the data alone, and leaves all memory as it was. Printed by wip/tools/gen_of.py. -/
import Derived.Test.YtjmkkndglmapaaaTy
import Derived.Test.YtjmkkndglmapaaaLaw
import Derived.WalkKit
import Derived.ProofKit
import Derived.WalkSpells
import Derived.WalkLawsBesides
import Derived.BigQuiet
import Derived.Lib.Hide
import Derived.Outline
set_option linter.unusedVariables false
namespace Go.Proofs.Ytjmkkndglmapaaa
open Go.ChangeShapes Go.WideShapes Go.RowKit

section
variable {H : Type} {enc : TypeId × Value → H}

theorem mixed : Try.prog.follows .mixedOrders = true := by kernel_rfl

def eAssetsOf (most : Int) (x : DataW H) : Int := 1 + (slen (fld 1 x) : Int) / 16
theorem beAssetsOf (most : Int) (x : DataW H) (hm : 0 ≤ most ∧ most ≤ 1048576) (h : fits x = true) : 0 ≤ eAssetsOf most x ∧ eAssetsOf most x ≤ 8796093022209 := by
  have q1 := fits_slen (fits_fld h 1)
  unfold eAssetsOf
  unfold big at *
  omega

def dAssetsOf (most : Int) (d : DataW H) : Int := cnt most (eAssetsOf most) 0 (els d)
theorem bAssetsOf (most : Int) (d : DataW H) (hm : 0 ≤ most ∧ most ≤ 1048576) (hf : fits d = true) : 0 ≤ dAssetsOf most d ∧ dAssetsOf most d ≤ 8796094070785 := by
  have hb := cntk_bd most 8796093022209 (eAssetsOf most) 0 (N := 0) (els d) (by omega) (by omega) (by omega) (fun i _ => beAssetsOf most _ hm (fits_i hf i)) _ (Nat.le_refl _)
  rw [cntk_all _ _ _ _ rfl] at hb
  unfold dAssetsOf
  omega

set_option maxRecDepth 100000 in
set_option maxHeartbeats 400000 in
theorem cAssetsOf (v : Value) (d : DataW H) (most : Int) (w : World) (hm : 0 ≤ most ∧ most ≤ 1048576) (h : Rd enc Try.prog w 41 [v] d) (hf : fits d = true) :
    Calls Try.prog 33 #[v, .int .i64 most] w fun e w' => e = .returned (.int .i64 (dAssetsOf most d)) ∧ Below w.heap.size w w' := by
  obtain ⟨A, n, c, b, o, rfl, hn, hc, hmx, hA, hx⟩ := sl_api_Asset h
  have hbd := cntk_bd most 8796093022209 (eAssetsOf most) 0 (N := 0) (els d) (by omega) (by omega) (by omega) (fun i _ => beAssetsOf most _ hm (fits_i hf i))
  have hlen := fits_len hf
  unfold big at hlen
  rw [hn] at hlen
  have Hn := Lib.hid hn
  clear hn
  have HR : Hid (dAssetsOf most d = cnt most (eAssetsOf most) 0 (els d)) := rfl
  clear h
  go_enter Try.func33, Try.ntmps33
  go_wp2
  go_loopw [5, 6] (fun t i wr => ∃ k : Nat, k ≤ n ∧ i = .int .i64 k ∧ t = .int .i64 (cntk most (eAssetsOf most) 0 (els d) k) ∧ Below (World.heap w).size w wr) (fun _ i _ => n - (intOf i).toNat)
  case atStart => exact ⟨0, Nat.zero_le _, rfl, by rw [cntk_0], Below.refl _ _⟩
  case round =>
    obtain ⟨k, hk, rfl, rfl, hB⟩ := hrel
    have hb := hbd k (by rw [Hn.out]; exact hk)
    by_cases hlt : k < n
    · by_cases hle : cntk most (eAssetsOf most) 0 (els d) k ≤ most
      · obtain ⟨cs1, hcl, hr, hrd⟩ := hx k hlt
        have hrd := hrd.below hB
        have hr := rangeAt_below hr hB
        have hfe := fits_i hf k
        have hst : cntk most (eAssetsOf most) 0 (els d) (k + 1) = cntk most (eAssetsOf most) 0 (els d) k + eAssetsOf most (((els d)).getD k .nil) := cntk_step (by rw [Hn.out]; exact hlt) hle
        obtain rfl := hA (by omega)
        obtain ⟨s, hs1, hs2, hs3⟩ := (fl_api_Asset_1 hrd).str Try.underlying9
        have hcell := cell_mid hr hs1
        have hss : slen (fld 1 (((els d)).getD k .nil)) = s.size := by rw [hs2]; simp [slen]
        have hsb := fits_slen (fits_fld hfe 1)
        rw [hss] at hsb
        unfold big at hsb
        rw [eAssetsOf, hss] at hst
        have Hst := Lib.hid hst
        have HB := Lib.hid hB
        clear hst hB hr hrd hcl hfe hs1 hs2 hss hx hA hbd
        generalize cntk most (eAssetsOf most) 0 (els d) k = q at *
        go_wp2
        refine ⟨?_, by simp [intOf]; omega⟩
        first | exact ⟨k + 1, by omega, by go_num, by (rw [Hst.out]) <;> (congr 1; omega), HB.out⟩ | ((repeat apply Exists.intro); exact ⟨⟨k + 1, by omega, by go_num, by (rw [Hst.out]) <;> (congr 1; omega), HB.out⟩, rfl⟩)
      · have Hov := Lib.hid (cntk_over hle)
        have HB := Lib.hid hB
        clear hx hA hbd hB
        generalize cntk most (eAssetsOf most) 0 (els d) k = q at *
        go_wp2
        go_ret
        exact ⟨ret_i (by rw [HR.out]; exact Hov.out), HB.out⟩
    · have Hov := Lib.hid (cntk_all most (eAssetsOf most) 0 (els d) (k := k) (by rw [Hn.out]; omega))
      have HB := Lib.hid hB
      clear hx hA hbd hB
      generalize cntk most (eAssetsOf most) 0 (els d) k = q at *
      go_wp2
      go_ret
      exact ⟨ret_i (by rw [HR.out]; exact Hov.out), HB.out⟩

def sValueOf (most : Int) (d : DataW H) : Int := 1 + dAssetsOf most (fld 1 d)
def dValueOf (most : Int) (d : DataW H) : Int := sValueOf most d
theorem bValueOf (most : Int) (d : DataW H) (hm : 0 ≤ most ∧ most ≤ 1048576) (hf : fits d = true) : 0 ≤ dValueOf most d ∧ dValueOf most d ≤ 8796094070786 := by
  have q1 := bAssetsOf most _ hm (fits_fld hf 1)
  have hs0 : 0 ≤ sValueOf most d ∧ sValueOf most d ≤ 8796094070786 := by
    unfold sValueOf
    omega
  unfold dValueOf
  omega

set_option maxRecDepth 100000 in
set_option maxHeartbeats 1000000 in
theorem cValueOf (cs : List Value) (d : DataW H) (most : Int) (w : World) (hm : 0 ≤ most ∧ most ≤ 1048576) (h : Rd enc Try.prog w 43 cs d) (hf : fits d = true) :
    Calls Try.prog 18 #[.agg cs.toArray, .int .i64 most] w fun e w' => e = .returned (.int .i64 (dValueOf most d)) ∧ Below w.heap.size w w' := by
  have hb0 : Below w.heap.size w (w.alloc (.cells cs.toArray 43)) := (Below.refl _ w).alloc (Nat.le_refl _) _
  have h := h.below hb0
  have HR : Hid (dValueOf most d = sValueOf most d) := rfl
  have HB0 := Lib.hid hb0
  clear hb0
  have t1 := fl_api_Value_1 h
  obtain ⟨v1, hv1⟩ := t1.one Try.underlying41
  rw [hv1] at t1
  have k1 := cell_new w cs 43 1 hv1
  clear hv1
  have m1 := bAssetsOf most _ hm (fits_fld hf 1)
  have hs0 : 0 ≤ sValueOf most d ∧ sValueOf most d ≤ 8796094070786 := by
    unfold sValueOf
    omega
  have HS : Hid (sValueOf most d = 1 + dAssetsOf most (fld 1 d)) := rfl
  go_enter Try.func18, Try.ntmps18
  have HC := Lib.hid (cAssetsOf (enc := enc) _ _ most (w.alloc (.cells cs.toArray 43)) hm t1 (fits_fld hf 1))
  generalize dAssetsOf most (fld 1 d) = g at *
  go_wp2_with (go_at_call 33; refine HC.out.mono ?_; rintro e w' ⟨rfl, hb2⟩)
  go_ret
  exact ⟨ret_i (by rw [HR.out]; exact HS.out.symm), HB0.out.trans (hb2.mono HB0.out.size)⟩

def eTermOf (most : Int) (x : DataW H) : Int := 1 + (slen (fld 3 x) : Int) / 16
theorem beTermOf (most : Int) (x : DataW H) (hm : 0 ≤ most ∧ most ≤ 1048576) (h : fits x = true) : 0 ≤ eTermOf most x ∧ eTermOf most x ≤ 8796093022209 := by
  have q1 := fits_slen (fits_fld h 3)
  unfold eTermOf
  unfold big at *
  omega

def dTermOf (most : Int) (d : DataW H) : Int := cnt most (eTermOf most) (0) (els (fld 0 d))
theorem bTermOf (most : Int) (d : DataW H) (hm : 0 ≤ most ∧ most ≤ 1048576) (hf : fits d = true) : 0 ≤ dTermOf most d ∧ dTermOf most d ≤ 8796094070785 := by
  have hb0 := cntk_bd most 8796093022209 (eTermOf most) (0) (N := 0) (els (fld 0 d)) (by omega) (by omega) (by omega) (fun i _ => beTermOf most _ hm (fits_i (fits_fld hf 0) i)) _ (Nat.le_refl _)
  rw [cntk_all _ _ _ _ rfl] at hb0
  unfold dTermOf
  omega

set_option maxRecDepth 100000 in
set_option maxHeartbeats 1000000 in
theorem cTermOf (cs : List Value) (d : DataW H) (most : Int) (w : World) (hm : 0 ≤ most ∧ most ≤ 1048576) (h : Rd enc Try.prog w 47 cs d) (hf : fits d = true) :
    Calls Try.prog 19 #[.agg cs.toArray, .int .i64 most] w fun e w' => e = .returned (.int .i64 (dTermOf most d)) ∧ Below w.heap.size w w' := by
  have hb0 : Below w.heap.size w (w.alloc (.cells cs.toArray 47)) := (Below.refl _ w).alloc (Nat.le_refl _) _
  have h := h.below hb0
  have HR : Hid (dTermOf most d = cnt most (eTermOf most) (0) (els (fld 0 d))) := rfl
  have HB0 := Lib.hid hb0
  clear hb0
  have l0 := fl_api_Term_0 h
  obtain ⟨u0, hu0⟩ := l0.one Try.underlying45
  rw [hu0] at l0
  have x0 := cell_new w cs 47 0 hu0
  clear hu0
  have hfl0 := fits_fld hf 0
  go_enter Try.func19, Try.ntmps19
  go_wp2
  have hboxa := x0
  obtain ⟨Aa, na, ca, ba, oa, rfl, hna, hca, hmxa, hAa, hxa⟩ := sl_api_Node l0
  have hbda := cntk_bd most 8796093022209 (eTermOf most) (0) (N := 0) (els (fld 0 d)) (by omega) (by omega) (by omega) (fun i _ => beTermOf most _ hm (fits_i hfl0 i))
  have hlena := fits_len hfl0
  unfold big at hlena
  rw [hna] at hlena
  have Hna := Lib.hid hna
  clear hna
  clear h l0 x0
  go_wp2
  go_loopw [5, 6] (fun t i wr => ∃ k : Nat, k ≤ na ∧ i = .int .i64 k ∧ t = .int .i64 (cntk most (eTermOf most) (0) (els (fld 0 d)) k) ∧ Below (World.heap (w.alloc (.cells cs.toArray 47))).size (w.alloc (.cells cs.toArray 47)) wr) (fun _ i _ => na - (intOf i).toNat)
  case atStart => exact ⟨0, Nat.zero_le _, rfl, by rw [cntk_0], Below.refl _ _⟩
  case round =>
    obtain ⟨k, hk, rfl, rfl, hB⟩ := hrel
    have hb := hbda k (by rw [Hna.out]; exact hk)
    have hbx := cell_below hboxa hB
    by_cases hlt : k < na
    · by_cases hle : cntk most (eTermOf most) (0) (els (fld 0 d)) k ≤ most
      · obtain ⟨cs1, hcl, hr, hrd⟩ := hxa k hlt
        have hrd := hrd.below hB
        have hr := rangeAt_below hr hB
        have hfe := fits_i hfl0 k
        have hst : cntk most (eTermOf most) (0) (els (fld 0 d)) (k + 1) = cntk most (eTermOf most) (0) (els (fld 0 d)) k + eTermOf most (((els (fld 0 d))).getD k .nil) := cntk_step (by rw [Hna.out]; exact hlt) hle
        obtain rfl := hAa (by omega)
        obtain ⟨s, hs1, hs2, hs3⟩ := (fl_api_Node_3 hrd).str Try.underlying9
        have hcell := cell_mid hr hs1
        have hss : slen (fld 3 (((els (fld 0 d))).getD k .nil)) = s.size := by rw [hs2]; simp [slen]
        have hsb := fits_slen (fits_fld hfe 3)
        rw [hss] at hsb
        unfold big at hsb
        rw [eTermOf, hss] at hst
        have Hst := Lib.hid hst
        have HB := Lib.hid hB
        clear hst hB hr hrd hcl hfe hs1 hs2 hss hxa hAa hbda
        generalize cntk most (eTermOf most) (0) (els (fld 0 d)) k = qa at *
        go_wp2
        refine ⟨?_, by simp [intOf]; omega⟩
        first | exact ⟨k + 1, by omega, by go_num, by (rw [Hst.out]) <;> (congr 1; omega), HB.out⟩ | ((repeat apply Exists.intro); exact ⟨⟨k + 1, by omega, by go_num, by (rw [Hst.out]) <;> (congr 1; omega), HB.out⟩, rfl⟩)
      · have Hova := Lib.hid (cntk_over hle)
        have HBa := Lib.hid hB
        clear hxa hAa hbda hB
        generalize cntk most (eTermOf most) (0) (els (fld 0 d)) k = qa at *
        go_wp2
        go_ret
        exact ⟨ret_i (by rw [HR.out]; exact Hova.out), HB0.out.trans ((HBa.out).mono HB0.out.size)⟩
    · have Hova := Lib.hid (cntk_all most (eTermOf most) (0) (els (fld 0 d)) (k := k) (by rw [Hna.out]; omega))
      have HBa := Lib.hid hB
      clear hxa hAa hbda hB
      generalize cntk most (eTermOf most) (0) (els (fld 0 d)) k = qa at *
      go_wp2
      go_ret
      exact ⟨ret_i (by rw [HR.out]; exact Hova.out), HB0.out.trans ((HBa.out).mono HB0.out.size)⟩

def eTermsOf (most : Int) (x : DataW H) : Int := 1 + dTermOf most x
theorem beTermsOf (most : Int) (x : DataW H) (hm : 0 ≤ most ∧ most ≤ 1048576) (h : fits x = true) : 0 ≤ eTermsOf most x ∧ eTermsOf most x ≤ 8796094070786 := by
  have q1 := bTermOf most _ hm h
  unfold eTermsOf
  omega

def dTermsOf (most : Int) (d : DataW H) : Int := cnt most (eTermsOf most) 0 (els d)
theorem bTermsOf (most : Int) (d : DataW H) (hm : 0 ≤ most ∧ most ≤ 1048576) (hf : fits d = true) : 0 ≤ dTermsOf most d ∧ dTermsOf most d ≤ 8796095119362 := by
  have hb := cntk_bd most 8796094070786 (eTermsOf most) 0 (N := 0) (els d) (by omega) (by omega) (by omega) (fun i _ => beTermsOf most _ hm (fits_i hf i)) _ (Nat.le_refl _)
  rw [cntk_all _ _ _ _ rfl] at hb
  unfold dTermsOf
  omega

set_option maxRecDepth 100000 in
set_option maxHeartbeats 400000 in
theorem cTermsOf (v : Value) (d : DataW H) (most : Int) (w : World) (hm : 0 ≤ most ∧ most ≤ 1048576) (h : Rd enc Try.prog w 124 [v] d) (hf : fits d = true) :
    Calls Try.prog 48 #[v, .int .i64 most] w fun e w' => e = .returned (.int .i64 (dTermsOf most d)) ∧ Below w.heap.size w w' := by
  obtain ⟨A, n, c, b, o, rfl, hn, hc, hmx, hA, hx⟩ := sl_api_Term h
  have hbd := cntk_bd most 8796094070786 (eTermsOf most) 0 (N := 0) (els d) (by omega) (by omega) (by omega) (fun i _ => beTermsOf most _ hm (fits_i hf i))
  have hlen := fits_len hf
  unfold big at hlen
  rw [hn] at hlen
  have Hn := Lib.hid hn
  clear hn
  have HR : Hid (dTermsOf most d = cnt most (eTermsOf most) 0 (els d)) := rfl
  clear h
  go_enter Try.func48, Try.ntmps48
  go_wp2
  go_loopw [5, 6] (fun t i wr => ∃ k : Nat, k ≤ n ∧ i = .int .i64 k ∧ t = .int .i64 (cntk most (eTermsOf most) 0 (els d) k) ∧ Below (World.heap w).size w wr) (fun _ i _ => n - (intOf i).toNat)
  case atStart => exact ⟨0, Nat.zero_le _, rfl, by rw [cntk_0], Below.refl _ _⟩
  case round =>
    obtain ⟨k, hk, rfl, rfl, hB⟩ := hrel
    have hb := hbd k (by rw [Hn.out]; exact hk)
    by_cases hlt : k < n
    · by_cases hle : cntk most (eTermsOf most) 0 (els d) k ≤ most
      · obtain ⟨cs1, hcl, hr, hrd⟩ := hx k hlt
        have hrd := hrd.below hB
        have hr := rangeAt_below hr hB
        rw [Nat.mul_one] at hr
        have hfe := fits_i hf k
        have hst : cntk most (eTermsOf most) 0 (els d) (k + 1) = cntk most (eTermsOf most) 0 (els d) k + eTermsOf most (((els d)).getD k .nil) := cntk_step (by rw [Hn.out]; exact hlt) hle
        obtain rfl := hA (by omega)
        have hf1 := hrd
        have hr1 := hr
        have hcall := cTermOf (enc := enc) _ _ most wr hm hf1 hfe
        have hgb := bTermOf most _ hm hfe
        have hsz := hs_api_Term hf1
        rw [eTermsOf] at hst
        have HC := Lib.hid hcall
        have Hst := Lib.hid hst
        have HB := Lib.hid hB
        clear hst hB hr hrd hcl hfe hf1 hcall hx hA hbd
        generalize cntk most (eTermsOf most) 0 (els d) k = q at *
        generalize dTermOf most (((els d)).getD k .nil) = g0 at *
        go_wp2_with (first | (refine wpList_load_mid rfl 47 _ rfl _ _ rfl _ _ hr1 Try.underlying47 rfl hsz ?_; simp only [Act.put, List.setIfInBounds_toArray, List.set_cons_zero, List.set_cons_succ]) | (go_at_call 19; refine HC.out.mono ?_; rintro e w' ⟨rfl, hb2⟩))
        refine ⟨?_, by simp [intOf]; omega⟩
        first | exact ⟨k + 1, by omega, by go_num, by (rw [Hst.out]) <;> (congr 1; omega), HB.out.trans (hb2.mono HB.out.size)⟩ | ((repeat apply Exists.intro); exact ⟨⟨k + 1, by omega, by go_num, by (rw [Hst.out]) <;> (congr 1; omega), HB.out.trans (hb2.mono HB.out.size)⟩, rfl⟩)
      · have Hov := Lib.hid (cntk_over hle)
        have HB := Lib.hid hB
        clear hx hA hbd hB
        generalize cntk most (eTermsOf most) 0 (els d) k = q at *
        go_wp2
        go_ret
        exact ⟨ret_i (by rw [HR.out]; exact Hov.out), HB.out⟩
    · have Hov := Lib.hid (cntk_all most (eTermsOf most) 0 (els d) (k := k) (by rw [Hn.out]; omega))
      have HB := Lib.hid hB
      clear hx hA hbd hB
      generalize cntk most (eTermsOf most) 0 (els d) k = q at *
      go_wp2
      go_ret
      exact ⟨ret_i (by rw [HR.out]; exact Hov.out), HB.out⟩

def sOutputOf (most : Int) (d : DataW H) : Int := dValueOf most (fld 1 d) + dTermOf most (fld 4 d)
def dOutputOf (most : Int) (d : DataW H) : Int := sOutputOf most d
theorem bOutputOf (most : Int) (d : DataW H) (hm : 0 ≤ most ∧ most ≤ 1048576) (hf : fits d = true) : 0 ≤ dOutputOf most d ∧ dOutputOf most d ≤ 17592188141571 := by
  have q0 := bValueOf most _ hm (fits_fld hf 1)
  have q1 := bTermOf most _ hm (fits_fld hf 4)
  have hs0 : 0 ≤ sOutputOf most d ∧ sOutputOf most d ≤ 17592188141571 := by
    unfold sOutputOf
    omega
  unfold dOutputOf
  omega

set_option maxRecDepth 100000 in
set_option maxHeartbeats 1000000 in
theorem cOutputOf (cs : List Value) (d : DataW H) (most : Int) (w : World) (hm : 0 ≤ most ∧ most ≤ 1048576) (h : Rd enc Try.prog w 49 cs d) (hf : fits d = true) :
    Calls Try.prog 6 #[.agg cs.toArray, .int .i64 most] w fun e w' => e = .returned (.int .i64 (dOutputOf most d)) ∧ Below w.heap.size w w' := by
  have hb0 : Below w.heap.size w (w.alloc (.cells cs.toArray 49)) := (Below.refl _ w).alloc (Nat.le_refl _) _
  have h := h.below hb0
  have HR : Hid (dOutputOf most d = sOutputOf most d) := rfl
  have HB0 := Lib.hid hb0
  clear hb0
  have t0 := fl_api_Output_1 h
  have r0 := range_new w cs 49 33 2
  have z0 := hs_api_Value t0
  have m0 := bValueOf most _ hm (fits_fld hf 1)
  have t1 := fl_api_Output_4 h
  have r1 := range_new w cs 49 68 1
  have z1 := hs_api_Term t1
  have m1 := bTermOf most _ hm (fits_fld hf 4)
  have hs0 : 0 ≤ sOutputOf most d ∧ sOutputOf most d ≤ 17592188141571 := by
    unfold sOutputOf
    omega
  have HS : Hid (sOutputOf most d = dValueOf most (fld 1 d) + dTermOf most (fld 4 d)) := rfl
  go_enter Try.func6, Try.ntmps6
  go_wp2
  refine wp_region_below mixed (by kernel_rfl) ?_
  refine qs_run (.pointer (some ⟨w.heap.size, 33, none⟩)) rfl (fun W => by go_simp) ?_
  simp only [Act.put, List.setIfInBounds_toArray, List.set_cons_zero, List.set_cons_succ]
  refine qs_load_mid 43 _ rfl rfl w.heap.size 33 rfl _ _ (fun W hW => rangeAt_below r0 hW) Try.underlying43 rfl z0 ?_
  simp only [Act.put, List.setIfInBounds_toArray, List.set_cons_zero, List.set_cons_succ]
  refine qs_move _ rfl rfl (.int .i64 most) rfl ?_
  simp only [Act.put, List.setIfInBounds_toArray, List.set_cons_zero, List.set_cons_succ]
  refine qs_call 18 #[.agg _, .int .i64 most] (.int .i64 (dValueOf most (fld 1 d))) rfl (fun W => by go_simp) (in_class fun W hW => cValueOf _ _ _ W hm (t0.below hW) (fits_fld hf 1)) ?_
  simp only [Act.put, List.setIfInBounds_toArray, List.set_cons_zero, List.set_cons_succ]
  refine qs_run (.pointer (some ⟨w.heap.size, 68, none⟩)) rfl (fun W => by go_simp) ?_
  simp only [Act.put, List.setIfInBounds_toArray, List.set_cons_zero, List.set_cons_succ]
  refine qs_load_mid 47 _ rfl rfl w.heap.size 68 rfl _ _ (fun W hW => rangeAt_below r1 hW) Try.underlying47 rfl z1 ?_
  simp only [Act.put, List.setIfInBounds_toArray, List.set_cons_zero, List.set_cons_succ]
  refine qs_move _ rfl rfl (.int .i64 most) rfl ?_
  simp only [Act.put, List.setIfInBounds_toArray, List.set_cons_zero, List.set_cons_succ]
  refine qs_call 19 #[.agg _, .int .i64 most] (.int .i64 (dTermOf most (fld 4 d))) rfl (fun W => by go_simp) (in_class fun W hW => cTermOf _ _ _ W hm (t1.below hW) (fits_fld hf 4)) ?_
  simp only [Act.put, List.setIfInBounds_toArray, List.set_cons_zero, List.set_cons_succ]
  refine qs_run (.int .i64 (dValueOf most (fld 1 d) + dTermOf most (fld 4 d))) rfl (fun W => by (go_simp) <;> exact wr_i _ (by omega)) ?_
  simp only [Act.put, List.setIfInBounds_toArray, List.set_cons_zero, List.set_cons_succ]
  refine qs_assign _ rfl rfl (.int .i64 (dValueOf most (fld 1 d) + dTermOf most (fld 4 d))) rfl ?_
  simp only [Act.put, List.setIfInBounds_toArray, List.set_cons_zero, List.set_cons_succ]
  refine wpQuiet_nil fun W hW => ?_
  have HW := Lib.hid hW
  go_wp2
  go_ret
  exact ⟨ret_i (by rw [HR.out]; exact HS.out.symm), HB0.out.trans (HW.out.mono HB0.out.size)⟩

def eOutputsOf (most : Int) (x : DataW H) : Int := dOutputOf most x
theorem beOutputsOf (most : Int) (x : DataW H) (hm : 0 ≤ most ∧ most ≤ 1048576) (h : fits x = true) : 0 ≤ eOutputsOf most x ∧ eOutputsOf most x ≤ 17592188141571 := by
  have q0 := bOutputOf most _ hm h
  unfold eOutputsOf
  omega

def dOutputsOf (most : Int) (d : DataW H) : Int := cnt most (eOutputsOf most) 0 (els d)
theorem bOutputsOf (most : Int) (d : DataW H) (hm : 0 ≤ most ∧ most ≤ 1048576) (hf : fits d = true) : 0 ≤ dOutputsOf most d ∧ dOutputsOf most d ≤ 17592189190147 := by
  have hb := cntk_bd most 17592188141571 (eOutputsOf most) 0 (N := 0) (els d) (by omega) (by omega) (by omega) (fun i _ => beOutputsOf most _ hm (fits_i hf i)) _ (Nat.le_refl _)
  rw [cntk_all _ _ _ _ rfl] at hb
  unfold dOutputsOf
  omega

set_option maxRecDepth 100000 in
set_option maxHeartbeats 400000 in
theorem cOutputsOf (v : Value) (d : DataW H) (most : Int) (w : World) (hm : 0 ≤ most ∧ most ≤ 1048576) (h : Rd enc Try.prog w 70 [v] d) (hf : fits d = true) :
    Calls Try.prog 61 #[v, .int .i64 most] w fun e w' => e = .returned (.int .i64 (dOutputsOf most d)) ∧ Below w.heap.size w w' := by
  obtain ⟨A, n, c, b, o, rfl, hn, hc, hmx, hA, hx⟩ := sl_api_Output h
  have hbd := cntk_bd most 17592188141571 (eOutputsOf most) 0 (N := 0) (els d) (by omega) (by omega) (by omega) (fun i _ => beOutputsOf most _ hm (fits_i hf i))
  have hlen := fits_len hf
  unfold big at hlen
  rw [hn] at hlen
  have Hn := Lib.hid hn
  clear hn
  have HR : Hid (dOutputsOf most d = cnt most (eOutputsOf most) 0 (els d)) := rfl
  clear h
  go_enter Try.func61, Try.ntmps61
  go_wp2
  go_loopw [5, 6] (fun t i wr => ∃ k : Nat, k ≤ n ∧ i = .int .i64 k ∧ t = .int .i64 (cntk most (eOutputsOf most) 0 (els d) k) ∧ Below (World.heap w).size w wr) (fun _ i _ => n - (intOf i).toNat)
  case atStart => exact ⟨0, Nat.zero_le _, rfl, by rw [cntk_0], Below.refl _ _⟩
  case round =>
    obtain ⟨k, hk, rfl, rfl, hB⟩ := hrel
    have hb := hbd k (by rw [Hn.out]; exact hk)
    by_cases hlt : k < n
    · by_cases hle : cntk most (eOutputsOf most) 0 (els d) k ≤ most
      · obtain ⟨cs1, hcl, hr, hrd⟩ := hx k hlt
        have hrd := hrd.below hB
        have hr := rangeAt_below hr hB
        have hfe := fits_i hf k
        have hst : cntk most (eOutputsOf most) 0 (els d) (k + 1) = cntk most (eOutputsOf most) 0 (els d) k + eOutputsOf most (((els d)).getD k .nil) := cntk_step (by rw [Hn.out]; exact hlt) hle
        obtain rfl := hA (by omega)
        have hf1 := hrd
        have hr1 := hr
        have hcall := cOutputOf (enc := enc) _ _ most wr hm hf1 hfe
        have hgb := bOutputOf most _ hm hfe
        have hsz := hs_api_Output hf1
        rw [eOutputsOf] at hst
        have HC := Lib.hid hcall
        have Hst := Lib.hid hst
        have HB := Lib.hid hB
        clear hst hB hr hrd hcl hfe hf1 hcall hx hA hbd
        generalize cntk most (eOutputsOf most) 0 (els d) k = q at *
        generalize dOutputOf most (((els d)).getD k .nil) = g0 at *
        go_wp2_with (first | (refine wpList_load_mid rfl 49 _ rfl _ _ rfl _ _ hr1 Try.underlying49 rfl hsz ?_; simp only [Act.put, List.setIfInBounds_toArray, List.set_cons_zero, List.set_cons_succ]) | (go_at_call 6; refine HC.out.mono ?_; rintro e w' ⟨rfl, hb2⟩))
        refine ⟨?_, by simp [intOf]; omega⟩
        first | exact ⟨k + 1, by omega, by go_num, by (rw [Hst.out]) <;> (congr 1; omega), HB.out.trans (hb2.mono HB.out.size)⟩ | ((repeat apply Exists.intro); exact ⟨⟨k + 1, by omega, by go_num, by (rw [Hst.out]) <;> (congr 1; omega), HB.out.trans (hb2.mono HB.out.size)⟩, rfl⟩)
      · have Hov := Lib.hid (cntk_over hle)
        have HB := Lib.hid hB
        clear hx hA hbd hB
        generalize cntk most (eOutputsOf most) 0 (els d) k = q at *
        go_wp2
        go_ret
        exact ⟨ret_i (by rw [HR.out]; exact Hov.out), HB.out⟩
    · have Hov := Lib.hid (cntk_all most (eOutputsOf most) 0 (els d) (k := k) (by rw [Hn.out]; omega))
      have HB := Lib.hid hB
      clear hx hA hbd hB
      generalize cntk most (eOutputsOf most) 0 (els d) k = q at *
      go_wp2
      go_ret
      exact ⟨ret_i (by rw [HR.out]; exact Hov.out), HB.out⟩

def eEntriesOf (most : Int) (x : DataW H) : Int := 1 + dOutputOf most (fld 1 x)
theorem beEntriesOf (most : Int) (x : DataW H) (hm : 0 ≤ most ∧ most ≤ 1048576) (h : fits x = true) : 0 ≤ eEntriesOf most x ∧ eEntriesOf most x ≤ 17592188141572 := by
  have q1 := bOutputOf most _ hm (fits_fld h 1)
  unfold eEntriesOf
  omega

def dEntriesOf (most : Int) (d : DataW H) : Int := cnt most (eEntriesOf most) 0 (els d)
theorem bEntriesOf (most : Int) (d : DataW H) (hm : 0 ≤ most ∧ most ≤ 1048576) (hf : fits d = true) : 0 ≤ dEntriesOf most d ∧ dEntriesOf most d ≤ 17592189190148 := by
  have hb := cntk_bd most 17592188141572 (eEntriesOf most) 0 (N := 0) (els d) (by omega) (by omega) (by omega) (fun i _ => beEntriesOf most _ hm (fits_i hf i)) _ (Nat.le_refl _)
  rw [cntk_all _ _ _ _ rfl] at hb
  unfold dEntriesOf
  omega

set_option maxRecDepth 100000 in
set_option maxHeartbeats 400000 in
theorem cEntriesOf (v : Value) (d : DataW H) (most : Int) (w : World) (hm : 0 ≤ most ∧ most ≤ 1048576) (h : Rd enc Try.prog w 28 [v] d) (hf : fits d = true) :
    Calls Try.prog 30 #[v, .int .i64 most] w fun e w' => e = .returned (.int .i64 (dEntriesOf most d)) ∧ Below w.heap.size w w' := by
  obtain ⟨A, n, c, b, o, rfl, hn, hc, hmx, hA, hx⟩ := sl_api_Entry h
  have hbd := cntk_bd most 17592188141572 (eEntriesOf most) 0 (N := 0) (els d) (by omega) (by omega) (by omega) (fun i _ => beEntriesOf most _ hm (fits_i hf i))
  have hlen := fits_len hf
  unfold big at hlen
  rw [hn] at hlen
  have Hn := Lib.hid hn
  clear hn
  have HR : Hid (dEntriesOf most d = cnt most (eEntriesOf most) 0 (els d)) := rfl
  clear h
  go_enter Try.func30, Try.ntmps30
  go_wp2
  go_loopw [5, 6] (fun t i wr => ∃ k : Nat, k ≤ n ∧ i = .int .i64 k ∧ t = .int .i64 (cntk most (eEntriesOf most) 0 (els d) k) ∧ Below (World.heap w).size w wr) (fun _ i _ => n - (intOf i).toNat)
  case atStart => exact ⟨0, Nat.zero_le _, rfl, by rw [cntk_0], Below.refl _ _⟩
  case round =>
    obtain ⟨k, hk, rfl, rfl, hB⟩ := hrel
    have hb := hbd k (by rw [Hn.out]; exact hk)
    by_cases hlt : k < n
    · by_cases hle : cntk most (eEntriesOf most) 0 (els d) k ≤ most
      · obtain ⟨cs1, hcl, hr, hrd⟩ := hx k hlt
        have hrd := hrd.below hB
        have hr := rangeAt_below hr hB
        have hfe := fits_i hf k
        have hst : cntk most (eEntriesOf most) 0 (els d) (k + 1) = cntk most (eEntriesOf most) 0 (els d) k + eEntriesOf most (((els d)).getD k .nil) := cntk_step (by rw [Hn.out]; exact hlt) hle
        obtain rfl := hA (by omega)
        have hf1 := fl_api_Entry_1 hrd
        have hr1 := range_part hr 33 69
        have hcall := cOutputOf (enc := enc) _ _ most wr hm hf1 (fits_fld hfe 1)
        have hgb := bOutputOf most _ hm (fits_fld hfe 1)
        have hsz := hs_api_Output hf1
        rw [eEntriesOf] at hst
        have HC := Lib.hid hcall
        have Hst := Lib.hid hst
        have HB := Lib.hid hB
        clear hst hB hr hrd hcl hfe hf1 hcall hx hA hbd
        generalize cntk most (eEntriesOf most) 0 (els d) k = q at *
        generalize dOutputOf most (fld 1 (((els d)).getD k .nil)) = g0 at *
        generalize (cs1.drop 33).take 69 = es at *
        go_wp2_with (first | (refine wpList_load_mid rfl 49 _ rfl _ _ rfl _ _ hr1 Try.underlying49 rfl hsz ?_; simp only [Act.put, List.setIfInBounds_toArray, List.set_cons_zero, List.set_cons_succ]) | (go_at_call 6; refine HC.out.mono ?_; rintro e w' ⟨rfl, hb2⟩))
        refine ⟨?_, by simp [intOf]; omega⟩
        first | exact ⟨k + 1, by omega, by go_num, by (rw [Hst.out]) <;> (congr 1; omega), HB.out.trans (hb2.mono HB.out.size)⟩ | ((repeat apply Exists.intro); exact ⟨⟨k + 1, by omega, by go_num, by (rw [Hst.out]) <;> (congr 1; omega), HB.out.trans (hb2.mono HB.out.size)⟩, rfl⟩)
      · have Hov := Lib.hid (cntk_over hle)
        have HB := Lib.hid hB
        clear hx hA hbd hB
        generalize cntk most (eEntriesOf most) 0 (els d) k = q at *
        go_wp2
        go_ret
        exact ⟨ret_i (by rw [HR.out]; exact Hov.out), HB.out⟩
    · have Hov := Lib.hid (cntk_all most (eEntriesOf most) 0 (els d) (k := k) (by rw [Hn.out]; omega))
      have HB := Lib.hid hB
      clear hx hA hbd hB
      generalize cntk most (eEntriesOf most) 0 (els d) k = q at *
      go_wp2
      go_ret
      exact ⟨ret_i (by rw [HR.out]; exact Hov.out), HB.out⟩

def eProgramOf (most : Int) (x : DataW H) : Int := 1 + dTermOf most (fld 3 x)
theorem beProgramOf (most : Int) (x : DataW H) (hm : 0 ≤ most ∧ most ≤ 1048576) (h : fits x = true) : 0 ≤ eProgramOf most x ∧ eProgramOf most x ≤ 8796094070786 := by
  have q1 := bTermOf most _ hm (fits_fld h 3)
  unfold eProgramOf
  omega

def dProgramOf (most : Int) (d : DataW H) : Int := cnt most (eProgramOf most) (1) (els (fld 1 d))
theorem bProgramOf (most : Int) (d : DataW H) (hm : 0 ≤ most ∧ most ≤ 1048576) (hf : fits d = true) : 0 ≤ dProgramOf most d ∧ dProgramOf most d ≤ 8796095119363 := by
  have hb0 := cntk_bd most 8796094070786 (eProgramOf most) (1) (N := 1) (els (fld 1 d)) (by omega) (by omega) (by omega) (fun i _ => beProgramOf most _ hm (fits_i (fits_fld hf 1) i)) _ (Nat.le_refl _)
  rw [cntk_all _ _ _ _ rfl] at hb0
  unfold dProgramOf
  omega

set_option maxRecDepth 100000 in
set_option maxHeartbeats 1000000 in
theorem cProgramOf (cs : List Value) (d : DataW H) (most : Int) (w : World) (hm : 0 ≤ most ∧ most ≤ 1048576) (h : Rd enc Try.prog w 161 cs d) (hf : fits d = true) :
    Calls Try.prog 62 #[.agg cs.toArray, .int .i64 most] w fun e w' => e = .returned (.int .i64 (dProgramOf most d)) ∧ Below w.heap.size w w' := by
  have hb0 : Below w.heap.size w (w.alloc (.cells cs.toArray 161)) := (Below.refl _ w).alloc (Nat.le_refl _) _
  have h := h.below hb0
  have HR : Hid (dProgramOf most d = cnt most (eProgramOf most) (1) (els (fld 1 d))) := rfl
  have HB0 := Lib.hid hb0
  clear hb0
  have l0 := fl_api_Program_1 h
  obtain ⟨u0, hu0⟩ := l0.one Try.underlying159
  rw [hu0] at l0
  have x0 := cell_new w cs 161 1 hu0
  clear hu0
  have hfl0 := fits_fld hf 1
  go_enter Try.func62, Try.ntmps62
  go_wp2
  have hboxa := x0
  obtain ⟨Aa, na, ca, ba, oa, rfl, hna, hca, hmxa, hAa, hxa⟩ := sl_api_Instr l0
  have hbda := cntk_bd most 8796094070786 (eProgramOf most) (1) (N := 1) (els (fld 1 d)) (by omega) (by omega) (by omega) (fun i _ => beProgramOf most _ hm (fits_i hfl0 i))
  have hlena := fits_len hfl0
  unfold big at hlena
  rw [hna] at hlena
  have Hna := Lib.hid hna
  clear hna
  clear h l0 x0
  go_wp2
  go_loopw [5, 6] (fun t i wr => ∃ k : Nat, k ≤ na ∧ i = .int .i64 k ∧ t = .int .i64 (cntk most (eProgramOf most) (1) (els (fld 1 d)) k) ∧ Below (World.heap (w.alloc (.cells cs.toArray 161))).size (w.alloc (.cells cs.toArray 161)) wr) (fun _ i _ => na - (intOf i).toNat)
  case atStart => exact ⟨0, Nat.zero_le _, rfl, by rw [cntk_0], Below.refl _ _⟩
  case round =>
    obtain ⟨k, hk, rfl, rfl, hB⟩ := hrel
    have hb := hbda k (by rw [Hna.out]; exact hk)
    have hbx := cell_below hboxa hB
    by_cases hlt : k < na
    · by_cases hle : cntk most (eProgramOf most) (1) (els (fld 1 d)) k ≤ most
      · obtain ⟨cs1, hcl, hr, hrd⟩ := hxa k hlt
        have hrd := hrd.below hB
        have hr := rangeAt_below hr hB
        have hfe := fits_i hfl0 k
        have hst : cntk most (eProgramOf most) (1) (els (fld 1 d)) (k + 1) = cntk most (eProgramOf most) (1) (els (fld 1 d)) k + eProgramOf most (((els (fld 1 d))).getD k .nil) := cntk_step (by rw [Hna.out]; exact hlt) hle
        obtain rfl := hAa (by omega)
        have hf1 := fl_api_Instr_3 hrd
        have hr1 := range_part hr 3 1
        have hcall := cTermOf (enc := enc) _ _ most wr hm hf1 (fits_fld hfe 3)
        have hgb := bTermOf most _ hm (fits_fld hfe 3)
        have hsz := hs_api_Term hf1
        rw [eProgramOf] at hst
        have HC := Lib.hid hcall
        have Hst := Lib.hid hst
        have HB := Lib.hid hB
        clear hst hB hr hrd hcl hfe hf1 hcall hxa hAa hbda
        generalize cntk most (eProgramOf most) (1) (els (fld 1 d)) k = qa at *
        generalize dTermOf most (fld 3 (((els (fld 1 d))).getD k .nil)) = g0 at *
        generalize (cs1.drop 3).take 1 = es at *
        go_wp2_with (first | (refine wpList_load_mid rfl 47 _ rfl _ _ rfl _ _ hr1 Try.underlying47 rfl hsz ?_; simp only [Act.put, List.setIfInBounds_toArray, List.set_cons_zero, List.set_cons_succ]) | (go_at_call 19; refine HC.out.mono ?_; rintro e w' ⟨rfl, hb2⟩))
        refine ⟨?_, by simp [intOf]; omega⟩
        first | exact ⟨k + 1, by omega, by go_num, by (rw [Hst.out]) <;> (congr 1; omega), HB.out.trans (hb2.mono HB.out.size)⟩ | ((repeat apply Exists.intro); exact ⟨⟨k + 1, by omega, by go_num, by (rw [Hst.out]) <;> (congr 1; omega), HB.out.trans (hb2.mono HB.out.size)⟩, rfl⟩)
      · have Hova := Lib.hid (cntk_over hle)
        have HBa := Lib.hid hB
        clear hxa hAa hbda hB
        generalize cntk most (eProgramOf most) (1) (els (fld 1 d)) k = qa at *
        go_wp2
        go_ret
        exact ⟨ret_i (by rw [HR.out]; exact Hova.out), HB0.out.trans ((HBa.out).mono HB0.out.size)⟩
    · have Hova := Lib.hid (cntk_all most (eProgramOf most) (1) (els (fld 1 d)) (k := k) (by rw [Hna.out]; omega))
      have HBa := Lib.hid hB
      clear hxa hAa hbda hB
      generalize cntk most (eProgramOf most) (1) (els (fld 1 d)) k = qa at *
      go_wp2
      go_ret
      exact ⟨ret_i (by rw [HR.out]; exact Hova.out), HB0.out.trans ((HBa.out).mono HB0.out.size)⟩

def eProgramsOf (most : Int) (x : DataW H) : Int := dProgramOf most x
theorem beProgramsOf (most : Int) (x : DataW H) (hm : 0 ≤ most ∧ most ≤ 1048576) (h : fits x = true) : 0 ≤ eProgramsOf most x ∧ eProgramsOf most x ≤ 8796095119363 := by
  have q0 := bProgramOf most _ hm h
  unfold eProgramsOf
  omega

def dProgramsOf (most : Int) (d : DataW H) : Int := cnt most (eProgramsOf most) 0 (els d)
theorem bProgramsOf (most : Int) (d : DataW H) (hm : 0 ≤ most ∧ most ≤ 1048576) (hf : fits d = true) : 0 ≤ dProgramsOf most d ∧ dProgramsOf most d ≤ 8796096167939 := by
  have hb := cntk_bd most 8796095119363 (eProgramsOf most) 0 (N := 0) (els d) (by omega) (by omega) (by omega) (fun i _ => beProgramsOf most _ hm (fits_i hf i)) _ (Nat.le_refl _)
  rw [cntk_all _ _ _ _ rfl] at hb
  unfold dProgramsOf
  omega

set_option maxRecDepth 100000 in
set_option maxHeartbeats 400000 in
theorem cProgramsOf (v : Value) (d : DataW H) (most : Int) (w : World) (hm : 0 ≤ most ∧ most ≤ 1048576) (h : Rd enc Try.prog w 123 [v] d) (hf : fits d = true) :
    Calls Try.prog 47 #[v, .int .i64 most] w fun e w' => e = .returned (.int .i64 (dProgramsOf most d)) ∧ Below w.heap.size w w' := by
  obtain ⟨A, n, c, b, o, rfl, hn, hc, hmx, hA, hx⟩ := sl_api_Program h
  have hbd := cntk_bd most 8796095119363 (eProgramsOf most) 0 (N := 0) (els d) (by omega) (by omega) (by omega) (fun i _ => beProgramsOf most _ hm (fits_i hf i))
  have hlen := fits_len hf
  unfold big at hlen
  rw [hn] at hlen
  have Hn := Lib.hid hn
  clear hn
  have HR : Hid (dProgramsOf most d = cnt most (eProgramsOf most) 0 (els d)) := rfl
  clear h
  go_enter Try.func47, Try.ntmps47
  go_wp2
  go_loopw [5, 6] (fun t i wr => ∃ k : Nat, k ≤ n ∧ i = .int .i64 k ∧ t = .int .i64 (cntk most (eProgramsOf most) 0 (els d) k) ∧ Below (World.heap w).size w wr) (fun _ i _ => n - (intOf i).toNat)
  case atStart => exact ⟨0, Nat.zero_le _, rfl, by rw [cntk_0], Below.refl _ _⟩
  case round =>
    obtain ⟨k, hk, rfl, rfl, hB⟩ := hrel
    have hb := hbd k (by rw [Hn.out]; exact hk)
    by_cases hlt : k < n
    · by_cases hle : cntk most (eProgramsOf most) 0 (els d) k ≤ most
      · obtain ⟨cs1, hcl, hr, hrd⟩ := hx k hlt
        have hrd := hrd.below hB
        have hr := rangeAt_below hr hB
        have hfe := fits_i hf k
        have hst : cntk most (eProgramsOf most) 0 (els d) (k + 1) = cntk most (eProgramsOf most) 0 (els d) k + eProgramsOf most (((els d)).getD k .nil) := cntk_step (by rw [Hn.out]; exact hlt) hle
        obtain rfl := hA (by omega)
        have hf1 := hrd
        have hr1 := hr
        have hcall := cProgramOf (enc := enc) _ _ most wr hm hf1 hfe
        have hgb := bProgramOf most _ hm hfe
        have hsz := hs_api_Program hf1
        rw [eProgramsOf] at hst
        have HC := Lib.hid hcall
        have Hst := Lib.hid hst
        have HB := Lib.hid hB
        clear hst hB hr hrd hcl hfe hf1 hcall hx hA hbd
        generalize cntk most (eProgramsOf most) 0 (els d) k = q at *
        generalize dProgramOf most (((els d)).getD k .nil) = g0 at *
        go_wp2_with (first | (refine wpList_load_mid rfl 161 _ rfl _ _ rfl _ _ hr1 Try.underlying161 rfl hsz ?_; simp only [Act.put, List.setIfInBounds_toArray, List.set_cons_zero, List.set_cons_succ]) | (go_at_call 62; refine HC.out.mono ?_; rintro e w' ⟨rfl, hb2⟩))
        refine ⟨?_, by simp [intOf]; omega⟩
        first | exact ⟨k + 1, by omega, by go_num, by (rw [Hst.out]) <;> (congr 1; omega), HB.out.trans (hb2.mono HB.out.size)⟩ | ((repeat apply Exists.intro); exact ⟨⟨k + 1, by omega, by go_num, by (rw [Hst.out]) <;> (congr 1; omega), HB.out.trans (hb2.mono HB.out.size)⟩, rfl⟩)
      · have Hov := Lib.hid (cntk_over hle)
        have HB := Lib.hid hB
        clear hx hA hbd hB
        generalize cntk most (eProgramsOf most) 0 (els d) k = q at *
        go_wp2
        go_ret
        exact ⟨ret_i (by rw [HR.out]; exact Hov.out), HB.out⟩
    · have Hov := Lib.hid (cntk_all most (eProgramsOf most) 0 (els d) (k := k) (by rw [Hn.out]; omega))
      have HB := Lib.hid hB
      clear hx hA hbd hB
      generalize cntk most (eProgramsOf most) 0 (els d) k = q at *
      go_wp2
      go_ret
      exact ⟨ret_i (by rw [HR.out]; exact Hov.out), HB.out⟩

def sBodyOf (most : Int) (d : DataW H) : Int := 1 + ((els (fld 0 d)).length : Int) + ((els (fld 1 d)).length : Int) + dOutputsOf most (fld 2 d) + dOutputsOf most (fld 3 d) + dAssetsOf most (fld 7 d)
def dBodyOf (most : Int) (d : DataW H) : Int := sBodyOf most d
theorem bBodyOf (most : Int) (d : DataW H) (hm : 0 ≤ most ∧ most ≤ 1048576) (hf : fits d = true) : 0 ≤ dBodyOf most d ∧ dBodyOf most d ≤ 325455449161736 := by
  have q1 := fits_len (fits_fld hf 0)
  have q2 := fits_len (fits_fld hf 1)
  have q3 := bOutputsOf most _ hm (fits_fld hf 2)
  have q4 := bOutputsOf most _ hm (fits_fld hf 3)
  have q5 := bAssetsOf most _ hm (fits_fld hf 7)
  have hs0 : 0 ≤ sBodyOf most d ∧ sBodyOf most d ≤ 325455449161736 := by
    unfold sBodyOf
    unfold big at *
    omega
  unfold dBodyOf
  omega

set_option maxRecDepth 100000 in
set_option maxHeartbeats 1000000 in
theorem cBodyOf (cs : List Value) (d : DataW H) (most : Int) (w : World) (hm : 0 ≤ most ∧ most ≤ 1048576) (h : Rd enc Try.prog w 121 cs d) (hf : fits d = true) :
    Calls Try.prog 46 #[.agg cs.toArray, .int .i64 most] w fun e w' => e = .returned (.int .i64 (dBodyOf most d)) ∧ Below w.heap.size w w' := by
  have hb0 : Below w.heap.size w (w.alloc (.cells cs.toArray 121)) := (Below.refl _ w).alloc (Nat.le_refl _) _
  have h := h.below hb0
  have HR : Hid (dBodyOf most d = sBodyOf most d) := rfl
  have HB0 := Lib.hid hb0
  clear hb0
  have t1 := fl_api_Body_0 h
  obtain ⟨v1, hv1⟩ := t1.one Try.underlying119
  rw [hv1] at t1
  have k1 := cell_new w cs 121 0 hv1
  clear hv1
  obtain ⟨A1, n1, c1, b1, o1, rfl, hn1, _, _, _, _⟩ := sl_api_Ref t1
  have m1 := fits_len (fits_fld hf 0)
  unfold big at m1
  rw [hn1] at m1
  have Hn_1 := Lib.hid hn1
  clear hn1
  have t2 := fl_api_Body_1 h
  obtain ⟨v2, hv2⟩ := t2.one Try.underlying119
  rw [hv2] at t2
  have k2 := cell_new w cs 121 1 hv2
  clear hv2
  obtain ⟨A2, n2, c2, b2, o2, rfl, hn2, _, _, _, _⟩ := sl_api_Ref t2
  have m2 := fits_len (fits_fld hf 1)
  unfold big at m2
  rw [hn2] at m2
  have Hn_2 := Lib.hid hn2
  clear hn2
  have t3 := fl_api_Body_2 h
  obtain ⟨v3, hv3⟩ := t3.one Try.underlying70
  rw [hv3] at t3
  have k3 := cell_new w cs 121 2 hv3
  clear hv3
  have m3 := bOutputsOf most _ hm (fits_fld hf 2)
  have t4 := fl_api_Body_3 h
  obtain ⟨v4, hv4⟩ := t4.one Try.underlying70
  rw [hv4] at t4
  have k4 := cell_new w cs 121 3 hv4
  clear hv4
  have m4 := bOutputsOf most _ hm (fits_fld hf 3)
  have t5 := fl_api_Body_7 h
  obtain ⟨v5, hv5⟩ := t5.one Try.underlying41
  rw [hv5] at t5
  have k5 := cell_new w cs 121 7 hv5
  clear hv5
  have m5 := bAssetsOf most _ hm (fits_fld hf 7)
  have hs0 : 0 ≤ sBodyOf most d ∧ sBodyOf most d ≤ 325455449161736 := by
    have := Hn_1.out
    have := Hn_2.out
    unfold sBodyOf
    omega
  have HS : Hid (sBodyOf most d = 1 + (n1 : Int) + (n2 : Int) + dOutputsOf most (fld 2 d) + dOutputsOf most (fld 3 d) + dAssetsOf most (fld 7 d)) := by
    show _ = _
    unfold sBodyOf
    rw [Hn_1.out, Hn_2.out]
  go_enter Try.func46, Try.ntmps46
  go_wp2
  refine wp_region_below mixed (by kernel_rfl) ?_
  refine qs_run (.pointer (some ⟨w.heap.size, 0, none⟩)) rfl (fun W => by go_simp) ?_
  simp only [Act.put, List.setIfInBounds_toArray, List.set_cons_zero, List.set_cons_succ]
  refine qs_load_cell 119 _ rfl rfl ⟨w.heap.size, 0, none⟩ rfl _ _ (fun W hW => cell_below k1 hW) Try.underlying119 rfl ?_
  simp only [Act.put, List.setIfInBounds_toArray, List.set_cons_zero, List.set_cons_succ]
  refine qs_run (.int .i64 n1) rfl (fun W => by go_simp) ?_
  simp only [Act.put, List.setIfInBounds_toArray, List.set_cons_zero, List.set_cons_succ]
  refine qs_run (.int .i64 (1 + (n1 : Int))) rfl (fun W => by (go_simp) <;> exact wr_i _ (by omega)) ?_
  simp only [Act.put, List.setIfInBounds_toArray, List.set_cons_zero, List.set_cons_succ]
  refine qs_run (.pointer (some ⟨w.heap.size, 1, none⟩)) rfl (fun W => by go_simp) ?_
  simp only [Act.put, List.setIfInBounds_toArray, List.set_cons_zero, List.set_cons_succ]
  refine qs_load_cell 119 _ rfl rfl ⟨w.heap.size, 1, none⟩ rfl _ _ (fun W hW => cell_below k2 hW) Try.underlying119 rfl ?_
  simp only [Act.put, List.setIfInBounds_toArray, List.set_cons_zero, List.set_cons_succ]
  refine qs_run (.int .i64 n2) rfl (fun W => by go_simp) ?_
  simp only [Act.put, List.setIfInBounds_toArray, List.set_cons_zero, List.set_cons_succ]
  refine qs_run (.int .i64 (1 + (n1 : Int) + (n2 : Int))) rfl (fun W => by (go_simp) <;> exact wr_i _ (by omega)) ?_
  simp only [Act.put, List.setIfInBounds_toArray, List.set_cons_zero, List.set_cons_succ]
  refine qs_run (.pointer (some ⟨w.heap.size, 2, none⟩)) rfl (fun W => by go_simp) ?_
  simp only [Act.put, List.setIfInBounds_toArray, List.set_cons_zero, List.set_cons_succ]
  refine qs_load_cell 70 _ rfl rfl ⟨w.heap.size, 2, none⟩ rfl _ _ (fun W hW => cell_below k3 hW) Try.underlying70 rfl ?_
  simp only [Act.put, List.setIfInBounds_toArray, List.set_cons_zero, List.set_cons_succ]
  refine qs_move _ rfl rfl (.int .i64 most) rfl ?_
  simp only [Act.put, List.setIfInBounds_toArray, List.set_cons_zero, List.set_cons_succ]
  refine qs_call 61 #[_, .int .i64 most] (.int .i64 (dOutputsOf most (fld 2 d))) rfl (fun W => by go_simp) (in_class fun W hW => cOutputsOf _ _ _ W hm (t3.below hW) (fits_fld hf 2)) ?_
  simp only [Act.put, List.setIfInBounds_toArray, List.set_cons_zero, List.set_cons_succ]
  refine qs_run (.int .i64 (1 + (n1 : Int) + (n2 : Int) + dOutputsOf most (fld 2 d))) rfl (fun W => by (go_simp) <;> exact wr_i _ (by omega)) ?_
  simp only [Act.put, List.setIfInBounds_toArray, List.set_cons_zero, List.set_cons_succ]
  refine qs_run (.pointer (some ⟨w.heap.size, 3, none⟩)) rfl (fun W => by go_simp) ?_
  simp only [Act.put, List.setIfInBounds_toArray, List.set_cons_zero, List.set_cons_succ]
  refine qs_load_cell 70 _ rfl rfl ⟨w.heap.size, 3, none⟩ rfl _ _ (fun W hW => cell_below k4 hW) Try.underlying70 rfl ?_
  simp only [Act.put, List.setIfInBounds_toArray, List.set_cons_zero, List.set_cons_succ]
  refine qs_move _ rfl rfl (.int .i64 most) rfl ?_
  simp only [Act.put, List.setIfInBounds_toArray, List.set_cons_zero, List.set_cons_succ]
  refine qs_call 61 #[_, .int .i64 most] (.int .i64 (dOutputsOf most (fld 3 d))) rfl (fun W => by go_simp) (in_class fun W hW => cOutputsOf _ _ _ W hm (t4.below hW) (fits_fld hf 3)) ?_
  simp only [Act.put, List.setIfInBounds_toArray, List.set_cons_zero, List.set_cons_succ]
  refine qs_run (.int .i64 (1 + (n1 : Int) + (n2 : Int) + dOutputsOf most (fld 2 d) + dOutputsOf most (fld 3 d))) rfl (fun W => by (go_simp) <;> exact wr_i _ (by omega)) ?_
  simp only [Act.put, List.setIfInBounds_toArray, List.set_cons_zero, List.set_cons_succ]
  refine qs_run (.pointer (some ⟨w.heap.size, 7, none⟩)) rfl (fun W => by go_simp) ?_
  simp only [Act.put, List.setIfInBounds_toArray, List.set_cons_zero, List.set_cons_succ]
  refine qs_load_cell 41 _ rfl rfl ⟨w.heap.size, 7, none⟩ rfl _ _ (fun W hW => cell_below k5 hW) Try.underlying41 rfl ?_
  simp only [Act.put, List.setIfInBounds_toArray, List.set_cons_zero, List.set_cons_succ]
  refine qs_move _ rfl rfl (.int .i64 most) rfl ?_
  simp only [Act.put, List.setIfInBounds_toArray, List.set_cons_zero, List.set_cons_succ]
  refine qs_call 33 #[_, .int .i64 most] (.int .i64 (dAssetsOf most (fld 7 d))) rfl (fun W => by go_simp) (in_class fun W hW => cAssetsOf _ _ _ W hm (t5.below hW) (fits_fld hf 7)) ?_
  simp only [Act.put, List.setIfInBounds_toArray, List.set_cons_zero, List.set_cons_succ]
  refine qs_run (.int .i64 (1 + (n1 : Int) + (n2 : Int) + dOutputsOf most (fld 2 d) + dOutputsOf most (fld 3 d) + dAssetsOf most (fld 7 d))) rfl (fun W => by (go_simp) <;> exact wr_i _ (by omega)) ?_
  simp only [Act.put, List.setIfInBounds_toArray, List.set_cons_zero, List.set_cons_succ]
  refine qs_assign _ rfl rfl (.int .i64 (1 + (n1 : Int) + (n2 : Int) + dOutputsOf most (fld 2 d) + dOutputsOf most (fld 3 d) + dAssetsOf most (fld 7 d))) rfl ?_
  simp only [Act.put, List.setIfInBounds_toArray, List.set_cons_zero, List.set_cons_succ]
  refine wpQuiet_nil fun W hW => ?_
  have HW := Lib.hid hW
  go_wp2
  go_ret
  exact ⟨ret_i (by rw [HR.out]; exact HS.out.symm), HB0.out.trans (HW.out.mono HB0.out.size)⟩

def sTxOf (most : Int) (d : DataW H) : Int := dBodyOf most (fld 0 d) + dProgramsOf most (fld 2 d) + dTermsOf most (fld 3 d)
def eTxOf (most : Int) (x : DataW H) : Int := 1 + ((els (fld 0 x)).length : Int)
theorem beTxOf (most : Int) (x : DataW H) (hm : 0 ≤ most ∧ most ≤ 1048576) (h : fits x = true) : 0 ≤ eTxOf most x ∧ eTxOf most x ≤ 140737488355329 := by
  have q1 := fits_len (fits_fld h 0)
  unfold eTxOf
  unfold big at *
  omega

def eTxOf1 (most : Int) (x : DataW H) : Int := 1 + dTermOf most (fld 2 x)
theorem beTxOf1 (most : Int) (x : DataW H) (hm : 0 ≤ most ∧ most ≤ 1048576) (h : fits x = true) : 0 ≤ eTxOf1 most x ∧ eTxOf1 most x ≤ 8796094070786 := by
  have q1 := bTermOf most _ hm (fits_fld h 2)
  unfold eTxOf1
  omega

def dTxOf (most : Int) (d : DataW H) : Int := cnt most (eTxOf1 most) (cnt most (eTxOf most) (sTxOf most d) (els (fld 1 d))) (els (fld 4 d))
theorem bTxOf (most : Int) (d : DataW H) (hm : 0 ≤ most ∧ most ≤ 1048576) (hf : fits d = true) : 0 ≤ dTxOf most d ∧ dTxOf most d ≤ 492581224972304 := by
  have q0 := bBodyOf most _ hm (fits_fld hf 0)
  have q1 := bProgramsOf most _ hm (fits_fld hf 2)
  have q2 := bTermsOf most _ hm (fits_fld hf 3)
  have hs0 : 0 ≤ sTxOf most d ∧ sTxOf most d ≤ 343047640449037 := by
    unfold sTxOf
    omega
  have hb0 := cntk_bd most 140737488355329 (eTxOf most) (sTxOf most d) (N := 343047640449037) (els (fld 1 d)) (by omega) (by omega) (by omega) (fun i _ => beTxOf most _ hm (fits_i (fits_fld hf 1) i)) _ (Nat.le_refl _)
  rw [cntk_all _ _ _ _ rfl] at hb0
  have hb1 := cntk_bd most 8796094070786 (eTxOf1 most) (cnt most (eTxOf most) (sTxOf most d) (els (fld 1 d))) (N := 483785129852942) (els (fld 4 d)) (by omega) (by omega) (by omega) (fun i _ => beTxOf1 most _ hm (fits_i (fits_fld hf 4) i)) _ (Nat.le_refl _)
  rw [cntk_all _ _ _ _ rfl] at hb1
  unfold dTxOf
  omega

set_option maxRecDepth 100000 in
set_option maxHeartbeats 1000000 in
theorem cTxOf (cs : List Value) (d : DataW H) (most : Int) (w : World) (hm : 0 ≤ most ∧ most ≤ 1048576) (h : Rd enc Try.prog w 127 cs d) (hf : fits d = true) :
    Calls Try.prog 38 #[.agg cs.toArray, .int .i64 most] w fun e w' => e = .returned (.int .i64 (dTxOf most d)) ∧ Below w.heap.size w w' := by
  have hb0 : Below w.heap.size w (w.alloc (.cells cs.toArray 127)) := (Below.refl _ w).alloc (Nat.le_refl _) _
  have h := h.below hb0
  have HR : Hid (dTxOf most d = cnt most (eTxOf1 most) (cnt most (eTxOf most) (sTxOf most d) (els (fld 1 d))) (els (fld 4 d))) := rfl
  have HB0 := Lib.hid hb0
  clear hb0
  have t0 := fl_api_Tx_0 h
  have r0 := range_new w cs 127 0 40
  have z0 := hs_api_Body t0
  have m0 := bBodyOf most _ hm (fits_fld hf 0)
  have t1 := fl_api_Tx_2 h
  obtain ⟨v1, hv1⟩ := t1.one Try.underlying123
  rw [hv1] at t1
  have k1 := cell_new w cs 127 41 hv1
  clear hv1
  have m1 := bProgramsOf most _ hm (fits_fld hf 2)
  have t2 := fl_api_Tx_3 h
  obtain ⟨v2, hv2⟩ := t2.one Try.underlying124
  rw [hv2] at t2
  have k2 := cell_new w cs 127 42 hv2
  clear hv2
  have m2 := bTermsOf most _ hm (fits_fld hf 3)
  have l0 := fl_api_Tx_1 h
  obtain ⟨u0, hu0⟩ := l0.one Try.underlying122
  rw [hu0] at l0
  have x0 := cell_new w cs 127 40 hu0
  clear hu0
  have hfl0 := fits_fld hf 1
  have l1 := fl_api_Tx_4 h
  obtain ⟨u1, hu1⟩ := l1.one Try.underlying125
  rw [hu1] at l1
  have x1 := cell_new w cs 127 43 hu1
  clear hu1
  have hfl1 := fits_fld hf 4
  have hs0 : 0 ≤ sTxOf most d ∧ sTxOf most d ≤ 343047640449037 := by
    unfold sTxOf
    omega
  have HS : Hid (sTxOf most d = dBodyOf most (fld 0 d) + dProgramsOf most (fld 2 d) + dTermsOf most (fld 3 d)) := rfl
  go_enter Try.func38, Try.ntmps38
  go_wp2
  refine wp_region_below mixed (by kernel_rfl) ?_
  refine qs_run (.pointer (some ⟨w.heap.size, 0, none⟩)) rfl (fun W => by go_simp) ?_
  simp only [Act.put, List.setIfInBounds_toArray, List.set_cons_zero, List.set_cons_succ]
  refine qs_load_mid 121 _ rfl rfl w.heap.size 0 rfl _ _ (fun W hW => rangeAt_below r0 hW) Try.underlying121 rfl z0 ?_
  simp only [Act.put, List.setIfInBounds_toArray, List.set_cons_zero, List.set_cons_succ]
  refine qs_move _ rfl rfl (.int .i64 most) rfl ?_
  simp only [Act.put, List.setIfInBounds_toArray, List.set_cons_zero, List.set_cons_succ]
  refine qs_call 46 #[.agg _, .int .i64 most] (.int .i64 (dBodyOf most (fld 0 d))) rfl (fun W => by go_simp) (in_class fun W hW => cBodyOf _ _ _ W hm (t0.below hW) (fits_fld hf 0)) ?_
  simp only [Act.put, List.setIfInBounds_toArray, List.set_cons_zero, List.set_cons_succ]
  refine qs_run (.pointer (some ⟨w.heap.size, 41, none⟩)) rfl (fun W => by go_simp) ?_
  simp only [Act.put, List.setIfInBounds_toArray, List.set_cons_zero, List.set_cons_succ]
  refine qs_load_cell 123 _ rfl rfl ⟨w.heap.size, 41, none⟩ rfl _ _ (fun W hW => cell_below k1 hW) Try.underlying123 rfl ?_
  simp only [Act.put, List.setIfInBounds_toArray, List.set_cons_zero, List.set_cons_succ]
  refine qs_move _ rfl rfl (.int .i64 most) rfl ?_
  simp only [Act.put, List.setIfInBounds_toArray, List.set_cons_zero, List.set_cons_succ]
  refine qs_call 47 #[_, .int .i64 most] (.int .i64 (dProgramsOf most (fld 2 d))) rfl (fun W => by go_simp) (in_class fun W hW => cProgramsOf _ _ _ W hm (t1.below hW) (fits_fld hf 2)) ?_
  simp only [Act.put, List.setIfInBounds_toArray, List.set_cons_zero, List.set_cons_succ]
  refine qs_run (.int .i64 (dBodyOf most (fld 0 d) + dProgramsOf most (fld 2 d))) rfl (fun W => by (go_simp) <;> exact wr_i _ (by omega)) ?_
  simp only [Act.put, List.setIfInBounds_toArray, List.set_cons_zero, List.set_cons_succ]
  refine qs_run (.pointer (some ⟨w.heap.size, 42, none⟩)) rfl (fun W => by go_simp) ?_
  simp only [Act.put, List.setIfInBounds_toArray, List.set_cons_zero, List.set_cons_succ]
  refine qs_load_cell 124 _ rfl rfl ⟨w.heap.size, 42, none⟩ rfl _ _ (fun W hW => cell_below k2 hW) Try.underlying124 rfl ?_
  simp only [Act.put, List.setIfInBounds_toArray, List.set_cons_zero, List.set_cons_succ]
  refine qs_move _ rfl rfl (.int .i64 most) rfl ?_
  simp only [Act.put, List.setIfInBounds_toArray, List.set_cons_zero, List.set_cons_succ]
  refine qs_call 48 #[_, .int .i64 most] (.int .i64 (dTermsOf most (fld 3 d))) rfl (fun W => by go_simp) (in_class fun W hW => cTermsOf _ _ _ W hm (t2.below hW) (fits_fld hf 3)) ?_
  simp only [Act.put, List.setIfInBounds_toArray, List.set_cons_zero, List.set_cons_succ]
  refine qs_run (.int .i64 (dBodyOf most (fld 0 d) + dProgramsOf most (fld 2 d) + dTermsOf most (fld 3 d))) rfl (fun W => by (go_simp) <;> exact wr_i _ (by omega)) ?_
  simp only [Act.put, List.setIfInBounds_toArray, List.set_cons_zero, List.set_cons_succ]
  refine qs_assign _ rfl rfl (.int .i64 (dBodyOf most (fld 0 d) + dProgramsOf most (fld 2 d) + dTermsOf most (fld 3 d))) rfl ?_
  simp only [Act.put, List.setIfInBounds_toArray, List.set_cons_zero, List.set_cons_succ]
  refine wpQuiet_nil fun W hW => ?_
  have HW := Lib.hid hW
  have HSs := HS.out.symm
  rw [HSs]
  clear HSs
  clear HS
  clear t0 m0
  clear t1 m1
  clear t2 m2
  have l0 := l0.below HW.out
  have hboxa := cell_below x0 HW.out
  obtain ⟨Aa, na, ca, ba, oa, rfl, hna, hca, hmxa, hAa, hxa⟩ := sl_api_Signature l0
  have hbda := cntk_bd most 140737488355329 (eTxOf most) (sTxOf most d) (N := 343047640449037) (els (fld 1 d)) (by omega) (by omega) (by omega) (fun i _ => beTxOf most _ hm (fits_i hfl0 i))
  have hlena := fits_len hfl0
  unfold big at hlena
  rw [hna] at hlena
  have Hna := Lib.hid hna
  clear hna
  have l1 := l1.below HW.out
  have hboxb := cell_below x1 HW.out
  clear h l0 x0 hW
  generalize sTxOf most d = s0 at *
  go_wp2
  go_loopw [5, 6] (fun t i wr => ∃ k : Nat, k ≤ na ∧ i = .int .i64 k ∧ t = .int .i64 (cntk most (eTxOf most) (s0) (els (fld 1 d)) k) ∧ Below (World.heap W).size W wr) (fun _ i _ => na - (intOf i).toNat)
  case atStart => exact ⟨0, Nat.zero_le _, rfl, by rw [cntk_0], Below.refl _ _⟩
  case round =>
    obtain ⟨k, hk, rfl, rfl, hB⟩ := hrel
    have hb := hbda k (by rw [Hna.out]; exact hk)
    have hbx := cell_below hboxa hB
    by_cases hlt : k < na
    · by_cases hle : cntk most (eTxOf most) (s0) (els (fld 1 d)) k ≤ most
      · obtain ⟨cs1, hcl, hr, hrd⟩ := hxa k hlt
        have hrd := hrd.below hB
        have hr := rangeAt_below hr hB
        rw [Nat.mul_one] at hr
        have hfe := fits_i hfl0 k
        have hst : cntk most (eTxOf most) (s0) (els (fld 1 d)) (k + 1) = cntk most (eTxOf most) (s0) (els (fld 1 d)) k + eTxOf most (((els (fld 1 d))).getD k .nil) := cntk_step (by rw [Hna.out]; exact hlt) hle
        obtain rfl := hAa (by omega)
        have hf1 := fl_api_Signature_0 hrd
        obtain ⟨u, hu⟩ := hf1.one Try.underlying139
        rw [hu] at hf1
        have hcell := cell_mid hr hu
        rw [Nat.add_zero] at hcell
        obtain ⟨A2, n2, c2, b2, o2, rfl, hn2, _, _, _, _⟩ := sl_api_Hash hf1
        have hsb := fits_len (fits_fld hfe 0)
        rw [hn2] at hsb
        unfold big at hsb
        rw [eTxOf, hn2] at hst
        have Hst := Lib.hid hst
        have HB := Lib.hid hB
        clear hst hB hr hrd hcl hfe hf1 hu hn2 hxa hAa hbda
        generalize cntk most (eTxOf most) (s0) (els (fld 1 d)) k = qa at *
        go_wp2
        refine ⟨?_, by simp [intOf]; omega⟩
        first | exact ⟨k + 1, by omega, by go_num, by (rw [Hst.out]) <;> (congr 1; omega), HB.out⟩ | ((repeat apply Exists.intro); exact ⟨⟨k + 1, by omega, by go_num, by (rw [Hst.out]) <;> (congr 1; omega), HB.out⟩, rfl⟩)
      · have Hova := Lib.hid (cntk_over hle)
        have HBa := Lib.hid hB
        clear hxa hAa hbda hB
        generalize cntk most (eTxOf most) (s0) (els (fld 1 d)) k = qa at *
        have l1 := l1.below HBa.out
        have hboxb := cell_below hboxb HBa.out
        obtain ⟨Ab, nb, cb, bb, ob, rfl, hnb, hcb, hmxb, hAb, hxb⟩ := sl_api_Redeemer l1
        have hbdb := cntk_bd most 8796094070786 (eTxOf1 most) qa (N := 483785129852942) (els (fld 4 d)) (by omega) (by omega) (by omega) (fun i _ => beTxOf1 most _ hm (fits_i hfl1 i))
        have hlenb := fits_len hfl1
        unfold big at hlenb
        rw [hnb] at hlenb
        have Hnb := Lib.hid hnb
        clear hnb
        clear l1
        obtain ⟨wa, rfl⟩ : ∃ wa : World, wa = wr := ⟨_, rfl⟩
        go_wp2
        go_loopw [5, 7] (fun t i wr => ∃ k : Nat, k ≤ nb ∧ i = .int .i64 k ∧ t = .int .i64 (cntk most (eTxOf1 most) qa (els (fld 4 d)) k) ∧ Below (World.heap wa).size wa wr) (fun _ i _ => nb - (intOf i).toNat)
        case atStart => exact ⟨0, Nat.zero_le _, rfl, by rw [cntk_0], Below.refl _ _⟩
        case round =>
          obtain ⟨k, hk, rfl, rfl, hB⟩ := hrel
          have hb := hbdb k (by rw [Hnb.out]; exact hk)
          have hbx := cell_below hboxb hB
          by_cases hlt : k < nb
          · by_cases hle : cntk most (eTxOf1 most) qa (els (fld 4 d)) k ≤ most
            · obtain ⟨cs1, hcl, hr, hrd⟩ := hxb k hlt
              have hrd := hrd.below hB
              have hr := rangeAt_below hr hB
              have hfe := fits_i hfl1 k
              have hst : cntk most (eTxOf1 most) qa (els (fld 4 d)) (k + 1) = cntk most (eTxOf1 most) qa (els (fld 4 d)) k + eTxOf1 most (((els (fld 4 d))).getD k .nil) := cntk_step (by rw [Hnb.out]; exact hlt) hle
              obtain rfl := hAb (by omega)
              have hf1 := fl_api_Redeemer_2 hrd
              have hr1 := range_part hr 2 1
              have hcall := cTermOf (enc := enc) _ _ most wr hm hf1 (fits_fld hfe 2)
              have hgb := bTermOf most _ hm (fits_fld hfe 2)
              have hsz := hs_api_Term hf1
              rw [eTxOf1] at hst
              have HC := Lib.hid hcall
              have Hst := Lib.hid hst
              have HB := Lib.hid hB
              clear hst hB hr hrd hcl hfe hf1 hcall hxb hAb hbdb
              generalize cntk most (eTxOf1 most) qa (els (fld 4 d)) k = qb at *
              generalize dTermOf most (fld 2 (((els (fld 4 d))).getD k .nil)) = g0 at *
              generalize (cs1.drop 2).take 1 = es at *
              go_wp2_with (first | (refine wpList_load_mid rfl 47 _ rfl _ _ rfl _ _ hr1 Try.underlying47 rfl hsz ?_; simp only [Act.put, List.setIfInBounds_toArray, List.set_cons_zero, List.set_cons_succ]) | (go_at_call 19; refine HC.out.mono ?_; rintro e w' ⟨rfl, hb2⟩))
              refine ⟨?_, by simp [intOf]; omega⟩
              first | exact ⟨k + 1, by omega, by go_num, by (rw [Hst.out]) <;> (congr 1; omega), HB.out.trans (hb2.mono HB.out.size)⟩ | ((repeat apply Exists.intro); exact ⟨⟨k + 1, by omega, by go_num, by (rw [Hst.out]) <;> (congr 1; omega), HB.out.trans (hb2.mono HB.out.size)⟩, rfl⟩)
            · have Hovb := Lib.hid (cntk_over hle)
              have HBb := Lib.hid hB
              clear hxb hAb hbdb hB
              generalize cntk most (eTxOf1 most) qa (els (fld 4 d)) k = qb at *
              go_wp2
              go_ret
              exact ⟨ret_i (by rw [HR.out, ← Hova.out]; exact Hovb.out), HB0.out.trans ((HW.out.trans ((HBa.out.trans ((HBb.out).mono HBa.out.size)).mono HW.out.size)).mono HB0.out.size)⟩
          · have Hovb := Lib.hid (cntk_all most (eTxOf1 most) qa (els (fld 4 d)) (k := k) (by rw [Hnb.out]; omega))
            have HBb := Lib.hid hB
            clear hxb hAb hbdb hB
            generalize cntk most (eTxOf1 most) qa (els (fld 4 d)) k = qb at *
            go_wp2
            go_ret
            exact ⟨ret_i (by rw [HR.out, ← Hova.out]; exact Hovb.out), HB0.out.trans ((HW.out.trans ((HBa.out.trans ((HBb.out).mono HBa.out.size)).mono HW.out.size)).mono HB0.out.size)⟩
    · have Hova := Lib.hid (cntk_all most (eTxOf most) (s0) (els (fld 1 d)) (k := k) (by rw [Hna.out]; omega))
      have HBa := Lib.hid hB
      clear hxa hAa hbda hB
      generalize cntk most (eTxOf most) (s0) (els (fld 1 d)) k = qa at *
      have l1 := l1.below HBa.out
      have hboxb := cell_below hboxb HBa.out
      obtain ⟨Ab, nb, cb, bb, ob, rfl, hnb, hcb, hmxb, hAb, hxb⟩ := sl_api_Redeemer l1
      have hbdb := cntk_bd most 8796094070786 (eTxOf1 most) qa (N := 483785129852942) (els (fld 4 d)) (by omega) (by omega) (by omega) (fun i _ => beTxOf1 most _ hm (fits_i hfl1 i))
      have hlenb := fits_len hfl1
      unfold big at hlenb
      rw [hnb] at hlenb
      have Hnb := Lib.hid hnb
      clear hnb
      clear l1
      obtain ⟨wa, rfl⟩ : ∃ wa : World, wa = wr := ⟨_, rfl⟩
      go_wp2
      go_loopw [5, 7] (fun t i wr => ∃ k : Nat, k ≤ nb ∧ i = .int .i64 k ∧ t = .int .i64 (cntk most (eTxOf1 most) qa (els (fld 4 d)) k) ∧ Below (World.heap wa).size wa wr) (fun _ i _ => nb - (intOf i).toNat)
      case atStart => exact ⟨0, Nat.zero_le _, rfl, by rw [cntk_0], Below.refl _ _⟩
      case round =>
        obtain ⟨k, hk, rfl, rfl, hB⟩ := hrel
        have hb := hbdb k (by rw [Hnb.out]; exact hk)
        have hbx := cell_below hboxb hB
        by_cases hlt : k < nb
        · by_cases hle : cntk most (eTxOf1 most) qa (els (fld 4 d)) k ≤ most
          · obtain ⟨cs1, hcl, hr, hrd⟩ := hxb k hlt
            have hrd := hrd.below hB
            have hr := rangeAt_below hr hB
            have hfe := fits_i hfl1 k
            have hst : cntk most (eTxOf1 most) qa (els (fld 4 d)) (k + 1) = cntk most (eTxOf1 most) qa (els (fld 4 d)) k + eTxOf1 most (((els (fld 4 d))).getD k .nil) := cntk_step (by rw [Hnb.out]; exact hlt) hle
            obtain rfl := hAb (by omega)
            have hf1 := fl_api_Redeemer_2 hrd
            have hr1 := range_part hr 2 1
            have hcall := cTermOf (enc := enc) _ _ most wr hm hf1 (fits_fld hfe 2)
            have hgb := bTermOf most _ hm (fits_fld hfe 2)
            have hsz := hs_api_Term hf1
            rw [eTxOf1] at hst
            have HC := Lib.hid hcall
            have Hst := Lib.hid hst
            have HB := Lib.hid hB
            clear hst hB hr hrd hcl hfe hf1 hcall hxb hAb hbdb
            generalize cntk most (eTxOf1 most) qa (els (fld 4 d)) k = qb at *
            generalize dTermOf most (fld 2 (((els (fld 4 d))).getD k .nil)) = g0 at *
            generalize (cs1.drop 2).take 1 = es at *
            go_wp2_with (first | (refine wpList_load_mid rfl 47 _ rfl _ _ rfl _ _ hr1 Try.underlying47 rfl hsz ?_; simp only [Act.put, List.setIfInBounds_toArray, List.set_cons_zero, List.set_cons_succ]) | (go_at_call 19; refine HC.out.mono ?_; rintro e w' ⟨rfl, hb2⟩))
            refine ⟨?_, by simp [intOf]; omega⟩
            first | exact ⟨k + 1, by omega, by go_num, by (rw [Hst.out]) <;> (congr 1; omega), HB.out.trans (hb2.mono HB.out.size)⟩ | ((repeat apply Exists.intro); exact ⟨⟨k + 1, by omega, by go_num, by (rw [Hst.out]) <;> (congr 1; omega), HB.out.trans (hb2.mono HB.out.size)⟩, rfl⟩)
          · have Hovb := Lib.hid (cntk_over hle)
            have HBb := Lib.hid hB
            clear hxb hAb hbdb hB
            generalize cntk most (eTxOf1 most) qa (els (fld 4 d)) k = qb at *
            go_wp2
            go_ret
            exact ⟨ret_i (by rw [HR.out, ← Hova.out]; exact Hovb.out), HB0.out.trans ((HW.out.trans ((HBa.out.trans ((HBb.out).mono HBa.out.size)).mono HW.out.size)).mono HB0.out.size)⟩
        · have Hovb := Lib.hid (cntk_all most (eTxOf1 most) qa (els (fld 4 d)) (k := k) (by rw [Hnb.out]; omega))
          have HBb := Lib.hid hB
          clear hxb hAb hbdb hB
          generalize cntk most (eTxOf1 most) qa (els (fld 4 d)) k = qb at *
          go_wp2
          go_ret
          exact ⟨ret_i (by rw [HR.out, ← Hova.out]; exact Hovb.out), HB0.out.trans ((HW.out.trans ((HBa.out.trans ((HBb.out).mono HBa.out.size)).mono HW.out.size)).mono HB0.out.size)⟩

def eTxsOf (most : Int) (x : DataW H) : Int := dTxOf most x
theorem beTxsOf (most : Int) (x : DataW H) (hm : 0 ≤ most ∧ most ≤ 1048576) (h : fits x = true) : 0 ≤ eTxsOf most x ∧ eTxsOf most x ≤ 492581224972304 := by
  have q0 := bTxOf most _ hm h
  unfold eTxsOf
  omega

def dTxsOf (most : Int) (d : DataW H) : Int := cnt most (eTxsOf most) 0 (els d)
theorem bTxsOf (most : Int) (d : DataW H) (hm : 0 ≤ most ∧ most ≤ 1048576) (hf : fits d = true) : 0 ≤ dTxsOf most d ∧ dTxsOf most d ≤ 492581226020880 := by
  have hb := cntk_bd most 492581224972304 (eTxsOf most) 0 (N := 0) (els d) (by omega) (by omega) (by omega) (fun i _ => beTxsOf most _ hm (fits_i hf i)) _ (Nat.le_refl _)
  rw [cntk_all _ _ _ _ rfl] at hb
  unfold dTxsOf
  omega

set_option maxRecDepth 100000 in
set_option maxHeartbeats 400000 in
theorem cTxsOf (v : Value) (d : DataW H) (most : Int) (w : World) (hm : 0 ≤ most ∧ most ≤ 1048576) (h : Rd enc Try.prog w 34 [v] d) (hf : fits d = true) :
    Calls Try.prog 31 #[v, .int .i64 most] w fun e w' => e = .returned (.int .i64 (dTxsOf most d)) ∧ Below w.heap.size w w' := by
  obtain ⟨A, n, c, b, o, rfl, hn, hc, hmx, hA, hx⟩ := sl_api_Tx h
  have hbd := cntk_bd most 492581224972304 (eTxsOf most) 0 (N := 0) (els d) (by omega) (by omega) (by omega) (fun i _ => beTxsOf most _ hm (fits_i hf i))
  have hlen := fits_len hf
  unfold big at hlen
  rw [hn] at hlen
  have Hn := Lib.hid hn
  clear hn
  have HR : Hid (dTxsOf most d = cnt most (eTxsOf most) 0 (els d)) := rfl
  clear h
  go_enter Try.func31, Try.ntmps31
  go_wp2
  go_loopw [5, 6] (fun t i wr => ∃ k : Nat, k ≤ n ∧ i = .int .i64 k ∧ t = .int .i64 (cntk most (eTxsOf most) 0 (els d) k) ∧ Below (World.heap w).size w wr) (fun _ i _ => n - (intOf i).toNat)
  case atStart => exact ⟨0, Nat.zero_le _, rfl, by rw [cntk_0], Below.refl _ _⟩
  case round =>
    obtain ⟨k, hk, rfl, rfl, hB⟩ := hrel
    have hb := hbd k (by rw [Hn.out]; exact hk)
    by_cases hlt : k < n
    · by_cases hle : cntk most (eTxsOf most) 0 (els d) k ≤ most
      · obtain ⟨cs1, hcl, hr, hrd⟩ := hx k hlt
        have hrd := hrd.below hB
        have hr := rangeAt_below hr hB
        have hfe := fits_i hf k
        have hst : cntk most (eTxsOf most) 0 (els d) (k + 1) = cntk most (eTxsOf most) 0 (els d) k + eTxsOf most (((els d)).getD k .nil) := cntk_step (by rw [Hn.out]; exact hlt) hle
        obtain rfl := hA (by omega)
        have hf1 := hrd
        have hr1 := hr
        have hcall := cTxOf (enc := enc) _ _ most wr hm hf1 hfe
        have hgb := bTxOf most _ hm hfe
        have hsz := hs_api_Tx hf1
        rw [eTxsOf] at hst
        have HC := Lib.hid hcall
        have Hst := Lib.hid hst
        have HB := Lib.hid hB
        clear hst hB hr hrd hcl hfe hf1 hcall hx hA hbd
        generalize cntk most (eTxsOf most) 0 (els d) k = q at *
        generalize dTxOf most (((els d)).getD k .nil) = g0 at *
        go_wp2_with (first | (refine wpList_load_mid rfl 127 _ rfl _ _ rfl _ _ hr1 Try.underlying127 rfl hsz ?_; simp only [Act.put, List.setIfInBounds_toArray, List.set_cons_zero, List.set_cons_succ]) | (go_at_call 38; refine HC.out.mono ?_; rintro e w' ⟨rfl, hb2⟩))
        refine ⟨?_, by simp [intOf]; omega⟩
        first | exact ⟨k + 1, by omega, by go_num, by (rw [Hst.out]) <;> (congr 1; omega), HB.out.trans (hb2.mono HB.out.size)⟩ | ((repeat apply Exists.intro); exact ⟨⟨k + 1, by omega, by go_num, by (rw [Hst.out]) <;> (congr 1; omega), HB.out.trans (hb2.mono HB.out.size)⟩, rfl⟩)
      · have Hov := Lib.hid (cntk_over hle)
        have HB := Lib.hid hB
        clear hx hA hbd hB
        generalize cntk most (eTxsOf most) 0 (els d) k = q at *
        go_wp2
        go_ret
        exact ⟨ret_i (by rw [HR.out]; exact Hov.out), HB.out⟩
    · have Hov := Lib.hid (cntk_all most (eTxsOf most) 0 (els d) (k := k) (by rw [Hn.out]; omega))
      have HB := Lib.hid hB
      clear hx hA hbd hB
      generalize cntk most (eTxsOf most) 0 (els d) k = q at *
      go_wp2
      go_ret
      exact ⟨ret_i (by rw [HR.out]; exact Hov.out), HB.out⟩

def sBlockOf (most : Int) (d : DataW H) : Int := 1 + dTxsOf most (fld 1 d)
def dBlockOf (most : Int) (d : DataW H) : Int := sBlockOf most d
theorem bBlockOf (most : Int) (d : DataW H) (hm : 0 ≤ most ∧ most ≤ 1048576) (hf : fits d = true) : 0 ≤ dBlockOf most d ∧ dBlockOf most d ≤ 492581226020881 := by
  have q1 := bTxsOf most _ hm (fits_fld hf 1)
  have hs0 : 0 ≤ sBlockOf most d ∧ sBlockOf most d ≤ 492581226020881 := by
    unfold sBlockOf
    omega
  unfold dBlockOf
  omega

set_option maxRecDepth 100000 in
set_option maxHeartbeats 1000000 in
theorem cBlockOf (cs : List Value) (d : DataW H) (most : Int) (w : World) (hm : 0 ≤ most ∧ most ≤ 1048576) (h : Rd enc Try.prog w 103 cs d) (hf : fits d = true) :
    Calls Try.prog 39 #[.agg cs.toArray, .int .i64 most] w fun e w' => e = .returned (.int .i64 (dBlockOf most d)) ∧ Below w.heap.size w w' := by
  have hb0 : Below w.heap.size w (w.alloc (.cells cs.toArray 103)) := (Below.refl _ w).alloc (Nat.le_refl _) _
  have h := h.below hb0
  have HR : Hid (dBlockOf most d = sBlockOf most d) := rfl
  have HB0 := Lib.hid hb0
  clear hb0
  have t1 := fl_api_Block_1 h
  obtain ⟨v1, hv1⟩ := t1.one Try.underlying34
  rw [hv1] at t1
  have k1 := cell_new w cs 103 67 hv1
  clear hv1
  have m1 := bTxsOf most _ hm (fits_fld hf 1)
  have hs0 : 0 ≤ sBlockOf most d ∧ sBlockOf most d ≤ 492581226020881 := by
    unfold sBlockOf
    omega
  have HS : Hid (sBlockOf most d = 1 + dTxsOf most (fld 1 d)) := rfl
  go_enter Try.func39, Try.ntmps39
  have HC := Lib.hid (cTxsOf (enc := enc) _ _ most (w.alloc (.cells cs.toArray 103)) hm t1 (fits_fld hf 1))
  generalize dTxsOf most (fld 1 d) = g at *
  go_wp2_with (go_at_call 31; refine HC.out.mono ?_; rintro e w' ⟨rfl, hb2⟩)
  go_ret
  exact ⟨ret_i (by rw [HR.out]; exact HS.out.symm), HB0.out.trans (hb2.mono HB0.out.size)⟩

def sDiffOf (most : Int) (d : DataW H) : Int := 1 + dEntriesOf most (fld 0 d) + dEntriesOf most (fld 1 d) + ((els (fld 4 d)).length : Int)
def dDiffOf (most : Int) (d : DataW H) : Int := sDiffOf most d
theorem bDiffOf (most : Int) (d : DataW H) (hm : 0 ≤ most ∧ most ≤ 1048576) (hf : fits d = true) : 0 ≤ dDiffOf most d ∧ dDiffOf most d ≤ 175921866735625 := by
  have q1 := bEntriesOf most _ hm (fits_fld hf 0)
  have q2 := bEntriesOf most _ hm (fits_fld hf 1)
  have q3 := fits_len (fits_fld hf 4)
  have hs0 : 0 ≤ sDiffOf most d ∧ sDiffOf most d ≤ 175921866735625 := by
    unfold sDiffOf
    unfold big at *
    omega
  unfold dDiffOf
  omega

set_option maxRecDepth 100000 in
set_option maxHeartbeats 1000000 in
theorem cDiffOf (cs : List Value) (d : DataW H) (most : Int) (w : World) (hm : 0 ≤ most ∧ most ≤ 1048576) (h : Rd enc Try.prog w 106 cs d) (hf : fits d = true) :
    Calls Try.prog 40 #[.agg cs.toArray, .int .i64 most] w fun e w' => e = .returned (.int .i64 (dDiffOf most d)) ∧ Below w.heap.size w w' := by
  have hb0 : Below w.heap.size w (w.alloc (.cells cs.toArray 106)) := (Below.refl _ w).alloc (Nat.le_refl _) _
  have h := h.below hb0
  have HR : Hid (dDiffOf most d = sDiffOf most d) := rfl
  have HB0 := Lib.hid hb0
  clear hb0
  have t1 := fl_api_Diff_0 h
  obtain ⟨v1, hv1⟩ := t1.one Try.underlying28
  rw [hv1] at t1
  have k1 := cell_new w cs 106 0 hv1
  clear hv1
  have m1 := bEntriesOf most _ hm (fits_fld hf 0)
  have t2 := fl_api_Diff_1 h
  obtain ⟨v2, hv2⟩ := t2.one Try.underlying28
  rw [hv2] at t2
  have k2 := cell_new w cs 106 1 hv2
  clear hv2
  have m2 := bEntriesOf most _ hm (fits_fld hf 1)
  have t3 := fl_api_Diff_4 h
  obtain ⟨v3, hv3⟩ := t3.one Try.underlying33
  rw [hv3] at t3
  have k3 := cell_new w cs 106 4 hv3
  clear hv3
  obtain ⟨A3, n3, c3, b3, o3, rfl, hn3, _, _, _, _⟩ := sl_api_Total t3
  have m3 := fits_len (fits_fld hf 4)
  unfold big at m3
  rw [hn3] at m3
  have Hn_3 := Lib.hid hn3
  clear hn3
  have hs0 : 0 ≤ sDiffOf most d ∧ sDiffOf most d ≤ 175921866735625 := by
    have := Hn_3.out
    unfold sDiffOf
    omega
  have HS : Hid (sDiffOf most d = 1 + dEntriesOf most (fld 0 d) + dEntriesOf most (fld 1 d) + (n3 : Int)) := by
    show _ = _
    unfold sDiffOf
    rw [Hn_3.out]
  go_enter Try.func40, Try.ntmps40
  go_wp2
  refine wp_region_below mixed (by kernel_rfl) ?_
  refine qs_run (.pointer (some ⟨w.heap.size, 0, none⟩)) rfl (fun W => by go_simp) ?_
  simp only [Act.put, List.setIfInBounds_toArray, List.set_cons_zero, List.set_cons_succ]
  refine qs_load_cell 28 _ rfl rfl ⟨w.heap.size, 0, none⟩ rfl _ _ (fun W hW => cell_below k1 hW) Try.underlying28 rfl ?_
  simp only [Act.put, List.setIfInBounds_toArray, List.set_cons_zero, List.set_cons_succ]
  refine qs_move _ rfl rfl (.int .i64 most) rfl ?_
  simp only [Act.put, List.setIfInBounds_toArray, List.set_cons_zero, List.set_cons_succ]
  refine qs_call 30 #[_, .int .i64 most] (.int .i64 (dEntriesOf most (fld 0 d))) rfl (fun W => by go_simp) (in_class fun W hW => cEntriesOf _ _ _ W hm (t1.below hW) (fits_fld hf 0)) ?_
  simp only [Act.put, List.setIfInBounds_toArray, List.set_cons_zero, List.set_cons_succ]
  refine qs_run (.int .i64 (1 + dEntriesOf most (fld 0 d))) rfl (fun W => by (go_simp) <;> exact wr_i _ (by omega)) ?_
  simp only [Act.put, List.setIfInBounds_toArray, List.set_cons_zero, List.set_cons_succ]
  refine qs_run (.pointer (some ⟨w.heap.size, 1, none⟩)) rfl (fun W => by go_simp) ?_
  simp only [Act.put, List.setIfInBounds_toArray, List.set_cons_zero, List.set_cons_succ]
  refine qs_load_cell 28 _ rfl rfl ⟨w.heap.size, 1, none⟩ rfl _ _ (fun W hW => cell_below k2 hW) Try.underlying28 rfl ?_
  simp only [Act.put, List.setIfInBounds_toArray, List.set_cons_zero, List.set_cons_succ]
  refine qs_move _ rfl rfl (.int .i64 most) rfl ?_
  simp only [Act.put, List.setIfInBounds_toArray, List.set_cons_zero, List.set_cons_succ]
  refine qs_call 30 #[_, .int .i64 most] (.int .i64 (dEntriesOf most (fld 1 d))) rfl (fun W => by go_simp) (in_class fun W hW => cEntriesOf _ _ _ W hm (t2.below hW) (fits_fld hf 1)) ?_
  simp only [Act.put, List.setIfInBounds_toArray, List.set_cons_zero, List.set_cons_succ]
  refine qs_run (.int .i64 (1 + dEntriesOf most (fld 0 d) + dEntriesOf most (fld 1 d))) rfl (fun W => by (go_simp) <;> exact wr_i _ (by omega)) ?_
  simp only [Act.put, List.setIfInBounds_toArray, List.set_cons_zero, List.set_cons_succ]
  refine qs_run (.pointer (some ⟨w.heap.size, 4, none⟩)) rfl (fun W => by go_simp) ?_
  simp only [Act.put, List.setIfInBounds_toArray, List.set_cons_zero, List.set_cons_succ]
  refine qs_load_cell 33 _ rfl rfl ⟨w.heap.size, 4, none⟩ rfl _ _ (fun W hW => cell_below k3 hW) Try.underlying33 rfl ?_
  simp only [Act.put, List.setIfInBounds_toArray, List.set_cons_zero, List.set_cons_succ]
  refine qs_run (.int .i64 n3) rfl (fun W => by go_simp) ?_
  simp only [Act.put, List.setIfInBounds_toArray, List.set_cons_zero, List.set_cons_succ]
  refine qs_run (.int .i64 (1 + dEntriesOf most (fld 0 d) + dEntriesOf most (fld 1 d) + (n3 : Int))) rfl (fun W => by (go_simp) <;> exact wr_i _ (by omega)) ?_
  simp only [Act.put, List.setIfInBounds_toArray, List.set_cons_zero, List.set_cons_succ]
  refine qs_assign _ rfl rfl (.int .i64 (1 + dEntriesOf most (fld 0 d) + dEntriesOf most (fld 1 d) + (n3 : Int))) rfl ?_
  simp only [Act.put, List.setIfInBounds_toArray, List.set_cons_zero, List.set_cons_succ]
  refine wpQuiet_nil fun W hW => ?_
  have HW := Lib.hid hW
  go_wp2
  go_ret
  exact ⟨ret_i (by rw [HR.out]; exact HS.out.symm), HB0.out.trans (HW.out.mono HB0.out.size)⟩

def sStoredOf (most : Int) (d : DataW H) : Int := dBlockOf most (fld 1 d) + dDiffOf most (fld 3 d)
def dStoredOf (most : Int) (d : DataW H) : Int := sStoredOf most d
theorem bStoredOf (most : Int) (d : DataW H) (hm : 0 ≤ most ∧ most ≤ 1048576) (hf : fits d = true) : 0 ≤ dStoredOf most d ∧ dStoredOf most d ≤ 668503092756506 := by
  have q0 := bBlockOf most _ hm (fits_fld hf 1)
  have q1 := bDiffOf most _ hm (fits_fld hf 3)
  have hs0 : 0 ≤ sStoredOf most d ∧ sStoredOf most d ≤ 668503092756506 := by
    unfold sStoredOf
    omega
  unfold dStoredOf
  omega

set_option maxRecDepth 100000 in
set_option maxHeartbeats 1000000 in
theorem cStoredOf (cs : List Value) (d : DataW H) (most : Int) (w : World) (hm : 0 ≤ most ∧ most ≤ 1048576) (h : Rd enc Try.prog w 108 cs d) (hf : fits d = true) :
    Calls Try.prog 32 #[.agg cs.toArray, .int .i64 most] w fun e w' => e = .returned (.int .i64 (dStoredOf most d)) ∧ Below w.heap.size w w' := by
  have hb0 : Below w.heap.size w (w.alloc (.cells cs.toArray 108)) := (Below.refl _ w).alloc (Nat.le_refl _) _
  have h := h.below hb0
  have HR : Hid (dStoredOf most d = sStoredOf most d) := rfl
  have HB0 := Lib.hid hb0
  clear hb0
  have t0 := fl_api_Stored_1 h
  have r0 := range_new w cs 108 32 68
  have z0 := hs_api_Block t0
  have m0 := bBlockOf most _ hm (fits_fld hf 1)
  have t1 := fl_api_Stored_3 h
  have r1 := range_new w cs 108 101 5
  have z1 := hs_api_Diff t1
  have m1 := bDiffOf most _ hm (fits_fld hf 3)
  have hs0 : 0 ≤ sStoredOf most d ∧ sStoredOf most d ≤ 668503092756506 := by
    unfold sStoredOf
    omega
  have HS : Hid (sStoredOf most d = dBlockOf most (fld 1 d) + dDiffOf most (fld 3 d)) := rfl
  go_enter Try.func32, Try.ntmps32
  go_wp2
  refine wp_region_below mixed (by kernel_rfl) ?_
  refine qs_run (.pointer (some ⟨w.heap.size, 32, none⟩)) rfl (fun W => by go_simp) ?_
  simp only [Act.put, List.setIfInBounds_toArray, List.set_cons_zero, List.set_cons_succ]
  refine qs_load_mid 103 _ rfl rfl w.heap.size 32 rfl _ _ (fun W hW => rangeAt_below r0 hW) Try.underlying103 rfl z0 ?_
  simp only [Act.put, List.setIfInBounds_toArray, List.set_cons_zero, List.set_cons_succ]
  refine qs_move _ rfl rfl (.int .i64 most) rfl ?_
  simp only [Act.put, List.setIfInBounds_toArray, List.set_cons_zero, List.set_cons_succ]
  refine qs_call 39 #[.agg _, .int .i64 most] (.int .i64 (dBlockOf most (fld 1 d))) rfl (fun W => by go_simp) (in_class fun W hW => cBlockOf _ _ _ W hm (t0.below hW) (fits_fld hf 1)) ?_
  simp only [Act.put, List.setIfInBounds_toArray, List.set_cons_zero, List.set_cons_succ]
  refine qs_run (.pointer (some ⟨w.heap.size, 101, none⟩)) rfl (fun W => by go_simp) ?_
  simp only [Act.put, List.setIfInBounds_toArray, List.set_cons_zero, List.set_cons_succ]
  refine qs_load_mid 106 _ rfl rfl w.heap.size 101 rfl _ _ (fun W hW => rangeAt_below r1 hW) Try.underlying106 rfl z1 ?_
  simp only [Act.put, List.setIfInBounds_toArray, List.set_cons_zero, List.set_cons_succ]
  refine qs_move _ rfl rfl (.int .i64 most) rfl ?_
  simp only [Act.put, List.setIfInBounds_toArray, List.set_cons_zero, List.set_cons_succ]
  refine qs_call 40 #[.agg _, .int .i64 most] (.int .i64 (dDiffOf most (fld 3 d))) rfl (fun W => by go_simp) (in_class fun W hW => cDiffOf _ _ _ W hm (t1.below hW) (fits_fld hf 3)) ?_
  simp only [Act.put, List.setIfInBounds_toArray, List.set_cons_zero, List.set_cons_succ]
  refine qs_run (.int .i64 (dBlockOf most (fld 1 d) + dDiffOf most (fld 3 d))) rfl (fun W => by (go_simp) <;> exact wr_i _ (by omega)) ?_
  simp only [Act.put, List.setIfInBounds_toArray, List.set_cons_zero, List.set_cons_succ]
  refine qs_assign _ rfl rfl (.int .i64 (dBlockOf most (fld 1 d) + dDiffOf most (fld 3 d))) rfl ?_
  simp only [Act.put, List.setIfInBounds_toArray, List.set_cons_zero, List.set_cons_succ]
  refine wpQuiet_nil fun W hW => ?_
  have HW := Lib.hid hW
  go_wp2
  go_ret
  exact ⟨ret_i (by rw [HR.out]; exact HS.out.symm), HB0.out.trans (HW.out.mono HB0.out.size)⟩

def sStateOf (most : Int) (d : DataW H) : Int := 1 + dEntriesOf most (fld 2 d) + dTxsOf most (fld 10 d) + ((els (fld 9 d)).length : Int)
def eStateOf (most : Int) (x : DataW H) : Int := dStoredOf most x
theorem beStateOf (most : Int) (x : DataW H) (hm : 0 ≤ most ∧ most ≤ 1048576) (h : fits x = true) : 0 ≤ eStateOf most x ∧ eStateOf most x ≤ 668503092756506 := by
  have q0 := bStoredOf most _ hm h
  unfold eStateOf
  omega

def dStateOf (most : Int) (d : DataW H) : Int := cnt most (eStateOf most) (sStateOf most d) (els (fld 3 d))
theorem bStateOf (most : Int) (d : DataW H) (hm : 0 ≤ most ∧ most ≤ 1048576) (hf : fits d = true) : 0 ≤ dStateOf most d ∧ dStateOf most d ≤ 1319413997371439 := by
  have q1 := bEntriesOf most _ hm (fits_fld hf 2)
  have q2 := bTxsOf most _ hm (fits_fld hf 10)
  have q3 := fits_len (fits_fld hf 9)
  have hs0 : 0 ≤ sStateOf most d ∧ sStateOf most d ≤ 650910903566357 := by
    unfold sStateOf
    unfold big at *
    omega
  have hb0 := cntk_bd most 668503092756506 (eStateOf most) (sStateOf most d) (N := 650910903566357) (els (fld 3 d)) (by omega) (by omega) (by omega) (fun i _ => beStateOf most _ hm (fits_i (fits_fld hf 3) i)) _ (Nat.le_refl _)
  rw [cntk_all _ _ _ _ rfl] at hb0
  unfold dStateOf
  omega

set_option maxRecDepth 100000 in
set_option maxHeartbeats 1000000 in
theorem cStateOf (cs : List Value) (d : DataW H) (most : Int) (w : World) (hm : 0 ≤ most ∧ most ≤ 1048576) (h : Rd enc Try.prog w 36 cs d) (hf : fits d = true) :
    Calls Try.prog 17 #[.agg cs.toArray, .int .i64 most] w fun e w' => e = .returned (.int .i64 (dStateOf most d)) ∧ Below w.heap.size w w' := by
  have hb0 : Below w.heap.size w (w.alloc (.cells cs.toArray 36)) := (Below.refl _ w).alloc (Nat.le_refl _) _
  have h := h.below hb0
  have HR : Hid (dStateOf most d = cnt most (eStateOf most) (sStateOf most d) (els (fld 3 d))) := rfl
  have HB0 := Lib.hid hb0
  clear hb0
  have t1 := fl_api_State_2 h
  obtain ⟨v1, hv1⟩ := t1.one Try.underlying28
  rw [hv1] at t1
  have k1 := cell_new w cs 36 44 hv1
  clear hv1
  have m1 := bEntriesOf most _ hm (fits_fld hf 2)
  have t2 := fl_api_State_10 h
  obtain ⟨v2, hv2⟩ := t2.one Try.underlying34
  rw [hv2] at t2
  have k2 := cell_new w cs 36 180 hv2
  clear hv2
  have m2 := bTxsOf most _ hm (fits_fld hf 10)
  have t3 := fl_api_State_9 h
  obtain ⟨v3, hv3⟩ := t3.one Try.underlying33
  rw [hv3] at t3
  have k3 := cell_new w cs 36 179 hv3
  clear hv3
  obtain ⟨A3, n3, c3, b3, o3, rfl, hn3, _, _, _, _⟩ := sl_api_Total t3
  have m3 := fits_len (fits_fld hf 9)
  unfold big at m3
  rw [hn3] at m3
  have Hn_3 := Lib.hid hn3
  clear hn3
  have l0 := fl_api_State_3 h
  obtain ⟨u0, hu0⟩ := l0.one Try.underlying29
  rw [hu0] at l0
  have x0 := cell_new w cs 36 45 hu0
  clear hu0
  have hfl0 := fits_fld hf 3
  have hs0 : 0 ≤ sStateOf most d ∧ sStateOf most d ≤ 650910903566357 := by
    have := Hn_3.out
    unfold sStateOf
    omega
  have HS : Hid (sStateOf most d = 1 + dEntriesOf most (fld 2 d) + dTxsOf most (fld 10 d) + (n3 : Int)) := by
    show _ = _
    unfold sStateOf
    rw [Hn_3.out]
  go_enter Try.func17, Try.ntmps17
  go_wp2
  refine wp_region_below mixed (by kernel_rfl) ?_
  refine qs_run (.pointer (some ⟨w.heap.size, 44, none⟩)) rfl (fun W => by go_simp) ?_
  simp only [Act.put, List.setIfInBounds_toArray, List.set_cons_zero, List.set_cons_succ]
  refine qs_load_cell 28 _ rfl rfl ⟨w.heap.size, 44, none⟩ rfl _ _ (fun W hW => cell_below k1 hW) Try.underlying28 rfl ?_
  simp only [Act.put, List.setIfInBounds_toArray, List.set_cons_zero, List.set_cons_succ]
  refine qs_move _ rfl rfl (.int .i64 most) rfl ?_
  simp only [Act.put, List.setIfInBounds_toArray, List.set_cons_zero, List.set_cons_succ]
  refine qs_call 30 #[_, .int .i64 most] (.int .i64 (dEntriesOf most (fld 2 d))) rfl (fun W => by go_simp) (in_class fun W hW => cEntriesOf _ _ _ W hm (t1.below hW) (fits_fld hf 2)) ?_
  simp only [Act.put, List.setIfInBounds_toArray, List.set_cons_zero, List.set_cons_succ]
  refine qs_run (.int .i64 (1 + dEntriesOf most (fld 2 d))) rfl (fun W => by (go_simp) <;> exact wr_i _ (by omega)) ?_
  simp only [Act.put, List.setIfInBounds_toArray, List.set_cons_zero, List.set_cons_succ]
  refine qs_run (.pointer (some ⟨w.heap.size, 180, none⟩)) rfl (fun W => by go_simp) ?_
  simp only [Act.put, List.setIfInBounds_toArray, List.set_cons_zero, List.set_cons_succ]
  refine qs_load_cell 34 _ rfl rfl ⟨w.heap.size, 180, none⟩ rfl _ _ (fun W hW => cell_below k2 hW) Try.underlying34 rfl ?_
  simp only [Act.put, List.setIfInBounds_toArray, List.set_cons_zero, List.set_cons_succ]
  refine qs_move _ rfl rfl (.int .i64 most) rfl ?_
  simp only [Act.put, List.setIfInBounds_toArray, List.set_cons_zero, List.set_cons_succ]
  refine qs_call 31 #[_, .int .i64 most] (.int .i64 (dTxsOf most (fld 10 d))) rfl (fun W => by go_simp) (in_class fun W hW => cTxsOf _ _ _ W hm (t2.below hW) (fits_fld hf 10)) ?_
  simp only [Act.put, List.setIfInBounds_toArray, List.set_cons_zero, List.set_cons_succ]
  refine qs_run (.int .i64 (1 + dEntriesOf most (fld 2 d) + dTxsOf most (fld 10 d))) rfl (fun W => by (go_simp) <;> exact wr_i _ (by omega)) ?_
  simp only [Act.put, List.setIfInBounds_toArray, List.set_cons_zero, List.set_cons_succ]
  refine qs_run (.pointer (some ⟨w.heap.size, 179, none⟩)) rfl (fun W => by go_simp) ?_
  simp only [Act.put, List.setIfInBounds_toArray, List.set_cons_zero, List.set_cons_succ]
  refine qs_load_cell 33 _ rfl rfl ⟨w.heap.size, 179, none⟩ rfl _ _ (fun W hW => cell_below k3 hW) Try.underlying33 rfl ?_
  simp only [Act.put, List.setIfInBounds_toArray, List.set_cons_zero, List.set_cons_succ]
  refine qs_run (.int .i64 n3) rfl (fun W => by go_simp) ?_
  simp only [Act.put, List.setIfInBounds_toArray, List.set_cons_zero, List.set_cons_succ]
  refine qs_run (.int .i64 (1 + dEntriesOf most (fld 2 d) + dTxsOf most (fld 10 d) + (n3 : Int))) rfl (fun W => by (go_simp) <;> exact wr_i _ (by omega)) ?_
  simp only [Act.put, List.setIfInBounds_toArray, List.set_cons_zero, List.set_cons_succ]
  refine qs_assign _ rfl rfl (.int .i64 (1 + dEntriesOf most (fld 2 d) + dTxsOf most (fld 10 d) + (n3 : Int))) rfl ?_
  simp only [Act.put, List.setIfInBounds_toArray, List.set_cons_zero, List.set_cons_succ]
  refine wpQuiet_nil fun W hW => ?_
  have HW := Lib.hid hW
  have HSs := HS.out.symm
  rw [HSs]
  clear HSs
  clear HS
  clear t1 m1
  clear t2 m2
  clear t3 m3
  have l0 := l0.below HW.out
  have hboxa := cell_below x0 HW.out
  obtain ⟨Aa, na, ca, ba, oa, rfl, hna, hca, hmxa, hAa, hxa⟩ := sl_api_Stored l0
  have hbda := cntk_bd most 668503092756506 (eStateOf most) (sStateOf most d) (N := 650910903566357) (els (fld 3 d)) (by omega) (by omega) (by omega) (fun i _ => beStateOf most _ hm (fits_i hfl0 i))
  have hlena := fits_len hfl0
  unfold big at hlena
  rw [hna] at hlena
  have Hna := Lib.hid hna
  clear hna
  clear h l0 x0 hW
  generalize sStateOf most d = s0 at *
  go_wp2
  go_loopw [5, 6] (fun t i wr => ∃ k : Nat, k ≤ na ∧ i = .int .i64 k ∧ t = .int .i64 (cntk most (eStateOf most) (s0) (els (fld 3 d)) k) ∧ Below (World.heap W).size W wr) (fun _ i _ => na - (intOf i).toNat)
  case atStart => exact ⟨0, Nat.zero_le _, rfl, by rw [cntk_0], Below.refl _ _⟩
  case round =>
    obtain ⟨k, hk, rfl, rfl, hB⟩ := hrel
    have hb := hbda k (by rw [Hna.out]; exact hk)
    have hbx := cell_below hboxa hB
    by_cases hlt : k < na
    · by_cases hle : cntk most (eStateOf most) (s0) (els (fld 3 d)) k ≤ most
      · obtain ⟨cs1, hcl, hr, hrd⟩ := hxa k hlt
        have hrd := hrd.below hB
        have hr := rangeAt_below hr hB
        have hfe := fits_i hfl0 k
        have hst : cntk most (eStateOf most) (s0) (els (fld 3 d)) (k + 1) = cntk most (eStateOf most) (s0) (els (fld 3 d)) k + eStateOf most (((els (fld 3 d))).getD k .nil) := cntk_step (by rw [Hna.out]; exact hlt) hle
        obtain rfl := hAa (by omega)
        have hf1 := hrd
        have hr1 := hr
        have hcall := cStoredOf (enc := enc) _ _ most wr hm hf1 hfe
        have hgb := bStoredOf most _ hm hfe
        have hsz := hs_api_Stored hf1
        rw [eStateOf] at hst
        have HC := Lib.hid hcall
        have Hst := Lib.hid hst
        have HB := Lib.hid hB
        clear hst hB hr hrd hcl hfe hf1 hcall hxa hAa hbda
        generalize cntk most (eStateOf most) (s0) (els (fld 3 d)) k = qa at *
        generalize dStoredOf most (((els (fld 3 d))).getD k .nil) = g0 at *
        go_wp2_with (first | (refine wpList_load_mid rfl 108 _ rfl _ _ rfl _ _ hr1 Try.underlying108 rfl hsz ?_; simp only [Act.put, List.setIfInBounds_toArray, List.set_cons_zero, List.set_cons_succ]) | (go_at_call 32; refine HC.out.mono ?_; rintro e w' ⟨rfl, hb2⟩))
        refine ⟨?_, by simp [intOf]; omega⟩
        first | exact ⟨k + 1, by omega, by go_num, by (rw [Hst.out]) <;> (congr 1; omega), HB.out.trans (hb2.mono HB.out.size)⟩ | ((repeat apply Exists.intro); exact ⟨⟨k + 1, by omega, by go_num, by (rw [Hst.out]) <;> (congr 1; omega), HB.out.trans (hb2.mono HB.out.size)⟩, rfl⟩)
      · have Hova := Lib.hid (cntk_over hle)
        have HBa := Lib.hid hB
        clear hxa hAa hbda hB
        generalize cntk most (eStateOf most) (s0) (els (fld 3 d)) k = qa at *
        go_wp2
        go_ret
        exact ⟨ret_i (by rw [HR.out]; exact Hova.out), HB0.out.trans ((HW.out.trans ((HBa.out).mono HW.out.size)).mono HB0.out.size)⟩
    · have Hova := Lib.hid (cntk_all most (eStateOf most) (s0) (els (fld 3 d)) (k := k) (by rw [Hna.out]; omega))
      have HBa := Lib.hid hB
      clear hxa hAa hbda hB
      generalize cntk most (eStateOf most) (s0) (els (fld 3 d)) k = qa at *
      go_wp2
      go_ret
      exact ⟨ret_i (by rw [HR.out]; exact Hova.out), HB0.out.trans ((HW.out.trans ((HBa.out).mono HW.out.size)).mono HB0.out.size)⟩

end
end Go.Proofs.Ytjmkkndglmapaaa
