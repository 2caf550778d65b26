/- totals.Whole: the walk. -/
import Derived.Test.YtjmkkndglmapaaaEntry
import Derived.Test.YtjmkkndglmapaaaGuard
import Derived.Test.YtjmkkndglmapaaaUniq
set_option linter.unusedSimpArgs false
set_option linter.unusedVariables false
namespace Go.Proofs.Ytjmkkndglmapaaa
open Go.RowKit Go.Shelf Go.Lib Go.Sort Go.WideShapes Go.ChangeShapes

/-- An output as it lies: an entry with no reference. -/
structure enOut (w : World) (e : Ent) (cs : List Value) : Prop where
  same : e.cs = z32 ++ [Value.int .i64 0] ++ cs
  ent : enEnt w e e.cs
theorem stays_out : Stays enOut := fun w W e cs h hb => ⟨h.same, stays_ent _ _ _ _ h.ent hb⟩
abbrev OsAt (w : World) (v : Value) (os : List Ent) : Prop := SlAt w 69 enOut v os

theorem build_ent1 (u : List Value) (hu : u.length = 69) (W : World) : (Instr.build 51 #[(1, .agg u.toArray)]).run Try.prog W = .ok (.agg (z32 ++ [Value.int .i64 0] ++ u).toArray) W := by
  refine run_build_struct (zs := zEnt) (Try.zeroValue51 W) Try.underlying51 #[(0, 33), (33, 69)] (by kernel_rfl) _ _ ?_
  have e2 := laid_mid (z32 ++ [Value.int .i64 0]) ((Value.bool false :: z32) ++ zVal ++ outTail) [] u 33 rfl (by rw [hu]; rfl)
  rw [List.append_nil, List.append_nil, ← zEnt_is] at e2
  rw [fill_cons _ _ 1 _ _ 33 69 rfl (by simpa [Value.cells] using hu) (by rw [zEnt_len]; omega)]
  show Instr.fill _ (laid _ 33 u).toArray _ = _
  rw [e2, fill_nil]
theorem info_entry : ∃ i z, Try.prog.info? 51 = some i ∧ i.zero = some z ∧ z.cells.size = 102 ∧ i.size = 102 ∧ i.bytes = 176 := by
  have h : (Try.prog.info? 51).map (fun i => (i.zero.map (·.cells.size), i.size, i.bytes)) = some (some 102, 102, 176) := by kernel_rfl
  cases hi : Try.prog.info? 51 with
  | none => rw [hi] at h; cases h
  | some i =>
    rw [hi] at h
    simp only [Option.map_some, Option.some.injEq, Prod.mk.injEq] at h
    obtain ⟨z, hz, h1⟩ := Option.map_eq_some_iff.1 h.1
    exact ⟨i, z, rfl, hz, h1, h.2.1, h.2.2⟩
/-- A genesis: its cells, its outputs. -/
structure Gen where
  cs : List Value
  os : List Ent
structure enGen (w : World) (G : Gen) : Prop where
  len : G.cs.length = 14
  outs : ∃ sl, G.cs[13]? = some sl ∧ OsAt w sl G.os
  one : ∀ v ∈ G.cs, v.oneCell' = true
theorem enGen.below {w W : World} {G : Gen} (h : enGen w G) (hb : Below w.heap.size w W) : enGen W G := by
  obtain ⟨sl, h1, h2⟩ := h.outs
  exact ⟨h.len, ⟨sl, h1, h2.below stays_out hb⟩, h.one⟩
/-- Entries that the call has made. -/
def entsOf (l : List Ent) : List Value := (l.map (·.cs)).flatten
theorem entsOf_more (l : List Ent) (e : Ent) : entsOf (l ++ [e]) = entsOf l ++ e.cs := by
  unfold entsOf
  simp
theorem EsAt.own {w : World} {base : Nat} {t : TypeId} {v : Value} {l : List Ent} (hown : w.ownsRow base t 102 v l.length (entsOf l)) (hl : ∀ e ∈ l, enEnt w e e.cs) : EsAt w v l := by
  refine SlAt.own (l.map (·.cs)) hown (by simp) (fun i x cs hx hcs => ?_) (fun cs hcs => ?_)
  · rw [List.getElem?_map, hx] at hcs
    simp only [Option.map_some, Option.some.injEq] at hcs
    subst hcs
    have := hl x (List.mem_of_getElem? hx)
    exact ⟨this, this.len⟩
  · obtain ⟨e, he, rfl⟩ := List.mem_map.1 hcs
    exact (hl e he).len

theorem encW_words {x y : Int} (h : encW x = encW y) : hiW x = hiW y ∧ loW x = loW y := by
  unfold encW at h
  simp only [List.cons.injEq, Value.int.injEq, true_and, and_true] at h
  exact h
theorem rs_two {W : World} {b : Nat} {A A' : Option Addr} {c c' : Nat} {X M : List Tot} {t : TypeId} (hB : Box W b [.slice A X.length c, .slice A' M.length c'] t) (hX : TsAt W (.slice A X.length c) X) (hM : TsAt W (.slice A' M.length c') M) :
    RsAt W (.slice (some ⟨b, 0, none⟩) 2 2) [X, M] := by
  refine ⟨some ⟨b, 0, none⟩, 2, b, 0, rfl, by simp, by simp [maxLen], by simp, fun _ => rfl, fun i R hR => ?_⟩
  have hi : i = 0 ∨ i = 1 := by
    have := (List.getElem?_eq_some_iff.1 hR).1
    simp at this
    omega
  rcases hi with rfl | rfl
  · simp only [List.getElem?_cons_zero, Option.some.injEq] at hR
    subst hR
    exact ⟨_, ⟨_, rfl, hX⟩, rfl, hB.range 0 1⟩
  · simp only [List.getElem?_cons_succ, List.getElem?_cons_zero, Option.some.injEq] at hR
    subst hR
    exact ⟨_, ⟨_, rfl, hM⟩, rfl, hB.range 1 1⟩
/-- What totals.Whole says. -/
def WholeIs (x y : Int) (S : Sta) (G : Gen) (M : List Tot) : Prop := encW x = encW y ∧ ∀ k, encW (vsum (vals S.es) k) = encW (vsum (vals G.os) k + tsum M k)
theorem whole_iff {S : Sta} {G : Gen} {M R X Y : List Tot} {x y : Int} (hR : Told (vsum (vals S.es)) R) (hX : Told (vsum (vals G.os)) X) (hY : Told (tsum [X, M].flatten) Y) (h : encW x = encW y) (b : Bool) (hb : b = true ↔ R.map encT = Y.map encT) : b = true ↔ WholeIs x y S G M := by
  rw [hb, told_iff hR hY]
  have e : ∀ k, encW (tsum [X, M].flatten k) = encW (vsum (vals G.os) k + tsum M k) := fun k => by
    rw [show [X, M].flatten = X ++ M by simp, tsum_append]
    exact encW_add (told_sum hX k) rfl
  exact ⟨fun hh => ⟨h, fun k => (hh k).trans (e k)⟩, fun hh k => (hh.2 k).trans (e k).symm⟩
theorem whole_no {S : Sta} {G : Gen} {M : List Tot} {x y : Int} (h : encW x ≠ encW y) : false = true ↔ WholeIs x y S G M := ⟨fun hh => (nomatch hh), fun hh => absurd hh.1 h⟩

/-- What a call that makes a row of totals leaves. -/
def RowPost (T : Key → Int) (w : World) (v : Value) (w' : World) : Prop := ∃ R, w'.ownsRow w.heap.size 88 35 v R.length (R.flatMap encT) ∧ Below w.heap.size w w' ∧ Told T R
def BoolPost (p : Prop) (w : World) (v : Value) (w' : World) : Prop := (∃ b, v = .bool b ∧ (b = true ↔ p)) ∧ Below w.heap.size w w'
theorem assets_at (S : Sta) (w : World) (h : enSta w S) (hlen : S.es.length ≤ 1099511627776) (hvl : vlen (vals S.es) ≤ 1099511627776) :
    Calls Try.prog 13 #[.agg S.cs.toArray] w fun e w' => ∃ v, e = .returned v ∧ RowPost (vsum (vals S.es)) w v w' :=
  (assets_any S w h hlen hvl).mono fun e w' ⟨v, R, h1, h2, h3, h4⟩ => ⟨v, h1, R, h2, h3, h4⟩
theorem merge_to (Rs : List (List Tot)) (v : Value) (w : World) (h : RsAt w v Rs) (hlen : rlen Rs ≤ 1099511627776) :
    Calls Try.prog 12 #[v] w fun e w' => ∃ v, e = .returned v ∧ RowPost (tsum Rs.flatten) w v w' :=
  (merge_any Rs v w h hlen).mono fun e w' ⟨v, R, h1, h2, h3, h4⟩ => ⟨v, h1, R, h2, h3, h4⟩
theorem equal_to (R S : List Tot) (v u : Value) (w : World) (h : TsAt w v R) (h' : TsAt w u S) :
    Calls Try.prog 29 #[v, u] w fun e w' => ∃ v, e = .returned v ∧ BoolPost (R.map encT = S.map encT) w v w' :=
  (equal_any R S v u w h h').mono fun e w' ⟨⟨b, h1, h2⟩, h3⟩ => ⟨.bool b, h1, ⟨b, rfl, h2⟩, h3⟩

set_option maxRecDepth 100000 in
set_option maxHeartbeats 4000000 in
theorem whole_any (S : Sta) (G : Gen) (M : List Tot) (mv : Value) (x y : Int) (hx : csum (vals S.es) + S.fees + S.forf = x) (hy : csum (vals G.os) = y) (w : World) (h : enSta w S) (hg : enGen w G) (hm : S.cs[179]? = some mv ∧ TsAt w mv M)
    (hl1 : S.es.length ≤ 1099511627776) (hl2 : vlen (vals S.es) ≤ 1099511627776) (hl3 : G.os.length ≤ 549755813888) (hl4 : vlen (vals G.os) ≤ 549755813888) (hl5 : M.length ≤ 549755813888) :
    Calls Try.prog 16 #[.agg S.cs.toArray, .agg G.cs.toArray] w fun e w' => (∃ b, e = .returned (.bool b) ∧ (b = true ↔ WholeIs x y S G M)) ∧ Below w.heap.size w w' := by
  obtain ⟨os0, hc, hos⟩ := hg.outs
  obtain ⟨A, c, b, o, rfl, hlc, hcm, hnil, hA, hxo⟩ := hos
  have HC := Lib.hid hc
  have HA := Lib.hid hA
  have HX := Lib.hid hxo
  have HG := Lib.hid hg
  have HS := Lib.hid h
  have hn63 : G.os.length < 9223372036854775807 := by omega
  have HL3 := Lib.hid hl3
  have HM := Lib.hid hm
  clear hm
  clear hc hA hxo hnil hlc hcm
  go_enter Try.func16, Try.ntmps16
  go_wp2_with (first
    | (refine wpList_box_box rfl 36 _ rfl S.cs rfl ?_; intro W1 hx1 hb1 hs1; simp only [Act.put, List.setIfInBounds_toArray, List.set_cons_zero, List.set_cons_succ])
    | (refine wpList_box_box rfl 72 _ rfl G.cs rfl ?_; intro W2 hx2 hb2 hs2; have HB2 := Lib.hid (hb1.trans (hb2.mono hb1.size)); have HX1 := Lib.hid (hx1.below hb2); simp only [Act.put, List.setIfInBounds_toArray, List.set_cons_zero, List.set_cons_succ])
    | (refine wpList_load_cell rfl 70 _ rfl ⟨W1.heap.size, 13, none⟩ rfl _ _ (hx2.cell HC.out) Try.underlying70 rfl ?_; simp only [Act.put, List.setIfInBounds_toArray, List.set_cons_zero, List.set_cons_succ]))
  have hbw := HB2.out
  go_loopw [5, 13] (fun v i wr => ∃ k : Nat, k ≤ G.os.length ∧ i = .int .i64 k ∧ wr.ownsRow (World.heap W2).size 51 102 v (G.os.take k).length (entsOf (G.os.take k)) ∧ Below (World.heap W2).size W2 wr) (fun _ i _ => G.os.length - (intOf i).toNat)
  case atStart => exact ⟨0, Nat.zero_le _, rfl, World.ownsRow_nil _ _ _ _, Below.refl _ _⟩
  case round =>
    obtain ⟨k, hk, rfl, hown, hB⟩ := hrel
    have HO := Lib.hid hown
    have HB := Lib.hid hB
    clear hown hB hbw
    by_cases hlt : k < G.os.length
    · have hge : G.os[k]? = some G.os[k] := List.getElem?_eq_getElem hlt
      generalize G.os[k] = e at hge
      obtain ⟨cs1, heo, hl1', hr1⟩ := HX.out k e hge
      obtain rfl := HA.out (by omega)
      have hr2 := rangeAt_below (rangeAt_below hr1 (HB2.out)) (HB.out.mono (Nat.le_refl _))
      have HE := Lib.hid heo
      have HL := Lib.hid hl1'
      have HGE := Lib.hid hge
      have hone : ∀ v ∈ cs1, v.oneCell' = true := fun v hv => heo.ent.one v (by rw [heo.same]; exact List.mem_append_right _ hv)
      have HON : Hid (∀ v ∈ cs1, v.oneCell' = true) := hone
      obtain ⟨im, zi, hi1, hi2, hi3, hi4, hi5⟩ := info_entry
      have hkl : (G.os.take k).length ≤ 549755813888 := by rw [List.length_take]; have := HL3.out; omega
      have HKL := Lib.hid hkl
      clear hr1 heo hl1' hge hone hkl
      go_wp2_with (first
        | (refine wpList_load_mid rfl 49 _ rfl b (o + k * 69) rfl _ _ hr2 Try.underlying49 rfl (by rw [HL.out]; kernel_rfl) ?_; simp only [Act.put, List.setIfInBounds_toArray, List.set_cons_zero, List.set_cons_succ])
        | (refine wpList_alloc_box rfl 49 rfl _ Try.zeroValue49 ((Value.bool false :: z32) ++ zVal ++ outTail) rfl ?_; intro W3 hx3 hb3 hs3; simp only [Act.put, List.setIfInBounds_toArray, List.set_cons_zero, List.set_cons_succ])
        | (refine wpList_store_box rfl 49 _ _ rfl _ 0 cs1 rfl rfl _ _ hx3 (by rw [HL.out]; simp [z32, zVal, outTail]) (by rw [HL.out]; kernel_rfl) HON.out ?_; intro W4 hx4 ho4; have HX4 := Lib.hid (box_laid hx4 (by rw [HL.out]; simp [z32, zVal, outTail])); have HB4 := Lib.hid (hb3.trans (ho4.below (Nat.le_refl _))); simp only [Act.put, List.setIfInBounds_toArray, List.set_cons_zero, List.set_cons_succ])
        | (refine wpList_load_mid rfl 49 _ rfl wr.heap.size 0 rfl cs1 _ HX4.out.whole Try.underlying49 rfl (by rw [HL.out]; kernel_rfl) ?_; simp only [Act.put, List.setIfInBounds_toArray, List.set_cons_zero, List.set_cons_succ])
        | (refine wpList_build rfl 51 _ rfl [(1, .agg cs1.toArray)] rfl _ (build_ent1 cs1 HL.out) ?_; rw [← HE.out.same]; simp only [Act.put, List.setIfInBounds_toArray, List.set_cons_zero, List.set_cons_succ])
        | (refine wpList_slice_one rfl _ 51 _ rfl Try.underlying28 (.agg zEnt.toArray) Try.zeroValue51 102 Try.sizeOf51 (by show zEnt.toArray.size = _; rw [List.size_toArray, zEnt_len]) (by omega) (by omega) e.cs rfl HE.out.ent.len ?_; intro W6 hx6 hb6 hs6; have HO6 := Lib.hid (HO.out.kept (below_grown (HB4.out.trans (hb6.mono HB4.out.size)) rfl none) (by cases Value.ownBlock _ <;> simp)); have HB6 := Lib.hid (HB4.out.trans (hb6.mono HB4.out.size)); simp only [Act.put, List.setIfInBounds_toArray, List.set_cons_zero, List.set_cons_succ])
        | (at_builtin; refine wpList_append_own_at _ rfl _ _ _ rfl _ _ im _ 102 176 Try.underlying28 hi1 hi2 hi4 hi5 hi3 (by omega) _ _ _ rfl HO6.out ⟨W4.heap.size, 0, none⟩ 1 1 e.cs rfl HE.out.ent.len hx6.news HE.out.ent.one (by have := HKL.out; simp only [maxLen]; omega) (by have := HKL.out; omega) (HB.out.trans (HB6.out.mono HB.out.size)).size ?_; intro v7 w7 ho7 hg7 hn7 ha7; simp only [Act.put, List.setIfInBounds_toArray, List.set_cons_zero, List.set_cons_succ]))
      refine ⟨?_, by simp [intOf]; omega⟩
      have ho9 : w7.ownsRow W2.heap.size 51 102 v7 (G.os.take (k + 1)).length (entsOf (G.os.take (k + 1))) := by
        rw [take_more HGE.out, List.length_append, entsOf_more]
        exact ho7
      have hb9 : Below W2.heap.size W2 w7 := by
        have hbw := HB.out.trans (HB6.out.mono HB.out.size)
        exact ⟨hg7.os.trans hbw.os, hg7.tape.trans hbw.tape, hg7.output.trans hbw.output, by have := hbw.size; have := hg7.size; omega, fun j hj => (hg7.block j (by have := hbw.size; omega) (fun e => by
          have := (HO6.out.lt j e.symm).1
          omega)).trans (hbw.block j hj)⟩
      first | exact ⟨k + 1, by omega, by go_num, ho9, hb9⟩ | ((repeat apply Exists.intro); exact ⟨⟨k + 1, by omega, by go_num, ho9, hb9⟩, rfl⟩)
    · have hke : k = G.os.length := by omega
      have ho := HO.out
      rw [hke, List.take_length] at ho
      have hE : EsAt wr u5 G.os := EsAt.own ho fun e he => by
        obtain ⟨i, hi⟩ := List.mem_iff_getElem?.1 he
        obtain ⟨cs, heo, _, _⟩ := HX.out i e hi
        exact stays_ent _ _ _ _ (stays_ent _ _ _ _ heo.ent HB2.out) (HB.out.mono (Nat.le_refl _))
      have hBw : Below w.heap.size w wr := HB2.out.trans (HB.out.mono HB2.out.size)
      have HE := Lib.hid hE
      have HBW := Lib.hid hBw
      have HOF := Lib.hid (of_all G.os u5 wr hE (by have := HL3.out; omega) (by omega))
      have HX1W := Lib.hid (HX1.out.below HB.out)
      clear ho hE hBw HO hk hlt HX
      go_wp2_with (first
        | (go_at_call 21; refine HOF.out.mono ?_; rintro e w5 ⟨p, sl, X, rfl, hp, hxp, hro, hto, hbo⟩; have HXP := Lib.hid hxp; have HRO := Lib.hid hro; have HTO := Lib.hid hto; have HBO := Lib.hid hbo; have HX15 := Lib.hid (HX1W.out.below hbo); have HB5 := Lib.hid (HBW.out.trans (hbo.mono HBW.out.size)); clear hxp hro hto hbo)
        | (refine wpList_load_mid rfl 36 _ rfl w.heap.size 0 rfl S.cs _ HX15.out.whole Try.underlying36 rfl (by rw [HS.out.len]; kernel_rfl) ?_; simp only [Act.put, List.setIfInBounds_toArray, List.set_cons_zero, List.set_cons_succ])
        | (go_at_call 10; refine (coins_at S (csum (vals S.es)) rfl w5 (HS.out.below HB5.out) hl1 hl2).mono ?_; rintro e w6 ⟨rfl, hb6⟩; rw [hx])
        | (refine wpList_alloc_box rfl 57 rfl _ Try.zeroValue57 (encW 0) rfl ?_; intro W7 hx7 hb7 hs7; simp only [Act.put, List.setIfInBounds_toArray, List.set_cons_zero, List.set_cons_succ])
        | (refine wpList_store_box rfl 57 _ _ rfl w6.heap.size 0 (encW x) rfl rfl (encW 0) _ hx7 (Nat.le_refl _) (by kernel_rfl) (encW_one _) ?_; intro W8 hx8 ho8; simp only [Act.put, List.setIfInBounds_toArray, List.set_cons_zero, List.set_cons_succ]))
      have hw6 : w.heap.size < w6.heap.size := by have := HX15.out.lt; have := hb6.size; omega
      have hA5 : Below w5.heap.size w5 W8 := (hb6.trans (hb7.mono hb6.size)).trans (ho8.below hb6.size)
      have HA5 := Lib.hid hA5
      have HP8 := Lib.hid (HXP.out.below hA5)
      have HX8 := Lib.hid (box_laid hx8 rfl)
      have HS8 := Lib.hid (HX15.out.below hA5)
      generalize hb9 : w6.heap.size = b9 at *
      clear hA5 hx8 ho8 hx7 hb7 hs7
      rw [hy] at HP8
      refine hw_begin (fun W => Box W p (encW y ++ [sl]) 85 ∧ Box W b9 (encW x) 57 ∧ Box W w.heap.size S.cs 36) mixed fun W hW => ?_
      have hS : Box W p (encW y ++ [sl]) 85 ∧ Box W b9 (encW x) 57 ∧ Box W w.heap.size S.cs 36 := by
        rw [hW]
        exact ⟨HP8.out.drew, HX8.out.drew, HS8.out.drew⟩
      have hB9 : Below w5.heap.size w5 W := by
        rw [hW]
        exact HA5.out.trans (((Below.refl _ _).drew).mono HA5.out.size)
      clear hW
      refine hw_take 0 (some 27) _ rfl rfl (by kernel_rfl) (by kernel_rfl) (by kernel_rfl) (fun _ _ _ _ h => h) (.pointer (some ⟨b9, 0, none⟩)) rfl (fun W _ => by go_simp) hS ?_
      simp only [Act.put, List.setIfInBounds_toArray, List.set_cons_zero, List.set_cons_succ]
      refine hw_take 1 (some 28) _ rfl rfl (by kernel_rfl) (by kernel_rfl) (by kernel_rfl) (fun _ _ _ _ h => h) (.int .i64 (hiW x)) rfl (fun W hW => run_load_op rfl rfl (run_loadVar_cell W _ _ _ _ (hW.2.1.cell rfl) Try.underlying2 rfl)) hS ?_
      simp only [Act.put, List.setIfInBounds_toArray, List.set_cons_zero, List.set_cons_succ]
      refine hw_take 2 (some 29) _ rfl rfl (by kernel_rfl) (by kernel_rfl) (by kernel_rfl) (fun _ _ _ _ h => h) (.pointer (some ⟨p, 0, none⟩)) rfl (fun W _ => by go_simp) hS ?_
      simp only [Act.put, List.setIfInBounds_toArray, List.set_cons_zero, List.set_cons_succ]
      refine hw_take 3 (some 30) _ rfl rfl (by kernel_rfl) (by kernel_rfl) (by kernel_rfl) (fun _ _ _ _ h => h) (.pointer (some ⟨p, 0, none⟩)) rfl (fun W _ => by go_simp) hS ?_
      simp only [Act.put, List.setIfInBounds_toArray, List.set_cons_zero, List.set_cons_succ]
      refine hw_take 4 (some 31) _ rfl rfl (by kernel_rfl) (by kernel_rfl) (by kernel_rfl) (fun _ _ _ _ h => h) (.pointer (some ⟨p, 0, none⟩)) rfl (fun W _ => by go_simp) hS ?_
      simp only [Act.put, List.setIfInBounds_toArray, List.set_cons_zero, List.set_cons_succ]
      refine hw_take 5 (some 32) _ rfl rfl (by kernel_rfl) (by kernel_rfl) (by kernel_rfl) (fun _ _ _ _ h => h) (.pointer (some ⟨p, 0, none⟩)) rfl (fun W _ => by go_simp) hS ?_
      simp only [Act.put, List.setIfInBounds_toArray, List.set_cons_zero, List.set_cons_succ]
      refine hw_take 6 (some 33) _ rfl rfl (by kernel_rfl) (by kernel_rfl) (by kernel_rfl) (fun _ _ _ _ h => h) (.int .i64 (hiW y)) rfl (fun W hW => run_load_op rfl rfl (run_loadVar_cell W _ _ _ _ (hW.1.cell rfl) Try.underlying2 rfl)) hS ?_
      simp only [Act.put, List.setIfInBounds_toArray, List.set_cons_zero, List.set_cons_succ]
      refine hw_take 7 (some 34) _ rfl rfl (by kernel_rfl) (by kernel_rfl) (by kernel_rfl) (fun _ _ _ _ h => h) (.bool (hiW x == hiW y)) rfl (fun W _ => by go_simp) hS ?_
      simp only [Act.put, List.setIfInBounds_toArray, List.set_cons_zero, List.set_cons_succ]
      refine hw_take 8 (some 35) _ rfl rfl (by kernel_rfl) (by kernel_rfl) (by kernel_rfl) (fun _ _ _ _ h => h) (.bool (hiW x == hiW y)) rfl (fun W _ => by go_simp) hS ?_
      simp only [Act.put, List.setIfInBounds_toArray, List.set_cons_zero, List.set_cons_succ]
      by_cases hhi : hiW x = hiW y
      · rw [show (hiW x == hiW y) = true from by simp [hhi]]
        refine hg_take 9 (some 36) _ rfl rfl (by kernel_rfl) (by kernel_rfl) (by kernel_rfl) (fun _ _ _ _ h => h) (.pointer (some ⟨b9, 1, none⟩)) (by rfl) (fun W _ => by go_simp) hS ?_
        simp only [Act.put, List.setIfInBounds_toArray, List.set_cons_zero, List.set_cons_succ]
        refine hg_take 10 (some 37) _ rfl rfl (by kernel_rfl) (by kernel_rfl) (by kernel_rfl) (fun _ _ _ _ h => h) (.int .u64 (loW x)) (by rfl) (fun W hW => run_load_op rfl rfl (run_loadVar_cell W _ _ _ _ (hW.2.1.cell rfl) Try.underlying30 rfl)) hS ?_
        simp only [Act.put, List.setIfInBounds_toArray, List.set_cons_zero, List.set_cons_succ]
        refine hg_take 11 (some 38) _ rfl rfl (by kernel_rfl) (by kernel_rfl) (by kernel_rfl) (fun _ _ _ _ h => h) (.pointer (some ⟨p, 0, none⟩)) (by rfl) (fun W _ => by go_simp) hS ?_
        simp only [Act.put, List.setIfInBounds_toArray, List.set_cons_zero, List.set_cons_succ]
        refine hg_take 12 (some 39) _ rfl rfl (by kernel_rfl) (by kernel_rfl) (by kernel_rfl) (fun _ _ _ _ h => h) (.pointer (some ⟨p, 0, none⟩)) (by rfl) (fun W _ => by go_simp) hS ?_
        simp only [Act.put, List.setIfInBounds_toArray, List.set_cons_zero, List.set_cons_succ]
        refine hg_take 13 (some 40) _ rfl rfl (by kernel_rfl) (by kernel_rfl) (by kernel_rfl) (fun _ _ _ _ h => h) (.pointer (some ⟨p, 0, none⟩)) (by rfl) (fun W _ => by go_simp) hS ?_
        simp only [Act.put, List.setIfInBounds_toArray, List.set_cons_zero, List.set_cons_succ]
        refine hg_take 14 (some 41) _ rfl rfl (by kernel_rfl) (by kernel_rfl) (by kernel_rfl) (fun _ _ _ _ h => h) (.pointer (some ⟨p, 1, none⟩)) (by rfl) (fun W _ => by go_simp) hS ?_
        simp only [Act.put, List.setIfInBounds_toArray, List.set_cons_zero, List.set_cons_succ]
        refine hg_take 15 (some 42) _ rfl rfl (by kernel_rfl) (by kernel_rfl) (by kernel_rfl) (fun _ _ _ _ h => h) (.int .u64 (loW y)) (by rfl) (fun W hW => run_load_op rfl rfl (run_loadVar_cell W _ _ _ _ (hW.1.cell rfl) Try.underlying30 rfl)) hS ?_
        simp only [Act.put, List.setIfInBounds_toArray, List.set_cons_zero, List.set_cons_succ]
        refine hg_take 16 (some 43) _ rfl rfl (by kernel_rfl) (by kernel_rfl) (by kernel_rfl) (fun _ _ _ _ h => h) (.bool (loW x == loW y)) (by rfl) (fun W _ => by go_simp) hS ?_
        simp only [Act.put, List.setIfInBounds_toArray, List.set_cons_zero, List.set_cons_succ]
        refine hw_take 17 (some 44) _ rfl rfl (by kernel_rfl) (by kernel_rfl) (by kernel_rfl) (fun _ _ _ _ h => h) (.bool (loW x == loW y)) rfl (fun W _ => by go_simp) hS ?_
        simp only [Act.put, List.setIfInBounds_toArray, List.set_cons_zero, List.set_cons_succ]
        refine hw_take 18 (some 45) _ rfl rfl (by kernel_rfl) (by kernel_rfl) (by kernel_rfl) (fun _ _ _ _ h => h) (.bool (loW x == loW y)) rfl (fun W _ => by go_simp) hS ?_
        simp only [Act.put, List.setIfInBounds_toArray, List.set_cons_zero, List.set_cons_succ]
        by_cases hlo : loW x = loW y
        · rw [show (loW x == loW y) = true from by simp [hlo]]
          have hxy : encW x = encW y := by unfold encW; rw [hhi, hlo]
          refine hg_take 19 (some 46) _ rfl rfl (by kernel_rfl) (by kernel_rfl) (by kernel_rfl) (fun _ _ _ _ h => h) (.agg S.cs.toArray) (by rfl) (fun W hW => run_load_op rfl rfl (run_loadVar_mid W _ _ _ _ _ hW.2.2.whole Try.underlying36 rfl (by rw [HS.out.len]; kernel_rfl))) hS ?_
          simp only [Act.put, List.setIfInBounds_toArray, List.set_cons_zero, List.set_cons_succ]
          refine hg_take 21 (some 48) _ rfl rfl (by kernel_rfl) (by kernel_rfl) (by kernel_rfl) (fun _ _ _ _ h => h) (.pointer (some ⟨p, 0, none⟩)) (by rfl) (fun W _ => by go_simp) hS ?_
          simp only [Act.put, List.setIfInBounds_toArray, List.set_cons_zero, List.set_cons_succ]
          refine hg_take 22 (some 49) _ rfl rfl (by kernel_rfl) (by kernel_rfl) (by kernel_rfl) (fun _ _ _ _ h => h) (.pointer (some ⟨p, 0, none⟩)) (by rfl) (fun W _ => by go_simp) hS ?_
          simp only [Act.put, List.setIfInBounds_toArray, List.set_cons_zero, List.set_cons_succ]
          refine hg_take 23 (some 50) _ rfl rfl (by kernel_rfl) (by kernel_rfl) (by kernel_rfl) (fun _ _ _ _ h => h) (.pointer (some ⟨p, 2, none⟩)) (by rfl) (fun W _ => by go_simp) hS ?_
          simp only [Act.put, List.setIfInBounds_toArray, List.set_cons_zero, List.set_cons_succ]
          refine hg_take 24 (some 51) _ rfl rfl (by kernel_rfl) (by kernel_rfl) (by kernel_rfl) (fun _ _ _ _ h => h) sl (by rfl) (fun W hW => run_load_op rfl rfl (run_loadVar_cell W _ _ _ _ (hW.1.cell rfl) Try.underlying33 rfl)) hS ?_
          simp only [Act.put, List.setIfInBounds_toArray, List.set_cons_zero, List.set_cons_succ]
          refine hg_take 25 (some 52) _ rfl rfl (by kernel_rfl) (by kernel_rfl) (by kernel_rfl) (fun _ _ _ _ h => h) (.pointer (some ⟨w.heap.size, 179, none⟩)) (by rfl) (fun W _ => by go_simp) hS ?_
          simp only [Act.put, List.setIfInBounds_toArray, List.set_cons_zero, List.set_cons_succ]
          refine hg_take 26 (some 53) _ rfl rfl (by kernel_rfl) (by kernel_rfl) (by kernel_rfl) (fun _ _ _ _ h => h) mv (by rfl) (fun W hW => run_load_op rfl rfl (run_loadVar_cell W _ _ _ _ (hW.2.2.cell HM.out.1) Try.underlying33 rfl)) hS ?_
          simp only [Act.put, List.setIfInBounds_toArray, List.set_cons_zero, List.set_cons_succ]
          obtain ⟨c1, A1, rfl⟩ : ∃ c1 A1, sl = .slice A1 X.length c1 := by
            obtain ⟨A1, c1, e, _⟩ := own_form HRO.out
            exact ⟨c1, A1, e⟩
          obtain ⟨A2, c2, rfl⟩ := HM.out.2.form
          have hX5 : TsAt w5 (.slice A1 X.length c1) X := TsAt.own HRO.out
          have hM5 : TsAt w5 (.slice A2 M.length c2) M := SlAt.below stays_tot HM.out.2 HB5.out
          have hxl : X.length ≤ 549755813888 := Nat.le_trans (told_len HTO.out) hl4
          have hS5 : enSta w5 S := HS.out.below HB5.out
          have HXM := Lib.hid (And.intro hX5 hM5)
          have HXL := Lib.hid hxl
          have HS5 := Lib.hid hS5
          have HXY := Lib.hid hxy
          clear hX5 hM5 hxl hS5 hxy
          refine hg_call_value 20 27 (some 47) (some 54) _ _ rfl rfl (by kernel_rfl) rfl rfl (by rfl) (by rfl) 13 #[.agg S.cs.toArray] (RowPost (vsum (vals S.es)) W) (by go_simp) (assets_at S W (HS5.out.below hB9) hl1 hl2) (.slice (some ⟨W.heap.size, 0, none⟩) 2 2) (W.alloc (.cells #[.slice A1 X.length c1, .slice A2 M.length c2] 33)) (by go_simp) ?_ ?_
          · rintro u w6' ⟨R, hown, hbR, hTR⟩
            have hS6 := And.intro (hS.1.below hbR) (And.intro (hS.2.1.below hbR) (hS.2.2.below hbR))
            refine ⟨hS6, ?_⟩
            simp only [Act.put, List.setIfInBounds_toArray, List.set_cons_zero, List.set_cons_succ]
            have hba : Below w6'.heap.size w6' (w6'.alloc (.cells #[.slice A1 X.length c1, .slice A2 M.length c2] 33)) := (Below.refl _ _).alloc (Nat.le_refl _) _
            have hS7 := And.intro (hS6.1.below hba) (And.intro (hS6.2.1.below hba) (hS6.2.2.below hba))
            refine hg_value 27 (some 54) _ rfl (by kernel_rfl) rfl (by rfl) (.slice (some ⟨w6'.heap.size, 0, none⟩) 2 2) (w6'.alloc (.cells #[.slice A1 X.length c1, .slice A2 M.length c2] 33)) (by go_simp) hS7 ?_
            simp only [Act.put, List.setIfInBounds_toArray, List.set_cons_zero, List.set_cons_succ]
            have hB7 : Below w5.heap.size w5 (w6'.alloc (.cells #[.slice A1 X.length c1, .slice A2 M.length c2] 33)) := hB9.trans ((hbR.trans (hba.mono hbR.size)).mono hB9.size)
            have hU7 : TsAt (w6'.alloc (.cells #[.slice A1 X.length c1, .slice A2 M.length c2] 33)) u R := (TsAt.own hown).below stays_tot hba
            have hX7 : Box (w6'.alloc (.cells #[.slice A1 X.length c1, .slice A2 M.length c2] 33)) w6'.heap.size [.slice A1 X.length c1, .slice A2 M.length c2] 33 := Box.new _ _ _
            clear hba hS6 hown hbR hS hB9
            generalize hb7 : w6'.heap.size = b7 at *
            generalize hw7 : w6'.alloc (.cells #[.slice A1 X.length c1, .slice A2 M.length c2] 33) = W7 at *
            clear hw7
            refine hg_call 28 (some 55) _ rfl (by kernel_rfl) rfl (by rfl) 12 #[.slice (some ⟨b7, 0, none⟩) 2 2] (RowPost (tsum [X, M].flatten) W7) (by go_simp) (merge_to [X, M] _ W7 (rs_two hX7 (SlAt.below stays_tot HXM.out.1 hB7) (SlAt.below stays_tot HXM.out.2 hB7)) (by have := HXL.out; simp [rlen]; omega)) ?_
            rintro v8 W8' ⟨Y, hownY, hbY, hTY⟩
            have hS8 := And.intro (hS7.1.below hbY) (And.intro (hS7.2.1.below hbY) (hS7.2.2.below hbY))
            refine ⟨hS8, ?_⟩
            simp only [Act.put, List.setIfInBounds_toArray, List.set_cons_zero, List.set_cons_succ]
            have hB8 := hB7.trans (hbY.mono hB7.size)
            refine hg_call 29 (some 56) _ rfl (by kernel_rfl) rfl (by rfl) 29 #[u, v8] (BoolPost (R.map encT = Y.map encT) W8') (by go_simp) (equal_to R Y u v8 W8' (SlAt.below stays_tot hU7 hbY) (TsAt.own hownY)) ?_
            rintro v9 W9 ⟨⟨bb, rfl, hbb⟩, hb9'⟩
            have hS9 := And.intro (hS8.1.below hb9') (And.intro (hS8.2.1.below hb9') (hS8.2.2.below hb9'))
            refine ⟨hS9, ?_⟩
            simp only [Act.put, List.setIfInBounds_toArray, List.set_cons_zero, List.set_cons_succ]
            have hB9' := hB8.trans (hb9'.mono hB8.size)
            have HBB := Lib.hid hbb
            clear hbb
            refine hw_take 30 (some 57) _ rfl rfl (by kernel_rfl) (by kernel_rfl) (by kernel_rfl) (fun _ _ _ _ h => h) (.bool bb) rfl (fun W _ => by go_simp) hS9 ?_
            simp only [Act.put, List.setIfInBounds_toArray, List.set_cons_zero, List.set_cons_succ]
            refine hw_take 31 (some 4) _ rfl rfl (by kernel_rfl) (by kernel_rfl) (by kernel_rfl) (fun _ _ _ _ h => h) (.bool bb) rfl (fun W _ => by go_simp) hS9 ?_
            simp only [Act.put, List.setIfInBounds_toArray, List.set_cons_zero, List.set_cons_succ]
            refine hw_done (by kernel_rfl) ?_
            go_wp2
            go_ret
            exact ⟨⟨bb, rfl, whole_iff hTR HTO.out hTY HXY.out bb HBB.out⟩, HB5.out.trans (hB9'.mono HB5.out.size)⟩
          · have hba : Below W.heap.size W (W.alloc (.cells #[.slice A1 X.length c1, .slice A2 M.length c2] 33)) := (Below.refl _ _).alloc (Nat.le_refl _) _
            have hX6 : Box (W.alloc (.cells #[.slice A1 X.length c1, .slice A2 M.length c2] 33)) W.heap.size [.slice A1 X.length c1, .slice A2 M.length c2] 33 := Box.new _ _ _
            have hS6 := And.intro (hS.1.below hba) (And.intro (hS.2.1.below hba) (hS.2.2.below hba))
            have hB6 := hB9.trans (hba.mono hB9.size)
            generalize hw6' : W.alloc (.cells #[.slice A1 X.length c1, .slice A2 M.length c2] 33) = W6' at *
            generalize hb7 : W.heap.size = b7 at *
            clear hw6' hS hB9
            refine ⟨hS6, ?_⟩
            simp only [Act.put, List.setIfInBounds_toArray, List.set_cons_zero, List.set_cons_succ]
            refine hg_call 20 (some 47) _ rfl (by kernel_rfl) rfl (by rfl) 13 #[.agg S.cs.toArray] (RowPost (vsum (vals S.es)) W6') (by go_simp) (assets_at S W6' (HS5.out.below hB6) hl1 hl2) ?_
            rintro u W7 ⟨R, hown, hbR, hTR⟩
            have hS7 := And.intro (hS6.1.below hbR) (And.intro (hS6.2.1.below hbR) (hS6.2.2.below hbR))
            refine ⟨hS7, ?_⟩
            simp only [Act.put, List.setIfInBounds_toArray, List.set_cons_zero, List.set_cons_succ]
            have hB7 : Below w5.heap.size w5 W7 := hB6.trans (hbR.mono hB6.size)
            have hU7 : TsAt W7 u R := TsAt.own hown
            have hX7 := hX6.below hbR
            clear hba hS6 hown hbR hX6 hB6
            refine hg_call 28 (some 55) _ rfl (by kernel_rfl) rfl (by rfl) 12 #[.slice (some ⟨b7, 0, none⟩) 2 2] (RowPost (tsum [X, M].flatten) W7) (by go_simp) (merge_to [X, M] _ W7 (rs_two hX7 (SlAt.below stays_tot HXM.out.1 hB7) (SlAt.below stays_tot HXM.out.2 hB7)) (by have := HXL.out; simp [rlen]; omega)) ?_
            rintro v8 W8' ⟨Y, hownY, hbY, hTY⟩
            have hS8 := And.intro (hS7.1.below hbY) (And.intro (hS7.2.1.below hbY) (hS7.2.2.below hbY))
            refine ⟨hS8, ?_⟩
            simp only [Act.put, List.setIfInBounds_toArray, List.set_cons_zero, List.set_cons_succ]
            have hB8 := hB7.trans (hbY.mono hB7.size)
            refine hg_call 29 (some 56) _ rfl (by kernel_rfl) rfl (by rfl) 29 #[u, v8] (BoolPost (R.map encT = Y.map encT) W8') (by go_simp) (equal_to R Y u v8 W8' (SlAt.below stays_tot hU7 hbY) (TsAt.own hownY)) ?_
            rintro v9 W9 ⟨⟨bb, rfl, hbb⟩, hb9'⟩
            have hS9 := And.intro (hS8.1.below hb9') (And.intro (hS8.2.1.below hb9') (hS8.2.2.below hb9'))
            refine ⟨hS9, ?_⟩
            simp only [Act.put, List.setIfInBounds_toArray, List.set_cons_zero, List.set_cons_succ]
            have hB9' := hB8.trans (hb9'.mono hB8.size)
            have HBB := Lib.hid hbb
            clear hbb
            refine hw_take 30 (some 57) _ rfl rfl (by kernel_rfl) (by kernel_rfl) (by kernel_rfl) (fun _ _ _ _ h => h) (.bool bb) rfl (fun W _ => by go_simp) hS9 ?_
            simp only [Act.put, List.setIfInBounds_toArray, List.set_cons_zero, List.set_cons_succ]
            refine hw_take 31 (some 4) _ rfl rfl (by kernel_rfl) (by kernel_rfl) (by kernel_rfl) (fun _ _ _ _ h => h) (.bool bb) rfl (fun W _ => by go_simp) hS9 ?_
            simp only [Act.put, List.setIfInBounds_toArray, List.set_cons_zero, List.set_cons_succ]
            refine hw_done (by kernel_rfl) ?_
            go_wp2
            go_ret
            exact ⟨⟨bb, rfl, whole_iff hTR HTO.out hTY HXY.out bb HBB.out⟩, HB5.out.trans (hB9'.mono HB5.out.size)⟩
        · rw [show (loW x == loW y) = false from by simp [hlo]]
          have hxy : encW x ≠ encW y := fun e => hlo (encW_words e).2
          refine hg_off 19 (some 46) _ rfl rfl (by kernel_rfl) (by kernel_rfl) (by kernel_rfl) (fun _ _ _ _ h => h) (by rfl) hS ?_
          simp only [Act.put, List.setIfInBounds_toArray, List.set_cons_zero, List.set_cons_succ]
          refine hg_off 20 (some 47) _ rfl rfl (by kernel_rfl) (by kernel_rfl) (by kernel_rfl) (fun _ _ _ _ h => h) (by rfl) hS ?_
          simp only [Act.put, List.setIfInBounds_toArray, List.set_cons_zero, List.set_cons_succ]
          refine hg_off 21 (some 48) _ rfl rfl (by kernel_rfl) (by kernel_rfl) (by kernel_rfl) (fun _ _ _ _ h => h) (by rfl) hS ?_
          simp only [Act.put, List.setIfInBounds_toArray, List.set_cons_zero, List.set_cons_succ]
          refine hg_off 22 (some 49) _ rfl rfl (by kernel_rfl) (by kernel_rfl) (by kernel_rfl) (fun _ _ _ _ h => h) (by rfl) hS ?_
          simp only [Act.put, List.setIfInBounds_toArray, List.set_cons_zero, List.set_cons_succ]
          refine hg_off 23 (some 50) _ rfl rfl (by kernel_rfl) (by kernel_rfl) (by kernel_rfl) (fun _ _ _ _ h => h) (by rfl) hS ?_
          simp only [Act.put, List.setIfInBounds_toArray, List.set_cons_zero, List.set_cons_succ]
          refine hg_off 24 (some 51) _ rfl rfl (by kernel_rfl) (by kernel_rfl) (by kernel_rfl) (fun _ _ _ _ h => h) (by rfl) hS ?_
          simp only [Act.put, List.setIfInBounds_toArray, List.set_cons_zero, List.set_cons_succ]
          refine hg_off 25 (some 52) _ rfl rfl (by kernel_rfl) (by kernel_rfl) (by kernel_rfl) (fun _ _ _ _ h => h) (by rfl) hS ?_
          simp only [Act.put, List.setIfInBounds_toArray, List.set_cons_zero, List.set_cons_succ]
          refine hg_off 26 (some 53) _ rfl rfl (by kernel_rfl) (by kernel_rfl) (by kernel_rfl) (fun _ _ _ _ h => h) (by rfl) hS ?_
          simp only [Act.put, List.setIfInBounds_toArray, List.set_cons_zero, List.set_cons_succ]
          refine hg_off 27 (some 54) _ rfl rfl (by kernel_rfl) (by kernel_rfl) (by kernel_rfl) (fun _ _ _ _ h => h) (by rfl) hS ?_
          simp only [Act.put, List.setIfInBounds_toArray, List.set_cons_zero, List.set_cons_succ]
          refine hg_off 28 (some 55) _ rfl rfl (by kernel_rfl) (by kernel_rfl) (by kernel_rfl) (fun _ _ _ _ h => h) (by rfl) hS ?_
          simp only [Act.put, List.setIfInBounds_toArray, List.set_cons_zero, List.set_cons_succ]
          refine hg_off 29 (some 56) _ rfl rfl (by kernel_rfl) (by kernel_rfl) (by kernel_rfl) (fun _ _ _ _ h => h) (by rfl) hS ?_
          simp only [Act.put, List.setIfInBounds_toArray, List.set_cons_zero, List.set_cons_succ]
          refine hw_take 30 (some 57) _ rfl rfl (by kernel_rfl) (by kernel_rfl) (by kernel_rfl) (fun _ _ _ _ h => h) (.bool false) rfl (fun W _ => by go_simp) hS ?_
          simp only [Act.put, List.setIfInBounds_toArray, List.set_cons_zero, List.set_cons_succ]
          refine hw_take 31 (some 4) _ rfl rfl (by kernel_rfl) (by kernel_rfl) (by kernel_rfl) (fun _ _ _ _ h => h) (.bool false) rfl (fun W _ => by go_simp) hS ?_
          simp only [Act.put, List.setIfInBounds_toArray, List.set_cons_zero, List.set_cons_succ]
          refine hw_done (by kernel_rfl) ?_
          go_wp2
          go_ret
          exact ⟨⟨false, rfl, whole_no hxy⟩, HB5.out.trans (hB9.mono HB5.out.size)⟩
      · rw [show (hiW x == hiW y) = false from by simp [hhi]]
        have hxy : encW x ≠ encW y := fun e => hhi (encW_words e).1
        refine hg_off 9 (some 36) _ rfl rfl (by kernel_rfl) (by kernel_rfl) (by kernel_rfl) (fun _ _ _ _ h => h) (by rfl) hS ?_
        simp only [Act.put, List.setIfInBounds_toArray, List.set_cons_zero, List.set_cons_succ]
        refine hg_off 10 (some 37) _ rfl rfl (by kernel_rfl) (by kernel_rfl) (by kernel_rfl) (fun _ _ _ _ h => h) (by rfl) hS ?_
        simp only [Act.put, List.setIfInBounds_toArray, List.set_cons_zero, List.set_cons_succ]
        refine hg_off 11 (some 38) _ rfl rfl (by kernel_rfl) (by kernel_rfl) (by kernel_rfl) (fun _ _ _ _ h => h) (by rfl) hS ?_
        simp only [Act.put, List.setIfInBounds_toArray, List.set_cons_zero, List.set_cons_succ]
        refine hg_off 12 (some 39) _ rfl rfl (by kernel_rfl) (by kernel_rfl) (by kernel_rfl) (fun _ _ _ _ h => h) (by rfl) hS ?_
        simp only [Act.put, List.setIfInBounds_toArray, List.set_cons_zero, List.set_cons_succ]
        refine hg_off 13 (some 40) _ rfl rfl (by kernel_rfl) (by kernel_rfl) (by kernel_rfl) (fun _ _ _ _ h => h) (by rfl) hS ?_
        simp only [Act.put, List.setIfInBounds_toArray, List.set_cons_zero, List.set_cons_succ]
        refine hg_off 14 (some 41) _ rfl rfl (by kernel_rfl) (by kernel_rfl) (by kernel_rfl) (fun _ _ _ _ h => h) (by rfl) hS ?_
        simp only [Act.put, List.setIfInBounds_toArray, List.set_cons_zero, List.set_cons_succ]
        refine hg_off 15 (some 42) _ rfl rfl (by kernel_rfl) (by kernel_rfl) (by kernel_rfl) (fun _ _ _ _ h => h) (by rfl) hS ?_
        simp only [Act.put, List.setIfInBounds_toArray, List.set_cons_zero, List.set_cons_succ]
        refine hg_off 16 (some 43) _ rfl rfl (by kernel_rfl) (by kernel_rfl) (by kernel_rfl) (fun _ _ _ _ h => h) (by rfl) hS ?_
        simp only [Act.put, List.setIfInBounds_toArray, List.set_cons_zero, List.set_cons_succ]
        refine hw_take 17 (some 44) _ rfl rfl (by kernel_rfl) (by kernel_rfl) (by kernel_rfl) (fun _ _ _ _ h => h) (.bool false) rfl (fun W _ => by go_simp) hS ?_
        simp only [Act.put, List.setIfInBounds_toArray, List.set_cons_zero, List.set_cons_succ]
        refine hw_take 18 (some 45) _ rfl rfl (by kernel_rfl) (by kernel_rfl) (by kernel_rfl) (fun _ _ _ _ h => h) (.bool false) rfl (fun W _ => by go_simp) hS ?_
        simp only [Act.put, List.setIfInBounds_toArray, List.set_cons_zero, List.set_cons_succ]
        refine hg_off 19 (some 46) _ rfl rfl (by kernel_rfl) (by kernel_rfl) (by kernel_rfl) (fun _ _ _ _ h => h) (by rfl) hS ?_
        simp only [Act.put, List.setIfInBounds_toArray, List.set_cons_zero, List.set_cons_succ]
        refine hg_off 20 (some 47) _ rfl rfl (by kernel_rfl) (by kernel_rfl) (by kernel_rfl) (fun _ _ _ _ h => h) (by rfl) hS ?_
        simp only [Act.put, List.setIfInBounds_toArray, List.set_cons_zero, List.set_cons_succ]
        refine hg_off 21 (some 48) _ rfl rfl (by kernel_rfl) (by kernel_rfl) (by kernel_rfl) (fun _ _ _ _ h => h) (by rfl) hS ?_
        simp only [Act.put, List.setIfInBounds_toArray, List.set_cons_zero, List.set_cons_succ]
        refine hg_off 22 (some 49) _ rfl rfl (by kernel_rfl) (by kernel_rfl) (by kernel_rfl) (fun _ _ _ _ h => h) (by rfl) hS ?_
        simp only [Act.put, List.setIfInBounds_toArray, List.set_cons_zero, List.set_cons_succ]
        refine hg_off 23 (some 50) _ rfl rfl (by kernel_rfl) (by kernel_rfl) (by kernel_rfl) (fun _ _ _ _ h => h) (by rfl) hS ?_
        simp only [Act.put, List.setIfInBounds_toArray, List.set_cons_zero, List.set_cons_succ]
        refine hg_off 24 (some 51) _ rfl rfl (by kernel_rfl) (by kernel_rfl) (by kernel_rfl) (fun _ _ _ _ h => h) (by rfl) hS ?_
        simp only [Act.put, List.setIfInBounds_toArray, List.set_cons_zero, List.set_cons_succ]
        refine hg_off 25 (some 52) _ rfl rfl (by kernel_rfl) (by kernel_rfl) (by kernel_rfl) (fun _ _ _ _ h => h) (by rfl) hS ?_
        simp only [Act.put, List.setIfInBounds_toArray, List.set_cons_zero, List.set_cons_succ]
        refine hg_off 26 (some 53) _ rfl rfl (by kernel_rfl) (by kernel_rfl) (by kernel_rfl) (fun _ _ _ _ h => h) (by rfl) hS ?_
        simp only [Act.put, List.setIfInBounds_toArray, List.set_cons_zero, List.set_cons_succ]
        refine hg_off 27 (some 54) _ rfl rfl (by kernel_rfl) (by kernel_rfl) (by kernel_rfl) (fun _ _ _ _ h => h) (by rfl) hS ?_
        simp only [Act.put, List.setIfInBounds_toArray, List.set_cons_zero, List.set_cons_succ]
        refine hg_off 28 (some 55) _ rfl rfl (by kernel_rfl) (by kernel_rfl) (by kernel_rfl) (fun _ _ _ _ h => h) (by rfl) hS ?_
        simp only [Act.put, List.setIfInBounds_toArray, List.set_cons_zero, List.set_cons_succ]
        refine hg_off 29 (some 56) _ rfl rfl (by kernel_rfl) (by kernel_rfl) (by kernel_rfl) (fun _ _ _ _ h => h) (by rfl) hS ?_
        simp only [Act.put, List.setIfInBounds_toArray, List.set_cons_zero, List.set_cons_succ]
        refine hw_take 30 (some 57) _ rfl rfl (by kernel_rfl) (by kernel_rfl) (by kernel_rfl) (fun _ _ _ _ h => h) (.bool false) rfl (fun W _ => by go_simp) hS ?_
        simp only [Act.put, List.setIfInBounds_toArray, List.set_cons_zero, List.set_cons_succ]
        refine hw_take 31 (some 4) _ rfl rfl (by kernel_rfl) (by kernel_rfl) (by kernel_rfl) (fun _ _ _ _ h => h) (.bool false) rfl (fun W _ => by go_simp) hS ?_
        simp only [Act.put, List.setIfInBounds_toArray, List.set_cons_zero, List.set_cons_succ]
        refine hw_done (by kernel_rfl) ?_
        go_wp2
        go_ret
        exact ⟨⟨false, rfl, whole_no hxy⟩, HB5.out.trans (hB9.mono HB5.out.size)⟩
end Go.Proofs.Ytjmkkndglmapaaa
