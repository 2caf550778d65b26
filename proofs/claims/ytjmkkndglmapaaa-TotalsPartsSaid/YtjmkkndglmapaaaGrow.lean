/- slices.Grow and slices.Concat at rows of totals. -/
import Derived.Test.YtjmkkndglmapaaaAcc
import Derived.Laws.AppendOwnNone
import Derived.Shelf.Spec.SlicesGrow
import Derived.Ground.Names8Prog
set_option linter.unusedSimpArgs false
set_option linter.unusedVariables false
namespace Go.Proofs.Ytjmkkndglmapaaa
open Go.RowKit Go.Shelf Go.Lib Go.Sort Go.WideShapes Go.ChangeShapes

def growRen : Go.Shelf.Ren := ⟨fun | 4 => 34 | n => n, fun | 0 => 0 | 3 => 3 | 4 => 4 | 9 => 9 | 20 => 20 | 22 => 33 | 25 => 88 | n => n, fun | n => n⟩
theorem growTotals : Go.Proofs.Lays8.n4 Try.prog growRen := {
  mixed := by kernel_rfl
  f4 := ⟨Try.f34.name, by decide, Try.func34.trans (congrArg some (by kernel_rfl))⟩
  t0 := Try.underlying0
  a0 := Try.isAgg0
  z0 := Try.sizeOf0
  v0 := Try.zeroValue0
  t3 := Try.underlying3
  a3 := Try.isAgg3
  z3 := Try.sizeOf3
  v3 := Try.zeroValue3
  t4 := Try.underlying4
  a4 := Try.isAgg4
  z4 := Try.sizeOf4
  v4 := Try.zeroValue4
  t9 := Try.underlying9
  a9 := Try.isAgg9
  z9 := Try.sizeOf9
  v9 := Try.zeroValue9
  t20 := Try.underlying20
  a20 := Try.isAgg20
  z20 := Try.sizeOf20
  v20 := Try.zeroValue20
  t22 := Try.underlying33
  a22 := Try.isAgg33
  z22 := Try.sizeOf33
  v22 := Try.zeroValue33 }

theorem zeroCells_size (z : Array Value) (n : Nat) (h : z.size = 35) : (Builtin.zeroCells z n).size = n * 35 := by
  unfold Builtin.zeroCells
  simp [h]

theorem grow_any (n : Nat) (hn : n ≤ 1099511627776) (w : World) :
    Calls Try.prog 34 #[.slice none 0 0, .int .i64 n] w fun e w' => ∃ v, e = .returned v ∧ w'.ownsRow w.heap.size 88 35 v 0 [] ∧ Below w.heap.size w w' := by
  obtain ⟨im, hi1, hi2, hi3, hi4⟩ := info_total
  by_cases h0 : n = 0
  · subst h0
    refine (Any8.slices_Grow_room growTotals none 0 0 0 w (Nat.le_refl _) (by omega) (by omega) (Nat.le_refl _)).mono fun e w' ⟨h1, h2⟩ => ?_
    subst h2
    exact ⟨_, h1, World.ownsRow_nil _ _ _ _, Below.refl _ _⟩
  · refine (Any8.slices_Grow_grow growTotals im (.agg zTotal.toArray) hi1 hi2 (by omega) none 0 0 n [] w (Nat.le_refl _) (by omega) (by rw [hi4]; omega) (by omega) (by simp) (fun _ => rfl) (fun _ h => by cases h)).mono fun e w' ⟨h1, h2⟩ => ?_
    subst h2
    have hge := grownCap_ge w (0 + n) 0 88
    have hle := grownCap_le_maxLen w (0 + n) 0 88 (by simp only [maxLen]; omega)
    have hz : (Value.cells (.agg zTotal.toArray)).size = 35 := by simp [Value.cells, zTotal]
    have := World.ownsRow_made (e := 88) (size := 35) (base := w.heap.size) w.drew (([] : List Value).toArray ++ Builtin.zeroCells (Value.cells (.agg zTotal.toArray)) (0 + n - 0) ++ Builtin.zeroCells (Value.cells (.agg zTotal.toArray)) (grownCap w (0 + n) 0 88 - (0 + n))) (grownCap w (0 + n) 0 88) (Nat.le_refl _) hle (by
      rw [Array.size_append, Array.size_append, zeroCells_size _ _ hz, zeroCells_size _ _ hz]
      show 0 + _ + _ = _
      generalize grownCap w (0 + n) 0 88 = g at *
      omega)
    exact ⟨_, h1, this, ((Below.refl _ w).drew).alloc (Nat.le_refl _) _⟩

def rlen (Rs : List (List Tot)) : Nat := (Rs.map List.length).sum
theorem rlen_more {Rs : List (List Tot)} {i : Nat} {R : List Tot} (h : Rs[i]? = some R) : rlen (Rs.take (i + 1)) = rlen (Rs.take i) + R.length := by
  unfold rlen
  rw [take_more h]
  simp
theorem rlen_le (Rs : List (List Tot)) (i : Nat) : rlen (Rs.take i) ≤ rlen Rs := by
  have e : rlen Rs = rlen (Rs.take i) + rlen (Rs.drop i) := by
    unfold rlen
    rw [← List.sum_append, ← List.map_append, List.take_append_drop]
  omega
theorem flat_more {Rs : List (List Tot)} {i : Nat} {R : List Tot} (h : Rs[i]? = some R) : (Rs.take (i + 1)).flatten = (Rs.take i).flatten ++ R := by
  rw [take_more h]
  simp
theorem flatten_len (Rs : List (List Tot)) : Rs.flatten.length = rlen Rs := by
  unfold rlen
  rw [List.length_flatten]

theorem news_of {w : World} {R : List Tot} {ad : Addr} {b o : Nat} (hA : 0 < R.length → some ad = some (⟨b, o, none⟩ : Addr)) (hx : ∀ i x, R[i]? = some x → ∃ cs, enTot w x cs ∧ cs.length = 35 ∧ w.rangeAt b (o + i * 35) cs) :
    ∀ j u, (R.flatMap encT)[j]? = some u → w.cell? (ad.add j) = some u := fun j u hu => by
  have hj : j < (R.flatMap encT).length := (List.getElem?_eq_some_iff.1 hu).1
  rw [flat_len] at hj
  have h1 := hA (by omega)
  injection h1 with h1
  subst h1
  rw [flat_get] at hu
  obtain ⟨t, ht, hv⟩ := Option.bind_eq_some_iff.1 hu
  obtain ⟨cs, rfl, _, hr⟩ := hx _ _ ht
  have h2 := hr _ _ hv
  have e : o + j / 35 * 35 + j % 35 = o + j := by omega
  rw [e] at h2
  by_cases h0 : j = 0
  · subst h0
    simpa [Addr.add] using h2
  · simpa [Addr.add, h0] using h2

set_option maxRecDepth 100000 in
set_option maxHeartbeats 4000000 in
theorem concat_any (Rs : List (List Tot)) (v : Value) (w : World) (h : RsAt w v Rs) (hlen : rlen Rs ≤ 1099511627776) :
    Calls Try.prog 25 #[v] w fun e w' => ∃ sl, e = .returned sl ∧ w'.ownsRow w.heap.size 88 35 sl Rs.flatten.length (Rs.flatten.flatMap encT) ∧ Below w.heap.size w w' := by
  obtain ⟨A, c, b, o, rfl, hlc, hcm, -, hA, hx⟩ := h
  have Hlen := Lib.hid hlen
  have HA := Lib.hid hA
  have HX := Lib.hid hx
  have Hlc := Lib.hid hlc
  have Hcm := Lib.hid hcm
  clear hlen hA hx hlc hcm
  go_enter Try.func25, Try.ntmps25
  go_wp2
  go_loopw [3, 11] (fun t i wr => ∃ k : Nat, k ≤ Rs.length ∧ i = .int .i64 k ∧ t = .int .i64 (rlen (Rs.take k) : Nat) ∧ w = wr) (fun _ i _ => Rs.length - (intOf i).toNat)
  case atStart => exact ⟨0, Nat.zero_le _, rfl, rfl, rfl⟩
  case round =>
    obtain ⟨k, hk, rfl, rfl, rfl⟩ := hrel
    by_cases hlt : k < Rs.length
    · have hg : Rs[k]? = some Rs[k] := List.getElem?_eq_getElem hlt
      generalize Rs[k] = R at hg
      obtain ⟨cs1, ⟨sl, rfl, hts⟩, hl1, hr1⟩ := HX.out k R hg
      obtain ⟨A2, c2, b2, o2, rfl, hlc2, hcm2, -, hA2, hx2⟩ := hts
      obtain rfl := HA.out (by omega)
      have hc1 : w.cell? ⟨b, o + k, none⟩ = some (.slice A2 R.length c2) := by
        have := hr1 0 _ rfl
        rwa [Nat.mul_one, Nat.add_zero] at this
      have hm := rlen_more hg
      have hm2 := rlen_le Rs (k + 1)
      have Hm := Lib.hid hm
      have hkn : k < 9223372036854775807 := by have := Hlc.out; have := Hcm.out; simp only [maxLen] at this; omega
      have hb1 : rlen (Rs.take k) + R.length ≤ 1099511627776 := by have := Hlen.out; omega
      have HC1 := Lib.hid hc1
      clear hr1 hl1 hx2 hA2 hg hm hm2 hc1
      generalize rlen (Rs.take k) = q at *
      generalize R.length = z at *
      go_wp2_with (refine wpList_load_cell rfl 33 _ rfl ⟨b, o + k, none⟩ rfl _ _ HC1.out Try.underlying33 rfl ?_; simp only [Act.put, List.setIfInBounds_toArray, List.set_cons_zero, List.set_cons_succ])
      refine ⟨?_, by simp [intOf]; omega⟩
      first | exact ⟨k + 1, by omega, by go_num, (by rw [Hm.out]; go_num), trivial⟩ | ((repeat apply Exists.intro); exact ⟨⟨k + 1, by omega, by go_num, (by rw [Hm.out]; go_num), trivial⟩, rfl⟩)
    · have hke : k = Rs.length := by omega
      subst hke
      rw [List.take_length]
      have HG := Lib.hid (grow_any (rlen Rs) Hlen.out w)
      go_wp2_with (go_at_call 34; refine HG.out.mono ?_; rintro e w1 ⟨v1, rfl, ho1, hb1⟩)
      clear HG
      clear hk hlt
      go_loopw [6, 27] (fun v i wq => ∃ k : Nat, k ≤ Rs.length ∧ i = .int .i64 k ∧ wq.ownsRow (World.heap w).size 88 35 v (Rs.take k).flatten.length ((Rs.take k).flatten.flatMap encT) ∧ Below (World.heap w).size w wq) (fun _ i _ => Rs.length - (intOf i).toNat)
      case atStart => exact ⟨0, Nat.zero_le _, rfl, ho1, hb1⟩
      case round =>
        obtain ⟨k, hk, rfl, hown, hB⟩ := hrel
        have HO := Lib.hid hown
        have HB := Lib.hid hB
        clear ho1 hb1 hown hB
        by_cases hlt : k < Rs.length
        · have hg : Rs[k]? = some Rs[k] := List.getElem?_eq_getElem hlt
          generalize Rs[k] = R at hg
          obtain ⟨cs1, ⟨sl, rfl, hts⟩, hl1, hr1⟩ := HX.out k R hg
          obtain ⟨A2, c2, b2, o2, rfl, hlc2, hcm2, hnil2, hA2, hx2⟩ := hts
          obtain rfl := HA.out (by omega)
          have hc1 : wr.cell? ⟨b, o + k, none⟩ = some (.slice A2 R.length c2) := by
            have := rangeAt_below hr1 HB.out 0 _ rfl
            rwa [Nat.mul_one, Nat.add_zero] at this
          have hkn : k < 9223372036854775807 := by have := Hlc.out; have := Hcm.out; simp only [maxLen] at this; omega
          have hle : (Rs.take k).flatten.length + R.length ≤ 1099511627776 := by
            rw [flatten_len]
            have := rlen_more hg
            have := rlen_le Rs (k + 1)
            have := Hlen.out
            omega
          have HF := Lib.hid (flat_more hg)
          have HLE := Lib.hid hle
          have HC1 := Lib.hid hc1
          clear hr1 hl1 hg hc1 hle
          obtain ⟨im, hi1, hi2, hi3, hi4⟩ := info_total
          by_cases hA : A2 = none
          · have hc0 := hnil2 hA
            subst hA
            subst hc0
            have hR0 : R = [] := List.eq_nil_of_length_eq_zero (by omega)
            subst hR0
            go_wp2_with (first
              | (refine wpList_load_cell rfl 33 _ rfl ⟨b, o + k, none⟩ rfl _ _ HC1.out Try.underlying33 rfl ?_; simp only [Act.put, List.setIfInBounds_toArray, List.set_cons_zero, List.set_cons_succ])
              | (at_builtin; refine wpList_append_own_none rfl _ _ _ rfl _ _ im 35 Try.underlying33 hi1 _ _ _ rfl HO.out rfl ?_; simp only [Act.put, List.setIfInBounds_toArray, List.set_cons_zero, List.set_cons_succ]))
            refine ⟨?_, by simp [intOf]; omega⟩
            have ho9 := HO.out
            have hf := HF.out
            rw [List.append_nil] at hf
            rw [← hf] at ho9
            first | exact ⟨k + 1, by omega, by go_num, ho9, HB.out⟩ | ((repeat apply Exists.intro); exact ⟨⟨k + 1, by omega, by go_num, ho9, HB.out⟩, rfl⟩)
          · obtain ⟨ad, rfl⟩ := Option.ne_none_iff_exists'.1 hA
            have hnw := news_of (w := wr) hA2 (fun i x hxi => by
              obtain ⟨cs, g1, g2, g3⟩ := hx2 i x hxi
              exact ⟨cs, g1, g2, rangeAt_below g3 HB.out⟩)
            have HNW : Hid (∀ j u, (R.flatMap encT)[j]? = some u → wr.cell? (ad.add j) = some u) := hnw
            clear hnw hx2 hA2 hnil2 hA
            go_wp2_with (first
              | (refine wpList_load_cell rfl 33 _ rfl ⟨b, o + k, none⟩ rfl _ _ HC1.out Try.underlying33 rfl ?_; simp only [Act.put, List.setIfInBounds_toArray, List.set_cons_zero, List.set_cons_succ])
              | (at_builtin; refine wpList_append_own_at _ rfl _ _ _ rfl _ _ im _ 35 64 Try.underlying33 hi1 hi2 hi3 hi4 rfl (by omega) _ _ _ rfl HO.out ad R.length c2 (R.flatMap encT) rfl (flat_len R) HNW.out (flat_one R) (by have := HLE.out; simp only [maxLen]; omega) (by have := HLE.out; omega) HB.out.size ?_; intro v7 w7 ho7 hg7 hn7 ha7; simp only [Act.put, List.setIfInBounds_toArray, List.set_cons_zero, List.set_cons_succ]))
            refine ⟨?_, by simp [intOf]; omega⟩
            have ho9 : w7.ownsRow w.heap.size 88 35 v7 (Rs.take (k + 1)).flatten.length ((Rs.take (k + 1)).flatten.flatMap encT) := by
              rw [HF.out, List.length_append, List.flatMap_append]
              exact ho7
            have hb9 : Below w.heap.size w w7 := ⟨hg7.os.trans HB.out.os, hg7.tape.trans HB.out.tape, hg7.output.trans HB.out.output, by have := HB.out.size; have := hg7.size; omega, fun j hj => (hg7.block j (by have := HB.out.size; omega) (fun e => by
              have := (HO.out.lt j e.symm).1
              omega)).trans (HB.out.block j hj)⟩
            first | exact ⟨k + 1, by omega, by go_num, ho9, hb9⟩ | ((repeat apply Exists.intro); exact ⟨⟨k + 1, by omega, by go_num, ho9, hb9⟩, rfl⟩)
        · have hke : k = Rs.length := by omega
          have ho9 := HO.out
          rw [hke, List.take_length] at ho9
          have HO9 := Lib.hid ho9
          clear ho9 HO
          go_wp2
          go_ret
          exact ⟨_, rfl, HO9.out, HB.out⟩
end Go.Proofs.Ytjmkkndglmapaaa
