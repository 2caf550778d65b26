/- The order of assets' names: what is told by the names, and that value.name.order computes it. -/
import Derived.Test.YtjmkkndglmapaaaKey
import Derived.Test.YtjmkkndglmapaaaShelf
import Derived.Lib.Bytealg
import Derived.Lib.BytesEntry
import Derived.StillTailTactics
import Derived.Test.YtjmkkndglmapaaaOf
import Derived.Sort.Grow
import Derived.OpenShut
set_option linter.unusedSimpArgs false
set_option linter.unusedVariables false
namespace Go.Proofs.Ytjmkkndglmapaaa
open Go.ChangeShapes Go.WideShapes Go.RowKit

/-- An asset's name. -/
structure Key where
  pol : List UInt8
  nm : ByteArray

def encB (l : List UInt8) : List Value := l.map fun c => .int .u8 c.toNat
def encK (k : Key) : List Value := encB k.pol ++ [.string k.nm]
theorem encB_len (l : List UInt8) : (encB l).length = l.length := by simp [encB]
theorem encB_one (l : List UInt8) : Ones (encB l) := fun v hv => by
  obtain ⟨c, _, rfl⟩ := List.mem_map.1 hv
  rfl
def keyCmp (a b : Key) : Int := if Lib.compareBytes a.pol b.pol = 0 then Lib.compareBytes a.nm.data.toList b.nm.data.toList else Lib.compareBytes a.pol b.pol

/-- Some orders drawn, some blocks made: nothing else. -/
structure Grew (w w' : World) : Prop where mk :: (out : ∃ q os, w' = Go.Sort.grow (w.drewN q) os)
theorem Grew.refl (w : World) : Grew w w := ⟨⟨0, #[], by rw [Go.Sort.grow_empty]; rfl⟩⟩
theorem Grew.alloc {w w' : World} (h : Grew w w') (o : Obj) : Grew w (w'.alloc o) := by
  obtain ⟨q, os, rfl⟩ := h.out
  exact ⟨⟨q, os ++ #[o], by rw [Go.Sort.alloc_eq_grow, Go.Sort.grow_grow]⟩⟩
theorem Grew.trans {a b c : World} (h : Grew a b) (k : Grew b c) : Grew a c := by
  obtain ⟨q, os, rfl⟩ := h.out
  obtain ⟨q', os', rfl⟩ := k.out
  exact ⟨⟨q + q', os ++ os', by simp [Go.Sort.grow, World.drewN, Array.append_assoc, Nat.add_assoc]⟩⟩
theorem Grew.drew {w w' : World} (h : Grew w w') : Grew w w'.drew := by
  obtain ⟨q, os, rfl⟩ := h.out
  exact ⟨⟨q + 1, os, by simp [Go.Sort.grow, World.drew, World.drewN, Nat.add_assoc]⟩⟩

theorem load_bytes (l : List UInt8) (b o : Nat) (w : World) (h : w.rangeAt b o (encB l)) : (Extern.Bytes.loadBytes ⟨b, o, none⟩ l.length .empty).run Try.prog w = .ok ⟨l.toArray⟩ w := by
  have e := Lib.run_loadBytesX (P := Try.prog) w (l.map fun c => (c.toNat : Int)) ⟨b, o, none⟩ .empty (fun j x hx => by
    rw [Addr.add_mid]
    refine h j _ ?_
    rw [List.getElem?_map] at hx
    obtain ⟨c, hc, rfl⟩ := Option.map_eq_some_iff.1 hx
    simp [encB, hc])
  rw [List.length_map] at e
  rw [e]
  congr 1
  apply ByteArray.ext
  simp [Lib.bytesOf]
  refine (List.map_congr_left fun c _ => ?_).trans (List.map_id l)
  simp

/-- internal/bytealg.Compare, as the model has it. -/
theorem bytealg_cmp (l1 l2 : List UInt8) (b1 o1 c1 b2 o2 c2 : Nat) (w : World) (h1 : w.rangeAt b1 o1 (encB l1)) (h2 : w.rangeAt b2 o2 (encB l2)) :
    (callFunc 59 #[.slice (some ⟨b1, o1, none⟩) l1.length c1, .slice (some ⟨b2, o2, none⟩) l2.length c2]).run Try.prog w = .ok (.value (.int .i64 (Lib.compareBytes l1 l2))) w := by
  rw [run_callFunc_extern Try.func59 (by kernel_rfl) (by kernel_rfl) (by kernel_rfl) (e := Extern.BytealgCompare.compare) (by kernel_rfl)]
  have e1 := load_bytes l1 b1 o1 w h1
  have e2 := load_bytes l2 b2 o2 w h2
  have e3 : (Extern.BytealgCompare.compare #[.slice (some ⟨b1, o1, none⟩) l1.length c1, .slice (some ⟨b2, o2, none⟩) l2.length c2]).run Try.prog w = .ok (.int .i64 (Lib.compareBytes l1 l2)) w := by
    change Sem.run Try.prog (do pure (goInt (Extern.BytealgCompare.cmp (← Extern.Bytes.loadBytes ⟨b1, o1, none⟩ l1.length .empty) (← Extern.Bytes.loadBytes ⟨b2, o2, none⟩ l2.length .empty)))) w = _
    rw [Sem.run_bind, e1]
    simp only [Result.andThen]
    rw [Sem.run_bind, e2]
    simp only [Result.andThen, Sem.run_pure, goInt]
    rw [Lib.cmp_eq]
  rw [e3]
  rfl

set_option maxRecDepth 100000 in
theorem bytesCompare_any (l1 l2 : List UInt8) (b1 o1 c1 b2 o2 c2 : Nat) (w : World) (h1 : w.rangeAt b1 o1 (encB l1)) (h2 : w.rangeAt b2 o2 (encB l2)) :
    Calls Try.prog 44 #[.slice (some ⟨b1, o1, none⟩) l1.length c1, .slice (some ⟨b2, o2, none⟩) l2.length c2] w fun e w' => e = .returned (.int .i64 (Lib.compareBytes l1 l2)) ∧ w = w' := by
  have hc := bytealg_cmp l1 l2 b1 o1 c1 b2 o2 c2 w h1 h2
  generalize Lib.compareBytes l1 l2 = r at *
  clear h1 h2
  go_enter Try.func44, Try.ntmps44
  go_wp2
  go_ret
  exact ⟨rfl, rfl⟩

set_option maxRecDepth 100000 in
theorem or_yes (x y : Int) (b : Nat) (w : World) (h0 : w.cell? ⟨b, 0, none⟩ = some (.int .i64 x)) (hx : (x != 0) = true) :
    Calls Try.prog 43 #[.slice (some ⟨b, 0, none⟩) 2 2] w fun e w' => e = .returned (.int .i64 x) ∧ w = w' := by
  go_enter Try.func43, Try.ntmps43
  go_wp2
  refine wp_loop_rounds 1 ?_
  rw [rounds_succ]
  go_wp2
  go_ret
  exact ⟨rfl, rfl⟩

set_option maxRecDepth 100000 in
theorem or_no (y : Int) (b : Nat) (w : World) (h0 : w.cell? ⟨b, 0, none⟩ = some (.int .i64 0)) (h1 : w.cell? ⟨b, 1, none⟩ = some (.int .i64 y)) :
    Calls Try.prog 43 #[.slice (some ⟨b, 0, none⟩) 2 2] w fun e w' => e = .returned (.int .i64 y) ∧ w = w' := by
  by_cases hy : y = 0
  · subst hy
    go_enter Try.func43, Try.ntmps43
    go_wp2
    refine wp_loop_rounds 3 ?_
    rw [rounds_succ]
    go_wp2
    rw [rounds_succ]
    go_wp2
    rw [rounds_succ]
    go_wp2
    go_ret
    exact ⟨rfl, rfl⟩
  · have hy : (y != 0) = true := by simpa using hy
    go_enter Try.func43, Try.ntmps43
    go_wp2
    refine wp_loop_rounds 2 ?_
    rw [rounds_succ]
    go_wp2
    rw [rounds_succ]
    go_wp2
    go_ret
    exact ⟨rfl, rfl⟩

theorem or_any (x y : Int) (b : Nat) (w : World) (h0 : w.cell? ⟨b, 0, none⟩ = some (.int .i64 x)) (h1 : w.cell? ⟨b, 1, none⟩ = some (.int .i64 y)) :
    Calls Try.prog 43 #[.slice (some ⟨b, 0, none⟩) 2 2] w fun e w' => e = .returned (.int .i64 (if x = 0 then y else x)) ∧ w = w' := by
  by_cases hx : x = 0
  · subst hx
    rw [if_pos rfl]
    exact or_no y b w h0 h1
  · rw [if_neg hx]
    exact or_yes x y b w h0 (by simpa using hx)

theorem encK_len (k : Key) (h : k.pol.length = 32) : (encK k).length = 33 := by simp [encK, encB, h]

set_option maxRecDepth 100000 in
set_option maxHeartbeats 1000000 in
theorem order_any (a b : Key) (ha : a.pol.length = 32) (hb : b.pol.length = 32) (w : World) :
    Calls Try.prog 37 #[.agg (encK a).toArray, .agg (encK b).toArray] w fun e w' => e = .returned (.int .i64 (keyCmp a b)) ∧ Grew w w' := by
  have hA := (Box.new w (encK a) 93).alloc (.cells (encK b).toArray 93)
  have hB := Box.new (w.alloc (.cells (encK a).toArray 93)) (encK b) 93
  rw [size_alloc] at hB
  have r1 : ((w.alloc (.cells (encK a).toArray 93)).alloc (.cells (encK b).toArray 93)).rangeAt w.heap.size 0 (encB a.pol) := by
    have := hA.range 0 32
    rwa [show ((encK a).drop 0).take 32 = encB a.pol by simp [encK, encB, ha]] at this
  have r2 : ((w.alloc (.cells (encK a).toArray 93)).alloc (.cells (encK b).toArray 93)).rangeAt (w.heap.size + 1) 0 (encB b.pol) := by
    have := hB.range 0 32
    rwa [show ((encK b).drop 0).take 32 = encB b.pol by simp [encK, encB, hb]] at this
  have hg : Grew w (((w.alloc (.cells (encK a).toArray 93)).alloc (.cells (encK b).toArray 93)).drew) := (((Grew.refl w).alloc _).alloc _).drew
  have c1 := bytesCompare_any a.pol b.pol w.heap.size 0 32 (w.heap.size + 1) 0 32 _ (rangeAt_below r1 ((Below.refl _ _).drew)) (rangeAt_below r2 ((Below.refl _ _).drew))
  rw [ha, hb] at c1
  have c2 := (Try.strings_Compare a.nm b.nm (((w.alloc (.cells (encK a).toArray 93)).alloc (.cells (encK b).toArray 93)).drew)).mono (fun e w' (h : _ ∧ w' = _) => (⟨h.1, h.2.symm⟩ : e = _ ∧ _ = w'))
  have hk : keyCmp a b = if Lib.compareBytes a.pol b.pol = 0 then Lib.compareBytes a.nm.data.toList b.nm.data.toList else Lib.compareBytes a.pol b.pol := rfl
  have HA := Lib.hid (Box.drew hA)
  have HBB := Lib.hid (Box.drew hB)
  have HC1 := Lib.hid c1
  have HC2 := Lib.hid c2
  have HG := Lib.hid hg
  have HK := Lib.hid hk
  have ha := Lib.hid ha
  have hb := Lib.hid hb
  clear hA hB r1 r2 c1 c2 hg hk
  go_enter Try.func37, Try.ntmps37
  go_wp2
  refine wp_region_still_tail 10 mixed (by kernel_rfl) ?_
  simp only [List.take_succ_cons, List.take_zero, List.drop_succ_cons, List.drop_zero]
  refine ss_run (.pointer (some ⟨w.heap.size, 0, none⟩)) rfl (by go_simp) ?_
  simp only [Act.put, List.setIfInBounds_toArray, List.set_cons_zero, List.set_cons_succ]
  refine ss_run (.slice (some ⟨w.heap.size, 0, none⟩) 32 32) rfl (by go_simp) ?_
  simp only [Act.put, List.setIfInBounds_toArray, List.set_cons_zero, List.set_cons_succ]
  refine ss_run (.pointer (some ⟨(w.heap.size + 1), 0, none⟩)) rfl (by go_simp) ?_
  simp only [Act.put, List.setIfInBounds_toArray, List.set_cons_zero, List.set_cons_succ]
  refine ss_run (.slice (some ⟨(w.heap.size + 1), 0, none⟩) 32 32) rfl (by go_simp) ?_
  simp only [Act.put, List.setIfInBounds_toArray, List.set_cons_zero, List.set_cons_succ]
  refine ss_call 44 #[.slice (some ⟨w.heap.size, 0, none⟩) 32 32, .slice (some ⟨(w.heap.size + 1), 0, none⟩) 32 32] (.int .i64 (Lib.compareBytes a.pol b.pol)) rfl (by go_simp) HC1.out ?_
  simp only [Act.put, List.setIfInBounds_toArray, List.set_cons_zero, List.set_cons_succ]
  refine ss_run (.pointer (some ⟨w.heap.size, 32, none⟩)) rfl (by go_simp) ?_
  simp only [Act.put, List.setIfInBounds_toArray, List.set_cons_zero, List.set_cons_succ]
  refine ss_load_cell 9 _ rfl rfl ⟨w.heap.size, 32, none⟩ rfl (.string a.nm) _ (HA.out.cell (by simp [encK, encB, ha.out])) Try.underlying9 rfl ?_
  simp only [Act.put, List.setIfInBounds_toArray, List.set_cons_zero, List.set_cons_succ]
  refine ss_run (.pointer (some ⟨(w.heap.size + 1), 32, none⟩)) rfl (by go_simp) ?_
  simp only [Act.put, List.setIfInBounds_toArray, List.set_cons_zero, List.set_cons_succ]
  refine ss_load_cell 9 _ rfl rfl ⟨(w.heap.size + 1), 32, none⟩ rfl (.string b.nm) _ (HBB.out.cell (by simp [encK, encB, hb.out])) Try.underlying9 rfl ?_
  simp only [Act.put, List.setIfInBounds_toArray, List.set_cons_zero, List.set_cons_succ]
  refine ss_call 45 #[.string a.nm, .string b.nm] (.int .i64 (Lib.compareBytes a.nm.data.toList b.nm.data.toList)) rfl (by go_simp) HC2.out ?_
  simp only [Act.put, List.setIfInBounds_toArray, List.set_cons_zero, List.set_cons_succ]
  refine wpStill_nil ?_
  change wpList _ _ _ _ _ (World.drew _)
  have HS : Calls Try.prog 43 #[.slice (some ⟨w.heap.size + 2, 0, none⟩) 2 2] ((((w.alloc (.cells (encK a).toArray 93)).alloc (.cells (encK b).toArray 93)).alloc (.cells #[.int .i64 (Lib.compareBytes a.pol b.pol), .int .i64 (Lib.compareBytes a.nm.data.toList b.nm.data.toList)] 3)).drew) fun e w' => e = .returned (.int .i64 (keyCmp a b)) ∧ ((((w.alloc (.cells (encK a).toArray 93)).alloc (.cells (encK b).toArray 93)).alloc (.cells #[.int .i64 (Lib.compareBytes a.pol b.pol), .int .i64 (Lib.compareBytes a.nm.data.toList b.nm.data.toList)] 3)).drew) = w' := by
    have hb := Box.new ((w.alloc (.cells (encK a).toArray 93)).alloc (.cells (encK b).toArray 93)) [.int .i64 (Lib.compareBytes a.pol b.pol), .int .i64 (Lib.compareBytes a.nm.data.toList b.nm.data.toList)] 3
    rw [size_alloc, size_alloc] at hb
    rw [HK.out]
    exact or_any _ _ _ _ (Box.cell (Box.drew hb) rfl) (Box.cell (Box.drew hb) rfl)
  have HSH := Lib.hid HS
  clear HS
  have hgg : Grew w (((((w.alloc (.cells (encK a).toArray 93)).alloc (.cells (encK b).toArray 93))).alloc (.cells #[.int .i64 (Lib.compareBytes a.pol b.pol), .int .i64 (Lib.compareBytes a.nm.data.toList b.nm.data.toList)] 3)).drew) := ((((Grew.refl w).alloc _).alloc _).alloc _).drew
  have HGG := Lib.hid hgg
  clear hgg
  go_wp2_with (go_at_call 43; refine HSH.out.mono ?_; rintro e w' ⟨rfl, rfl⟩)
  go_ret
  exact ⟨rfl, HGG.out⟩

set_option maxRecDepth 100000 in
set_option maxHeartbeats 1000000 in
/-- The comparison that book.totals hands to the sort. -/
theorem closure_any (a b : Key) (va vb : List Value) (ha : a.pol.length = 32) (hb : b.pol.length = 32) (w : World) :
    Calls Try.prog 36 #[.agg (encK a ++ va).toArray, .agg (encK b ++ vb).toArray] w fun e w' => e = .returned (.int .i64 (keyCmp a b)) ∧ Grew w w' := by
  generalize hca : encK a ++ va = ca
  generalize hcb : encK b ++ vb = cb
  have hA := (Box.new w ca 88).alloc (.cells cb.toArray 88)
  have hB := Box.new (w.alloc (.cells ca.toArray 88)) cb 88
  rw [size_alloc] at hB
  have r1 := hA.range 0 32
  rw [show (ca.drop 0).take 32 = encB a.pol by rw [← hca]; simp [encK, encB, ha]] at r1
  have r2 := hB.range 0 32
  rw [show (cb.drop 0).take 32 = encB b.pol by rw [← hcb]; simp [encK, encB, hb]] at r2
  have z1 : (Try.prog.info? 27).map (·.size) = some (encB a.pol).length := by rw [encB_len, ha]; kernel_rfl
  have z2 : (Try.prog.info? 27).map (·.size) = some (encB b.pol).length := by rw [encB_len, hb]; kernel_rfl
  have s1 : ca[32]? = some (.string a.nm) := by rw [← hca]; simp [encK, encB, ha]
  have s2 : cb[32]? = some (.string b.nm) := by rw [← hcb]; simp [encK, encB, hb]
  have ho := order_any a b ha hb ((w.alloc (.cells ca.toArray 88)).alloc (.cells cb.toArray 88))
  have hg : Grew w ((w.alloc (.cells ca.toArray 88)).alloc (.cells cb.toArray 88)) := ((Grew.refl w).alloc _).alloc _
  have b1 := build_name (encB a.pol) a.nm (by rw [encB_len, ha])
  have b2 := build_name (encB b.pol) b.nm (by rw [encB_len, hb])
  have HO := Lib.hid ho
  have HG := Lib.hid hg
  have Hb1 := Lib.hid b1
  have Hb2 := Lib.hid b2
  clear hA hB ho hg ha hb hca hcb b1 b2
  go_enter Try.func36, Try.ntmps36
  go_wp2_with (first
    | (refine wpList_load_mid rfl 27 _ rfl w.heap.size 0 rfl _ _ r1 Try.underlying27 rfl z1 ?_; simp only [Act.put, List.setIfInBounds_toArray, List.set_cons_zero, List.set_cons_succ])
    | (refine wpList_load_mid rfl 27 _ rfl (w.heap.size + 1) 0 rfl _ _ r2 Try.underlying27 rfl z2 ?_; simp only [Act.put, List.setIfInBounds_toArray, List.set_cons_zero, List.set_cons_succ])
    | (refine wpList_build rfl 93 _ rfl [(0, .agg (encB a.pol).toArray), (1, .string a.nm)] rfl _ Hb1.out ?_; simp only [Act.put, List.setIfInBounds_toArray, List.set_cons_zero, List.set_cons_succ])
    | (refine wpList_build rfl 93 _ rfl [(0, .agg (encB b.pol).toArray), (1, .string b.nm)] rfl _ Hb2.out ?_; simp only [Act.put, List.setIfInBounds_toArray, List.set_cons_zero, List.set_cons_succ])
    | (go_at_call 37; refine HO.out.mono ?_; rintro e w' ⟨rfl, hw⟩))
  go_ret
  exact ⟨rfl, HG.out.trans hw⟩
end Go.Proofs.Ytjmkkndglmapaaa
