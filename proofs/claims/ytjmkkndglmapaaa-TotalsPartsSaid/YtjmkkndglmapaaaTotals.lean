/- value.book's totals: the walk. -/
import Derived.Test.YtjmkkndglmapaaaTots
import Derived.WalkSpells
import Derived.WalkLawsBesides
import Derived.Outline
import Derived.ProofKit
set_option linter.unusedSimpArgs false
set_option linter.unusedVariables false
namespace Go.Proofs.Ytjmkkndglmapaaa
open Go.RowKit Go.Shelf Go.Lib Go.Sort Go.WideShapes Go.ChangeShapes

def visOf (r : Nat) (w : World) : Nat := match w.heap[r]? with | some (.mapIter _ _ seen _) => seen.size | _ => 0
theorem visOf_at {w : World} {r m c : Nat} {vis : BookL} (h : IterAt w r m c vis) : visOf r w = vis.length := by
  unfold visOf IterAt at *
  rw [h]
  simp
theorem build_wide0 (W : World) : (Instr.build 57 #[]).run Try.prog W = .ok (.agg (encW 0).toArray) W := by
  refine run_build_struct (zs := encW 0) (by rw [Try.zeroValue57 W]; rfl) Try.underlying57 #[(0, 1), (1, 1)] (by kernel_rfl) _ _ ?_
  rw [fill_nil]
theorem laid_mid (a b c v : List Value) (off : Nat) (h1 : a.length = off) (h2 : v.length = b.length) : laid (a ++ b ++ c) off v = a ++ v ++ c := by
  subst h1
  unfold laid
  rw [List.append_assoc a b c, List.take_left' rfl]
  congr 1
  rw [← List.append_assoc, List.drop_left' (by simp [h2])]
def zTotal : List Value := List.replicate 32 (.int .u8 0) ++ [.string ⟨#[]⟩, .int .i64 0, .int .u64 0]
theorem build_total (p q : List Value) (s : ByteArray) (hp : p.length = 32) (hq : q.length = 2) (W : World) : (Instr.build 88 #[(0, .agg p.toArray), (1, .string s), (2, .agg q.toArray)]).run Try.prog W = .ok (.agg (p ++ [Value.string s] ++ q).toArray) W := by
  refine run_build_struct (zs := zTotal) (Try.zeroValue88 W) Try.underlying88 #[(0, 32), (32, 1), (33, 2)] (by kernel_rfl) _ _ ?_
  have e1 : laid zTotal 0 p = p ++ [.string ⟨#[]⟩] ++ [.int .i64 0, .int .u64 0] := by
    have := laid_mid [] (List.replicate 32 (Value.int .u8 0)) [.string ⟨#[]⟩, .int .i64 0, .int .u64 0] p 0 rfl (by simp [hp])
    simpa [zTotal] using this
  have e2 := laid_mid p [Value.string ⟨#[]⟩] [.int .i64 0, .int .u64 0] [.string s] 32 hp rfl
  have e3 := laid_mid (p ++ [Value.string s]) [.int .i64 0, .int .u64 0] [] q 33 (by simp [hp]) (by simp [hq])
  rw [List.append_nil, List.append_nil] at e3
  rw [fill_cons _ _ 0 _ _ 0 32 rfl (by simpa [Value.cells] using hp) (by simp [zTotal])]
  show Instr.fill _ (laid zTotal 0 p).toArray _ = _
  rw [e1, fill_cons _ _ 1 _ _ 32 1 rfl rfl (by simp [hp])]
  show Instr.fill _ (laid _ 32 [Value.string s]).toArray _ = _
  rw [e2, fill_cons _ _ 2 _ _ 33 2 rfl (by simpa [Value.cells] using hq) (by simp [hp])]
  show Instr.fill _ (laid _ 33 q).toArray _ = _
  rw [e3, fill_nil]

theorem info_total : ∃ i, Try.prog.info? 88 = some i ∧ i.zero = some (.agg zTotal.toArray) ∧ i.size = 35 ∧ i.bytes = 64 := by
  have h : (Try.prog.info? 88).map (fun i => (i.zero, i.size, i.bytes)) = some (some (.agg zTotal.toArray), 35, 64) := by kernel_rfl
  cases hi : Try.prog.info? 88 with
  | none => rw [hi] at h; cases h
  | some i =>
    rw [hi] at h
    simp only [Option.map_some, Option.some.injEq, Prod.mk.injEq] at h
    exact ⟨i, rfl, h.1, h.2.1, h.2.2⟩

/-- Between two rounds, and in one. -/
structure Amid (w W : World) (m c : Nat) (L vis : BookL) (v : Value) (R : List Tot) : Prop where
  it : IterAt W w.heap.size m c vis
  bk : BookAt W m L c
  bl : Below w.heap.size w W
  sz : w.heap.size + 1 ≤ W.heap.size
  own : W.ownsRow (w.heap.size + 1) 88 35 v R.length (R.flatMap encT)
theorem Amid.step {w W W' : World} {m c : Nat} {L vis : BookL} {v : Value} {R : List Tot} (h : Amid w W m c L vis v R) (hb : Below W.heap.size W W') : Amid w W' m c L vis v R :=
  ⟨(hb.block _ (by have := h.sz; omega)).trans h.it, h.bk.below hb, h.bl.trans (hb.mono (by have := h.sz; omega)), by have := h.sz; have := hb.size; omega,
    h.own.kept (below_grown hb rfl none) (by cases v.ownBlock <;> simp)⟩
theorem Amid.next {w W W' : World} {m c : Nat} {L vis : BookL} {v : Value} {R : List Tot} (h : Amid w W m c L vis v R) (hm : m < w.heap.size) {x : Key × Int × Nat} (hi : IterAt W' w.heap.size m c (vis ++ [x])) (ho : Only w.heap.size W W') : Amid w W' m c L (vis ++ [x]) v R :=
  ⟨hi, h.bk.kept (ho.block m (by omega)), h.bl.trans (ho.below (Nat.le_refl _)), by rw [ho.size]; exact h.sz, h.own.kept ho.grown (by
    cases hv : v.ownBlock with
    | none => simp
    | some g => right; have := (h.own.lt g hv).1; simp; omega)⟩
theorem Amid.more {w W W' : World} {m c : Nat} {L vis : BookL} {v v' : Value} {R : List Tot} (h : Amid w W m c L vis v R) (hm : m < w.heap.size) (t : Tot) (hg : W.grownBy W' v.ownBlock) (ho : W'.ownsRow (w.heap.size + 1) 88 35 v' (R.length + 1) (R.flatMap encT ++ encT t)) :
    Amid w W' m c L vis v' (R ++ [t]) := by
  have hlow : ∀ k, k < w.heap.size + 1 → W'.heap[k]? = W.heap[k]? := fun k hk => hg.block k (by have := h.sz; omega) (fun e => by
    have := (h.own.lt k e.symm).1
    omega)
  refine ⟨(hlow _ (by omega)).trans h.it, h.bk.kept (hlow m (by omega)), ?_, by have := h.sz; have := hg.size; omega, by simpa [List.flatMap_append] using ho⟩
  exact ⟨hg.os.trans h.bl.os, hg.tape.trans h.bl.tape, hg.output.trans h.bl.output, by have := h.sz; have := hg.size; omega, fun k hk => (hlow k (by omega)).trans (h.bl.block k hk)⟩

theorem Amid.last {w W W' : World} {m c : Nat} {L vis : BookL} {v : Value} {R : List Tot} (h : Amid w W m c L vis v R) (hg : W.grownBy W' v.ownBlock) : Below w.heap.size w W' :=
  ⟨hg.os.trans h.bl.os, hg.tape.trans h.bl.tape, hg.output.trans h.bl.output, by have := h.sz; have := hg.size; omega, fun k hk => (hg.block k (by have := h.sz; omega) (fun e => by
    have := (h.own.lt k e.symm).1
    omega)).trans (h.bl.block k hk)⟩
theorem own_base {W : World} {b b' : Nat} {e : TypeId} {size n n' : Nat} {v : Value} {xs : List Value} (h : W.ownsRow b e size v n xs) (hb : b' ≤ b) (hn : n = n') : W.ownsRow b' e size v n' xs := by
  subst hn
  refine ⟨h.1, ?_⟩
  rcases h.2 with h1 | ⟨g, cap, cur, h1, h2, h3⟩
  · exact .inl h1
  · exact .inr ⟨g, cap, cur, h1, by omega, h3⟩

theorem encK_one (k : Key) : ∀ v ∈ encK k, v.oneCell' = true := fun v hv => by
  unfold encK at hv
  rcases List.mem_append.1 hv with h | h
  · exact encB_one _ v h
  · simp only [List.mem_cons, List.not_mem_nil, or_false] at h
    subst h
    rfl
theorem encW_one (x : Int) : ∀ v ∈ encW x, v.oneCell' = true := fun v hv => by
  unfold encW at hv
  simp only [List.mem_cons, List.not_mem_nil, or_false] at hv
  rcases hv with rfl | rfl <;> rfl
theorem box_laid {w : World} {b : Nat} {z cs : List Value} {t : TypeId} (h : Box w b (laid z 0 cs) t) (hl : cs.length = z.length) : Box w b cs t := by rwa [laid_all _ _ hl] at h
theorem Box.news {w : World} {b : Nat} {cs : List Value} {t : TypeId} (h : Box w b cs t) : ∀ j u, cs[j]? = some u → w.cell? ((⟨b, 0, none⟩ : Addr).add j) = some u := fun j u hu => by
  have := h.whole j u hu
  by_cases hj : j = 0
  · subst hj
    simpa [Addr.add] using this
  · simpa [Addr.add, hj] using this
theorem row_piece {w : World} {b : Nat} {cs ds : List Value} {t : TypeId} (h : Box w b (cs ++ ds) t) : w.rangeAt b 0 cs := fun j v hv => by
  have hj : j < cs.length := (List.getElem?_eq_some_iff.1 hv).1
  rw [cell_of_row _ _ _ _ _ _ h]
  simp only [Nat.zero_add, List.getElem?_toArray]
  rw [List.getElem?_append_left hj]
  exact hv

set_option maxRecDepth 100000 in
set_option maxHeartbeats 4000000 in
theorem totals_any (m : Nat) (L : BookL) (c : Nat) (w : World) (h : BookAt w m L c) (hlen : L.length ≤ 1099511627776) :
    Calls Try.prog 27 #[.map (some m)] w fun e w' => ∃ v R, e = .returned v ∧ w'.ownsRow w.heap.size 88 35 v R.length (R.flatMap encT) ∧ Below w.heap.size w w' ∧ Told (valAt L) R := by
  obtain ⟨w0, hr, hI0, hb0, hM0, hs0⟩ : ∃ w0, (Instr.range 90 (.map (some m))).run Try.prog w = .ok (.pointer (some ⟨w.heap.size, 0, none⟩)) w0 ∧ IterAt w0 w.heap.size m c [] ∧ Below w.heap.size w w0 ∧ BookAt w0 m L c ∧ w.heap.size + 1 ≤ w0.heap.size :=
    ⟨_, run_range h, heap_alloc_new w _, (Below.refl _ w).alloc (Nat.le_refl _) _, h.below ((Below.refl _ w).alloc (Nat.le_refl _) _), by rw [size_alloc]; exact Nat.le_refl _⟩
  have HR := Lib.hid hr
  have Hm := Lib.hid h.lt
  have Hk := Lib.hid h.once
  have HL := Lib.hid h.stamps
  have Hlen := Lib.hid hlen
  clear h hr hlen
  go_enter Try.func27, Try.ntmps27
  go_wp2_with (refine wpList_range rfl _ _ rfl _ rfl _ _ HR.out ?_; simp only [Act.put, List.setIfInBounds_toArray, List.set_cons_zero, List.set_cons_succ])
  go_loopw [3] (fun v wr => ∃ vis R, R.map kv = kept vis ∧ Vis L vis ∧ Amid w wr m c L vis v R) (fun _ wr => L.length - visOf (World.heap w).size wr)
  case atStart => exact ⟨[], [], rfl, Vis.nil L, hI0, hM0, hb0, hs0, World.ownsRow_nil _ _ _ _⟩
  case round =>
    obtain ⟨vis, R, hRk, hV, hA⟩ := hrel
    have HRk := Lib.hid hRk
    have HV := Lib.hid hV
    have hRl : R.length ≤ L.length := by
      have h1 := congrArg List.length hRk
      rw [List.length_map] at h1
      have h2 := kept_len vis
      have h3 := hV.len
      omega
    have HRl := Lib.hid hRl
    have HA := Lib.hid hA
    clear hRk hV hI0 hb0 hM0 hs0 hRl
    rcases run_next hA.bk hA.it 0 with ⟨hrem, hnx⟩ | ⟨x, hx, w1, hnx, hi1, ho1⟩
    · have HN := Lib.hid hnx
      have HE := Lib.hid hrem
      have HS := Lib.hid (sort_own _ _ R _ hA.own (by have := HRl.out; have := Hlen.out; omega))
      clear hnx hrem hA
      go_wp2_with (first
        | (refine wpList_next rfl _ _ rfl _ rfl _ rfl _ _ HN.out ?_; simp only [Act.put, List.setIfInBounds_toArray, List.set_cons_zero, List.set_cons_succ])
        | (go_at_call 35; refine HS.out.mono ?_; rintro e w' ⟨rfl, R', ho2, hg2, hp2, hs2⟩))
      go_ret
      exact ⟨_, R', rfl, own_base ho2 (by omega) hp2.length_eq.symm, HA.out.last hg2, told_of Hk.out HL.out HV.out HE.out HRk.out hp2 (hs2.imp fun h => by omega)⟩
    · have hA1 := HA.out.next Hm.out hi1 ho1
      have hxL := (List.mem_filter.1 hx).1
      have hkx := hA1.bk.ok x hxL
      have hen := run_entry hA1.bk hA1.it hxL
      have hV1 := HV.out.more hx
      have hvl := hV1.len
      rw [List.length_append, List.length_singleton] at hvl
      have hm0 : visOf w.heap.size wr = vis.length := visOf_at HA.out.it
      have HN := Lib.hid hnx
      have HE := Lib.hid hen
      have HK := Lib.hid hkx
      have HA1 := Lib.hid hA1
      have HV1 := Lib.hid hV1
      have HM0 := Lib.hid hm0
      have Hvl := Lib.hid hvl
      have hgw : w1.heap.size = w1.heap.size := rfl
      obtain ⟨im, hi1m, hi2m, hi3m, hi4m⟩ := info_total
      have Hl := Lib.hid (encK_len x.1 hkx.1)
      clear hA1 hkx hen hV1 hm0 hnx hi1 ho1 hA hgw hvl hx
      by_cases hz : encW x.2.1 = encW 0
      · have HZ := Lib.hid hz
        clear hz
        go_wp2_with (first
          | (refine wpList_next rfl _ _ rfl _ rfl _ rfl _ _ HN.out ?_; simp only [Act.put, List.setIfInBounds_toArray, List.set_cons_zero, List.set_cons_succ])
          | (refine wpList_entry rfl _ rfl _ rfl _ _ HE.out ?_; simp only [Act.put, List.setIfInBounds_toArray, List.set_cons_zero, List.set_cons_succ])
          | (refine wpList_alloc_box rfl 93 rfl _ Try.zeroValue93 zName rfl ?_; intro W2 hx2 hb2 hs2; simp only [Act.put, List.setIfInBounds_toArray, List.set_cons_zero, List.set_cons_succ])
          | (refine wpList_alloc_box rfl 57 rfl _ Try.zeroValue57 (encW 0) rfl ?_; intro W3 hx3 hb3 hs3; simp only [Act.put, List.setIfInBounds_toArray, List.set_cons_zero, List.set_cons_succ])
          | (refine wpList_store_box rfl 93 _ _ rfl w1.heap.size 0 (encK x.1) rfl rfl zName _ (hx2.below hb3) (by rw [encK_len _ HK.out.1]; simp [zName]) (by rw [encK_len _ HK.out.1]; kernel_rfl) (encK_one _) ?_; intro W4 hx4 ho4; have HX4 := Lib.hid (box_laid hx4 (by rw [Hl.out]; rfl)); simp only [Act.put, List.setIfInBounds_toArray, List.set_cons_zero, List.set_cons_succ])
          | (refine wpList_store_box rfl 57 _ _ rfl W2.heap.size 0 (encW x.2.1) rfl rfl (encW 0) _ (ho4.box hx3 (by omega)) (by simp [encW]) (by kernel_rfl) (encW_one _) ?_; intro W5 hx5 ho5; have HX5 := Lib.hid (box_laid hx5 rfl).whole; have HY4 := Lib.hid (ho5.box HX4.out (by omega)); have HB5 := Lib.hid ((((hb2.trans (hb3.mono hb2.size)).trans (ho4.below (by omega))).trans (ho5.below hb2.size))); simp only [Act.put, List.setIfInBounds_toArray, List.set_cons_zero, List.set_cons_succ])
          | (refine wpList_load_mid rfl 57 _ rfl W2.heap.size 0 rfl (encW x.2.1) _ HX5.out Try.underlying57 rfl (by kernel_rfl) ?_; simp only [Act.put, List.setIfInBounds_toArray, List.set_cons_zero, List.set_cons_succ])
          | (refine wpList_build rfl 57 [] rfl [] rfl _ build_wide0 ?_; simp only [Act.put, List.setIfInBounds_toArray, List.set_cons_zero, List.set_cons_succ])
          | (refine wpList_neq_fine rfl _ _ _ _ rfl (encW x.2.1) (encW 0) rfl rfl kt_wide (fine_wide _) (fine_wide _) ?_; rw [show ∀ (dd : Decidable (encW x.2.1 = encW 0)), (!@decide (encW x.2.1 = encW 0) dd) = false from fun dd => by simp [HZ.out]]; simp only [Act.put, List.setIfInBounds_toArray, List.set_cons_zero, List.set_cons_succ]))
        refine ⟨?_, ?_⟩
        · have hA9 := HA1.out.step HB5.out
          have hR9 : R.map kv = kept (vis ++ [x]) := by rw [HRk.out, kept_less _ _ HZ.out]
          first | exact ⟨vis ++ [x], R, hR9, HV1.out, hA9⟩ | ((repeat apply Exists.intro); exact ⟨⟨hR9, HV1.out, hA9⟩, rfl⟩)
        · rw [HM0.out, visOf_at (HA1.out.step HB5.out).it, List.length_append, List.length_singleton]
          have := Hvl.out
          omega
      have HZ := Lib.hid hz
      clear hz
      go_wp2_with (first
        | (refine wpList_next rfl _ _ rfl _ rfl _ rfl _ _ HN.out ?_; simp only [Act.put, List.setIfInBounds_toArray, List.set_cons_zero, List.set_cons_succ])
        | (refine wpList_entry rfl _ rfl _ rfl _ _ HE.out ?_; simp only [Act.put, List.setIfInBounds_toArray, List.set_cons_zero, List.set_cons_succ])
        | (refine wpList_alloc_box rfl 93 rfl _ Try.zeroValue93 zName rfl ?_; intro W2 hx2 hb2 hs2; simp only [Act.put, List.setIfInBounds_toArray, List.set_cons_zero, List.set_cons_succ])
        | (refine wpList_alloc_box rfl 57 rfl _ Try.zeroValue57 (encW 0) rfl ?_; intro W3 hx3 hb3 hs3; simp only [Act.put, List.setIfInBounds_toArray, List.set_cons_zero, List.set_cons_succ])
        | (refine wpList_store_box rfl 93 _ _ rfl w1.heap.size 0 (encK x.1) rfl rfl zName _ (hx2.below hb3) (by rw [encK_len _ HK.out.1]; simp [zName]) (by rw [encK_len _ HK.out.1]; kernel_rfl) (encK_one _) ?_; intro W4 hx4 ho4; have HX4 := Lib.hid (box_laid hx4 (by rw [Hl.out]; rfl)); simp only [Act.put, List.setIfInBounds_toArray, List.set_cons_zero, List.set_cons_succ])
        | (refine wpList_store_box rfl 57 _ _ rfl W2.heap.size 0 (encW x.2.1) rfl rfl (encW 0) _ (ho4.box hx3 (by omega)) (by simp [encW]) (by kernel_rfl) (encW_one _) ?_; intro W5 hx5 ho5; have HX5 := Lib.hid (box_laid hx5 rfl).whole; have HY4 := Lib.hid (ho5.box HX4.out (by omega)); have HB5 := Lib.hid ((((hb2.trans (hb3.mono hb2.size)).trans (ho4.below (by omega))).trans (ho5.below hb2.size))); simp only [Act.put, List.setIfInBounds_toArray, List.set_cons_zero, List.set_cons_succ])
        | (refine wpList_load_mid rfl 57 _ rfl W2.heap.size 0 rfl (encW x.2.1) _ HX5.out Try.underlying57 rfl (by kernel_rfl) ?_; simp only [Act.put, List.setIfInBounds_toArray, List.set_cons_zero, List.set_cons_succ])
        | (refine wpList_build rfl 57 [] rfl [] rfl _ build_wide0 ?_; simp only [Act.put, List.setIfInBounds_toArray, List.set_cons_zero, List.set_cons_succ])
        | (refine wpList_neq_fine rfl _ _ _ _ rfl (encW x.2.1) (encW 0) rfl rfl kt_wide (fine_wide _) (fine_wide _) ?_; rw [show ∀ (dd : Decidable (encW x.2.1 = encW 0)), (!@decide (encW x.2.1 = encW 0) dd) = true from fun dd => by simp [HZ.out]]; simp only [Act.put, List.setIfInBounds_toArray, List.set_cons_zero, List.set_cons_succ])
        | (refine wpList_load_mid rfl 27 _ rfl w1.heap.size 0 rfl (encB x.1.pol) _ (row_piece HY4.out) Try.underlying27 rfl (by rw [encB_len, HK.out.1]; kernel_rfl) ?_; simp only [Act.put, List.setIfInBounds_toArray, List.set_cons_zero, List.set_cons_succ])
        | (refine wpList_load_cell rfl 9 _ rfl ⟨w1.heap.size, 32, none⟩ rfl (.string x.1.nm) _ (HY4.out.cell (by simp [encK, encB, HK.out.1])) Try.underlying9 rfl ?_; simp only [Act.put, List.setIfInBounds_toArray, List.set_cons_zero, List.set_cons_succ])
        | (refine wpList_build rfl 88 _ rfl [(0, .agg (encB x.1.pol).toArray), (1, .string x.1.nm), (2, .agg (encW x.2.1).toArray)] rfl _ (build_total (encB x.1.pol) (encW x.2.1) x.1.nm (by rw [encB_len, HK.out.1]) rfl) ?_; simp only [Act.put, List.setIfInBounds_toArray, List.set_cons_zero, List.set_cons_succ])
        | (refine wpList_slice_one rfl _ 88 _ rfl Try.underlying33 (.agg zTotal.toArray) Try.zeroValue88 35 Try.sizeOf88 rfl (by omega) (by omega) (encT ⟨x.1, HK.out, x.2.1⟩) rfl (encT_len _) ?_; intro W6 hx6 hb6 hs6; have HA6 := Lib.hid (HA1.out.step (HB5.out.trans (hb6.mono HB5.out.size))); simp only [Act.put, List.setIfInBounds_toArray, List.set_cons_zero, List.set_cons_succ])
        | (at_builtin; refine wpList_append_own_at _ rfl _ _ _ rfl _ _ im _ 35 64 Try.underlying33 hi1m hi2m hi3m hi4m rfl (by omega) _ _ _ rfl HA6.out.own ⟨W5.heap.size, 0, none⟩ 1 1 (encT ⟨x.1, HK.out, x.2.1⟩) rfl (encT_len _) hx6.news (encT_one _) (by have := HRl.out; have := Hlen.out; simp only [maxLen]; omega) (by have := HRl.out; have := Hlen.out; omega) HA6.out.sz ?_; intro v7 w7 ho7 hg7 hn7 ha7; simp only [Act.put, List.setIfInBounds_toArray, List.set_cons_zero, List.set_cons_succ]))
      refine ⟨?_, ?_⟩
      · have hA9 := HA6.out.more Hm.out ⟨x.1, HK.out, x.2.1⟩ hg7 ho7
        have hR9 : (R ++ [(⟨x.1, HK.out, x.2.1⟩ : Tot)]).map kv = kept (vis ++ [x]) := by rw [List.map_append, HRk.out, kept_more _ _ HZ.out]; rfl
        first | exact ⟨vis ++ [x], R ++ [⟨x.1, HK.out, x.2.1⟩], hR9, HV1.out, hA9⟩ | ((repeat apply Exists.intro); exact ⟨⟨hR9, HV1.out, hA9⟩, rfl⟩)
      · rw [HM0.out, visOf_at (HA6.out.more Hm.out ⟨x.1, HK.out, x.2.1⟩ hg7 ho7).it, List.length_append, List.length_singleton]
        have := Hvl.out
        omega
end Go.Proofs.Ytjmkkndglmapaaa
