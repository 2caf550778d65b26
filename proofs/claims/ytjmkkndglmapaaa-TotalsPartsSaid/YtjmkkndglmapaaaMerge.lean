/- value.Merge: the walk. -/
import Derived.Test.YtjmkkndglmapaaaGrow
set_option linter.unusedSimpArgs false
set_option linter.unusedVariables false
namespace Go.Proofs.Ytjmkkndglmapaaa
open Go.RowKit Go.Shelf Go.Lib Go.Sort Go.WideShapes Go.ChangeShapes

theorem own_elem {W : World} {base : Nat} {e : TypeId} {A : Option Addr} {c n : Nat} {F : List Tot} (h : W.ownsRow base e 35 (.slice A n c) n (F.flatMap encT)) {k : Nat} {t : Tot} (hk : F[k]? = some t) (hn : n = F.length) : ∃ g, A = some ⟨g, 0, none⟩ ∧ W.rangeAt g (0 + k * 35) (encT t) ∧ base ≤ g := by
  subst hn
  have hlt : k < F.length := (List.getElem?_eq_some_iff.1 hk).1
  obtain ⟨A', c', b, o, h1, _, _, _, h4, h5⟩ := TsAt.own h
  rcases h.2 with ⟨h6, h7⟩ | ⟨g, cap, cur, h6, h7, _⟩
  · omega
  · simp only [Value.slice.injEq] at h1 h6
    obtain ⟨rfl, -, -⟩ := h6
    obtain ⟨rfl, -⟩ := h1
    have := h4 (by omega)
    simp only [Option.some.injEq, Addr.mk.injEq, and_true] at this
    obtain ⟨rfl, rfl⟩ := this
    obtain ⟨cs, rfl, _, hr⟩ := h5 k t hk
    exact ⟨_, rfl, hr, h7⟩
theorem own_form {W : World} {base : Nat} {e : TypeId} {v : Value} {n size : Nat} {xs : List Value} (h : W.ownsRow base e size v n xs) : ∃ A c, v = .slice A n c ∧ n ≤ maxLen := by
  rcases h.2 with ⟨h6, h7⟩ | ⟨g, cap, cur, h6, h7, _, h8, h9, _⟩
  · exact ⟨none, 0, by rw [h6, h7], by omega⟩
  · exact ⟨_, cap, h6, by omega⟩

/-- A book at work, beside a row of the call's own. -/
structure Bk (w wr : World) (m : Nat) (T : Key → Int) (N : Nat) (lo : Nat) (v : Value) (F : List Tot) : Prop where
  book : ∃ L c, BookAt wr m L c ∧ (∀ j, valAt L j = T j) ∧ L.length ≤ N
  bl : Below w.heap.size w wr
  ge : w.heap.size ≤ m
  lt : m < lo
  own : wr.ownsRow lo 88 35 v F.length (F.flatMap encT)
theorem Bk.step {w wr W : World} {m : Nat} {T : Key → Int} {N lo : Nat} {v : Value} {F : List Tot} (h : Bk w wr m T N lo v F) (hb : Below wr.heap.size wr W) : Bk w W m T N lo v F := by
  obtain ⟨L, c, h1, h2, h3⟩ := h.book
  exact ⟨⟨L, c, h1.below hb, h2, h3⟩, h.bl.trans (hb.mono h.bl.size), h.ge, h.lt, h.own.kept (below_grown hb rfl none) (by cases v.ownBlock <;> simp)⟩
theorem Bk.added {w wr W : World} {m : Nat} {T T' : Key → Int} {N lo : Nat} {v : Value} {F : List Tot} (h : Bk w wr m T N lo v F) {L' : BookL} {c' : Nat} (hb : BookAt W m L' c') (hT : ∀ j, valAt L' j = T' j) (hl : L'.length ≤ N + 1) (hg : wr.grownBy W (some m)) : Bk w W m T' (N + 1) lo v F := by
  obtain ⟨L, c, h1, _, _⟩ := h.book
  have hm := h1.lt
  have hge := h.ge
  refine ⟨⟨L', c', hb, hT, hl⟩, ⟨hg.os.trans h.bl.os, hg.tape.trans h.bl.tape, hg.output.trans h.bl.output, by have := h.bl.size; have := hg.size; omega, fun k hk => (hg.block k (by have := h.bl.size; omega) (by simp; omega)).trans (h.bl.block k hk)⟩, h.ge, h.lt, h.own.kept hg ?_⟩
  cases hv : v.ownBlock with
  | none => simp
  | some g => right; have := (h.own.lt g hv).1; have := h.lt; simp; omega

set_option maxRecDepth 100000 in
set_option maxHeartbeats 4000000 in
theorem merge_at (Rs : List (List Tot)) (F : List Tot) (hF : Rs.flatten = F) (v : Value) (w : World) (h : RsAt w v Rs) (hlen : rlen Rs ≤ 1099511627776) :
    Calls Try.prog 12 #[v] w fun e w' => ∃ sl R, e = .returned sl ∧ w'.ownsRow w.heap.size 88 35 sl R.length (R.flatMap encT) ∧ Below w.heap.size w w' ∧ Told (tsum F) R := by
  have hfl := flatten_len Rs
  rw [hF] at hfl
  have hfn : F.length ≤ 1099511627776 := by omega
  have hcc := fun W2 hb2 => concat_any Rs v W2 (SlAt.below stays_row h hb2) hlen
  rw [hF] at hcc
  have HCC : Hid (∀ W2, Below w.heap.size w W2 → _) := hcc
  have Hfn := Lib.hid hfn
  clear h hlen hfl hfn hcc hF
  go_enter Try.func12, Try.ntmps12
  go_wp2_with (first
    | (refine wpList_makeMap rfl _ rfl ?_; intro W2 hm2 hb2 hs2; have HC := Lib.hid (HCC.out W2 hb2); simp only [Act.put, List.setIfInBounds_toArray, List.set_cons_zero, List.set_cons_succ])
    | (go_at_call 25; refine HC.out.mono ?_; rintro e w3 ⟨sl, rfl, ho3, hb3⟩; obtain ⟨A, c, rfl, hmx⟩ := own_form ho3))
  have hB0 : Bk w w3 w.heap.size (tsum (F.take 0)) 0 W2.heap.size (.slice A F.length c) F :=
    ⟨⟨[], 0, hm2.below hb3, fun j => rfl, Nat.le_refl _⟩, hb2.trans (hb3.mono hb2.size), Nat.le_refl _, hs2, ho3⟩
  have hn63 : F.length < 9223372036854775807 := by have := Hfn.out; omega
  clear hm2 hb2 ho3 hb3 hmx HC HCC
  go_loopw [10] (fun i wr => ∃ k : Nat, k ≤ F.length ∧ i = .int .i64 k ∧ Bk w wr (World.heap w).size (tsum (F.take k)) k (World.heap W2).size (.slice A F.length c) F) (fun i _ => F.length - (intOf i).toNat)
  case atStart => exact ⟨0, Nat.zero_le _, rfl, hB0⟩
  case round =>
    obtain ⟨k, hk, rfl, hR⟩ := hrel
    clear hB0
    have HR := Lib.hid hR
    clear hR
    by_cases hlt : k < F.length
    · have hg : F[k]? = some F[k] := List.getElem?_eq_getElem hlt
      generalize F[k] = t at hg
      obtain ⟨g, rfl, hr1, _⟩ := own_elem HR.out.own hg rfl
      have htm := tsum_more hg
      have HT := Lib.hid htm
      have HL := Lib.hid (encT_len t)
      have HH := Lib.hid t.h
      clear hg htm
      go_wp2_with (first
        | (refine wpList_load_mid rfl 88 _ rfl g (0 + k * 35) rfl _ _ hr1 Try.underlying88 rfl (by rw [HL.out]; kernel_rfl) ?_; simp only [Act.put, List.setIfInBounds_toArray, List.set_cons_zero, List.set_cons_succ])
        | (refine wpList_load_mid rfl 88 _ rfl g (k * 35) rfl _ _ (by rw [Nat.zero_add] at hr1; exact hr1) Try.underlying88 rfl (by rw [HL.out]; kernel_rfl) ?_; simp only [Act.put, List.setIfInBounds_toArray, List.set_cons_zero, List.set_cons_succ])
        | (refine wpList_alloc_box rfl 88 rfl _ Try.zeroValue88 zTotal rfl ?_; intro W3 hx3 hb3 hs3; simp only [Act.put, List.setIfInBounds_toArray, List.set_cons_zero, List.set_cons_succ])
        | (refine wpList_store_box rfl 88 _ _ rfl _ 0 (encT t) rfl rfl _ _ hx3 (by rw [HL.out]; simp [zTotal]) (by rw [HL.out]; kernel_rfl) (encT_one _) ?_; intro W4 hx4 ho4; have HX4 := Lib.hid (box_laid hx4 (by rw [HL.out]; simp [zTotal])); have HB4 := Lib.hid (HR.out.step (hb3.trans (ho4.below (Nat.le_refl _)))); obtain ⟨L8, c8, hbk8, hT8, hl8⟩ := HB4.out.book; have HAD := Lib.hid (add_any w.heap.size L8 c8 t.k t.v HH.out W4 hbk8); simp only [Act.put, List.setIfInBounds_toArray, List.set_cons_zero, List.set_cons_succ])
        | (refine wpList_load_mid rfl 27 _ rfl wr.heap.size 0 rfl (encB t.k.pol) _ (fun j u hu => HX4.out.whole j u (by unfold encT encK; rw [List.append_assoc, List.getElem?_append_left (List.getElem?_eq_some_iff.1 hu).1]; exact hu)) Try.underlying27 rfl (by rw [encB_len, HH.out.1]; kernel_rfl) ?_; simp only [Act.put, List.setIfInBounds_toArray, List.set_cons_zero, List.set_cons_succ])
        | (refine wpList_load_cell rfl 9 _ rfl ⟨wr.heap.size, 32, none⟩ rfl (.string t.k.nm) _ (HX4.out.cell (by simp [encT, encK, encB, HH.out.1])) Try.underlying9 rfl ?_; simp only [Act.put, List.setIfInBounds_toArray, List.set_cons_zero, List.set_cons_succ])
        | (refine wpList_build rfl 93 _ rfl [(0, .agg (encB t.k.pol).toArray), (1, .string t.k.nm)] rfl _ (build_name (encB t.k.pol) t.k.nm (by rw [encB_len, HH.out.1])) ?_; simp only [Act.put, List.setIfInBounds_toArray, List.set_cons_zero, List.set_cons_succ])
        | (refine wpList_load_mid rfl 57 _ rfl wr.heap.size 33 rfl (encW t.v) _ (by have := HX4.out.range 33 2; unfold encT at this; rw [List.drop_left' (encK_len t.k HH.out.1)] at this; exact this) Try.underlying57 rfl (by kernel_rfl) ?_; simp only [Act.put, List.setIfInBounds_toArray, List.set_cons_zero, List.set_cons_succ])
        | (go_at_call 26; refine HAD.out.mono ?_; rintro e w9 ⟨rfl, ⟨L9, c9, hbk9, hadd⟩, hg9⟩))
      refine ⟨?_, by simp [intOf]; omega⟩
      have hB9 := HB4.out.added hbk9 (hadd.tells hT8 (T' := tsum (F.take (k + 1))) HT.out.1 HT.out.2) (by have := hadd.len; omega) hg9
      first | exact ⟨k + 1, by omega, by go_num, hB9⟩ | ((repeat apply Exists.intro); exact ⟨⟨k + 1, by omega, by go_num, hB9⟩, rfl⟩)
    · have hke : k = F.length := by omega
      subst hke
      have hR := HR.out
      rw [List.take_length] at hR
      obtain ⟨L8, c8, hbk8, hT8, hl8⟩ := hR.book
      have HTT := Lib.hid (totals_any w.heap.size L8 c8 wr hbk8 (by have := Hfn.out; omega))
      have hTE : valAt L8 = tsum F := funext hT8
      have HTE := Lib.hid hTE
      have HR1 := Lib.hid hR
      clear hR HR hbk8 hT8 hl8 hTE
      go_wp2_with (go_at_call 27; refine HTT.out.mono ?_; rintro e w9 ⟨v9, R9, rfl, ho9, hb9, ht9⟩)
      go_ret
      rw [HTE.out] at ht9
      exact ⟨_, R9, rfl, own_base ho9 HR1.out.bl.size rfl, HR1.out.bl.trans (hb9.mono HR1.out.bl.size), ht9⟩

theorem merge_any (Rs : List (List Tot)) (v : Value) (w : World) (h : RsAt w v Rs) (hlen : rlen Rs ≤ 1099511627776) :
    Calls Try.prog 12 #[v] w fun e w' => ∃ sl R, e = .returned sl ∧ w'.ownsRow w.heap.size 88 35 sl R.length (R.flatMap encT) ∧ Below w.heap.size w w' ∧ Told (tsum Rs.flatten) R :=
  merge_at Rs _ rfl v w h hlen
end Go.Proofs.Ytjmkkndglmapaaa
