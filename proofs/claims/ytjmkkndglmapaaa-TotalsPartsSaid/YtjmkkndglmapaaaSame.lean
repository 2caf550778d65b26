/- Rows of totals compared: moidorekit.SameTotals, slices.Equal. -/
import Derived.Test.YtjmkkndglmapaaaMerge
set_option linter.unusedSimpArgs false
set_option linter.unusedVariables false
namespace Go.Proofs.Ytjmkkndglmapaaa
open Go.RowKit Go.Shelf Go.Lib Go.Sort Go.WideShapes Go.ChangeShapes

section
variable {P : Program} {ops : Array Oper} {C : World → Prop} {Q : Act → Prop} {a : Act} {o : Oper} {rest : List Oper}
open Classical in
theorem qs_neq_fine (hg : o.guard = none) (t t' : TypeId) (x y : Operand) (ho : o.op = .binOp .neq t x y t') (xs ys : List Value) (hx : a.eval x = .agg xs.toArray) (hy : a.eval y = .agg ys.toArray) (h : KT P t) (fx : Fine P t xs) (fy : Fine P t ys)
    (hk : wpQuiet P ops C Q rest (a.put o.dst (.bool (!decide (xs = ys))))) : wpQuiet P ops C Q (o :: rest) a :=
  qs_run _ hg (fun W => by
    unfold execOp
    simp only [ho, hx, hy]
    rw [Sem.run_bind, run_neq_fine h fx fy]
    rfl) hk
end

theorem TsAt.elem {w : World} {A : Option Addr} {n c : Nat} {R : List Tot} (h : TsAt w (.slice A n c) R) : n = R.length ∧ n ≤ maxLen ∧ ∀ k t, R[k]? = some t → ∃ b o, A = some ⟨b, o, none⟩ ∧ w.rangeAt b (o + k * 35) (encT t) := by
  obtain ⟨A', c', b, o, h1, h2, h3, h6, h4, h5⟩ := h
  simp only [Value.slice.injEq] at h1
  obtain ⟨rfl, rfl, rfl⟩ := h1
  refine ⟨rfl, by omega, fun k t hk => ?_⟩
  have hlt : k < R.length := (List.getElem?_eq_some_iff.1 hk).1
  obtain ⟨cs, rfl, _, hr⟩ := h5 k t hk
  exact ⟨b, o, h4 (by omega), hr⟩
theorem TsAt.form {w : World} {v : Value} {R : List Tot} (h : TsAt w v R) : ∃ A c, v = .slice A R.length c := by
  obtain ⟨A', c', b, o, h1, _⟩ := h
  exact ⟨A', c', h1⟩

set_option maxRecDepth 100000 in
set_option maxHeartbeats 4000000 in
theorem same_any (R S : List Tot) (v u : Value) (w : World) (h : TsAt w v R) (h' : TsAt w u S) :
    Calls Try.prog 11 #[v, u] w fun e w' => (∃ b, e = .returned (.bool b) ∧ (b = true ↔ R.map encT = S.map encT)) ∧ Below w.heap.size w w' := by
  obtain ⟨A, c, rfl⟩ := h.form
  obtain ⟨A', c', rfl⟩ := h'.form
  obtain ⟨-, hn1, hx⟩ := h.elem
  obtain ⟨-, hn2, hx'⟩ := h'.elem
  have HX := Lib.hid hx
  have HX' := Lib.hid hx'
  have hn : R.length ≤ 9223372036854775807 := by simp only [maxLen] at hn1; omega
  have hmx := hn2
  clear h h' hx hx' hn1 hn2
  by_cases hlen : R.length = S.length
  · generalize hS : S.length = n at *
    have HS := Lib.hid hS
    have HL := Lib.hid hlen
    rw [hlen] at hn ⊢
    clear hS hlen
    go_enter Try.func11, Try.ntmps11
    go_wp2
    go_loopw [5] (fun i wr => ∃ k : Nat, k ≤ n ∧ i = .int .i64 k ∧ (R.take k).map encT = (S.take k).map encT ∧ Below (World.heap w).size w wr) (fun i _ => n - (intOf i).toNat)
    case atStart => exact ⟨0, Nat.zero_le _, rfl, rfl, Below.refl _ _⟩
    case round =>
      obtain ⟨k, hk, rfl, heq, hB⟩ := hrel
      have HB := Lib.hid hB
      have HE := Lib.hid heq
      clear hB heq
      by_cases hlt : k < n
      · have hg : R[k]? = some (R[k]'(by rw [HL.out]; exact hlt)) := List.getElem?_eq_getElem _
        have hg' : S[k]? = some (S[k]'(by rw [HS.out]; exact hlt)) := List.getElem?_eq_getElem _
        generalize R[k]'(by rw [HL.out]; exact hlt) = x at hg
        generalize S[k]'(by rw [HS.out]; exact hlt) = y at hg'
        obtain ⟨b1, o1, rfl, hr1⟩ := HX.out k x hg
        obtain ⟨b2, o2, rfl, hr2⟩ := HX'.out k y hg'
        have HR1 := Lib.hid hr1
        have HR2 := Lib.hid hr2
        have HG := Lib.hid hg
        have HG' := Lib.hid hg'
        have HL1 := Lib.hid (encT_len x)
        have HL2 := Lib.hid (encT_len y)
        clear hr1 hr2 hg hg'
        go_wp2
        refine wp_region_below mixed (by kernel_rfl) ?_
        refine qs_move _ rfl rfl (.slice (some ⟨b1, o1, none⟩) n c) rfl ?_
        simp only [Act.put, List.setIfInBounds_toArray, List.set_cons_zero, List.set_cons_succ]
        refine qs_move _ rfl rfl (.int .i64 k) rfl ?_
        simp only [Act.put, List.setIfInBounds_toArray, List.set_cons_zero, List.set_cons_succ]
        refine qs_run (.pointer (some ⟨b1, o1 + k * 35, none⟩)) rfl (fun W => by go_simp) ?_
        simp only [Act.put, List.setIfInBounds_toArray, List.set_cons_zero, List.set_cons_succ]
        refine qs_load_mid 88 _ rfl rfl b1 (o1 + k * 35) rfl (encT x) _ (fun W hW => rangeAt_below (rangeAt_below HR1.out HB.out) hW) Try.underlying88 rfl (by rw [HL1.out]; kernel_rfl) ?_
        simp only [Act.put, List.setIfInBounds_toArray, List.set_cons_zero, List.set_cons_succ]
        refine qs_move _ rfl rfl (.slice (some ⟨b2, o2, none⟩) n c') rfl ?_
        simp only [Act.put, List.setIfInBounds_toArray, List.set_cons_zero, List.set_cons_succ]
        refine qs_move _ rfl rfl (.int .i64 k) rfl ?_
        simp only [Act.put, List.setIfInBounds_toArray, List.set_cons_zero, List.set_cons_succ]
        refine qs_run (.pointer (some ⟨b2, o2 + k * 35, none⟩)) rfl (fun W => by go_simp) ?_
        simp only [Act.put, List.setIfInBounds_toArray, List.set_cons_zero, List.set_cons_succ]
        refine qs_load_mid 88 _ rfl rfl b2 (o2 + k * 35) rfl (encT y) _ (fun W hW => rangeAt_below (rangeAt_below HR2.out HB.out) hW) Try.underlying88 rfl (by rw [HL2.out]; kernel_rfl) ?_
        simp only [Act.put, List.setIfInBounds_toArray, List.set_cons_zero, List.set_cons_succ]
        refine qs_neq_fine rfl _ _ _ _ rfl (encT x) (encT y) rfl rfl kt_total (fine_total x.h x.v) (fine_total y.h y.v) ?_
        simp only [Act.put, List.setIfInBounds_toArray, List.set_cons_zero, List.set_cons_succ]
        refine wpQuiet_nil ?_
        intro W hW
        have HW := Lib.hid hW
        clear hW
        by_cases hq : encT x = encT y
        · have HQ := Lib.hid hq
          rw [show ∀ (dd : Decidable (encT x = encT y)), (!@decide (encT x = encT y) dd) = false from fun dd => by simp [hq]]
          clear hq
          go_wp2
          refine ⟨?_, by simp [intOf]; omega⟩
          have he : (R.take (k + 1)).map encT = (S.take (k + 1)).map encT := by rw [take_more HG.out, take_more HG'.out, List.map_append, List.map_append, HE.out, List.map_singleton, List.map_singleton, HQ.out]
          have hb : Below w.heap.size w W := HB.out.trans (HW.out.mono HB.out.size)
          first | exact ⟨k + 1, by omega, by go_num, he, hb⟩ | ((repeat apply Exists.intro); exact ⟨⟨k + 1, by omega, by go_num, he, hb⟩, rfl⟩)
        · have HQ := Lib.hid hq
          rw [show ∀ (dd : Decidable (encT x = encT y)), (!@decide (encT x = encT y) dd) = true from fun dd => by simp [hq]]
          clear hq
          go_wp2
          go_ret
          refine ⟨⟨_, rfl, ?_⟩, HB.out.trans (HW.out.mono HB.out.size)⟩
          simp only [Bool.false_eq_true, false_iff]
          intro he
          have h1 : (R.map encT)[k]? = (S.map encT)[k]? := by rw [he]
          rw [List.getElem?_map, List.getElem?_map, HG.out, HG'.out] at h1
          exact HQ.out (by simpa using h1)
      · have hke : k = n := by omega
        have he := HE.out
        rw [hke] at he
        rw [List.take_of_length_le (by rw [HL.out]; exact Nat.le_refl _), List.take_of_length_le (by rw [HS.out]; exact Nat.le_refl _)] at he
        have HE1 := Lib.hid he
        clear he
        go_wp2
        go_ret
        exact ⟨⟨_, rfl, by simp only [true_iff]; exact HE1.out⟩, HB.out⟩
  · have hne : ¬ R.map encT = S.map encT := fun e => hlen (by simpa using congrArg List.length e)
    have HN := Lib.hid hne
    have hn2 : S.length ≤ 9223372036854775807 := by have := hmx; simp only [maxLen] at this; omega
    clear hne
    generalize R.length = n1 at *
    generalize S.length = n2 at *
    go_enter Try.func11, Try.ntmps11
    go_wp2
    go_ret
    refine ⟨⟨_, rfl, ?_⟩, Below.refl _ _⟩
    simp only [Bool.false_eq_true, false_iff]
    exact HN.out
set_option maxRecDepth 100000 in
set_option maxHeartbeats 4000000 in
theorem equal_any (R S : List Tot) (v u : Value) (w : World) (h : TsAt w v R) (h' : TsAt w u S) :
    Calls Try.prog 29 #[v, u] w fun e w' => (∃ b, e = .returned (.bool b) ∧ (b = true ↔ R.map encT = S.map encT)) ∧ Below w.heap.size w w' := by
  obtain ⟨A, c, rfl⟩ := h.form
  obtain ⟨A', c', rfl⟩ := h'.form
  obtain ⟨-, hn1, hx⟩ := h.elem
  obtain ⟨-, hn2, hx'⟩ := h'.elem
  have HX := Lib.hid hx
  have HX' := Lib.hid hx'
  have hn : R.length ≤ 9223372036854775807 := by simp only [maxLen] at hn1; omega
  have hmx := hn2
  clear h h' hx hx' hn1 hn2
  by_cases hlen : R.length = S.length
  · generalize hS : S.length = n at *
    have HS := Lib.hid hS
    have HL := Lib.hid hlen
    rw [hlen] at hn ⊢
    clear hS hlen
    go_enter Try.func29, Try.ntmps29
    go_wp2
    go_loopw [13] (fun i wr => ∃ k : Nat, k ≤ n ∧ i = .int .i64 k ∧ (R.take k).map encT = (S.take k).map encT ∧ Below (World.heap w).size w wr) (fun i _ => n - (intOf i).toNat)
    case atStart => exact ⟨0, Nat.zero_le _, rfl, rfl, Below.refl _ _⟩
    case round =>
      obtain ⟨k, hk, rfl, heq, hB⟩ := hrel
      have HB := Lib.hid hB
      have HE := Lib.hid heq
      clear hB heq
      by_cases hlt : k < n
      · have hg : R[k]? = some (R[k]'(by rw [HL.out]; exact hlt)) := List.getElem?_eq_getElem _
        have hg' : S[k]? = some (S[k]'(by rw [HS.out]; exact hlt)) := List.getElem?_eq_getElem _
        generalize R[k]'(by rw [HL.out]; exact hlt) = x at hg
        generalize S[k]'(by rw [HS.out]; exact hlt) = y at hg'
        obtain ⟨b1, o1, rfl, hr1⟩ := HX.out k x hg
        obtain ⟨b2, o2, rfl, hr2⟩ := HX'.out k y hg'
        have HR1 := Lib.hid hr1
        have HR2 := Lib.hid hr2
        have HG := Lib.hid hg
        have HG' := Lib.hid hg'
        have HL1 := Lib.hid (encT_len x)
        have HL2 := Lib.hid (encT_len y)
        clear hr1 hr2 hg hg'
        go_wp2
        refine wp_region_below mixed (by kernel_rfl) ?_
        refine qs_move _ rfl rfl (.slice (some ⟨b1, o1, none⟩) n c) rfl ?_
        simp only [Act.put, List.setIfInBounds_toArray, List.set_cons_zero, List.set_cons_succ]
        refine qs_move _ rfl rfl (.int .i64 k) rfl ?_
        simp only [Act.put, List.setIfInBounds_toArray, List.set_cons_zero, List.set_cons_succ]
        refine qs_run (.pointer (some ⟨b1, o1 + k * 35, none⟩)) rfl (fun W => by go_simp) ?_
        simp only [Act.put, List.setIfInBounds_toArray, List.set_cons_zero, List.set_cons_succ]
        refine qs_load_mid 88 _ rfl rfl b1 (o1 + k * 35) rfl (encT x) _ (fun W hW => rangeAt_below (rangeAt_below HR1.out HB.out) hW) Try.underlying88 rfl (by rw [HL1.out]; kernel_rfl) ?_
        simp only [Act.put, List.setIfInBounds_toArray, List.set_cons_zero, List.set_cons_succ]
        refine qs_move _ rfl rfl (.slice (some ⟨b2, o2, none⟩) n c') rfl ?_
        simp only [Act.put, List.setIfInBounds_toArray, List.set_cons_zero, List.set_cons_succ]
        refine qs_move _ rfl rfl (.int .i64 k) rfl ?_
        simp only [Act.put, List.setIfInBounds_toArray, List.set_cons_zero, List.set_cons_succ]
        refine qs_run (.pointer (some ⟨b2, o2 + k * 35, none⟩)) rfl (fun W => by go_simp) ?_
        simp only [Act.put, List.setIfInBounds_toArray, List.set_cons_zero, List.set_cons_succ]
        refine qs_load_mid 88 _ rfl rfl b2 (o2 + k * 35) rfl (encT y) _ (fun W hW => rangeAt_below (rangeAt_below HR2.out HB.out) hW) Try.underlying88 rfl (by rw [HL2.out]; kernel_rfl) ?_
        simp only [Act.put, List.setIfInBounds_toArray, List.set_cons_zero, List.set_cons_succ]
        refine qs_neq_fine rfl _ _ _ _ rfl (encT x) (encT y) rfl rfl kt_total (fine_total x.h x.v) (fine_total y.h y.v) ?_
        simp only [Act.put, List.setIfInBounds_toArray, List.set_cons_zero, List.set_cons_succ]
        refine wpQuiet_nil ?_
        intro W hW
        have HW := Lib.hid hW
        clear hW
        by_cases hq : encT x = encT y
        · have HQ := Lib.hid hq
          rw [show ∀ (dd : Decidable (encT x = encT y)), (!@decide (encT x = encT y) dd) = false from fun dd => by simp [hq]]
          clear hq
          go_wp2
          refine ⟨?_, by simp [intOf]; omega⟩
          have he : (R.take (k + 1)).map encT = (S.take (k + 1)).map encT := by rw [take_more HG.out, take_more HG'.out, List.map_append, List.map_append, HE.out, List.map_singleton, List.map_singleton, HQ.out]
          have hb : Below w.heap.size w W := HB.out.trans (HW.out.mono HB.out.size)
          first | exact ⟨k + 1, by omega, by go_num, he, hb⟩ | ((repeat apply Exists.intro); exact ⟨⟨k + 1, by omega, by go_num, he, hb⟩, rfl⟩)
        · have HQ := Lib.hid hq
          rw [show ∀ (dd : Decidable (encT x = encT y)), (!@decide (encT x = encT y) dd) = true from fun dd => by simp [hq]]
          clear hq
          go_wp2
          go_ret
          refine ⟨⟨_, rfl, ?_⟩, HB.out.trans (HW.out.mono HB.out.size)⟩
          simp only [Bool.false_eq_true, false_iff]
          intro he
          have h1 : (R.map encT)[k]? = (S.map encT)[k]? := by rw [he]
          rw [List.getElem?_map, List.getElem?_map, HG.out, HG'.out] at h1
          exact HQ.out (by simpa using h1)
      · have hke : k = n := by omega
        have he := HE.out
        rw [hke] at he
        rw [List.take_of_length_le (by rw [HL.out]; exact Nat.le_refl _), List.take_of_length_le (by rw [HS.out]; exact Nat.le_refl _)] at he
        have HE1 := Lib.hid he
        clear he
        go_wp2
        go_ret
        exact ⟨⟨_, rfl, by simp only [true_iff]; exact HE1.out⟩, HB.out⟩
  · have hne : ¬ R.map encT = S.map encT := fun e => hlen (by simpa using congrArg List.length e)
    have HN := Lib.hid hne
    have hn2 : S.length ≤ 9223372036854775807 := by have := hmx; simp only [maxLen] at this; omega
    clear hne
    generalize R.length = n1 at *
    generalize S.length = n2 at *
    go_enter Try.func29, Try.ntmps29
    go_wp2
    go_ret
    refine ⟨⟨_, rfl, ?_⟩, Below.refl _ _⟩
    simp only [Bool.false_eq_true, false_iff]
    exact HN.out
end Go.Proofs.Ytjmkkndglmapaaa
