/- The map of wide sums by assets' names: what it holds, a look-up, a store. -/
import Derived.Test.YtjmkkndglmapaaaOrd
import Derived.Test.YtjmkkndglmapaaaEq
import Derived.Test.YtjmkkndglmapaaaHid
set_option linter.unusedSimpArgs false
set_option linter.unusedVariables false
namespace Go.Proofs.Ytjmkkndglmapaaa
open Go.RowKit

def okK (k : Key) : Prop := k.pol.length = 32 ∧ k.nm.size ≤ maxLen

theorem laidOut : laidOutB Try.prog = true := by kernel_rfl
theorem smallTypes : Try.prog.types.size + 1 + 1 ≤ 10000 := of_decide_eq_true (by kernel_rfl)
theorem kt_name : KT Try.prog 93 := ⟨by kernel_rfl, by kernel_rfl, smallTypes, laidOut, of_decide_eq_true (by kernel_rfl), by kernel_rfl⟩
theorem kt_wide : KT Try.prog 57 := ⟨by kernel_rfl, by kernel_rfl, smallTypes, laidOut, of_decide_eq_true (by kernel_rfl), by kernel_rfl⟩
theorem kt_total : KT Try.prog 88 := ⟨by kernel_rfl, by kernel_rfl, smallTypes, laidOut, of_decide_eq_true (by kernel_rfl), by kernel_rfl⟩

theorem kl_hash (m : Nat) (l : List UInt8) (h : l.length = 32) : KL Try.prog (m + 1 + 1) 27 (encB l) := by
  have e : Try.prog.cellsOf 5 = 1 := by kernel_rfl
  refine KL.array Try.underlying27 (by rw [encB_len, h]; exact (sz_api_Hash).symm) fun i hi => ?_
  rw [e, Nat.mul_one]
  have hi' : i < l.length := by omega
  have hx : ((encB l).drop i).take 1 = [.int .u8 (l[i]'hi').toNat] := by
    rw [List.drop_eq_getElem_cons (by rw [encB_len]; exact hi')]
    simp [encB]
  rw [hx]
  refine KL.int Try.underlying5 ?_
  have := (l[i]'hi').toNat_lt
  simp [Lit.wf, IntKind.min, IntKind.max, IntKind.signed, IntKind.bits]
  omega
theorem kl_wide (m : Nat) (x : Int) : KL Try.prog (m + 1 + 1) 57 (encW x) := by
  have h1 := hiW_bd x
  have h2 := loW_bd x
  refine KL.struct Try.underlying57 (sz_api_Wide).symm (by simp) fun f hf => ?_
  simp only [List.mem_cons, List.not_mem_nil, or_false] at hf
  rcases hf with rfl | rfl
  · have e1 : Try.prog.cellsOf 2 = 1 := by kernel_rfl
    have e : IntKind.i64.wrap (x / 18446744073709551616) = hiW x := by rw [IntKind.wrap_i64]; rfl
    have h := wf_wrap .i64 (x / 18446744073709551616)
    rw [e] at h
    show KL _ _ 2 (((encW x).drop 0).take (Try.prog.cellsOf 2))
    rw [e1]
    exact KL.int Try.underlying2 h
  · have e1 : Try.prog.cellsOf 30 = 1 := by kernel_rfl
    have e : IntKind.u64.wrap x = loW x := by unfold IntKind.wrap loW; simp [IntKind.signed, IntKind.bits]
    have h := wf_wrap .u64 x
    rw [e] at h
    show KL _ _ 30 (((encW x).drop 1).take (Try.prog.cellsOf 30))
    rw [e1]
    exact KL.int Try.underlying30 h

theorem types_size : ∃ m, Try.prog.types.size + 1 = m + 1 + 1 + 1 + 1 := ⟨Try.prog.types.size - 3, by
  have : 3 ≤ Try.prog.types.size := of_decide_eq_true (by kernel_rfl)
  omega⟩

theorem fine_name {k : Key} (h : okK k) : Fine Try.prog 93 (encK k) := by
  refine ⟨?_, by rw [encK_len k h.1]; exact (sz_value_name).symm⟩
  obtain ⟨m, e⟩ := types_size
  rw [e]
  refine KL.struct Try.underlying93 (by rw [encK_len k h.1]; exact (sz_value_name).symm) (by simp) fun f hf => ?_
  simp only [List.mem_cons, List.not_mem_nil, or_false] at hf
  rcases hf with rfl | rfl
  · have e1 : Try.prog.cellsOf 27 = 32 := sz_api_Hash
    show KL _ _ 27 (((encK k).drop 0).take (Try.prog.cellsOf 27))
    rw [e1, show ((encK k).drop 0).take 32 = encB k.pol by simp [encK, encB, h.1]]
    exact kl_hash _ _ h.1
  · have e1 : Try.prog.cellsOf 9 = 1 := by kernel_rfl
    show KL _ _ 9 (((encK k).drop 32).take (Try.prog.cellsOf 9))
    rw [e1, show ((encK k).drop 32).take 1 = [.string k.nm] by simp [encK, encB, h.1]]
    exact KL.str Try.underlying9 h.2
theorem fine_wide (x : Int) : Fine Try.prog 57 (encW x) := by
  refine ⟨?_, (sz_api_Wide).symm⟩
  obtain ⟨m, e⟩ := types_size
  rw [e]
  exact kl_wide _ x
theorem fine_total {k : Key} (h : okK k) (x : Int) : Fine Try.prog 88 (encK k ++ encW x) := by
  have hl : (encK k ++ encW x).length = 35 := by rw [List.length_append, encK_len k h.1]; rfl
  refine ⟨?_, by rw [hl]; exact (sz_api_Total).symm⟩
  obtain ⟨m, e⟩ := types_size
  rw [e]
  refine KL.struct Try.underlying88 (by rw [hl]; exact (sz_api_Total).symm) (by simp) fun f hf => ?_
  simp only [List.mem_cons, List.not_mem_nil, or_false] at hf
  rcases hf with rfl | rfl | rfl
  · have e1 : Try.prog.cellsOf 27 = 32 := sz_api_Hash
    show KL _ _ 27 (((encK k ++ encW x).drop 0).take (Try.prog.cellsOf 27))
    rw [e1, show ((encK k ++ encW x).drop 0).take 32 = encB k.pol by simp [encK, encB, h.1]]
    exact kl_hash _ _ h.1
  · have e1 : Try.prog.cellsOf 9 = 1 := by kernel_rfl
    show KL _ _ 9 (((encK k ++ encW x).drop 32).take (Try.prog.cellsOf 9))
    rw [e1, show ((encK k ++ encW x).drop 32).take 1 = [.string k.nm] by simp [encK, encB, h.1]]
    exact KL.str Try.underlying9 h.2
  · have e1 : Try.prog.cellsOf 57 = 2 := sz_api_Wide
    show KL _ _ 57 (((encK k ++ encW x).drop 33).take (Try.prog.cellsOf 57))
    rw [e1, List.drop_left' (encK_len k h.1)]
    exact kl_wide _ x

theorem encB_inj {a b : List UInt8} (h : encB a = encB b) : a = b := by
  unfold encB at h
  refine (List.map_inj_right (fun x y hxy => ?_)).1 h
  simp only [Value.int.injEq, true_and] at hxy
  exact UInt8.toNat_inj.1 (by omega)
theorem encK_inj {a b : Key} (ha : okK a) (hb : okK b) (h : encK a = encK b) : a = b := by
  unfold encK at h
  have h1 := List.append_inj h (by rw [encB_len, encB_len, ha.1, hb.1])
  cases a
  cases b
  simp only [List.cons.injEq, Value.string.injEq, and_true] at h1
  simp only [Key.mk.injEq]
  exact ⟨encB_inj h1.1, h1.2⟩

open Classical in
/-- What a book tells of a name. -/
noncomputable def valAt (L : List (Key × Int × Nat)) (k : Key) : Int := match L.find? (fun x => decide (x.1 = k)) with | some x => x.2.1 | none => 0
def entB (x : Key × Int × Nat) : MapEntry := ⟨.agg (encK x.1).toArray, .agg (encW x.2.1).toArray, x.2.2⟩
structure BookAt (w : World) (m : Nat) (L : List (Key × Int × Nat)) (clock : Nat) : Prop where
  blk : w.heap[m]? = some (.map (L.map entB).toArray clock)
  ok : ∀ x ∈ L, okK x.1
  once : (L.map (·.1)).Nodup
  born : ∀ x ∈ L, x.2.2 < clock
  stamps : (L.map (·.2.2)).Nodup

theorem BookAt.made (w : World) : BookAt (w.alloc (.map #[] 0)) w.heap.size [] 0 := ⟨heap_alloc_new w _, by simp, by simp, by simp, by simp⟩
theorem BookAt.lt {w : World} {m : Nat} {L : List (Key × Int × Nat)} {c : Nat} (h : BookAt w m L c) : m < w.heap.size := (Array.getElem?_eq_some_iff.1 h.blk).1
theorem BookAt.kept {w W : World} {m : Nat} {L : List (Key × Int × Nat)} {c : Nat} (h : BookAt w m L c) (hb : W.heap[m]? = w.heap[m]?) : BookAt W m L c := ⟨hb.trans h.blk, h.ok, h.once, h.born, h.stamps⟩
theorem BookAt.below {w W : World} {m : Nat} {L : List (Key × Int × Nat)} {c : Nat} (h : BookAt w m L c) (hb : Below w.heap.size w W) : BookAt W m L c := h.kept (hb.block m h.lt)

theorem book_keys {L : List (Key × Int × Nat)} (h : ∀ x ∈ L, okK x.1) : ∀ e ∈ (L.map entB), ∃ l, keyOf Try.prog 93 e.key = some l := by
  intro e he
  obtain ⟨x, hx, rfl⟩ := List.mem_map.1 he
  exact (fine_name (h x hx)).keyOf kt_name

/-- The key is found, or it is not there. -/
theorem BookAt.find {w : World} {m : Nat} {L : List (Key × Int × Nat)} {c : Nat} (h : BookAt w m L c) {k : Key} (hk : okK k) (W : World) :
    ((Instr.findKey 93 (.agg (encK k).toArray) (L.map entB)).run Try.prog W = .ok none W ∧ ∀ x ∈ L, x.1 ≠ k) ∨
    ∃ j x, (Instr.findKey 93 (.agg (encK k).toArray) (L.map entB)).run Try.prog W = .ok (some (j, .agg (encW x.2.1).toArray)) W ∧ L[j]? = some x ∧ x.1 = k := by
  obtain ⟨l, hl⟩ := (fine_name hk).keyOf kt_name
  rcases kt_name.law.find W hl (L.map entB) (book_keys h.ok) with ⟨h1, h2⟩ | ⟨j, e, h1, h2, h3⟩
  · refine .inl ⟨h1, fun x hx e => ?_⟩
    exact h2 (entB x) (List.mem_map.2 ⟨x, hx, rfl⟩) (by simp [entB, e])
  · right
    rw [List.getElem?_map] at h2
    obtain ⟨x, hx, rfl⟩ := Option.map_eq_some_iff.1 h2
    refine ⟨j, x, h1, hx, ?_⟩
    simp only [entB, Value.agg.injEq, List.toArray_inj] at h3
    exact encK_inj (h.ok x (List.mem_of_getElem? hx)) hk (by simpa using h3)

theorem valAt_none {L : List (Key × Int × Nat)} {k : Key} (h : ∀ x ∈ L, x.1 ≠ k) : valAt L k = 0 := by
  classical
  unfold valAt
  have : L.find? (fun x => decide (x.1 = k)) = none := by
    rw [List.find?_eq_none]
    intro x hx
    simpa using h x hx
  rw [this]
theorem valAt_some {L : List (Key × Int × Nat)} (hn : (L.map (·.1)).Nodup) {k : Key} {j : Nat} {x : Key × Int × Nat} (hx : L[j]? = some x) (hk : x.1 = k) : valAt L k = x.2.1 := by
  classical
  unfold valAt
  have hm : x ∈ L := List.mem_of_getElem? hx
  cases hf : L.find? (fun x => decide (x.1 = k)) with
  | none =>
    rw [List.find?_eq_none] at hf
    exact absurd hk (by simpa using hf x hm)
  | some y =>
    have hy := List.find?_some hf
    have hym := List.mem_of_find?_eq_some hf
    simp only [decide_eq_true_eq] at hy
    obtain ⟨i, hi⟩ := List.mem_iff_getElem?.1 hym
    have hlt : i < L.length := (List.getElem?_eq_some_iff.1 hi).1
    have hlt' : j < L.length := (List.getElem?_eq_some_iff.1 hx).1
    have e1 : (L.map (·.1))[i]? = (L.map (·.1))[j]? := by rw [List.getElem?_map, List.getElem?_map, hi, hx]; simp [hy, hk]
    have := (List.getElem?_inj (by simpa using hlt) hn).1 e1
    subst this
    rw [hi] at hx
    injection hx with hx
    rw [hx]

/-- m[k]. -/
theorem BookAt.lookup {w : World} {m : Nat} {L : List (Key × Int × Nat)} {c : Nat} (h : BookAt w m L c) {k : Key} (hk : okK k) :
    (Instr.lookup 90 (.map (some m)) (.agg (encK k).toArray) false).run Try.prog w = .ok (.agg (encW (valAt L k)).toArray) w := by
  obtain ⟨l, hl⟩ := (fine_name hk).keyOf kt_name
  unfold Instr.lookup
  rw [Sem.run_bind, run_underlying Try.underlying90]
  simp only [Result.andThen_ok]
  have hg : (getObj m).run Try.prog w = .ok (.map (L.map entB).toArray c) w := by simp [getObj, Sem.run, h.blk]
  rcases h.find hk w with ⟨h1, h2⟩ | ⟨j, x, h1, h2, h3⟩
  · simp only [Sem.run_bind, hg, Result.andThen_ok, Sem.run_pure, kt_name.law.check w _ hl, h1, Try.zeroValue57, valAt_none h2]
    rfl
  · simp only [Sem.run_bind, hg, Result.andThen_ok, Sem.run_pure, kt_name.law.check w _ hl, h1, Bool.false_eq_true, if_false, valAt_some h.once h2 h3]

/-- m[k] = v. -/
theorem BookAt.update {w : World} {m : Nat} {L : List (Key × Int × Nat)} {c : Nat} (h : BookAt w m L c) {k : Key} (hk : okK k) (v : Int) :
    ∃ L' c' w', (Instr.mapUpdate 90 (.map (some m)) (.agg (encK k).toArray) (.agg (encW v).toArray)).run Try.prog w = .ok () w' ∧ BookAt w' m L' c' ∧ Only m w w' ∧ L'.length ≤ L.length + 1 ∧
      valAt L' k = v ∧ (∀ k', k' ≠ k → valAt L' k' = valAt L k') ∧ (∀ x ∈ L', x.1 = k ∨ ∃ y ∈ L, y.1 = x.1) := by
  obtain ⟨l, hl⟩ := (fine_name hk).keyOf kt_name
  have hg : (getObj m).run Try.prog w = .ok (.map (L.map entB).toArray c) w := by simp [getObj, Sem.run, h.blk]
  have hset : ∀ o, (setObj m o).run Try.prog w = .ok () { w with heap := w.heap.setIfInBounds m o } := fun o => by simp [setObj, Sem.run, h.blk]
  have honly : ∀ o, Only m w { w with heap := w.heap.setIfInBounds m o } := fun o => ⟨rfl, rfl, rfl, by simp, fun j hj => by simp [Array.getElem?_setIfInBounds, Ne.symm hj]⟩
  have hat : ∀ o, ({ w with heap := w.heap.setIfInBounds m o } : World).heap[m]? = some o := fun o => by simp [h.lt]
  rcases h.find hk w with ⟨h1, h2⟩ | ⟨j, x, h1, h2, h3⟩
  · refine ⟨L ++ [(k, v, c)], c + 1, _, ?_, ⟨hat _, ?_, ?_, ?_, ?_⟩, honly (.map ((L ++ [(k, v, c)]).map entB).toArray (c + 1)), by simp, ?_, ?_, ?_⟩
    · unfold Instr.mapUpdate
      rw [Sem.run_bind, run_underlying Try.underlying90]
      simp only [Sem.run_bind, hg, Result.andThen_ok, Sem.run_pure, kt_name.law.check w _ hl, h1, hset]
      simp [entB]
    · intro y hy
      rcases List.mem_append.1 hy with hy | hy
      · exact h.ok y hy
      · simp at hy; subst hy; exact hk
    · rw [List.map_append, List.nodup_append]
      refine ⟨h.once, by simp, fun a ha b hb => ?_⟩
      obtain ⟨y, hy, rfl⟩ := List.mem_map.1 ha
      simp at hb
      subst hb
      exact h2 y hy
    · intro y hy
      rcases List.mem_append.1 hy with hy | hy
      · have := h.born y hy; omega
      · simp at hy; subst hy; exact Nat.lt_succ_self _
    · rw [List.map_append, List.nodup_append]
      refine ⟨h.stamps, by simp, fun a ha b hb => ?_⟩
      obtain ⟨y, hy, rfl⟩ := List.mem_map.1 ha
      simp at hb
      subst hb
      have := h.born y hy
      omega
    · classical
      unfold valAt
      rw [List.find?_append, List.find?_eq_none.2 (fun y hy => by simpa using h2 y hy)]
      simp
    · intro k' hk'
      classical
      unfold valAt
      rw [List.find?_append]
      have : List.find? (fun x => decide (x.1 = k')) [(k, v, c)] = none := by simp [Ne.symm hk']
      rw [this, Option.or_none]
    · intro y hy
      rcases List.mem_append.1 hy with hy | hy
      · exact .inr ⟨y, hy, rfl⟩
      · simp at hy; subst hy; exact .inl rfl
  · have hlt : j < L.length := (List.getElem?_eq_some_iff.1 h2).1
    have hx : L[j] = x := (List.getElem?_eq_some_iff.1 h2).2
    have hk1 : (L.set j (k, v, x.2.2)).map (·.1) = L.map (·.1) := by
      apply List.ext_getElem?
      intro i
      rw [List.getElem?_map, List.getElem?_map]
      by_cases hij : j = i
      · subst hij
        rw [List.getElem?_set_self hlt, h2]
        simp [h3]
      · rw [List.getElem?_set_ne hij]
    have hk2 : (L.set j (k, v, x.2.2)).map (·.2.2) = L.map (·.2.2) := by
      apply List.ext_getElem?
      intro i
      rw [List.getElem?_map, List.getElem?_map]
      by_cases hij : j = i
      · subst hij
        rw [List.getElem?_set_self hlt, h2]
        simp [h3]
      · rw [List.getElem?_set_ne hij]
    have hmem : ∀ y ∈ L.set j (k, v, x.2.2), y = (k, v, x.2.2) ∨ y ∈ L := fun y hy => by
      rcases List.mem_or_eq_of_mem_set hy with h | h
      · exact .inr h
      · exact .inl h
    have hxm : x ∈ L := List.mem_of_getElem? h2
    have hmod : (L.map entB).toArray.modify j (fun e => { e with key := .agg (encK k).toArray, val := .agg (encW v).toArray }) = ((L.set j (k, v, x.2.2)).map entB).toArray := by
      apply Array.ext_getElem?
      intro i
      rw [Array.getElem?_modify]
      simp only [List.getElem?_toArray, List.getElem?_map]
      by_cases hij : j = i
      · subst hij
        rw [if_pos rfl, List.getElem?_set_self hlt, h2]
        rfl
      · rw [if_neg hij, List.getElem?_set_ne hij]
    have hkeep : (Instr.keyThatStays ((((L.map entB).toArray[j]?).map (·.key)).getD (.agg (encK k).toArray)) (.agg (encK k).toArray)).run Try.prog w = .ok (.agg (encK k).toArray) w := by
      have : (((L.map entB).toArray[j]?).map (·.key)).getD (.agg (encK k).toArray) = .agg (encK k).toArray := by
        simp only [List.getElem?_toArray, List.getElem?_map, h2, Option.map_some, Option.getD_some, entB, h3]
      rw [this]
      exact kt_name.law.stays w hl
    refine ⟨L.set j (k, v, x.2.2), c, _, ?_, ⟨hat _, ?_, by rw [hk1]; exact h.once, ?_, by rw [hk2]; exact h.stamps⟩, honly (.map ((L.set j (k, v, x.2.2)).map entB).toArray c), by simp, ?_, ?_, ?_⟩
    · unfold Instr.mapUpdate
      rw [Sem.run_bind, run_underlying Try.underlying90]
      simp only [Sem.run_bind, hg, Result.andThen_ok, Sem.run_pure, kt_name.law.check w _ hl, h1]
      rw [hkeep]
      simp only [Result.andThen_ok]
      rw [hmod]
      exact hset _
    · intro y hy
      rcases hmem y hy with rfl | hy
      · exact hk
      · exact h.ok y hy
    · intro y hy
      rcases hmem y hy with rfl | hy
      · exact h.born x hxm
      · exact h.born y hy
    · exact valAt_some (by rw [hk1]; exact h.once) (j := j) (x := (k, v, x.2.2)) (by rw [List.getElem?_set_self hlt]) rfl
    · intro k' hk'
      by_cases hex : ∃ y ∈ L, y.1 = k'
      · obtain ⟨y, hy, hyk⟩ := hex
        obtain ⟨i, hi⟩ := List.mem_iff_getElem?.1 hy
        have hij : j ≠ i := fun e => by
          subst e
          rw [h2] at hi
          injection hi with hi
          exact hk' (by rw [← hyk, ← hi, h3])
        rw [valAt_some h.once hi hyk]
        exact valAt_some (by rw [hk1]; exact h.once) (j := i) (x := y) (by rw [List.getElem?_set_ne hij]; exact hi) hyk
      · rw [valAt_none (fun y hy e => hex ⟨y, hy, e⟩)]
        refine valAt_none fun y hy e => ?_
        rcases hmem y hy with rfl | hy
        · exact hk' e.symm
        · exact hex ⟨y, hy, e⟩
    · intro y hy
      rcases hmem y hy with rfl | hy
      · exact .inl rfl
      · exact .inr ⟨y, hy, rfl⟩
end Go.Proofs.Ytjmkkndglmapaaa
