/- value.book's totals: the sums that are not 0, rising. -/
import Derived.Test.YtjmkkndglmapaaaRow
set_option linter.unusedSimpArgs false
set_option linter.unusedVariables false
namespace Go.Proofs.Ytjmkkndglmapaaa
open Go.RowKit Go.Shelf Go.Lib Go.Sort Go.WideShapes Go.ChangeShapes

/-- Told by a rising row: of each name its sum, and no sum that reads 0. -/
structure Told (T : Key → Int) (R : List Tot) : Prop where
  up : R.Pairwise fun a b => keyCmp a.k b.k < 0
  val : ∀ t ∈ R, t.v = T t.k ∧ encW t.v ≠ encW 0
  all : ∀ k, encW (T k) ≠ encW 0 → ∃ t ∈ R, t.k = k

/-- Where the range stands: what is visited, and the row so far. -/
def kv (t : Tot) : Key × Int := (t.k, t.v)
open Classical in
noncomputable def kept (vis : BookL) : List (Key × Int) := (vis.filter fun x => decide (encW x.2.1 ≠ encW 0)).map fun x => (x.1, x.2.1)
structure Vis (L vis : BookL) : Prop where
  mem : ∀ x ∈ vis, x ∈ L
  once : (vis.map (·.2.2)).Nodup
theorem Vis.nil (L : BookL) : Vis L [] := ⟨by simp, by simp⟩
theorem Vis.more {L vis : BookL} (h : Vis L vis) {x : Key × Int × Nat} (hx : x ∈ remOf L vis) : Vis L (vis ++ [x]) := by
  have hm := List.mem_filter.1 hx
  refine ⟨fun y hy => ?_, ?_⟩
  · rcases List.mem_append.1 hy with hy | hy
    · exact h.mem y hy
    · simp at hy; subst hy; exact hm.1
  · rw [List.map_append, List.nodup_append]
    refine ⟨h.once, by simp, fun a ha b hb e => ?_⟩
    subst e
    simp only [List.map_cons, List.map_nil, List.mem_cons, List.not_mem_nil, or_false] at hb
    subst hb
    have h2 := hm.2
    rw [List.contains_iff_mem.2 ha] at h2
    cases h2
theorem nodup_len {α : Type} [DecidableEq α] : ∀ {l m : List α}, l.Nodup → (∀ x ∈ l, x ∈ m) → l.length ≤ m.length
  | [], _, _, _ => Nat.zero_le _
  | x :: l, m, hn, hs => by
    rw [List.nodup_cons] at hn
    have hx := hs x (by simp)
    have h1 : l.length ≤ (m.erase x).length := nodup_len hn.2 fun y hy => by
      have hne : y ≠ x := fun e => hn.1 (by rw [← e]; exact hy)
      exact (List.mem_erase_of_ne hne).2 (hs y (by simp [hy]))
    have h2 := List.length_erase_of_mem hx
    have h3 := List.length_pos_of_mem hx
    rw [List.length_cons]
    omega
theorem Vis.len {L vis : BookL} (h : Vis L vis) : vis.length ≤ L.length := by
  have h1 : (vis.map (·.2.2)).length ≤ (L.map (·.2.2)).length := by
    refine nodup_len h.once fun a ha => ?_
    obtain ⟨x, hx, rfl⟩ := List.mem_map.1 ha
    exact List.mem_map.2 ⟨x, h.mem x hx, rfl⟩
  simpa using h1
theorem Vis.all {L vis : BookL} (h : Vis L vis) (hL : (L.map (·.2.2)).Nodup) (hr : remOf L vis = []) : ∀ x ∈ L, x ∈ vis := by
  intro x hx
  have h1 : ∀ y ∈ L, ¬ (!(vis.map (·.2.2)).contains y.2.2) = true := List.filter_eq_nil_iff.1 hr
  have h2 := h1 x hx
  simp only [Bool.not_eq_true', Bool.not_eq_false] at h2
  rw [List.contains_iff_mem] at h2
  obtain ⟨y, hy, hyx⟩ := List.mem_map.1 h2
  have hyL := h.mem y hy
  have : y = x := by
    obtain ⟨i, hi⟩ := List.mem_iff_getElem?.1 hyL
    obtain ⟨j, hj⟩ := List.mem_iff_getElem?.1 hx
    have hlt : i < L.length := (List.getElem?_eq_some_iff.1 hi).1
    have e1 : (L.map (·.2.2))[i]? = (L.map (·.2.2))[j]? := by rw [List.getElem?_map, List.getElem?_map, hi, hj]; simp [hyx]
    have := (List.getElem?_inj (by simpa using hlt) hL).1 e1
    subst this
    rw [hi] at hj
    injection hj
  rw [← this]
  exact hy
theorem kept_more (vis : BookL) (x : Key × Int × Nat) (h : encW x.2.1 ≠ encW 0) : kept (vis ++ [x]) = kept vis ++ [(x.1, x.2.1)] := by
  unfold kept
  rw [List.filter_append, List.map_append]
  simp [h]
theorem kept_less (vis : BookL) (x : Key × Int × Nat) (h : encW x.2.1 = encW 0) : kept (vis ++ [x]) = kept vis := by
  unfold kept
  rw [List.filter_append, List.map_append]
  simp [h]
theorem kept_len (vis : BookL) : (kept vis).length ≤ vis.length := by
  unfold kept
  rw [List.length_map]
  exact List.length_filter_le _ _

theorem mem_kept {vis : BookL} {k : Key} {v : Int} : (k, v) ∈ kept vis ↔ ∃ s, (k, v, s) ∈ vis ∧ encW v ≠ encW 0 := by
  unfold kept
  simp only [List.mem_map, List.mem_filter, decide_eq_true_eq, Prod.mk.injEq]
  constructor
  · rintro ⟨x, ⟨h1, h2⟩, rfl, rfl⟩
    exact ⟨x.2.2, h1, h2⟩
  · rintro ⟨s, h1, h2⟩
    exact ⟨(k, v, s), ⟨h1, h2⟩, rfl, rfl⟩

theorem valAt_mem {L : BookL} (hn : (L.map (·.1)).Nodup) {x : Key × Int × Nat} (hx : x ∈ L) : valAt L x.1 = x.2.1 := by
  obtain ⟨j, hj⟩ := List.mem_iff_getElem?.1 hx
  exact valAt_some hn hj rfl

theorem kept_keys {L vis : BookL} (hL : (L.map (·.1)).Nodup) (hv : Vis L vis) : ((kept vis).map (·.1)).Nodup := by
  unfold kept
  rw [List.map_map]
  have h1 : (vis.map (·.1)).Nodup := by
    refine List.pairwise_map.2 ((List.pairwise_map.1 hv.once).imp_of_mem fun {x y} hx hy hne e => hne ?_)
    obtain ⟨p, hp⟩ := List.mem_iff_getElem?.1 (hv.mem _ hx)
    obtain ⟨q, hq⟩ := List.mem_iff_getElem?.1 (hv.mem _ hy)
    have hlt : p < L.length := (List.getElem?_eq_some_iff.1 hp).1
    have e1 : (L.map (·.1))[p]? = (L.map (·.1))[q]? := by rw [List.getElem?_map, List.getElem?_map, hp, hq]; simp [e]
    have := (List.getElem?_inj (by simpa using hlt) hL).1 e1
    subst this
    rw [hp] at hq
    injection hq with hq
    rw [hq]
  exact (List.Sublist.map _ List.filter_sublist).nodup h1

/-- The row, sorted, tells the book. -/
theorem told_of {L vis : BookL} (hk : (L.map (·.1)).Nodup) (hL : (L.map (·.2.2)).Nodup) (hv : Vis L vis) (hr : remOf L vis = []) {R R' : List Tot} (hR : R.map kv = kept vis) (hp : R'.Perm R) (hs : R'.Pairwise fun a b => ¬ keyCmp b.k a.k < 0) : Told (valAt L) R' := by
  have hmem : ∀ t ∈ R', ∃ s, (t.k, t.v, s) ∈ L ∧ encW t.v ≠ encW 0 := fun t ht => by
    have h1 : kv t ∈ R.map kv := List.mem_map.2 ⟨t, hp.mem_iff.1 ht, rfl⟩
    rw [hR] at h1
    obtain ⟨s, h2, h3⟩ := mem_kept.1 h1
    exact ⟨s, hv.mem _ h2, h3⟩
  have hnd : (R'.map (·.k)).Nodup := by
    have h1 : (R.map (·.k)).Nodup := by
      have := kept_keys hk hv
      rw [← hR, List.map_map] at this
      exact this
    exact (hp.map _).nodup_iff.2 h1
  refine ⟨?_, fun t ht => ?_, fun k hk' => ?_⟩
  · have h1 : R'.Pairwise fun a b => a.k ≠ b.k := List.pairwise_map.1 hnd
    refine (hs.and h1).imp fun {a b} ⟨h2, h3⟩ => ?_
    have h4 := kc_swap a.k b.k
    have h5 : keyCmp a.k b.k ≠ 0 := fun e => h3 (kc_zero e)
    omega
  · obtain ⟨s, h1, h2⟩ := hmem t ht
    exact ⟨(valAt_mem hk h1).symm, h2⟩
  · by_cases hex : ∃ x ∈ L, x.1 = k
    · obtain ⟨x, hx, rfl⟩ := hex
      rw [valAt_mem hk hx] at hk'
      have h1 : (x.1, x.2.1) ∈ kept vis := mem_kept.2 ⟨x.2.2, hv.all hL hr x hx, hk'⟩
      rw [← hR] at h1
      obtain ⟨t, ht, hkv⟩ := List.mem_map.1 h1
      refine ⟨t, hp.mem_iff.2 ht, ?_⟩
      simp only [kv, Prod.mk.injEq] at hkv
      exact hkv.1
    · exact absurd (by rw [valAt_none fun x hx e => hex ⟨x, hx, e⟩]) hk'
end Go.Proofs.Ytjmkkndglmapaaa
