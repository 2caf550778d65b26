/- Ranging over the map of wide sums: one step. -/
import Derived.Test.YtjmkkndglmapaaaAdd
set_option linter.unusedSimpArgs false
set_option linter.unusedVariables false
namespace Go.Proofs.Ytjmkkndglmapaaa
open Go.RowKit

abbrev BookL := List (Key × Int × Nat)
def IterAt (w : World) (r m c : Nat) (vis : BookL) : Prop := w.heap[r]? = some (.mapIter (some m) c (vis.map (·.2.2)).toArray c)
/-- Those that are not visited. -/
def remOf (L vis : BookL) : BookL := L.filter fun x => !(vis.map (·.2.2)).contains x.2.2

theorem run_range {w : World} {m c : Nat} {L : BookL} (h : BookAt w m L c) : (Instr.range 90 (.map (some m))).run Try.prog w = .ok (.pointer (some ⟨w.heap.size, 0, none⟩)) (w.alloc (.mapIter (some m) c #[] c)) := by
  have hg : (getObj m).run Try.prog w = .ok (.map (L.map entB).toArray c) w := by simp [getObj, Sem.run, h.blk]
  unfold Instr.range
  rw [Sem.run_bind, run_underlying Try.underlying90]
  simp only [Result.andThen_ok, Sem.run_bind, hg, Sem.run_pure]
  rfl

theorem filter_map_ent (L vis : BookL) : (L.map entB).filter (fun e => !(vis.map (·.2.2)).toArray.contains e.born) = (remOf L vis).map entB := by
  unfold remOf
  induction L with
  | nil => rfl
  | cons x L ih =>
    simp only [List.map_cons, List.filter_cons]
    have : (!(vis.map (·.2.2)).toArray.contains (entB x).born) = !(vis.map (·.2.2)).contains x.2.2 := by simp [entB]
    rw [this]
    split
    · rw [List.map_cons, ih]
    · exact ih

theorem run_next {w : World} {m c r : Nat} {L vis : BookL} (h : BookAt w m L c) (hi : IterAt w r m c vis) (ty : TypeId) :
    (remOf L vis = [] ∧ (Instr.next (.pointer (some ⟨r, 0, none⟩)) false ty).run Try.prog w = .ok (.tuple #[.bool false]) w) ∨
    ∃ x ∈ remOf L vis, ∃ w1, (Instr.next (.pointer (some ⟨r, 0, none⟩)) false ty).run Try.prog w = .ok (.tuple #[.bool true, .agg (encK x.1).toArray, .agg (encW x.2.1).toArray]) w1 ∧ IterAt w1 r m c (vis ++ [x]) ∧ Only r w w1 := by
  have hg : (getObj m).run Try.prog w = .ok (.map (L.map entB).toArray c) w := by simp [getObj, Sem.run, h.blk]
  have hr : (getObj r).run Try.prog w = .ok (.mapIter (some m) c (vis.map (·.2.2)).toArray c) w := by
    unfold IterAt at hi
    simp [getObj, Sem.run, hi]
  have hborn : ∀ x ∈ L, x.2.2 < c := h.born
  have hguard : (!(vis.map (·.2.2)).toArray.isEmpty && !(L.map entB).toArray.isEmpty && (L.map entB).toArray.all (fun e => decide (e.born ≥ c))) = false := by
    cases L with
    | nil => simp
    | cons x L =>
      have : ¬ (entB x).born ≥ c := by have := hborn x (by simp); simp only [entB]; omega
      simp [this]
  have hleft : (L.map entB).toArray.filter (fun e => !(vis.map (·.2.2)).toArray.contains e.born) = ((remOf L vis).map entB).toArray := by
    rw [List.filter_toArray, filter_map_ent]
  have hold : ((remOf L vis).map entB).toArray.filter (fun e => decide (e.born < c)) = ((remOf L vis).map entB).toArray := by
    rw [List.filter_toArray]
    congr 1
    rw [List.filter_eq_self]
    intro e he
    obtain ⟨x, hx, rfl⟩ := List.mem_map.1 he
    have := hborn x (List.mem_filter.1 hx).1
    exact decide_eq_true this
  have hnew : ((remOf L vis).map entB).toArray.filter (fun e => decide (e.born ≥ c)) = #[] := by
    rw [List.filter_toArray]
    have : ((remOf L vis).map entB).filter (fun e => decide (e.born ≥ c)) = [] := by
      rw [List.filter_eq_nil_iff]
      intro e he
      obtain ⟨x, hx, rfl⟩ := List.mem_map.1 he
      have := hborn x (List.mem_filter.1 hx).1
      simp [entB]
      omega
    rw [this]
  have hset : ∀ (w0 : World) o, w0.heap = w.heap → (setObj r o).run Try.prog w0 = .ok () { w0 with heap := w0.heap.setIfInBounds r o } := fun w0 o e => by
    unfold IterAt at hi
    simp [setObj, Sem.run, e, hi]
  have hlt : r < w.heap.size := (Array.getElem?_eq_some_iff.1 hi).1
  rcases hq : remOf L vis with _ | ⟨y, ys⟩
  · left
    refine ⟨rfl, ?_⟩
    unfold Instr.next
    simp only [Sem.run_bind, hr, hg, Result.andThen_ok, hguard, hleft, hold, hnew, Bool.false_eq_true, if_false, hq]
    simp [choose, Sem.run, Question.forced]
  · right
    have hch : ∀ n, 1 ≤ n → ∃ j w0, (choose (.mapNext n)).run Try.prog w = .ok j w0 ∧ j < n ∧ w0.heap = w.heap ∧ w0.os = w.os ∧ w0.tape = w.tape ∧ w0.output = w.output := by
      intro n hn
      by_cases h1 : n ≤ 1
      · exact ⟨0, w, by simp [choose, Sem.run, Question.forced, h1], by omega, rfl, rfl, rfl, rfl⟩
      · refine ⟨(Question.mapNext n).cut (w.tape w.drawn (.mapNext n)), { w with drawn := w.drawn + 1 }, by simp [choose, Sem.run, Question.forced, h1], ?_, rfl, rfl, rfl, rfl⟩
        simp only [Question.cut]
        exact Nat.mod_lt _ (by omega)
    have hcand : ((if ((remOf L vis).map entB).toArray.isEmpty = true then #[none] else #[]) ++ (((remOf L vis).map entB).toArray ++ #[]).map some) = ((remOf L vis).map fun x => some (entB x)).toArray := by
      rw [hq]
      simp
    obtain ⟨j, w0, h1, h2, h3, h4, h5, h6⟩ := hch ((remOf L vis).map fun x => some (entB x)).toArray.size (by rw [hq]; simp)
    have hj : j < (remOf L vis).length := by simpa using h2
    refine ⟨(remOf L vis)[j], by rw [← hq]; exact List.getElem_mem hj, { w0 with heap := w0.heap.setIfInBounds r (.mapIter (some m) c ((vis ++ [(remOf L vis)[j]]).map (·.2.2)).toArray c) }, ?_, ?_, ?_⟩
    · unfold Instr.next
      simp only [Sem.run_bind, hr, hg, Result.andThen_ok, hguard, hleft, hold, hnew, Bool.false_eq_true, if_false]
      rw [hcand, h1]
      simp only [Result.andThen_ok, List.getElem?_toArray, List.getElem?_map, List.getElem?_eq_getElem hj, Option.map_some]
      rw [Sem.run_bind, hset w0 _ h3]
      simp [entB, Sem.run_pure]
    · unfold IterAt
      simp [h3, hlt]
    · exact ⟨h4, h5, h6, by simp [h3], fun k hk => by simp [h3, Array.getElem?_setIfInBounds, Ne.symm hk]⟩

theorem run_entry {w : World} {m c r : Nat} {L vis : BookL} (h : BookAt w m L c) {x : Key × Int × Nat} (hi : IterAt w r m c (vis ++ [x])) (hx : x ∈ L) :
    (Instr.entry (.pointer (some ⟨r, 0, none⟩))).run Try.prog w = .ok (.tuple #[.agg (encK x.1).toArray, .agg (encW x.2.1).toArray]) w := by
  have hg : (getObj m).run Try.prog w = .ok (.map (L.map entB).toArray c) w := by simp [getObj, Sem.run, h.blk]
  have hr : (getObj r).run Try.prog w = .ok (.mapIter (some m) c ((vis ++ [x]).map (·.2.2)).toArray c) w := by
    unfold IterAt at hi
    simp [getObj, Sem.run, hi]
  have hb : ((vis ++ [x]).map (·.2.2)).toArray.back? = some x.2.2 := by simp
  have hf : (L.map entB).toArray.find? (fun e => e.born == x.2.2) = some (entB x) := by
    rw [List.find?_toArray]
    obtain ⟨i, hi⟩ := List.mem_iff_getElem?.1 hx
    rw [List.find?_eq_some_iff_getElem]
    have hlt : i < L.length := (List.getElem?_eq_some_iff.1 hi).1
    have hxi : L[i] = x := (List.getElem?_eq_some_iff.1 hi).2
    refine ⟨by simp [entB], i, by simpa using hlt, by simp [hxi], fun j hj => ?_⟩
    have hjl : j < L.length := by omega
    have hne : L[j].2.2 ≠ x.2.2 := fun e => by
      have e1 : (L.map (·.2.2))[j]? = (L.map (·.2.2))[i]? := by rw [List.getElem?_map, List.getElem?_map, List.getElem?_eq_getElem hjl, hi]; simp [e]
      have := (List.getElem?_inj (by simpa using hjl) h.stamps).1 e1
      omega
    simpa [entB] using hne
  unfold Instr.entry
  simp only [Sem.run_bind, hr, hg, Result.andThen_ok, hb, hf, bne_self_eq_false, Bool.false_eq_true, if_false, Sem.run_pure]
  rfl
end Go.Proofs.Ytjmkkndglmapaaa
