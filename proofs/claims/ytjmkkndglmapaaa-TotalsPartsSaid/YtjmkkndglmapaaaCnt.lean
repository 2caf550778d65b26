/- Plain words on data: elements, fields, lengths; how the kit of the statements counts. No condition. -/
import Derived.Test.YtjmkkndglmapaaaRd
namespace Go.Proofs.Ytjmkkndglmapaaa
open Go.RowKit

section
variable {H : Type}
def els : DataW H → List (DataW H)
  | .slice l _ => l
  | _ => []
def fld (k : Nat) : DataW H → DataW H
  | .agg l => l.getD k .nil
  | _ => .nil
def slen : DataW H → Nat
  | .lit (.string l) => l.length
  | _ => 0
def numOf : DataW H → Int
  | .lit (.int _ n) => n
  | _ => 0

theorem ret_i {a b : Int} (h : a = b) : Ending.returned (.int .i64 a) = .returned (.int .i64 b) := by rw [h]
theorem wr_i (a : Int) (h : -9223372036854775808 ≤ a ∧ a ≤ 9223372036854775807) : IntKind.i64.wrap a = a := by
  rw [IntKind.wrap_i64]
  omega

/-- From n0 on, so far as most is not passed: each adds its own. -/
def cnt (most : Int) (g : DataW H → Int) (n0 : Int) (l : List (DataW H)) : Int := l.foldl (fun n x => if n ≤ most then n + g x else n) n0
/-- .. of the first k. -/
def cntk (most : Int) (g : DataW H → Int) (n0 : Int) (l : List (DataW H)) (k : Nat) : Int := cnt most g n0 (l.take k)

section
variable {most : Int} {g : DataW H → Int} {n0 : Int} {l : List (DataW H)} {k : Nat}
theorem cnt_snoc (x : DataW H) : cnt most g n0 (l ++ [x]) = if cnt most g n0 l ≤ most then cnt most g n0 l + g x else cnt most g n0 l := by
  unfold cnt
  rw [List.foldl_append]
  rfl
theorem cntk_step (hk : k < l.length) (h : cntk most g n0 l k ≤ most) : cntk most g n0 l (k + 1) = cntk most g n0 l k + g (l.getD k .nil) := by
  unfold cntk at *
  rw [List.take_succ_eq_append_getElem hk, cnt_snoc, if_pos h, List.getD_eq_getElem?_getD, List.getElem?_eq_getElem hk]
  rfl
theorem foldl_over (l : List (DataW H)) : ∀ n, most < n → l.foldl (fun n x => if n ≤ most then n + g x else n) n = n := by
  induction l with
  | nil => intro n _; rfl
  | cons x l ih => intro n h; simp only [List.foldl_cons]; rw [if_neg (by omega)]; exact ih n h
theorem cntk_over (h : ¬ cntk most g n0 l k ≤ most) : cntk most g n0 l k = cnt most g n0 l := by
  have e : cnt most g n0 l = (l.drop k).foldl (fun n x => if n ≤ most then n + g x else n) (cnt most g n0 (l.take k)) := by
    unfold cnt
    rw [← List.foldl_append, List.take_append_drop]
  rw [e, foldl_over _ _ (by unfold cntk at h; omega)]
  rfl
end
theorem cntk_0 (most : Int) (g : DataW H → Int) (n0 : Int) (l : List (DataW H)) : cntk most g n0 l 0 = n0 := by simp [cntk, cnt]
theorem cntk_all (most : Int) (g : DataW H → Int) (n0 : Int) (l : List (DataW H)) {k : Nat} (hk : k = l.length) : cntk most g n0 l k = cnt most g n0 l := by subst hk; simp [cntk]
theorem cntk_bd (most M : Int) (g : DataW H → Int) (n0 : Int) {N : Int} (l : List (DataW H)) (h0 : 0 ≤ most) (hM : 0 ≤ M) (hn : 0 ≤ n0 ∧ n0 ≤ N) (hg : ∀ i, i < l.length → 0 ≤ g (l.getD i .nil) ∧ g (l.getD i .nil) ≤ M) :
    ∀ k, k ≤ l.length → 0 ≤ cntk most g n0 l k ∧ cntk most g n0 l k ≤ N + most + M := by
  intro k
  induction k with
  | zero => intro _; rw [cntk_0]; omega
  | succ k ih =>
    intro hk
    have hi := ih (by omega)
    have hgk := hg k (by omega)
    by_cases hle : cntk most g n0 l k ≤ most
    · rw [cntk_step (by omega) hle]; omega
    · unfold cntk at *
      rw [List.take_succ_eq_append_getElem (by omega), cnt_snoc, if_neg hle]; omega

/-- Strings and slices of at most 2^47 letters, elements, each. -/
def big : Nat := 140737488355328
mutual
def fits : DataW H → Bool
  | .lit (.string l) => decide (l.length ≤ big)
  | .slice l _ => decide (l.length ≤ big) && fitsAll l
  | .agg l => fitsAll l
  | _ => true
def fitsAll : List (DataW H) → Bool
  | [] => true
  | d :: r => fits d && fitsAll r
end
theorem fitsAll_getD {l : List (DataW H)} (h : fitsAll l = true) (k : Nat) : fits (l.getD k .nil) = true := by
  induction l generalizing k with
  | nil => simp [fits]
  | cons x l ih =>
    simp only [fitsAll, Bool.and_eq_true] at h
    cases k with
    | zero => simpa using h.1
    | succ k => simpa using ih h.2 k
theorem fits_fld {d : DataW H} (h : fits d = true) (k : Nat) : fits (fld k d) = true := by
  cases d <;> simp only [fld, fits] at * <;> try rfl
  exact fitsAll_getD h k
theorem fits_els {d : DataW H} (h : fits d = true) : fitsAll (els d) = true := by
  cases d <;> simp only [els, fits, fitsAll, Bool.and_eq_true] at * <;> try rfl
  exact h.2
theorem fits_el {d : DataW H} (h : fits d = true) (k : Nat) : fits ((els d).getD k .nil) = true := fitsAll_getD (fits_els h) k
theorem fits_len {d : DataW H} (h : fits d = true) : (els d).length ≤ big := by
  cases d <;> simp only [els, fits, Bool.and_eq_true, decide_eq_true_eq, List.length_nil] at * <;> try exact Nat.zero_le _
  exact h.1
theorem fits_i {d : DataW H} (h : fits d = true) (i : Nat) : fits ((els d).getD i .nil) = true := fits_el h i
theorem fits_slen {d : DataW H} (h : fits d = true) : slen d ≤ big := by
  unfold slen
  split
  · simpa [fits] using h
  · exact Nat.zero_le _
end

theorem at_of_take1 {cs : List Value} {k : Nat} {v : Value} (h : (cs.drop k).take 1 = [v]) : cs[k]? = some v := by
  have : ((cs.drop k).take 1)[0]? = some v := by rw [h]; rfl
  simpa using this

theorem cell_below {w W : World} {p : Addr} {v : Value} (h : w.cell? p = some v) (hb : Below w.heap.size w W) : W.cell? p = some v := (hb.cell (World.block_lt_of_cell? w p h)).trans h

theorem cell_mid {w : World} {b o k : Nat} {cs : List Value} {v : Value} (hr : w.rangeAt b o cs) (h : (cs.drop k).take 1 = [v]) : w.cell? ⟨b, o + k, none⟩ = some v := hr k v (at_of_take1 h)

theorem range_part {w : World} {b o : Nat} {cs : List Value} (hr : w.rangeAt b o cs) (f n : Nat) : w.rangeAt b (o + f) ((cs.drop f).take n) := fun j v hv => by
  rw [List.getElem?_take] at hv
  split at hv
  · rw [List.getElem?_drop] at hv
    have := hr (f + j) v hv
    rwa [← Nat.add_assoc] at this
  · cases hv

/-- A new block's cells. -/
theorem range_new (w : World) (cs : List Value) (t : TypeId) (o n : Nat) : (w.alloc (.cells cs.toArray t)).rangeAt w.heap.size o ((cs.drop o).take n) := fun j v hv => by
  rw [List.getElem?_take] at hv
  split at hv
  · rw [List.getElem?_drop] at hv
    rw [cell_of_row _ _ _ _ _ _ (heap_alloc_new w _)]
    simpa using hv
  · cases hv

theorem cell_new (w : World) (cs : List Value) (t : TypeId) (o : Nat) {v : Value} (h : (cs.drop o).take 1 = [v]) : (w.alloc (.cells cs.toArray t)).cell? ⟨w.heap.size, o, none⟩ = some v := by
  rw [cell_of_row _ _ _ _ _ _ (heap_alloc_new w _)]
  simpa using at_of_take1 h

section
variable {H : Type} {enc : TypeId × Value → H} {P : Program}
/-- A slice, nil or not. -/
theorem Rd.sl {w : World} {t e : TypeId} {v : Value} {d : DataW H} (ht : P.underlying t = some (.slice e)) (he : 0 < P.cellsOf e) (h : Rd enc P w t [v] d) :
    ∃ (A : Option Addr) (n c b o : Nat), v = .slice A n c ∧ (els d).length = n ∧ n ≤ c ∧ c ≤ maxLen ∧ (0 < n → A = some ⟨b, o, none⟩) ∧
      ∀ i, i < n → ∃ cs, cs.length = P.cellsOf e ∧ w.rangeAt b (o + i * P.cellsOf e) cs ∧ Rd enc P w e cs ((els d).getD i .nil) := by
  rcases h.slice ht he with ⟨h1, rfl⟩ | ⟨a, len, cap, es, sp, h1, rfl, hl, hc, hm, hx⟩
  · simp only [List.cons.injEq, and_true] at h1
    exact ⟨none, 0, 0, 0, 0, h1, rfl, by omega, Nat.zero_le _, by omega, by omega⟩
  · simp only [List.cons.injEq, and_true] at h1
    refine ⟨some a, len, cap, a.block, a.off, h1, hl, hc, hm, fun h0 => ?_, fun i hi => (hx i hi).2⟩
    have := (hx 0 h0).1
    cases a
    simp_all

/-- A struct's field, and its part of the data. -/
theorem Rd.fl {w : World} {t : TypeId} {cs : List Value} {d : DataW H} {fs : Array Field} (ht : P.underlying t = some (.struct fs)) (h : Rd enc P w t cs d) (i : Nat) {f : Field} (hi : fs[i]? = some f) {o n : Nat} {t' : TypeId}
    (ho : f.offset = o) (hn : P.cellsOf f.type = n) (htt : f.type = t') : Rd enc P w t' ((cs.drop o).take n) (fld i d) := by
  obtain ⟨_, ds, rfl, _, hf⟩ := h.struct ht
  subst ho hn htt
  exact hf i f hi

theorem Rd.one {w : World} {t : TypeId} {cs : List Value} {d : DataW H} {e : TypeId} (ht : P.underlying t = some (.slice e)) (h : Rd enc P w t cs d) : ∃ v, cs = [v] := by
  obtain ⟨_, fu, p, h0⟩ := h.now
  rcases DataW.trod_slice ht h0 with ⟨h1, _⟩ | ⟨a, len, cap, elems, rest, n, _, h1, _⟩
  · exact ⟨_, h1⟩
  · exact ⟨_, h1⟩
end
end Go.Proofs.Ytjmkkndglmapaaa
