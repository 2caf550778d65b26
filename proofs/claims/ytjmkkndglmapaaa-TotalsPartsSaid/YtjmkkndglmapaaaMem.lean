/- Cells written into a block of one's own; blocks behind what was made. No condition. -/
import Derived.Test.YtjmkkndglmapaaaBuild
import Derived.Test.YtjmkkndglmapaaaCnt
namespace Go.Proofs.Ytjmkkndglmapaaa
open Go.RowKit

theorem size_setCells (b : Nat) : ∀ (vs : List Value) (o : Nat) (w : World), (w.setCells b o vs).heap.size = w.heap.size := by
  intro vs
  induction vs with
  | nil => intro o w; rfl
  | cons v vs ih => intro o w; rw [World.setCells, ih]; simp [World.setCell]

/-- Block b of a world holds these cells of type t, and may be written. -/
def Box (w : World) (b : Nat) (cs : List Value) (t : TypeId) : Prop := w.heap[b]? = some (.cells cs.toArray t (0, 0))

theorem Box.lt {w : World} {b : Nat} {cs : List Value} {t : TypeId} (h : Box w b cs t) : b < w.heap.size := (Array.getElem?_eq_some_iff.1 h).1
theorem Box.new (w : World) (cs : List Value) (t : TypeId) : Box (w.alloc (.cells cs.toArray t)) w.heap.size cs t := heap_alloc_new w _
theorem Box.range {w : World} {b : Nat} {cs : List Value} {t : TypeId} (h : Box w b cs t) (o n : Nat) : w.rangeAt b o ((cs.drop o).take n) := fun j v hv => by
  rw [List.getElem?_take] at hv
  split at hv
  · rw [List.getElem?_drop] at hv
    rw [cell_of_row _ _ _ _ _ _ h]
    simpa using hv
  · cases hv
theorem Box.whole {w : World} {b : Nat} {cs : List Value} {t : TypeId} (h : Box w b cs t) : w.rangeAt b 0 cs := fun j v hv => by
  rw [cell_of_row _ _ _ _ _ _ h, Nat.zero_add]
  simpa using hv
theorem Box.cell {w : World} {b : Nat} {cs : List Value} {t : TypeId} (h : Box w b cs t) {o : Nat} {v : Value} (hv : cs[o]? = some v) : w.cell? ⟨b, o, none⟩ = some v := by
  rw [cell_of_row _ _ _ _ _ _ h]
  simpa using hv
theorem Box.free {w : World} {b : Nat} {cs : List Value} {t : TypeId} (h : Box w b cs t) (o : Nat) : w.frozen? ⟨b, o, none⟩ = false := frozen_of_row _ _ _ _ _ h
theorem Box.there {w : World} {b : Nat} {cs : List Value} {t : TypeId} (h : Box w b cs t) (o n : Nat) (hn : o + n ≤ cs.length) : w.there b o n := fun j hj => by
  refine ⟨?_, h.free _⟩
  rw [h.cell (List.getElem?_eq_getElem (by omega))]
  rfl
theorem Box.below {w W : World} {b : Nat} {cs : List Value} {t : TypeId} (h : Box w b cs t) (hb : Below w.heap.size w W) : Box W b cs t := (hb.block b h.lt).trans h
theorem Box.alloc {w : World} {b : Nat} {cs : List Value} {t : TypeId} (h : Box w b cs t) (o : Obj) : Box (w.alloc o) b cs t := h.below ((Below.refl _ w).alloc (Nat.le_refl _) _)
theorem Box.drew {w : World} {b : Nat} {cs : List Value} {t : TypeId} (h : Box w b cs t) : Box w.drew b cs t := h

theorem Box.setCell {w : World} {b : Nat} {cs : List Value} {t : TypeId} (h : Box w b cs t) (o : Nat) (v : Value) : Box (w.setCell ⟨b, o, none⟩ v) b (cs.set o v) t := by
  unfold Box
  rw [heap_setCell_same _ _ _ _ _ _ h]
  simp
theorem Box.other {w : World} {b : Nat} {cs : List Value} {t : TypeId} (h : Box w b cs t) (p : Addr) (v : Value) (hp : b ≠ p.block) : Box (w.setCell p v) b cs t := (Below.heap_setCell w p v b hp).trans h
theorem Box.setCells {b : Nat} {t : TypeId} : ∀ (vs : List Value) (o : Nat) (w : World) (cs : List Value), Box w b cs t → o + vs.length ≤ cs.length → Box (w.setCells b o vs) b (laid cs o vs) t := by
  intro vs
  induction vs with
  | nil => intro o w cs h _; simpa [World.setCells, laid] using h
  | cons v vs ih =>
    intro o w cs h hl
    simp only [List.length_cons] at hl
    have h1 := ih (o + 1) _ _ (h.setCell o v) (by simp; omega)
    rw [World.setCells]
    have e : laid (cs.set o v) (o + 1) vs = laid cs o (v :: vs) := by
      apply List.ext_getElem?
      intro i
      rw [laid_get _ _ _ (by simp; omega), laid_get _ _ _ (by simp; omega)]
      simp only [List.length_cons]
      rcases Nat.lt_trichotomy i o with h1 | h1 | h1
      · rw [if_pos (by omega), if_pos h1, List.getElem?_set_ne (by omega)]
      · subst h1
        rw [if_pos (by omega), if_neg (by omega), if_pos (by omega), List.getElem?_set_self (by omega), Nat.sub_self]
        rfl
      · rw [if_neg (show ¬ i < o + 1 by omega), if_neg (show ¬ i < o by omega)]
        split
        · rw [if_pos (show i < o + (vs.length + 1) by omega), show i - o = i - (o + 1) + 1 by omega, List.getElem?_cons_succ]
        · rw [if_neg (show ¬ i < o + (vs.length + 1) by omega), List.getElem?_set_ne (by omega)]
    rw [← e]
    exact h1
theorem heap_setCells_other (b : Nat) : ∀ (vs : List Value) (o : Nat) (w : World) (k : Nat), k ≠ b → (w.setCells b o vs).heap[k]? = w.heap[k]? := by
  intro vs
  induction vs with
  | nil => intro o w k _; rfl
  | cons v vs ih => intro o w k hk; rw [World.setCells, ih _ _ _ hk]; exact Below.heap_setCell w _ v k hk
theorem Box.otherCells {w : World} {b : Nat} {cs : List Value} {t : TypeId} (h : Box w b cs t) (b' o : Nat) (vs : List Value) (hp : b ≠ b') : Box (w.setCells b' o vs) b cs t := (heap_setCells_other b' vs o w b hp).trans h
theorem below_setCells {B b : Nat} {a w : World} (h : Below B a w) (hb : B ≤ b) (o : Nat) (vs : List Value) : Below B a (w.setCells b o vs) := by
  induction vs generalizing o w with
  | nil => exact h
  | cons v vs ih => rw [World.setCells]; exact ih (h.setCell hb v) _
theorem laid_all (cs vs : List Value) (h : vs.length = cs.length) : laid cs 0 vs = vs := by
  unfold laid
  simp [h]

/-- A result that lies in a block. -/
theorem results_box {P : Program} {fn : Func} {p : Tmp} {ty : TypeId} (h : fn.results = #[.cell p ty]) (tmps : Array Value) (w : World) (g : Nat) (t : TypeId) (cs : List Value) (d : TypeDesc) (hp : tmps.getD p undef = .pointer (some ⟨g, 0, none⟩)) (hg : Box w g cs t)
    (hu : P.underlying ty = some d) (hd : (match d with | .struct _ | .array _ _ => true | _ => false) = true) (hi : (P.info? ty).map (·.size) = some cs.length) : (results fn tmps).run P w = .ok (.agg cs.toArray) w :=
  results_cell_row h tmps w g t cs.toArray (0, 0) d hp hg hu hd (by simpa using hi)
end Go.Proofs.Ytjmkkndglmapaaa
