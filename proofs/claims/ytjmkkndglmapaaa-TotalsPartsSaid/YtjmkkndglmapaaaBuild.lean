/- What a composite literal holds, its parts whatever cells. No condition. -/
import Derived.Deep.MidRow
import Derived.Tactics
import Derived.Tactics2
import Derived.WalkKit
namespace Go.Proofs.Ytjmkkndglmapaaa

/-- The cells v lie in l from place off on. -/
def laid (l : List Value) (off : Nat) (v : List Value) : List Value := l.take off ++ v ++ l.drop (off + v.length)

theorem laid_get (l : List Value) (off : Nat) (v : List Value) (h : off + v.length ≤ l.length) (i : Nat) : (laid l off v)[i]? = if i < off then l[i]? else if i < off + v.length then v[i - off]? else l[i]? := by
  unfold laid
  have ht : (l.take off).length = off := by simp; omega
  rw [List.append_assoc]
  split
  · rw [List.getElem?_append_left (by omega), List.getElem?_take, if_pos ‹_›]
  · rw [List.getElem?_append_right (by omega), ht]
    split
    · rw [List.getElem?_append_left (by omega)]
    · rw [List.getElem?_append_right (by omega), List.getElem?_drop]
      congr 1
      omega
theorem laid_len (l : List Value) (off : Nat) (v : List Value) (h : off + v.length ≤ l.length) : (laid l off v).length = l.length := by
  unfold laid
  simp
  omega

theorem foldl_set (off : Nat) : ∀ (v : List Value) (k : Nat) (l : Array Value), off + k + v.length ≤ l.size →
    ((v.zipIdx k).foldl (fun cs (x : Value × Nat) => cs.setIfInBounds (off + x.2) x.1) l).toList = laid l.toList (off + k) v := by
  intro v
  induction v with
  | nil => intro k l _; simp [laid]
  | cons c v ih =>
    intro k l h
    simp only [List.length_cons] at h
    rw [List.zipIdx_cons, List.foldl_cons, ih (k + 1) _ (by simp; omega)]
    apply List.ext_getElem?
    intro i
    rw [laid_get _ _ _ (by simp; omega), laid_get _ _ _ (by simp; omega)]
    simp only [Array.toList_setIfInBounds, List.length_cons]
    rcases Nat.lt_trichotomy i (off + k) with h1 | h1 | h1
    · rw [if_pos (by omega), if_pos h1, List.getElem?_set_ne (by omega)]
    · subst h1
      rw [if_pos (by omega), if_neg (by omega), if_pos (by omega), List.getElem?_set_self (by simp; omega), Nat.sub_self]
      rfl
    · rw [if_neg (show ¬ i < off + (k + 1) by omega), if_neg (show ¬ i < off + k by omega)]
      split
      · rw [if_pos (show i < off + k + (v.length + 1) by omega), show i - (off + k) = i - (off + (k + 1)) + 1 by omega, List.getElem?_cons_succ]
      · rw [if_neg (show ¬ i < off + k + (v.length + 1) by omega), List.getElem?_set_ne (by omega)]

theorem fill_cons (place : Nat → Option (Nat × Nat)) (cells : List Value) (i : Nat) (v : Value) (r : List (Nat × Value)) (off n : Nat) (hp : place i = some (off, n)) (hn : v.cells.toList.length = n) (hle : off + n ≤ cells.length) :
    Instr.fill place cells.toArray ((i, v) :: r) = Instr.fill place (laid cells off v.cells.toList).toArray r := by
  have hs : v.cells.size = n := by simpa using hn
  rw [Instr.fill, hp]
  simp only [hs, ne_eq, not_true_eq_false, decide_false, Bool.false_or, List.size_toArray]
  rw [if_neg (by simp; omega)]
  have h := foldl_set off v.cells.toList 0 cells.toArray (by simp; omega)
  rw [Nat.add_zero] at h
  rw [← h, Array.toArray_toList, ← Array.foldl_toList, Array.toList_zipIdx]

theorem fill_nil (place : Nat → Option (Nat × Nat)) (cells : Array Value) : Instr.fill place cells [] = some cells := rfl

section
variable {P : Program} {ops : Array Oper} {rest : List Oper} {o : Oper} {a : Act} {w : World} {Q : Exit → Act → World → Prop}
theorem wpList_build (hgd : o.guard = none) (t : TypeId) (parts : List (Nat × Operand)) (ho : o.op = .build t parts.toArray) (vs : List (Nat × Value)) (hv : parts.map (fun (i, x) => (i, a.eval x)) = vs) (cells : Array Value)
    (hrun : ∀ W, (Instr.build t vs.toArray).run P W = .ok (.agg cells) W) (h : wpList P ops Q rest (a.put o.dst (.agg cells)) w) : wpList P ops Q (o :: rest) a w :=
  wpList_plain hgd fun K hK => by
    unfold Oper.wp execOp
    simp only [ho, List.map_toArray]
    rw [hv, Sem.run_bind, hrun]
    exact hK _ _ h
theorem wpList_buildSlice (hgd : o.guard = none) (t e : TypeId) (len : Nat) (parts : List (Nat × Operand)) (ho : o.op = .buildSlice t len parts.toArray) (vs : List (Nat × Value)) (hv : parts.map (fun (i, x) => (i, a.eval x)) = vs) (cells : Array Value)
    (hrun : ∀ W, (Instr.buildSlice t len vs.toArray).run P W = .ok (.slice (some ⟨W.heap.size, 0, none⟩) len len) (W.alloc (.cells cells e))) (h : wpList P ops Q rest (a.put o.dst (.slice (some ⟨w.heap.size, 0, none⟩) len len)) (w.alloc (.cells cells e))) : wpList P ops Q (o :: rest) a w :=
  wpList_plain hgd fun K hK => by
    unfold Oper.wp execOp
    simp only [ho, List.map_toArray]
    rw [hv, Sem.run_bind, hrun]
    exact hK _ _ h
end

theorem run_build_struct {P : Program} {W : World} {t : TypeId} {fs : Array Field} {zs : List Value} (hz : (zeroValue t).run P W = .ok (.agg zs.toArray) W) (hu : P.underlying t = some (.struct fs)) (places : Array (Nat × Nat))
    (hp : (fs.mapM (fun f => do pure (f.offset, ← sizeOf f.type)) : Sem (Array (Nat × Nat))).run P W = .ok places W) (parts : Array (Nat × Value)) (cells : List Value) (hf : Instr.fill (fun x => places[x]?) zs.toArray parts.toList = some cells.toArray) :
    (Instr.build t parts).run P W = .ok (.agg cells.toArray) W := by
  unfold Instr.build
  rw [Sem.run_bind, hz]
  simp only [Result.andThen_ok, Value.cells]
  rw [Sem.run_bind, run_underlying hu]
  simp only [Result.andThen_ok]
  rw [Sem.run_bind, hp]
  simp only [Result.andThen_ok, hf]
  rfl

/-- A one-element slice literal: its element's cells. -/
theorem range_flat (n : Nat) (z : Array Value) (hz : z.size = n) : ((Array.range n).map (z[· % z.size]!)).toList = z.toList := by
  apply List.ext_getElem?
  intro i
  simp only [Array.toList_map, Array.toList_range, List.getElem?_map]
  rcases Nat.lt_or_ge i n with h | h
  · rw [List.getElem?_range h]
    simp only [Option.map_some]
    rw [hz, Nat.mod_eq_of_lt h]
    simp [hz, h]
  · rw [List.getElem?_eq_none (by simpa using h), List.getElem?_eq_none (by simp; omega)]
    rfl
end Go.Proofs.Ytjmkkndglmapaaa
