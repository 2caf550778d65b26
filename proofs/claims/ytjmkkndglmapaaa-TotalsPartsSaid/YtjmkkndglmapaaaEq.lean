/- '==' of structs and arrays of plain parts: it tells whether the cells are the same; the parts' reading is enough. No condition. -/
import Derived.Test.YtjmkkndglmapaaaMem
import Derived.DeepKeys4
import Derived.Laws.StructEq
import Derived.WideKeyMaps
set_option linter.unusedSimpArgs false
set_option linter.unusedVariables false
namespace Go.Proofs.Ytjmkkndglmapaaa
open Go.RowKit

section
variable {H : Type} {enc : TypeId × Value → H} {P : Program}

theorem mapM_some_of {α β : Type} {f : α → Option β} : ∀ {l : List α}, (∀ x ∈ l, ∃ y, f x = some y) → ∃ ys, l.mapM f = some ys := by
  intro l
  induction l with
  | nil => intro _; exact ⟨[], rfl⟩
  | cons x l ih =>
    intro h
    obtain ⟨y, hy⟩ := h x (by simp)
    obtain ⟨ys, hys⟩ := ih (fun z hz => h z (by simp [hz]))
    exact ⟨y :: ys, by simp [List.mapM_cons, hy, hys]⟩

/-- Cells that are those of a key's type. -/
def KL (P : Program) (m : Nat) (t : TypeId) (cs : List Value) : Prop := ∃ L, P.keyLits m t cs = some L

theorem KL.int {m : Nat} {t : TypeId} {k : IntKind} (ht : P.underlying t = some (.int k)) {n : Int} (hw : (Lit.int k n).wf = true) : KL P (m + 1) t [.int k n] := ⟨[.int k n], by simp [Program.keyLits, ht, hw]⟩
theorem KL.bool {m : Nat} {t : TypeId} (ht : P.underlying t = some .bool) (b : Bool) : KL P (m + 1) t [.bool b] := ⟨[.bool b], by simp [Program.keyLits, ht]⟩
theorem KL.str {m : Nat} {t : TypeId} (ht : P.underlying t = some .string) {s : ByteArray} (hs : s.size ≤ maxLen) : KL P (m + 1) t [.string s] := ⟨[.string s.data.toList], by simp [Program.keyLits, ht, hs]⟩
theorem KL.struct {m : Nat} {t : TypeId} {fs : Array Field} (ht : P.underlying t = some (.struct fs)) {cs : List Value} (hl : cs.length = P.cellsOf t) (hn : fs.all (·.name != "_") = true)
    (h : ∀ f ∈ fs.toList, KL P m f.type ((cs.drop f.offset).take (P.cellsOf f.type))) : KL P (m + 1) t cs := by
  obtain ⟨ys, hys⟩ := mapM_some_of h
  refine ⟨ys.flatten, ?_⟩
  unfold Program.keyLits
  rw [ht]
  simp only [hl, hn, true_and, if_true]
  rw [hys]
  rfl
theorem KL.array {m n : Nat} {t e : TypeId} (ht : P.underlying t = some (.array n e)) {cs : List Value} (hl : cs.length = P.cellsOf t)
    (h : ∀ i, i < n → KL P m e ((cs.drop (i * P.cellsOf e)).take (P.cellsOf e))) : KL P (m + 1) t cs := by
  obtain ⟨ys, hys⟩ := mapM_some_of (l := List.range n) (f := fun i => P.keyLits m e ((cs.drop (i * P.cellsOf e)).take (P.cellsOf e))) (fun i hi => h i (by simpa using hi))
  refine ⟨ys.flatten, ?_⟩
  unfold Program.keyLits
  rw [ht]
  simp only [hl, if_true]
  rw [hys]
  rfl

/-- What reads is of its type. -/
theorem KL.of_trod {w : World} {base : Nat} {sp : Nat → Bool} {held : Bool} : ∀ (m : Nat) (t : TypeId), P.keyTypeAt m t = true → ∀ (fuel : Nat) (cs : List Value) (x : DataW H × List MemPlace), DataW.trod enc P w base sp held fuel t cs = some x → KL P m t cs := by
  intro m
  induction m with
  | zero => intro t hk; simp [Program.keyTypeAt] at hk
  | succ m ih =>
    intro t hk fuel cs x h
    unfold Program.keyTypeAt at hk
    split at hk
    · rename_i hu
      obtain ⟨b, rfl, _⟩ := DataW.trod_bool hu h
      exact KL.bool hu b
    · rename_i q hu
      obtain ⟨n, rfl, _, hw⟩ := DataW.trod_int hu h
      exact KL.int hu hw
    · rename_i hu
      obtain ⟨s, rfl, _, hs⟩ := DataW.trod_string hu h
      exact KL.str hu hs
    · rename_i n e hu
      obtain ⟨xs, f, rfl, _, hl, hn, hx⟩ := DataW.trod_array hu h
      refine KL.array hu hl fun i hi => ?_
      have h1 := hx i hi
      rw [List.getElem?_eq_getElem (by omega)] at h1
      exact ih e hk _ _ _ h1
    · rename_i fs hu
      simp only [Bool.and_eq_true] at hk
      obtain ⟨xs, f, rfl, _, hl, hn, hx⟩ := DataW.trod_struct hu h
      have hall := Array.all_eq_true_iff_forall_mem.1 hk.1.1
      refine KL.struct hu hl (Array.all_eq_true_iff_forall_mem.2 fun g hg => (Bool.and_eq_true_iff.1 (hall g hg)).1) fun g hg => ?_
      obtain ⟨i, hi⟩ := List.mem_iff_getElem?.1 hg
      have hi' : fs[i]? = some g := by simpa using hi
      have h1 := hx i g hi'
      have hlt : i < fs.size := (Array.getElem?_eq_some_iff.1 hi').1
      rw [List.getElem?_eq_getElem (by omega)] at h1
      exact ih g.type (Bool.and_eq_true_iff.1 (hall g (by simpa using hg))).2 _ _ _ h1
    · cases hk

/-- A struct's or an array's type, of plain parts. -/
structure KT (P : Program) (t : TypeId) : Prop where
  key : P.keyType t = true
  wide : (match P.underlying t with | some (.array _ _) | some (.struct _) => true | _ => false) = true
  small : P.types.size + 1 + 1 ≤ 10000
  laid : laidOutB P = true
  row : t < P.types.size
  guard : P.eqGuardType P.depth t = false

theorem KT.law {t : TypeId} (h : KT P t) : WideMaps.KeyLaw P t := deep_law_laid h.laid (m := P.types.size + 1) h.small h.row h.key h.wide

/-- Cells of a type. -/
def Fine (P : Program) (t : TypeId) (cs : List Value) : Prop := KL P (P.types.size + 1) t cs ∧ cs.length = P.cellsOf t

theorem Fine.of_rd {w : World} {t : TypeId} {cs : List Value} {d : DataW H} (h : KT P t) (hl : cs.length = P.cellsOf t) (hr : Rd enc P w t cs d) : Fine P t cs := by
  obtain ⟨s, f, p, h0⟩ := hr.now
  exact ⟨KL.of_trod _ t h.key _ _ _ h0, hl⟩

theorem Fine.keyOf {t : TypeId} {cs : List Value} (h : KT P t) (hf : Fine P t cs) : ∃ l, keyOf P t (.agg cs.toArray) = some l := by
  obtain ⟨⟨L, hL⟩, hl⟩ := hf
  have hw := h.wide
  unfold Go.keyOf
  split
  · rename_i hu
    rw [if_pos (by simp [h.key, Value.formed, hu, hl])]
    exact ⟨.string (keyBytes L), by simp [Value.cells, hL]⟩
  · rename_i hu
    rw [if_pos (by simp [h.key, Value.formed, hu, hl])]
    exact ⟨.string (keyBytes L), by simp [Value.cells, hL]⟩
  · rename_i h1 h2
    exfalso
    split at hw
    · rename_i a b hab; exact h1 _ _ hab
    · rename_i a hab; exact h2 _ hab
    · cases hw

open Classical in
/-- '==': whether the cells are the same. -/
theorem run_equal_fine {t : TypeId} {xs ys : List Value} (h : KT P t) (hx : Fine P t xs) (hy : Fine P t ys) (w : World) : (Op.equal t (.agg xs.toArray) (.agg ys.toArray)).run P w = .ok (decide (xs = ys)) w := by
  obtain ⟨lx, ex⟩ := hx.keyOf h
  obtain ⟨ly, ey⟩ := hy.keyOf h
  obtain ⟨r, hr, hi⟩ := run_equal_deep w (m := P.types.size + 1) (by have := h.small; omega) h.key h.wide ex ey
  rw [hr]
  congr 1
  rw [Bool.eq_iff_iff, hi, decide_eq_true_iff]
  constructor
  · intro e
    subst e
    have := h.law.inj ex ey
    simpa using this
  · intro e
    subst e
    rw [ex] at ey
    exact Option.some.inj ey

open Classical in
theorem run_eql_fine {t : TypeId} {xs ys : List Value} (h : KT P t) (hx : Fine P t xs) (hy : Fine P t ys) (x y : Operand) (w : World) :
    (do eqGuard .eql t x y (.agg xs.toArray) (.agg ys.toArray); binOp .eql t (.agg xs.toArray) (.agg ys.toArray) : Sem Value).run P w = .ok (.bool (decide (xs = ys))) w := by
  rw [Sem.run_bind, run_eqGuard_agg w .eql t x y _ _ h.guard]
  simp only [Result.andThen_ok, binOp]
  rw [Sem.run_bind, run_equal_fine h hx hy]
  rfl
open Classical in
theorem run_neq_fine {t : TypeId} {xs ys : List Value} (h : KT P t) (hx : Fine P t xs) (hy : Fine P t ys) (x y : Operand) (w : World) :
    (do eqGuard .neq t x y (.agg xs.toArray) (.agg ys.toArray); binOp .neq t (.agg xs.toArray) (.agg ys.toArray) : Sem Value).run P w = .ok (.bool (!decide (xs = ys))) w := by
  rw [Sem.run_bind, run_eqGuard_agg w .neq t x y _ _ h.guard]
  simp only [Result.andThen_ok, binOp]
  rw [Sem.run_bind, run_equal_fine h hx hy]
  rfl

section
variable {ops : Array Oper} {rest : List Oper} {o : Oper} {a : Act} {w : World} {Q : Exit → Act → World → Prop}
open Classical in
theorem wpList_eql_fine (hgd : o.guard = none) (t t' : TypeId) (x y : Operand) (ho : o.op = .binOp .eql t x y t') (xs ys : List Value) (hx : a.eval x = .agg xs.toArray) (hy : a.eval y = .agg ys.toArray) (h : KT P t) (fx : Fine P t xs) (fy : Fine P t ys)
    (hk : wpList P ops Q rest (a.put o.dst (.bool (decide (xs = ys)))) w) : wpList P ops Q (o :: rest) a w :=
  wpList_plain hgd fun K hK => by
    unfold Oper.wp execOp
    simp only [ho, hx, hy]
    rw [Sem.run_bind, run_eql_fine h fx fy]
    exact hK _ _ hk
open Classical in
theorem wpList_neq_fine (hgd : o.guard = none) (t t' : TypeId) (x y : Operand) (ho : o.op = .binOp .neq t x y t') (xs ys : List Value) (hx : a.eval x = .agg xs.toArray) (hy : a.eval y = .agg ys.toArray) (h : KT P t) (fx : Fine P t xs) (fy : Fine P t ys)
    (hk : wpList P ops Q rest (a.put o.dst (.bool (!decide (xs = ys)))) w) : wpList P ops Q (o :: rest) a w :=
  wpList_plain hgd fun K hK => by
    unfold Oper.wp execOp
    simp only [ho, hx, hy]
    rw [Sem.run_bind, run_neq_fine h fx fy]
    exact hK _ _ hk
end
end
end Go.Proofs.Ytjmkkndglmapaaa
