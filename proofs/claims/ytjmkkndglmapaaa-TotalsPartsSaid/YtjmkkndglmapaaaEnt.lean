/- Entries as they lie; those chosen. -/
import Derived.Test.YtjmkkndglmapaaaSame
import Derived.Test.YtjmkkndglmapaaaSums
set_option linter.unusedSimpArgs false
set_option linter.unusedVariables false
namespace Go.Proofs.Ytjmkkndglmapaaa
open Go.RowKit Go.Shelf Go.Lib Go.Sort Go.WideShapes Go.ChangeShapes

/-- An entry: its 102 cells, the 33 of its address, its value. -/
structure Ent where
  cs : List Value
  ad : List Value
  val : Val
def vc (e : Ent) : List Value := (e.cs.drop 66).take 2
structure enEnt (w : World) (e : Ent) (cs : List Value) : Prop where
  same : cs = e.cs
  len : e.cs.length = 102
  addr : (e.cs.drop 33).take 33 = e.ad
  val : enVal w e.val (vc e)
  fine : Fine Try.prog 40 e.ad
  one : ∀ v ∈ e.cs, v.oneCell' = true
theorem stays_ent : Stays enEnt := fun w W e cs h hb => ⟨h.same, h.len, h.addr, stays_val _ _ _ _ h.val hb, h.fine, h.one⟩
abbrev EsAt (w : World) (v : Value) (es : List Ent) : Prop := SlAt w 102 enEnt v es

/-- What a filter of entries leaves, told by cells. -/
def cellsOf (l : List Ent) : List Value := (l.map vc).flatten
def vals (l : List Ent) : List Val := l.map (·.val)
theorem VsAt.own {w : World} {base : Nat} {t : TypeId} {v : Value} {l : List Ent} (hown : w.ownsRow base t 2 v l.length (cellsOf l)) (hl : ∀ e ∈ l, enVal w e.val (vc e)) : VsAt w v (vals l) := by
  have hlen : ∀ e ∈ l, (vc e).length = 2 := fun e he => by
    obtain ⟨sl, h1, _⟩ := hl e he
    rw [h1]
    rfl
  have h1 : w.ownsRow base t 2 v (vals l).length (l.map vc).flatten := by
    unfold vals
    rw [List.length_map]
    exact hown
  refine SlAt.own (l.map vc) h1 (by simp [vals]) (fun i x cs hx hcs => ?_) (fun cs hcs => ?_)
  · unfold vals at hx
    rw [List.getElem?_map] at hx hcs
    obtain ⟨e, he, rfl⟩ := Option.map_eq_some_iff.1 hx
    rw [he] at hcs
    simp only [Option.map_some, Option.some.injEq] at hcs
    subst hcs
    have hm := List.mem_of_getElem? he
    exact ⟨hl e hm, hlen e hm⟩
  · obtain ⟨e, he, rfl⟩ := List.mem_map.1 hcs
    exact hlen e he
theorem cellsOf_more (l : List Ent) (e : Ent) : cellsOf (l ++ [e]) = cellsOf l ++ vc e := by
  unfold cellsOf
  simp
theorem filter_more {pr : Ent → Bool} {es : List Ent} {k : Nat} {e : Ent} (h : es[k]? = some e) : (es.take (k + 1)).filter pr = (es.take k).filter pr ++ (if pr e then [e] else []) := by
  rw [take_more h, List.filter_append]
  congr 1
  by_cases hp : pr e = true <;> simp [hp]

theorem info_value : ∃ i, Try.prog.info? 43 = some i ∧ i.zero = some (.agg zVal.toArray) ∧ i.size = 2 ∧ i.bytes = 32 := by
  have h : (Try.prog.info? 43).map (fun i => (i.zero, i.size, i.bytes)) = some (some (.agg zVal.toArray), 2, 32) := by kernel_rfl
  cases hi : Try.prog.info? 43 with
  | none => rw [hi] at h; cases h
  | some i =>
    rw [hi] at h
    simp only [Option.map_some, Option.some.injEq, Prod.mk.injEq] at h
    exact ⟨i, rfl, h.1, h.2.1, h.2.2⟩
noncomputable def zEnt : List Value := Try.zeroCells51.toList
theorem zEnt_len : zEnt.length = 102 := by kernel_rfl
def zSums : List Value := [.int .i64 0, .int .u64 0, .slice none 0 0]
end Go.Proofs.Ytjmkkndglmapaaa
