/- A reading of Go data that is kept by whatever makes new memory: its parts, one lemma a shape. No condition. -/
import Derived.ChangeArms
import Derived.ChangeReads
import Derived.Carry
import Derived.Below
import Derived.Deep.MidRow
import Derived.OpenShut
namespace Go.Proofs.Ytjmkkndglmapaaa
open Go.RowKit

section
variable {H : Type} {enc : TypeId × Value → H} {P : Program}

/-- The cells 'cs' of type 't' read as 'd', in w and in whatever world has w's memory. -/
def Rd (enc : TypeId × Value → H) (P : Program) (w : World) (t : TypeId) (cs : List Value) (d : DataW H) : Prop :=
  ∀ W, Below w.heap.size w W → ∃ s fuel p, DataW.trod enc P W 0 s true fuel t cs = some (d, p)

theorem Rd.below {w W : World} {t : TypeId} {cs : List Value} {d : DataW H} (h : Rd enc P w t cs d) (hb : Below w.heap.size w W) : Rd enc P W t cs d :=
  fun W' hb' => h W' (hb.trans (hb'.mono hb.size))

theorem Rd.now {w : World} {t : TypeId} {cs : List Value} {d : DataW H} (h : Rd enc P w t cs d) : ∃ s fuel p, DataW.trod enc P w 0 s true fuel t cs = some (d, p) :=
  h w (Below.refl _ _)

theorem Rd.int {w : World} {t : TypeId} {cs : List Value} {d : DataW H} {k : IntKind} (ht : P.underlying t = some (.int k)) (h : Rd enc P w t cs d) :
    ∃ n, cs = [.int k n] ∧ d = .lit (.int k n) ∧ (Lit.int k n).wf = true := by
  obtain ⟨s0, f, p, h⟩ := h.now
  obtain ⟨n, h1, h2, h3⟩ := DataW.trod_int ht h
  exact ⟨n, h1, congrArg Prod.fst h2, h3⟩

theorem Rd.bool {w : World} {t : TypeId} {cs : List Value} {d : DataW H} (ht : P.underlying t = some .bool) (h : Rd enc P w t cs d) :
    ∃ n, cs = [.bool n] ∧ d = .lit (.bool n) := by
  obtain ⟨s0, f, p, h⟩ := h.now
  obtain ⟨n, h1, h2⟩ := DataW.trod_bool ht h
  exact ⟨n, h1, congrArg Prod.fst h2⟩

theorem Rd.str {w : World} {t : TypeId} {cs : List Value} {d : DataW H} (ht : P.underlying t = some .string) (h : Rd enc P w t cs d) :
    ∃ s : ByteArray, cs = [.string s] ∧ d = .lit (.string s.data.toList) ∧ s.size ≤ maxLen := by
  obtain ⟨s0, f, p, h⟩ := h.now
  obtain ⟨n, h1, h2, h3⟩ := DataW.trod_string ht h
  exact ⟨n, h1, congrArg Prod.fst h2, h3⟩

/-- A struct: field i. -/
theorem Rd.struct {w : World} {t : TypeId} {cs : List Value} {d : DataW H} {fs : Array Field} (ht : P.underlying t = some (.struct fs)) (h : Rd enc P w t cs d) :
    cs.length = P.cellsOf t ∧ ∃ ds : List (DataW H), d = .agg ds ∧ ds.length = fs.size ∧
      ∀ (i : Nat) (f : Field), fs[i]? = some f → Rd enc P w f.type ((cs.drop f.offset).take (P.cellsOf f.type)) (ds.getD i .nil) := by
  obtain ⟨s0, fu, p, h0⟩ := h.now
  obtain ⟨xs, n, rfl, hx, hl, hn, hf⟩ := DataW.trod_struct ht h0
  have hd : d = .agg (xs.map (·.1)) := congrArg Prod.fst hx
  refine ⟨hl, xs.map (·.1), hd, by simpa using hn, fun i f hi W hb => ?_⟩
  obtain ⟨s1, fu', p', h1⟩ := h W hb
  obtain ⟨ys, m, rfl, hy, _, hm, hg⟩ := DataW.trod_struct ht h1
  have hd' : d = .agg (ys.map (·.1)) := congrArg Prod.fst hy
  have he : xs.map (·.1) = ys.map (·.1) := by rw [hd] at hd'; injection hd'
  have hlt : i < ys.length := by rw [hm]; exact (Array.getElem?_eq_some_iff.1 hi).1
  have h2 := hg i f hi
  rw [List.getElem?_eq_getElem hlt] at h2
  refine ⟨s1, m, ys[i].2, ?_⟩
  rw [h2, he, List.getD_eq_getElem?_getD, List.getElem?_map, List.getElem?_eq_getElem hlt]
  rfl

theorem rangeAt_of_cells? {w : World} {base : Nat} {a : Addr} {n : Nat} {cs : List Value} (h : w.cells? base a n = some cs) (hn : 0 < n) :
    a.spot = none ∧ cs.length = n ∧ w.rangeAt a.block a.off cs := by
  obtain ⟨_, hl, hc⟩ := World.cells?_some h
  have h0 := hc 0 hn
  rw [show a.add 0 = a from by simp [Addr.add]] at h0
  have hs : a.spot = none := by
    cases he : a.spot with
    | none => rfl
    | some x =>
      rw [List.getElem?_eq_getElem (by omega)] at h0
      unfold World.cell? at h0
      rw [he] at h0
      split at h0 <;> simp at h0
  refine ⟨hs, hl, fun j v hv => ?_⟩
  have hj : j < n := by have := (List.getElem?_eq_some_iff.1 hv).1; omega
  have h1 := hc j hj
  rw [hv] at h1
  rw [← h1]
  congr 1
  unfold Addr.add
  split
  · subst_vars; cases a; simp_all
  · rfl

theorem rangeAt_block {w : World} {b o : Nat} {cs : List Value} (h : w.rangeAt b o cs) (hn : 0 < cs.length) : b < w.heap.size := by
  have h0 := h 0 cs[0] (by simp [List.getElem?_eq_getElem hn])
  exact World.block_lt_of_cell? w _ h0

theorem rangeAt_below {w W : World} {b o : Nat} {cs : List Value} (h : w.rangeAt b o cs) (hb : Below w.heap.size w W) : W.rangeAt b o cs := fun j v hv => by
  have h0 := h j v hv
  rw [hb.cell (World.block_lt_of_cell? w _ h0)]
  exact h0

theorem cells?_same {w W : World} {base : Nat} {a : Addr} {n : Nat} {cs cs' : List Value} (hb : Below w.heap.size w W) (h : w.cells? base a n = some cs) (h' : W.cells? base a n = some cs') : cs' = cs := by
  obtain ⟨_, hl, hc⟩ := World.cells?_some h
  obtain ⟨_, hl', hc'⟩ := World.cells?_some h'
  apply List.ext_getElem?
  intro i
  rcases Nat.lt_or_ge i n with hi | hi
  · rw [← hc i hi, ← hc' i hi]
    have hv := hc i hi
    rw [List.getElem?_eq_getElem (by omega)] at hv
    exact hb.cell (World.block_lt_of_cell? w _ hv)
  · rw [List.getElem?_eq_none (by omega), List.getElem?_eq_none (by omega)]

/-- A slice: its elements. -/
theorem Rd.slice {w : World} {t e : TypeId} {cs : List Value} {d : DataW H} (ht : P.underlying t = some (.slice e)) (he : 0 < P.cellsOf e) (h : Rd enc P w t cs d) :
    (cs = [.slice none 0 0] ∧ d = .nil) ∨
    ∃ (a : Addr) (len cap : Nat) (es sp : List (DataW H)), cs = [.slice (some a) len cap] ∧ d = .slice es sp ∧ es.length = len ∧ len ≤ cap ∧ cap ≤ maxLen ∧
      ∀ i, i < len → a.spot = none ∧ ∃ c, c.length = P.cellsOf e ∧ w.rangeAt a.block (a.off + i * P.cellsOf e) c ∧ Rd enc P w e c (es.getD i .nil) := by
  obtain ⟨s0, fu, p, h0⟩ := h.now
  rcases DataW.trod_slice ht h0 with ⟨h1, h2⟩ | ⟨a, len, cap, elems, rest, n, rfl, rfl, hx, hb, hl, hm, hlen, hel, _, _⟩
  · exact .inl ⟨h1, congrArg Prod.fst h2⟩
  right
  have hd : d = .slice (elems.map (·.1)) (rest.map (·.1)) := congrArg Prod.fst hx
  refine ⟨a, len, cap, elems.map (·.1), rest.map (·.1), rfl, hd, by simpa using hlen, hl, hm, fun i hi => ?_⟩
  have h1 := hel i hi
  have hlt : i < elems.length := by omega
  rw [List.getElem?_eq_getElem hlt] at h1
  obtain ⟨c, hc, ht1⟩ := Option.bind_eq_some_iff.1 h1
  obtain ⟨hs, hcl, hr⟩ := rangeAt_of_cells? hc he
  have hadd : (a.add (i * P.cellsOf e)).block = a.block ∧ (a.add (i * P.cellsOf e)).off = a.off + i * P.cellsOf e := by
    unfold Addr.add
    split <;> simp_all
  have hsp : a.spot = none := by
    cases hq : a.spot with
    | none => rfl
    | some x =>
      by_cases hz : i * P.cellsOf e = 0
      · rw [hz] at hs; simp [Addr.add] at hs; rw [hs] at hq; cases hq
      · exfalso
        -- the first element's cell lies at a itself
        have h00 := hel 0 (by omega)
        rw [List.getElem?_eq_getElem (by omega)] at h00
        obtain ⟨c0, hc0, _⟩ := Option.bind_eq_some_iff.1 h00
        have := (rangeAt_of_cells? hc0 he).1
        rw [Nat.zero_mul] at this
        simp [Addr.add] at this
        rw [this] at hq; cases hq
  refine ⟨hsp, c, hcl, by rw [← hadd.1, ← hadd.2]; exact hr, fun W hbW => ?_⟩
  obtain ⟨s1, fu', p', h2⟩ := h W hbW
  rcases DataW.trod_slice ht h2 with ⟨h3, _⟩ | ⟨a', len', cap', elems', rest', n', rfl, hcs, hx', _, _, _, hlen', hel', _, _⟩
  · simp at h3
  · simp only [List.cons.injEq, Value.slice.injEq, Option.some.injEq, and_true] at hcs
    obtain ⟨rfl, rfl, rfl⟩ := hcs
    have hd' : d = .slice (elems'.map (·.1)) (rest'.map (·.1)) := congrArg Prod.fst hx'
    have hee : elems.map (·.1) = elems'.map (·.1) := by rw [hd] at hd'; injection hd'
    have h4 := hel' i hi
    have hlt' : i < elems'.length := by omega
    rw [List.getElem?_eq_getElem hlt'] at h4
    obtain ⟨c', hc', ht4⟩ := Option.bind_eq_some_iff.1 h4
    obtain rfl := cells?_same hbW hc hc'
    refine ⟨s1, n', elems'[i].2, ?_⟩
    rw [ht4, hee, List.getD_eq_getElem?_getD, List.getElem?_map, List.getElem?_eq_getElem hlt']
    rfl

/-- From the form's own reading, once. -/
theorem Rd.of_trod {w : World} {t : TypeId} {v : Value} {d : DataW H} {ps : List MemPlace} (hl : laidOutB P = true) (hr : P.readableRec t = true) (hrow : t < P.types.size)
    (hlt : ∀ x ∈ ps, x.block < w.heap.size) (h : DataW.Trod enc P w 0 (fun _ => true) true t v d ps) : Rd enc P w t v.cells.toList d := fun W hb => by
  obtain ⟨f, hf⟩ := Below.trod hl hr hrow h hb hlt
  exact ⟨_, f, ps, hf⟩
end
end Go.Proofs.Ytjmkkndglmapaaa
