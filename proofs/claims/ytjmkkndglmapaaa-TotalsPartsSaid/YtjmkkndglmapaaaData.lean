/- Rows of values, of totals, as they lie in a world; sums told by lists. -/
import Derived.Test.YtjmkkndglmapaaaTotals
set_option linter.unusedSimpArgs false
set_option linter.unusedVariables false
namespace Go.Proofs.Ytjmkkndglmapaaa
open Go.RowKit Go.Shelf Go.Lib Go.Sort

/-- A slice of things of so many cells each. -/
def SlAt {α : Type} (w : World) (size : Nat) (en : World → α → List Value → Prop) (v : Value) (l : List α) : Prop :=
  ∃ A c b o, v = .slice A l.length c ∧ l.length ≤ c ∧ c ≤ maxLen ∧ (A = none → c = 0) ∧ (0 < l.length → A = some ⟨b, o, none⟩) ∧ ∀ i x, l[i]? = some x → ∃ cs, en w x cs ∧ cs.length = size ∧ w.rangeAt b (o + i * size) cs
/-- What is told of a thing stays. -/
def Stays {α : Type} (en : World → α → List Value → Prop) : Prop := ∀ w W x cs, en w x cs → Below w.heap.size w W → en W x cs
theorem SlAt.below {α : Type} {w W : World} {size : Nat} {en : World → α → List Value → Prop} (hs : Stays en) {v : Value} {l : List α} (h : SlAt w size en v l) (hb : Below w.heap.size w W) : SlAt W size en v l := by
  obtain ⟨A, c, b, o, h1, h2, h3, h6, h4, h5⟩ := h
  exact ⟨A, c, b, o, h1, h2, h3, h6, h4, fun i x hx => by
    obtain ⟨cs, g1, g2, g3⟩ := h5 i x hx
    exact ⟨cs, hs _ _ _ _ g1 hb, g2, rangeAt_below g3 hb⟩⟩

def i64 (n : Int) : Prop := -9223372036854775808 ≤ n ∧ n ≤ 9223372036854775807
def encA (x : Key × Int) : List Value := encB x.1.pol ++ [.string x.1.nm, .int .i64 x.2]
theorem encA_len (x : Key × Int) (h : okK x.1) : (encA x).length = 34 := by simp [encA, encB, h.1]
theorem encA_one (x : Key × Int) : ∀ v ∈ encA x, v.oneCell' = true := fun v hv => by
  unfold encA at hv
  rcases List.mem_append.1 hv with h | h
  · exact encB_one _ v h
  · simp only [List.mem_cons, List.not_mem_nil, or_false] at h
    rcases h with rfl | rfl <;> rfl
def enAsset (_ : World) (x : Key × Int) (cs : List Value) : Prop := cs = encA x ∧ okK x.1 ∧ i64 x.2
abbrev AsAt (w : World) (v : Value) (al : List (Key × Int)) : Prop := SlAt w 34 enAsset v al
theorem stays_asset : Stays enAsset := fun _ _ _ _ h _ => h
structure Val where
  coin : Int
  al : List (Key × Int)
def enVal (w : World) (x : Val) (cs : List Value) : Prop := ∃ sl, cs = [.int .i64 x.coin, sl] ∧ i64 x.coin ∧ AsAt w sl x.al
theorem stays_val : Stays enVal := fun _ _ _ _ ⟨sl, h1, h2, h3⟩ hb => ⟨sl, h1, h2, h3.below stays_asset hb⟩
abbrev VsAt (w : World) (v : Value) (vs : List Val) : Prop := SlAt w 2 enVal v vs
def enTot (_ : World) (t : Tot) (cs : List Value) : Prop := cs = encT t
theorem stays_tot : Stays enTot := fun _ _ _ _ h _ => h
abbrev TsAt (w : World) (v : Value) (R : List Tot) : Prop := SlAt w 35 enTot v R
def enRow (w : World) (R : List Tot) (cs : List Value) : Prop := ∃ sl, cs = [sl] ∧ TsAt w sl R
theorem stays_row : Stays enRow := fun _ _ _ _ ⟨sl, h1, h2⟩ hb => ⟨sl, h1, h2.below stays_tot hb⟩
abbrev RsAt (w : World) (v : Value) (Rs : List (List Tot)) : Prop := SlAt w 1 enRow v Rs

/-- A row that the call owns, as one that is read. -/
theorem SlAt.own {α : Type} {w : World} {base : Nat} {e : TypeId} {size : Nat} {en : World → α → List Value → Prop} {v : Value} {l : List α} (css : List (List Value)) (hown : w.ownsRow base e size v l.length css.flatten) (hl : css.length = l.length)
    (hc : ∀ (i : Nat) (x : α) (cs : List Value), l[i]? = some x → css[i]? = some cs → en w x cs ∧ cs.length = size) (hall : ∀ cs ∈ css, cs.length = size) : SlAt w size en v l := by
  have hchunk : ∀ (css : List (List Value)), (∀ cs ∈ css, cs.length = size) → ∀ i cs, css[i]? = some cs → ∀ j u, cs[j]? = some u → css.flatten[i * size + j]? = some u := by
    intro css
    induction css with
    | nil => intro _ i cs h; simp at h
    | cons c css ih =>
      intro ha i cs h j u hu
      have hcl := ha c (by simp)
      rw [List.flatten_cons]
      cases i with
      | zero =>
        simp only [List.getElem?_cons_zero, Option.some.injEq] at h
        subst h
        have hj : j < c.length := (List.getElem?_eq_some_iff.1 hu).1
        rw [Nat.zero_mul, Nat.zero_add, List.getElem?_append_left hj]
        exact hu
      | succ i =>
        rw [List.getElem?_cons_succ] at h
        rw [List.getElem?_append_right (by rw [hcl, Nat.add_mul]; omega), hcl, show (i + 1) * size + j - size = i * size + j by rw [Nat.add_mul]; omega]
        exact ih (fun d hd => ha d (by simp [hd])) i cs h j u hu
  have hget : ∀ i x, l[i]? = some x → ∃ cs, css[i]? = some cs := fun i x hx => by
    have : i < l.length := (List.getElem?_eq_some_iff.1 hx).1
    exact ⟨_, List.getElem?_eq_getElem (by omega)⟩
  rcases hown.2 with ⟨rfl, h0⟩ | ⟨g, cap, cur, rfl, _, hb, hn, hcap, hsz, htake⟩
  · refine ⟨none, 0, 0, 0, by rw [h0], by omega, Nat.zero_le _, fun _ => rfl, fun h => by omega, fun i x hx => ?_⟩
    have : i < l.length := (List.getElem?_eq_some_iff.1 hx).1
    omega
  · refine ⟨_, cap, g, 0, rfl, hn, hcap, fun h => (nomatch h), fun _ => rfl, fun i x hx => ?_⟩
    obtain ⟨cs, hcs⟩ := hget i x hx
    obtain ⟨h1, h2⟩ := hc i x cs hx hcs
    refine ⟨cs, h1, h2, fun j u hu => ?_⟩
    have h3 := hchunk css hall i cs hcs j u hu
    rw [cell_of_row _ _ _ _ _ _ hb]
    rw [← htake, List.getElem?_take] at h3
    split at h3
    · rw [Nat.zero_add]
      simpa using h3
    · cases h3

theorem flatMap_flatten (R : List Tot) : R.flatMap encT = (R.map encT).flatten := by rw [List.flatMap_def]
theorem TsAt.own {w : World} {base : Nat} {e : TypeId} {v : Value} {R : List Tot} (hown : w.ownsRow base e 35 v R.length (R.flatMap encT)) : TsAt w v R := by
  rw [flatMap_flatten] at hown
  refine SlAt.own (R.map encT) hown (by simp) (fun i x cs hx hcs => ?_) (fun cs hcs => ?_)
  · rw [List.getElem?_map, hx] at hcs
    simp only [Option.map_some, Option.some.injEq] at hcs
    subst hcs
    exact ⟨rfl, encT_len _⟩
  · obtain ⟨t, _, rfl⟩ := List.mem_map.1 hcs
    exact encT_len _

open Classical in
/-- What a list of assets tells of a name. -/
noncomputable def asum (al : List (Key × Int)) (k : Key) : Int := (al.map fun x => if x.1 = k then x.2 else 0).sum
noncomputable def vsum (vs : List Val) (k : Key) : Int := (vs.map fun v => asum v.al k).sum
def csum (vs : List Val) : Int := (vs.map (·.coin)).sum
def vlen (vs : List Val) : Nat := (vs.map fun v => v.al.length).sum
open Classical in
noncomputable def tsum (R : List Tot) (k : Key) : Int := (R.map fun t => if t.k = k then t.v else 0).sum

theorem take_more {α : Type} {l : List α} {i : Nat} {x : α} (h : l[i]? = some x) : l.take (i + 1) = l.take i ++ [x] := by
  have hi : i < l.length := (List.getElem?_eq_some_iff.1 h).1
  rw [List.take_add_one, h]
  rfl
theorem asum_more {al : List (Key × Int)} {i : Nat} {x : Key × Int} (h : al[i]? = some x) : asum (al.take (i + 1)) x.1 = asum (al.take i) x.1 + x.2 ∧ ∀ k, k ≠ x.1 → asum (al.take (i + 1)) k = asum (al.take i) k := by
  classical
  unfold asum
  rw [take_more h]
  refine ⟨by simp, fun k hk => ?_⟩
  have : ¬ x.1 = k := fun e => hk e.symm
  simp [this]
theorem vsum_more {vs : List Val} {i : Nat} {x : Val} (h : vs[i]? = some x) (k : Key) : vsum (vs.take (i + 1)) k = vsum (vs.take i) k + asum x.al k := by
  unfold vsum
  rw [take_more h]
  simp
theorem csum_more {vs : List Val} {i : Nat} {x : Val} (h : vs[i]? = some x) : csum (vs.take (i + 1)) = csum (vs.take i) + x.coin := by
  unfold csum
  rw [take_more h]
  simp
theorem vlen_more {vs : List Val} {i : Nat} {x : Val} (h : vs[i]? = some x) : vlen (vs.take (i + 1)) = vlen (vs.take i) + x.al.length := by
  unfold vlen
  rw [take_more h]
  simp
theorem vlen_le (vs : List Val) (i : Nat) : vlen (vs.take i) ≤ vlen vs := by
  have e : vlen vs = vlen (vs.take i) + vlen (vs.drop i) := by
    unfold vlen
    rw [← List.sum_append, ← List.map_append, List.take_append_drop]
  omega
theorem tsum_more {R : List Tot} {i : Nat} {x : Tot} (h : R[i]? = some x) : tsum (R.take (i + 1)) x.k = tsum (R.take i) x.k + x.v ∧ ∀ k, k ≠ x.k → tsum (R.take (i + 1)) k = tsum (R.take i) k := by
  classical
  unfold tsum
  rw [take_more h]
  refine ⟨by simp, fun k hk => ?_⟩
  have : ¬ x.k = k := fun e => hk e.symm
  simp [this]

/-- What is added to a book. -/
theorem Added.tells {L L' : BookL} {k : Key} {x : Int} (h : Added L L' k x) {T T' : Key → Int} (hT : ∀ k, valAt L k = T k) (h1 : T' k = T k + x) (h2 : ∀ j, j ≠ k → T' j = T j) : ∀ j, valAt L' j = T' j := fun j => by
  by_cases e : j = k
  · subst e
    rw [h.here, hT, h1]
  · rw [h.else_ j e, hT, h2 j e]
end Go.Proofs.Ytjmkkndglmapaaa
