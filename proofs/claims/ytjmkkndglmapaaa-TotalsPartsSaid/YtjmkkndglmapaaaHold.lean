/- What TotalsParts holds in memory: addresses seen, rows told, a sum. No condition. -/
import Derived.Test.YtjmkkndglmapaaaAwake
import Derived.Test.YtjmkkndglmapaaaQg
set_option linter.unusedSimpArgs false
set_option linter.unusedVariables false
namespace Go.Proofs.Ytjmkkndglmapaaa
open Go.RowKit Go.Shelf Go.Lib Go.Sort Go.WideShapes Go.ChangeShapes

theorem own_type {w : World} {b : Nat} {e : TypeId} {s : Nat} {v : Value} {n : Nat} {xs : List Value} (h : w.ownsRow b e s v n xs) {g : Nat} (hg : v.ownBlock = some g) : ∃ cur, w.heap[g]? = some (.cells cur e (0, 0)) := by
  rcases h.2 with ⟨rfl, _⟩ | ⟨g', cap, cur, rfl, _, hb, _⟩
  · cases hg
  · obtain rfl : g' = g := by simpa [Value.ownBlock] using hg
    exact ⟨cur, hb⟩
theorem own_ne {w : World} {b b' : Nat} {e e' : TypeId} {s s' : Nat} {v v' : Value} {n n' : Nat} {xs xs' : List Value} (h : w.ownsRow b e s v n xs) (h' : w.ownsRow b' e' s' v' n' xs') (hne : e ≠ e') : v.ownBlock = none ∨ v.ownBlock ≠ v'.ownBlock := by
  cases hv : v.ownBlock with
  | none => exact .inl rfl
  | some g =>
    right
    intro hv'
    obtain ⟨c, h1⟩ := own_type h hv
    obtain ⟨c', h2⟩ := own_type h' hv'.symm
    rw [h1] at h2
    simp only [Option.some.injEq, Obj.cells.injEq] at h2
    exact hne h2.2.1
theorem own_box_ne {w : World} {b : Nat} {e t : TypeId} {s : Nat} {v : Value} {n : Nat} {xs cs : List Value} {p : Nat} (h : w.ownsRow b e s v n xs) (hB : Box w p cs t) (hne : e ≠ t) : v.ownBlock ≠ some p := fun hv => by
  obtain ⟨c, h1⟩ := own_type h hv
  unfold Box at hB
  rw [h1] at hB
  simp only [Option.some.injEq, Obj.cells.injEq] at hB
  exact hne hB.2.1
theorem box_grown {w W : World} {p : Nat} {cs : List Value} {t : TypeId} {row : Option Nat} (hB : Box w p cs t) (hg : w.grownBy W row) (hne : row ≠ some p) : Box W p cs t :=
  (hg.block p hB.lt (fun e => hne e.symm)).trans hB
theorem below_row {B : Nat} {w0 w W : World} {row : Option Nat} (h : Below B w0 w) (hg : w.grownBy W row) (hB : B ≤ w.heap.size) (hr : ∀ g, row = some g → B ≤ g) : Below B w0 W :=
  ⟨hg.os.trans h.os, hg.tape.trans h.tape, hg.output.trans h.output, by have := h.size; have := hg.size; omega, fun j hj => (hg.block j (by omega) (fun e => by have := hr j e.symm; omega)).trans (h.block j hj)⟩

structure M1 (w5 : World) (m p6 : Nat) (c : Int) (seen : List (List Value)) (sls : List Value) (Rs : List (List Tot)) (v5 v7 : Value) (wr : World) : Prop where
  bl : Below w5.heap.size w5 wr
  ge : w5.heap.size ≤ p6
  lt : p6 < m
  sz : m ≤ wr.heap.size
  coin : Box wr p6 (encW c) 57
  o5 : wr.ownsRow m 40 33 v5 seen.length seen.flatten
  o7 : wr.ownsRow m 33 1 v7 sls.length sls
  len : sls.length = Rs.length
  rows : ∀ (i : Nat) sl R, sls[i]? = some sl → Rs[i]? = some R → wr.ownsRow m 88 35 sl R.length (R.flatMap encT)
section
variable {w5 : World} {m p6 : Nat} {c : Int} {seen : List (List Value)} {sls : List Value} {Rs : List (List Tot)} {v5 v7 : Value} {wr W : World}
theorem M1.step (h : M1 w5 m p6 c seen sls Rs v5 v7 wr) (hb : Below wr.heap.size wr W) : M1 w5 m p6 c seen sls Rs v5 v7 W := by
  have hg := below_grown hb rfl none
  have hn : ∀ v : Value, v.ownBlock = none ∨ v.ownBlock ≠ none := fun v => by cases v.ownBlock <;> simp
  exact ⟨h.bl.trans (hb.mono h.bl.size), h.ge, h.lt, Nat.le_trans h.sz hb.size, h.coin.below hb, h.o5.kept hg (hn _), h.o7.kept hg (hn _), h.len, fun i sl R h1 h2 => (h.rows i sl R h1 h2).kept hg (hn _)⟩
theorem M1.coined {c' : Int} (h : M1 w5 m p6 c seen sls Rs v5 v7 wr) (hB : Box W p6 (encW c') 57) (ho : Only p6 wr W) : M1 w5 m p6 c' seen sls Rs v5 v7 W := by
  have hg := ho.grown
  exact ⟨h.bl.trans (ho.below h.ge), h.ge, h.lt, by rw [ho.size]; exact h.sz, hB, h.o5.kept hg (.inr (own_box_ne h.o5 h.coin (by decide))), h.o7.kept hg (.inr (own_box_ne h.o7 h.coin (by decide))), h.len,
    fun i sl R h1 h2 => (h.rows i sl R h1 h2).kept hg (.inr (own_box_ne (h.rows i sl R h1 h2) h.coin (by decide)))⟩
theorem M1.saw {seen' : List (List Value)} {v5' : Value} (h : M1 w5 m p6 c seen sls Rs v5 v7 wr) (hg : wr.grownBy W v5.ownBlock) (ho : W.ownsRow m 40 33 v5' seen'.length seen'.flatten) : M1 w5 m p6 c seen' sls Rs v5' v7 W := by
  have hsz := h.bl.size
  have hr : ∀ g, v5.ownBlock = some g → w5.heap.size ≤ g := fun g e => by have := (h.o5.lt g e).1; have := h.ge; have := h.lt; omega
  exact ⟨below_row h.bl hg hsz hr, h.ge, h.lt, Nat.le_trans h.sz hg.size, box_grown h.coin hg (own_box_ne h.o5 h.coin (by decide)), ho, h.o7.kept hg (own_ne h.o7 h.o5 (by decide)), h.len,
    fun i sl R h1 h2 => (h.rows i sl R h1 h2).kept hg (own_ne (h.rows i sl R h1 h2) h.o5 (by decide))⟩
theorem M1.rowed {sl : Value} {R : List Tot} {v7' : Value} (h : M1 w5 m p6 c seen sls Rs v5 v7 wr) (hs : wr.ownsRow m 88 35 sl R.length (R.flatMap encT)) (hg : wr.grownBy W v7.ownBlock) (ho : W.ownsRow m 33 1 v7' (sls ++ [sl]).length (sls ++ [sl])) :
    M1 w5 m p6 c seen (sls ++ [sl]) (Rs ++ [R]) v5 v7' W := by
  have hsz := h.bl.size
  have hr : ∀ g, v7.ownBlock = some g → w5.heap.size ≤ g := fun g e => by have := (h.o7.lt g e).1; have := h.ge; have := h.lt; omega
  refine ⟨below_row h.bl hg hsz hr, h.ge, h.lt, Nat.le_trans h.sz hg.size, box_grown h.coin hg (own_box_ne h.o7 h.coin (by decide)), h.o5.kept hg (own_ne h.o5 h.o7 (by decide)), ho, by simp [h.len], fun i sl' R' h1 h2 => ?_⟩
  have hi : i < sls.length ∨ i = sls.length := by
    have := (List.getElem?_eq_some_iff.1 h1).1
    simp at this
    omega
  rcases hi with hi | rfl
  · rw [List.getElem?_append_left hi] at h1
    rw [List.getElem?_append_left (by rw [← h.len]; exact hi)] at h2
    exact (h.rows i sl' R' h1 h2).kept hg (own_ne (h.rows i sl' R' h1 h2) h.o7 (by decide))
  · rw [List.getElem?_append_right (by omega)] at h1
    rw [List.getElem?_append_right (by rw [h.len]; omega)] at h2
    simp [h.len] at h1 h2
    subst h1 h2
    exact hs.kept hg (own_ne hs h.o7 (by decide))
/-- The addresses, as they are read. -/
def enAd (_ : World) (a : List Value) (cs : List Value) : Prop := cs = a ∧ Fine Try.prog 40 a ∧ a.length = 33
theorem stays_ad : Stays enAd := fun _ _ _ _ h _ => h
theorem ad_len {a : List Value} (h : Fine Try.prog 40 a) : a.length = 33 := h.2.trans (by kernel_rfl)
theorem M1.ads (h : M1 w5 m p6 c seen sls Rs v5 v7 wr) (hf : ∀ a ∈ seen, Fine Try.prog 40 a) : SlAt wr 33 enAd v5 seen :=
  SlAt.own seen h.o5 rfl (fun i x cs h1 h2 => by
    rw [h1] at h2
    obtain rfl := Option.some.inj h2
    have := hf x (List.mem_of_getElem? h1)
    exact ⟨⟨rfl, this, ad_len this⟩, ad_len this⟩) fun cs hcs => ad_len (hf cs hcs)
theorem M1.rs (h : M1 w5 m p6 c seen sls Rs v5 v7 wr) : RsAt wr v7 Rs := by
  have e : sls = (sls.map fun s => [s]).flatten := by
    have : ∀ l : List Value, l = (l.map fun s => [s]).flatten := by
      intro l
      induction l with
      | nil => rfl
      | cons a l ih => simp only [List.map_cons, List.flatten_cons]; rw [← ih]; rfl
    exact this sls
  have ho := h.o7
  rw [h.len] at ho
  rw [e] at ho
  refine SlAt.own (sls.map fun s => [s]) ho (by simp [h.len]) (fun i R cs h1 h2 => ?_) (fun cs hcs => ?_)
  · rw [List.getElem?_map] at h2
    obtain ⟨sl, h3, rfl⟩ := Option.map_eq_some_iff.1 h2
    exact ⟨⟨sl, rfl, TsAt.own (h.rows i sl R h3 h1)⟩, rfl⟩
  · obtain ⟨s, _, rfl⟩ := List.mem_map.1 hcs
    rfl
end

/-- What is known of the addresses seen among the first k. -/
structure L1 (S : Sta) (seen : List (List Value)) (Rs : List (List Tot)) (k : Nat) : Prop where
  nd : seen.Nodup
  of : ∀ a ∈ seen, ∃ e ∈ S.es, e.ad = a
  cov : ∀ e ∈ S.es.take k, e.ad ∈ seen
  len : Rs.length = seen.length
  told : ∀ (i : Nat) a R, seen[i]? = some a → Rs[i]? = some R → Told (vsum (vals (S.es.filter (ofAddr a)))) R
noncomputable def cseen (S : Sta) (seen : List (List Value)) : Int := S.fees + S.forf + (seen.map fun a => csum (vals (S.es.filter (ofAddr a)))).sum
theorem cseen_more (S : Sta) (seen : List (List Value)) (a : List Value) : cseen S (seen ++ [a]) = cseen S seen + csum (vals (S.es.filter (ofAddr a))) := by
  unfold cseen
  rw [List.map_append, List.sum_append]
  simp
  omega
theorem L1.start (S : Sta) : L1 S [] [] 0 := ⟨by simp, by simp, by simp, rfl, by simp⟩
theorem L1.seen_len {S : Sta} {seen : List (List Value)} {Rs : List (List Tot)} {k : Nat} (h : L1 S seen Rs k) : seen.length ≤ S.es.length := by
  classical
  have := nodup_len h.nd (m := S.es.map (·.ad)) fun a ha => by
    obtain ⟨e, he, rfl⟩ := h.of a ha
    exact List.mem_map.2 ⟨e, he, rfl⟩
  simpa using this
theorem L1.known {S : Sta} {seen : List (List Value)} {Rs : List (List Tot)} {k : Nat} (h : L1 S seen Rs k) {e : Ent} (he : S.es[k]? = some e) (hin : e.ad ∈ seen) : L1 S seen Rs (k + 1) :=
  ⟨h.nd, h.of, fun x hx => by
    rw [take_more he] at hx
    rcases List.mem_append.1 hx with hx | hx
    · exact h.cov x hx
    · simp at hx; subst hx; exact hin, h.len, h.told⟩
theorem L1.more {S : Sta} {seen : List (List Value)} {Rs : List (List Tot)} {k : Nat} (h : L1 S seen Rs k) {e : Ent} (he : S.es[k]? = some e) (hin : e.ad ∉ seen) {R : List Tot} (hR : Told (vsum (vals (S.es.filter (ofAddr e.ad)))) R) : L1 S (seen ++ [e.ad]) (Rs ++ [R]) (k + 1) := by
  refine ⟨?_, fun a ha => ?_, fun x hx => ?_, by simp [h.len], fun i a R' h1 h2 => ?_⟩
  · rw [List.nodup_append]
    refine ⟨h.nd, by simp, fun a ha b hb => ?_⟩
    simp at hb
    subst hb
    intro e'
    subst e'
    exact hin ha
  · rcases List.mem_append.1 ha with ha | ha
    · exact h.of a ha
    · simp at ha; subst ha; exact ⟨e, List.mem_of_getElem? he, rfl⟩
  · rw [take_more he] at hx
    rcases List.mem_append.1 hx with hx | hx
    · exact List.mem_append_left _ (h.cov x hx)
    · simp at hx; subst hx; simp
  · have hi : i < seen.length ∨ i = seen.length := by
      have := (List.getElem?_eq_some_iff.1 h1).1
      simp at this
      omega
    rcases hi with hi | rfl
    · rw [List.getElem?_append_left hi] at h1
      rw [List.getElem?_append_left (by rw [h.len]; exact hi)] at h2
      exact h.told i a R' h1 h2
    · rw [List.getElem?_append_right (by omega)] at h1
      rw [List.getElem?_append_right (by rw [h.len]; omega)] at h2
      simp [h.len] at h1 h2
      subst h1 h2
      exact hR
theorem L1.coins {S : Sta} {seen : List (List Value)} {Rs : List (List Tot)} {k : Nat} (h : L1 S seen Rs k) (hk : k = S.es.length) : cseen S seen = csum (vals S.es) + S.fees + S.forf := by
  unfold cseen
  rw [coin_parts h.nd S.es fun e he => h.cov e (by rw [hk, List.take_length]; exact he)]
  omega
theorem L1.names {S : Sta} {seen : List (List Value)} {Rs : List (List Tot)} {k : Nat} (h : L1 S seen Rs k) (hk : k = S.es.length) (n : Key) : encW (tsum Rs.flatten n) = encW (vsum (vals S.es) n) := by
  rw [rows_parts (fun a => vsum (vals (S.es.filter (ofAddr a)))) seen Rs h.len h.told n, name_parts h.nd S.es (fun e he => h.cov e (by rw [hk, List.take_length]; exact he)) n]
theorem vlen_filter (pr : Ent → Bool) : ∀ es : List Ent, vlen (vals (es.filter pr)) ≤ vlen (vals es) := by
  intro es
  rw [vlen_vals, vlen_vals]
  induction es with
  | nil => simp
  | cons e es ih =>
    by_cases h : pr e = true
    · rw [List.filter_cons_of_pos h, List.map_cons, List.sum_cons, List.map_cons, List.sum_cons]
      omega
    · rw [List.filter_cons_of_neg h, List.map_cons, List.sum_cons]
      omega
theorem flat_snoc (l : List (List Value)) (a : List Value) : (l ++ [a]).flatten = l.flatten ++ a := by simp
theorem info_addr : ∃ i z, Try.prog.info? 40 = some i ∧ i.zero = some z ∧ z.cells.size = 33 ∧ i.size = 33 ∧ i.bytes = 33 := by
  have h : (Try.prog.info? 40).map (fun i => (i.zero.map (·.cells.size), i.size, i.bytes)) = some (some 33, 33, 33) := by kernel_rfl
  cases hi : Try.prog.info? 40 with
  | none => rw [hi] at h; cases h
  | some i =>
    rw [hi] at h
    simp only [Option.map_some, Option.some.injEq, Prod.mk.injEq] at h
    obtain ⟨z, hz, h1⟩ := Option.map_eq_some_iff.1 h.1
    exact ⟨i, z, rfl, hz, h1, h.2.1, h.2.2⟩
theorem info_row : ∃ i z, Try.prog.info? 33 = some i ∧ i.zero = some z ∧ z.cells.size = 1 ∧ i.size = 1 ∧ i.bytes = 24 := by
  have h : (Try.prog.info? 33).map (fun i => (i.zero.map (·.cells.size), i.size, i.bytes)) = some (some 1, 1, 24) := by kernel_rfl
  cases hi : Try.prog.info? 33 with
  | none => rw [hi] at h; cases h
  | some i =>
    rw [hi] at h
    simp only [Option.map_some, Option.some.injEq, Prod.mk.injEq] at h
    obtain ⟨z, hz, h1⟩ := Option.map_eq_some_iff.1 h.1
    exact ⟨i, z, rfl, hz, h1, h.2.1, h.2.2⟩
/-- Balance, in one word. -/
def BalPost (S : Sta) (ad : List Value) (w : World) (e : Ending) (w' : World) : Prop := ∃ sl R, e = .returned (.tuple #[.agg (encW (csum (vals (S.es.filter (ofAddr ad))))).toArray, sl]) ∧ w'.ownsRow w.heap.size 88 35 sl R.length (R.flatMap encT) ∧ Below w.heap.size w w' ∧ Told (vsum (vals (S.es.filter (ofAddr ad)))) R
theorem balance_at (S : Sta) (ad : List Value) (w : World) (h : enSta w S) (hf : Fine Try.prog 40 ad) (hlen : S.es.length ≤ 1000000) (hvl : vlen (vals S.es) ≤ 1000000) :
    Calls Try.prog 9 #[.agg S.cs.toArray, .agg ad.toArray] w fun e w' => BalPost S ad w e w' :=
  balance_any S ad w h hf (by omega) (by have := vlen_filter (ofAddr ad) S.es; omega)
theorem rlen_all {Rs : List (List Tot)} {N : Nat} (h : ∀ R ∈ Rs, R.length ≤ N) : rlen Rs ≤ Rs.length * N := by
  induction Rs with
  | nil => simp [rlen]
  | cons R Rs ih =>
    have h1 := ih fun S hS => h S (by simp [hS])
    have h2 := h R (by simp)
    unfold rlen at *
    rw [List.map_cons, List.sum_cons, List.length_cons, Nat.add_mul]
    omega
theorem L1.rlen_le {S : Sta} {seen : List (List Value)} {Rs : List (List Tot)} {k : Nat} (h : L1 S seen Rs k) (h1 : S.es.length ≤ 6000) (h2 : vlen (vals S.es) ≤ 6000) : rlen Rs ≤ 36000000 := by
  have h3 : rlen Rs ≤ Rs.length * 6000 := rlen_all fun R hR => by
    obtain ⟨i, hi⟩ := List.mem_iff_getElem?.1 hR
    have hl : i < seen.length := by rw [← h.len]; exact (List.getElem?_eq_some_iff.1 hi).1
    have := told_len (h.told i _ R (List.getElem?_eq_getElem hl) hi)
    have := vlen_filter (ofAddr seen[i]) S.es
    omega
  have := h.seen_len
  have := h.len
  have : Rs.length * 6000 ≤ 6000 * 6000 := Nat.mul_le_mul_right _ (by omega)
  omega
theorem same_to (R S : List Tot) (v u : Value) (w : World) (h : TsAt w v R) (h' : TsAt w u S) :
    Calls Try.prog 11 #[v, u] w fun e w' => ∃ v, e = .returned v ∧ BoolPost (R.map encT = S.map encT) w v w' :=
  (same_any R S v u w h h').mono fun e w' ⟨⟨b, h1, h2⟩, h3⟩ => ⟨.bool b, h1, ⟨b, rfl, h2⟩, h3⟩
theorem coins_to (S : Sta) (w : World) (h : enSta w S) (hlen : S.es.length ≤ 1000000) (hvl : vlen (vals S.es) ≤ 1000000) (x : Int) (hx : csum (vals S.es) + S.fees + S.forf = x) :
    Calls Try.prog 10 #[.agg S.cs.toArray] w fun e w' => ∃ v, e = .returned v ∧ (v = .agg (encW x).toArray ∧ Below w.heap.size w w') :=
  (coins_at S (csum (vals S.es)) rfl w h (by omega) (by omega)).mono fun e w' h => ⟨_, h.1, by rw [hx], h.2⟩
theorem run_neq_no {P : Program} {o : Oper} {a : Act} {t t' : TypeId} {x y : Operand} {xs : List Value} (w : World) (ho : o.op = .binOp .neq t x y t') (hx : a.eval x = .agg xs.toArray) (hy : a.eval y = .agg xs.toArray) (h : KT P t) (fx : Fine P t xs) :
    (execOp a.eval o).run P w = .ok (.value (.bool false)) w := by
  rw [run_neq_same w ho hx hy h fx fx, (same_iff xs xs).2 rfl]
  rfl
/-- A test that came to nothing. -/
def RNo (w : World) (v : Value) (wx : World) : Prop := v = .bool false ∧ Below w.heap.size w wx
def RL1 (S : Sta) (w5 : World) (m p6 : Nat) (v5 v7 i : Value) (wr : World) : Prop :=
  ∃ (k : Nat) (seen : List (List Value)) (sls : List Value) (Rs : List (List Tot)), k ≤ S.es.length ∧ i = .int .i64 k ∧ M1 w5 m p6 (cseen S seen) seen sls Rs v5 v7 wr ∧ L1 S seen Rs k
def RL2 (seen : List (List Value)) (ad : List Value) (w : World) (v10 i : Value) (wr : World) : Prop :=
  ∃ (k : Nat) (b : Bool), k ≤ seen.length ∧ i = .int .i64 k ∧ v10 = .bool b ∧ (b = true ↔ ad ∈ seen.take k) ∧ Below w.heap.size w wr
def zAd : List Value := Value.bool false :: z32
theorem L1.fines {S : Sta} {seen : List (List Value)} {Rs : List (List Tot)} {k : Nat} (h : L1 S seen Rs k) {w : World} {v : Value} (hE : EsAt w v S.es) : ∀ a ∈ seen, Fine Try.prog 40 a := fun a ha => by
  obtain ⟨e, he, rfl⟩ := h.of a ha
  obtain ⟨i, hi⟩ := List.mem_iff_getElem?.1 he
  obtain ⟨A, c, b, o, _, _, _, _, _, hx⟩ := hE
  obtain ⟨cs, hen, _, _⟩ := hx i e hi
  exact hen.fine
theorem enEnt.ad_one {w : World} {e : Ent} (h : enEnt w e e.cs) : ∀ v ∈ e.ad, v.oneCell' = true := fun v hv => by
  rw [← h.addr] at hv
  exact h.one v (List.mem_of_mem_drop (List.mem_of_mem_take hv))
end Go.Proofs.Ytjmkkndglmapaaa
