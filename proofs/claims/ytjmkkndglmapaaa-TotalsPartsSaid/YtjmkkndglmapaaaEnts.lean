/- A row of entries with one more: the run equations of its appends, stores. No condition. -/
import Derived.Test.YtjmkkndglmapaaaHold
set_option linter.unusedSimpArgs false
set_option linter.unusedVariables false
namespace Go.Proofs.Ytjmkkndglmapaaa
open Go.RowKit Go.Shelf Go.Lib Go.Sort Go.WideShapes Go.ChangeShapes

theorem flat_chunk {n : Nat} (hn : 0 < n) : ∀ {css : List (List Value)}, (∀ cs ∈ css, cs.length = n) → ∀ j, css.flatten[j]? = (css[j / n]?).bind fun cs => cs[j % n]? := by
  intro css
  induction css with
  | nil => intro _ j; simp
  | cons c css ih =>
    intro h j
    have hc := h c (by simp)
    rw [List.flatten_cons]
    by_cases hj : j < n
    · rw [List.getElem?_append_left (by omega), Nat.div_eq_of_lt hj, Nat.mod_eq_of_lt hj]
      rfl
    · rw [List.getElem?_append_right (by omega), ih (fun d hd => h d (by simp [hd])) (j - c.length), hc]
      have e1 : j / n = (j - n) / n + 1 := by
        rw [← Nat.add_div_right _ hn]
        congr 1
        omega
      have e2 : (j - n) % n = j % n := (Nat.mod_eq_sub_mod (by omega)).symm
      rw [e1, e2, List.getElem?_cons_succ]
theorem entsOf_len {es : List Ent} (h : ∀ e ∈ es, e.cs.length = 102) : (entsOf es).length = es.length * 102 := by
  unfold entsOf
  induction es with
  | nil => rfl
  | cons e es ih =>
    rw [List.map_cons, List.flatten_cons, List.length_append, ih fun x hx => h x (by simp [hx]), h e (by simp), List.length_cons]
    omega
theorem EsAt.ents {w : World} {v : Value} {es : List Ent} (h : EsAt w v es) : ∀ e ∈ es, enEnt w e e.cs := fun e he => by
  obtain ⟨i, hi⟩ := List.mem_iff_getElem?.1 he
  obtain ⟨A, c, b, o, _, _, _, _, _, hx⟩ := h
  obtain ⟨cs, hen, _, _⟩ := hx i e hi
  obtain rfl := hen.same
  exact hen
theorem entsOf_one {w : World} {v : Value} {es : List Ent} (h : EsAt w v es) : ∀ u ∈ entsOf es, u.oneCell' = true := fun u hu => by
  unfold entsOf at hu
  obtain ⟨cs, hcs, hu⟩ := List.mem_flatten.1 hu
  obtain ⟨e, he, rfl⟩ := List.mem_map.1 hcs
  exact (h.ents e he).one u hu
theorem es_news {w : World} {es : List Ent} {ad : Addr} {b o : Nat} (hA : 0 < es.length → some ad = some (⟨b, o, none⟩ : Addr)) (hx : ∀ (i : Nat) x, es[i]? = some x → ∃ cs, enEnt w x cs ∧ cs.length = 102 ∧ w.rangeAt b (o + i * 102) cs) :
    ∀ j u, (entsOf es)[j]? = some u → w.cell? (ad.add j) = some u := fun j u hu => by
  have hall : ∀ cs ∈ es.map (·.cs), cs.length = 102 := fun cs hcs => by
    obtain ⟨e, he, rfl⟩ := List.mem_map.1 hcs
    obtain ⟨i, hi⟩ := List.mem_iff_getElem?.1 he
    obtain ⟨cs, hen, _, _⟩ := hx i e hi
    exact hen.len
  unfold entsOf at hu
  rw [flat_chunk (by omega) hall] at hu
  obtain ⟨cs, ht, hv⟩ := Option.bind_eq_some_iff.1 hu
  rw [List.getElem?_map] at ht
  obtain ⟨e, he, rfl⟩ := Option.map_eq_some_iff.1 ht
  have h1 := hA (by have := (List.getElem?_eq_some_iff.1 he).1; omega)
  injection h1 with h1
  subst h1
  obtain ⟨cs, hen, _, hr⟩ := hx _ _ he
  obtain rfl := hen.same
  have h2 := hr _ _ hv
  have e : o + j / 102 * 102 + j % 102 = o + j := by omega
  rw [e] at h2
  by_cases h0 : j = 0
  · subst h0
    simpa [Addr.add] using h2
  · simpa [Addr.add, h0] using h2

/-- append onto a row of the call's own. -/
theorem run_append_op {P : Program} {o : Oper} {a : Act} (w : World) {s x : Operand} {t : TypeId} (ho : o.op = .call { callee := .builtin .append, args := #[s, x], argTypes := #[t, t] })
    (base : Nat) (e : TypeId) (i : TypeInfo) (z : Value) (size bytes : Nat) (ht : P.underlying t = some (.slice e)) (hi : P.info? e = some i) (hz : i.zero = some z) (hsize : i.size = size) (hby : i.bytes = bytes) (hzs : z.cells.size = size) (hsz : 0 < size)
    (v : Value) (n : Nat) (xs : List Value) (hs : a.eval s = v) (hown : w.ownsRow base e size v n xs) (ad : Addr) (m c : Nat) (news : List Value) (hx : a.eval x = .slice (some ad) m c) (hl : news.length = m * size) (hnews : ∀ j u, news[j]? = some u → w.cell? (ad.add j) = some u) (h1 : ∀ u ∈ news, u.oneCell' = true)
    (h63 : n + m ≤ maxLen) (hbytes : (n + m) * bytes ≤ 140737488355328) (hbase : base ≤ w.heap.size) :
    ∃ v' w', (execOp a.eval o).run P w = .ok (.value v') w' ∧ w'.ownsRow base e size v' (n + m) (xs ++ news) ∧ w.grownBy w' v.ownBlock ∧ (v'.ownBlock = v.ownBlock ∨ v'.ownBlock = some w.heap.size) := by
  obtain ⟨v', w', hr, h2, h3, h4, h5⟩ := run_append_own_at (P := P) w base t o.type e i z size bytes ht hi hz hsize hby hzs hsz v n xs hown ad m c news hl hnews h1 h63 hbytes hbase
  refine ⟨v', w', ?_, h2, h3, h5⟩
  unfold execOp
  simp only [ho, resolve, invoke, builtin, Sem.run_bind, Sem.run_pure, Result.andThen_ok, List.map_toArray, List.map_cons, List.map_nil, hs, hx, hr]
theorem run_append_es {o : Oper} {a : Act} (w : World) {s x : Operand} (ho : o.op = .call { callee := .builtin .append, args := #[s, x], argTypes := #[28, 28] })
    (base : Nat) (v : Value) (n : Nat) (xs : List Value) (hs : a.eval s = v) (hown : w.ownsRow base 51 102 v n xs) (vx : Value) (hx : a.eval x = vx) (es : List Ent) (hE : EsAt w vx es) (hn : n + es.length ≤ 1000000) (hbase : base ≤ w.heap.size) :
    ∃ v' w', (execOp a.eval o).run Try.prog w = .ok (.value v') w' ∧ w'.ownsRow base 51 102 v' (n + es.length) (xs ++ entsOf es) ∧ w.grownBy w' v.ownBlock ∧ (v'.ownBlock = v.ownBlock ∨ v'.ownBlock = some w.heap.size) := by
  have hlen := entsOf_len fun e he => (hE.ents e he).len
  have hone := entsOf_one hE
  obtain ⟨im, zi, hi1, hi2, hi3, hi4, hi5⟩ := info_entry
  obtain ⟨A, c, b, o', rfl, hlc, hcm, hnil, hA, hxx⟩ := hE
  cases A with
  | none =>
    obtain rfl := hnil rfl
    have h0 : es.length = 0 := by omega
    have hr := run_append_owned_none (P := Try.prog) (w := w) base 28 o.type 51 im 102 Try.underlying28 hi1 v n xs hown
    have he : entsOf es = [] := List.eq_nil_of_length_eq_zero (by rw [hlen, h0])
    rw [h0] at hx
    refine ⟨v, w, ?_, by rw [h0, he, List.append_nil]; exact hown, ⟨rfl, rfl, rfl, Nat.le_refl _, fun _ _ _ => rfl⟩, .inl rfl⟩
    unfold execOp
    simp only [ho, resolve, invoke, builtin, Sem.run_bind, Sem.run_pure, Result.andThen_ok, List.map_toArray, List.map_cons, List.map_nil, hs, hx, hr]
  | some ad =>
    exact run_append_op w ho base 51 im zi 102 176 Try.underlying28 hi1 hi2 hi4 hi5 hi3 (by omega) v n xs hs hown ad es.length c (entsOf es) hx hlen (es_news hA hxx) hone (by simp only [maxLen]; omega) (by omega) hbase
theorem run_append_one {o : Oper} {a : Act} (w : World) {s x : Operand} (ho : o.op = .call { callee := .builtin .append, args := #[s, x], argTypes := #[28, 28] })
    (base : Nat) (v : Value) (n : Nat) (xs : List Value) (hs : a.eval s = v) (hown : w.ownsRow base 51 102 v n xs) (b : Nat) (hx : a.eval x = .slice (some ⟨b, 0, none⟩) 1 1) (X : Ent) (hX : enEnt w X X.cs) (hB : Box w b X.cs 51) (hn : n ≤ 1000000) (hbase : base ≤ w.heap.size) :
    ∃ v' w', (execOp a.eval o).run Try.prog w = .ok (.value v') w' ∧ w'.ownsRow base 51 102 v' (n + 1) (xs ++ X.cs) ∧ w.grownBy w' v.ownBlock ∧ (v'.ownBlock = v.ownBlock ∨ v'.ownBlock = some w.heap.size) := by
  obtain ⟨im, zi, hi1, hi2, hi3, hi4, hi5⟩ := info_entry
  exact run_append_op w ho base 51 im zi 102 176 Try.underlying28 hi1 hi2 hi4 hi5 hi3 (by omega) v n xs hs hown ⟨b, 0, none⟩ 1 1 X.cs hx (by rw [hX.len]) hB.news hX.one (by simp only [maxLen]; omega) (by omega) hbase
theorem run_slice_one_op {P : Program} {o : Oper} {a : Act} {t e : TypeId} {x : Operand} {cs : List Value} (w : World) (ho : o.op = .buildSlice t 1 #[(0, x)]) (hx : a.eval x = .agg cs.toArray) (ht : P.underlying t = some (.slice e)) (z : Value) (hz : ∀ w, (zeroValue e).run P w = .ok z w) (n : Nat) (hn : ∀ w, (sizeOf e).run P w = .ok n w) (hzn : z.cells.size = n)
    (h0 : 0 < n) (hbig : n ≤ 16777216) (hl : cs.length = n) : (execOp a.eval o).run P w = .ok (.value (.slice (some ⟨w.heap.size, 0, none⟩) 1 1)) (w.alloc (.cells cs.toArray e)) := by
  unfold execOp
  simp only [ho, List.map_toArray, List.map_cons, List.map_nil, hx]
  rw [Sem.run_bind, run_buildSlice_one t e ht z hz n hn hzn h0 hbig cs hl]
  rfl
theorem run_slice_nil_op {P : Program} {o : Oper} {a : Act} {t e : TypeId} (w : World) (ho : o.op = .buildSlice t 0 #[]) (ht : P.underlying t = some (.slice e)) (z : Value) (hz : ∀ w, (zeroValue e).run P w = .ok z w) (n : Nat) (hn : ∀ w, (sizeOf e).run P w = .ok n w)
    (h0 : 0 < n) (hbig : n ≤ 16777216) : (execOp a.eval o).run P w = .ok (.value (.slice (some ⟨w.heap.size, 0, none⟩) 0 0)) (w.alloc (.cells #[] e)) := by
  unfold execOp
  simp only [ho, List.map_toArray, List.map_nil]
  unfold Instr.buildSlice
  rw [Sem.run_bind, Sem.run_bind, run_underlying ht]
  simp only [Result.andThen_ok]
  rw [Sem.run_bind, hn]
  simp only [Result.andThen_ok]
  rw [if_neg (by omega), if_pos (by omega)]
  rw [Sem.run_bind, Sem.run_pure]
  simp only [Result.andThen_ok, Nat.zero_mul]
  have e0 : ((Array.range 0).map (fun i => (#[] : Array Value)[i % (#[] : Array Value).size]!)) = #[] := by simp
  simp only [e0, Instr.fill]
  simp only [Result.andThen_ok, newRow, Sem.run_bind, newObj, Sem.run, Sem.run_pure]
  rfl

section
variable {P : Program} {ops : Array Oper} {Q : Exit → Act → World → Prop} {md : Region.Mode} {S : World → Prop} {fuel : Nat} {listed : Array Bool} {a : Act} {w : World}
theorem hw_store_one (i : Nat) (o : Oper) (hd : o.dst = none) (hr : Region.ready md ops listed = [i]) (hi : ops[i]? = some o) (hg : o.guard = none) (ty : TypeId) (x y : Operand) (ho : o.op = .store ty x y) (b f : Nat) (v : Value) (hx : a.eval x = .pointer (some ⟨b, f, none⟩)) (hy : a.eval y = v)
    (cs : List Value) (t : TypeId) (hB : Box w b cs t) (hfit : f < cs.length) (hc : v.cells = #[v]) (hs : (P.info? ty).map (·.size) = some 1) (h1 : v.oneCell' = true)
    (h : ∀ W, Box W b (laid cs f [v]) t → Only b w W → S W ∧ wpAnyH P md ops Q S fuel (listed.setIfInBounds i true) a W) : wpAnyH P md ops Q S (fuel + 1) listed a w :=
  hw_only i o hr hi hg fun K' hK' => by
    obtain ⟨g1, g2⟩ := h _ (hB.setCells [v] f w cs (by show f + 1 ≤ _; omega)) (only_setCells b [v] f w)
    have h2 := hK' _ _ g1 g2
    have hth := hB.there f 1 (by omega)
    have hrun : (storeVar ty ⟨b, f, none⟩ v).run P w = .ok () (w.setCells b f [v]) := by
      have := run_storeCells_cells (P := P) b f [v] 0 w (fun j hj => by simpa using (hth j (by simpa using hj)).1) (fun j hj => by simpa using (hth j (by simpa using hj)).2) (fun u hu => by simp at hu; subst hu; exact h1)
      cases hq : P.info? ty with
      | none => simp [hq] at hs
      | some i =>
        have hs' : i.size = 1 := by simpa [hq] using hs
        simp only [Nat.add_zero] at this
        simp [storeVar, sizeOf, typeInfo, hq, hc, hs', this]
    unfold Oper.wp execOp
    simp only [ho, hx, hy, Instr.storeAt, Instr.sureAddr, Sem.run_bind, Sem.run_pure, Result.andThen_ok, hrun]
    have e : a.put o.dst undef = a := by rw [hd]; rfl
    show K' (a.put o.dst undef) _
    rw [e]
    exact h2
end

/-- The state with one entry more, as it lies behind region 25. -/
def staMore (S : Sta) (X : Ent) (v : Value) : Sta := ⟨S.cs.set 44 v, S.es ++ [X], S.fees, S.forf⟩
theorem staMore_cell (S : Sta) (X : Ent) (v : Value) (h : S.cs.length = 182) : (staMore S X v).cs[44]? = some v := by
  show (S.cs.set 44 v)[44]? = _
  rw [List.getElem?_set_self (by omega)]
theorem en_staMore {w : World} {S : Sta} {X : Ent} {A : Option Addr} {n c : Nat} (h : enSta w S) (hE : EsAt w (.slice A n c) (S.es ++ [X])) : enSta w (staMore S X (.slice A n c)) := by
  refine ⟨by show (S.cs.set 44 _).length = _; rw [List.length_set, h.len], ⟨_, staMore_cell S X _ h.len, hE⟩, ⟨?_, h.fees.2⟩, ⟨?_, h.forf.2⟩, fun v hv => ?_⟩
  · show (S.cs.set 44 _)[177]? = _
    rw [List.getElem?_set_ne (by omega)]
    exact h.fees.1
  · show (S.cs.set 44 _)[178]? = _
    rw [List.getElem?_set_ne (by omega)]
    exact h.forf.1
  · rcases List.mem_or_eq_of_mem_set hv with hv | rfl
    · exact h.one v hv
    · rfl
def R25 (S : Sta) (X : Ent) (wq : World) (wx : World) : Prop := ∃ A c, Box wx wq.heap.size (staMore S X (.slice A (S.es ++ [X]).length c)).cs 36 ∧ EsAt wx (.slice A (S.es ++ [X]).length c) (S.es ++ [X]) ∧ Below wq.heap.size wq wx
theorem es_form {w : World} {base : Nat} {v : Value} {es : List Ent} {X : Ent} {xs : List Value} (h : w.ownsRow base 51 102 v (es.length + 1) xs) : ∃ A c, v = .slice A (es ++ [X]).length c := by
  obtain ⟨A, c, e, _⟩ := own_form h
  exact ⟨A, c, by rw [e, List.length_append]; rfl⟩
theorem es_at {w : World} {base n : Nat} {v : Value} {es : List Ent} {X : Ent} (h : w.ownsRow base 51 102 v n (entsOf es ++ X.cs)) (hes : ∀ e ∈ es, enEnt w e e.cs) (hX : enEnt w X X.cs) : EsAt w v (es ++ [X]) := by
  have hl := h.1
  rw [List.length_append, entsOf_len fun e he => (hes e he).len, hX.len] at hl
  have hn : n = (es ++ [X]).length := by
    rw [List.length_append]
    simp
    omega
  subst hn
  have h' : w.ownsRow base 51 102 v (es ++ [X]).length (entsOf (es ++ [X])) := by
    rw [entsOf_more]
    exact h
  refine EsAt.own h' fun x hx => ?_
  rcases List.mem_append.1 hx with hx | hx
  · exact hes x hx
  · simp at hx; subst hx; exact hX
theorem filter_other (es : List Ent) (X : Ent) {a : List Value} (h : X.ad ≠ a) : (es ++ [X]).filter (ofAddr a) = es.filter (ofAddr a) := by
  rw [List.filter_append]
  have : [X].filter (ofAddr a) = [] := by
    rw [List.filter_cons_of_neg (fun hh => h ((ofAddr_iff a X).1 hh))]
    rfl
  rw [this, List.append_nil]
/-- What a balance has left. -/
def RB (S : Sta) (a : List Value) (w : World) (v v' : Value) (wx : World) : Prop := ∃ p A c R, v = .pointer (some ⟨p, 0, none⟩) ∧ Box wx p (encW (csum (vals (S.es.filter (ofAddr a))))) 57 ∧ v' = .slice A R.length c ∧ TsAt wx (.slice A R.length c) R ∧ Told (vsum (vals (S.es.filter (ofAddr a)))) R ∧ Below w.heap.size w wx
def BalRow (S : Sta) (a : List Value) (w : World) (v : Value) (w' : World) : Prop := ∃ A c R, v = .tuple #[.agg (encW (csum (vals (S.es.filter (ofAddr a))))).toArray, .slice A R.length c] ∧ w'.ownsRow w.heap.size 88 35 (.slice A R.length c) R.length (R.flatMap encT) ∧ Below w.heap.size w w' ∧ Told (vsum (vals (S.es.filter (ofAddr a)))) R
theorem balance_to (S : Sta) (ad : List Value) (w : World) (h : enSta w S) (hf : Fine Try.prog 40 ad) (hlen : S.es.length ≤ 1000000) (hvl : vlen (vals S.es) ≤ 1000000) :
    Calls Try.prog 9 #[.agg S.cs.toArray, .agg ad.toArray] w fun e w' => ∃ v, e = .returned v ∧ BalRow S ad w v w' :=
  (balance_at S ad w h hf hlen hvl).mono fun e w' ⟨sl, R, h1, h2, h3, h4⟩ => by
    obtain ⟨A, c, rfl, _⟩ := own_form h2
    exact ⟨_, h1, A, c, R, rfl, h2, h3, h4⟩
theorem run_move_op {P : Program} {o : Oper} {a : Act} {x : Operand} {v : Value} (w : World) (ho : o.op = .move x) (hx : a.eval x = v) : (execOp a.eval o).run P w = .ok (.value v) w := by
  unfold execOp
  rw [ho, ← hx]
  rfl
theorem run_assign_op {P : Program} {o : Oper} {a : Act} {x : Operand} {v : Value} (w : World) (ho : o.op = .assign x) (hx : a.eval x = v) : (execOp a.eval o).run P w = .ok (.value v) w := by
  unfold execOp
  rw [ho, ← hx]
  rfl
theorem run_pick_op {P : Program} {o : Oper} {a : Act} {c x y : Operand} {b : Bool} {v : Value} (w : World) (ho : o.op = .pick c x y) (hc : a.eval c = .bool b) (hv : (if b then a.eval x else a.eval y) = v) : (execOp a.eval o).run P w = .ok (.value v) w := by
  unfold execOp
  simp only [ho, hc, ← hv]
  cases b <;> rfl
theorem qk_run {P : Program} {C : World → Prop} {a : Act} {o : Oper} {ys : _} {R K : Act → Prop} (v : Value) (hw : Region.wanted o ys = true) (hrun : ∀ W, C W → (execOp a.eval o).run P W = .ok (.value v) W) (hK : ∀ a, R a → K a) (h : R (a.put o.dst v)) :
    if Region.wanted o ys then o.quiet P a C K else K (a.put o.dst undef) := by
  rw [if_pos hw]
  exact ⟨v, fun W hW => by unfold Oper.quietAt; rw [hrun W hW]; exact ⟨rfl, rfl⟩, hK _ h⟩
theorem qk_off {P : Program} {C : World → Prop} {a : Act} {o : Oper} {ys : _} {R K : Act → Prop} (hw : Region.wanted o ys = false) (hK : ∀ a, R a → K a) (h : R (a.put o.dst undef)) :
    if Region.wanted o ys then o.quiet P a C K else K (a.put o.dst undef) := by
  rw [if_neg (by rw [hw]; simp)]
  exact hK _ h
theorem run_neq_is {P : Program} {o : Oper} {a : Act} {t t' : TypeId} {x y : Operand} {xs ys : List Value} (b c : Bool) (hc : same xs ys = c) (hb : (!c) = b) (w : World) (ho : o.op = .binOp .neq t x y t') (hx : a.eval x = .agg xs.toArray) (hy : a.eval y = .agg ys.toArray) (h : KT P t) (fx : Fine P t xs) (fy : Fine P t ys) :
    (execOp a.eval o).run P w = .ok (.value (.bool b)) w := by
  rw [run_neq_same w ho hx hy h fx fy, hc, hb]
def RL3 (seen : List (List Value)) (n : Nat) (wz : World) (i : Value) (wr : World) : Prop := ∃ k : Nat, k ≤ seen.length ∧ i = .int .i64 k ∧ Below n wz wr
theorem vs_one {w : World} {b : Nat} {X : Ent} {t : TypeId} (hB : Box w b (vc X) t) (h : enVal w X.val (vc X)) (hl : (vc X).length = 2) : VsAt w (.slice (some ⟨b, 0, none⟩) 1 1) [X.val] :=
  ⟨some ⟨b, 0, none⟩, 1, b, 0, rfl, by simp, by simp [maxLen], by simp, fun _ => rfl, fun i x hx => by
    have hi : i = 0 := by
      have := (List.getElem?_eq_some_iff.1 hx).1
      simp at this
      omega
    subst hi
    obtain rfl : X.val = x := by simpa using hx
    exact ⟨_, h, hl, hB.whole⟩⟩
theorem csum_one (v : Val) : csum [v] = v.coin := by simp [csum]
theorem vsum_one (v : Val) (k : Key) : vsum [v] k = asum v.al k := by simp [vsum]
theorem vals_more (es : List Ent) (X : Ent) : vals (es ++ [X]) = vals es ++ [X.val] := by simp [vals]
theorem csum_app (a b : List Val) : csum (a ++ b) = csum a + csum b := by simp [csum]
theorem vsum_app (a b : List Val) (k : Key) : vsum (a ++ b) k = vsum a k + vsum b k := by simp [vsum]
theorem vlen_app (a b : List Val) : vlen (a ++ b) = vlen a + vlen b := by simp [vlen]
theorem coins_more (S : Sta) (X : Ent) (v : Value) : csum (vals (staMore S X v).es) + (staMore S X v).fees + (staMore S X v).forf = (csum (vals S.es) + S.fees + S.forf) + csum [X.val] := by
  show csum (vals (S.es ++ [X])) + S.fees + S.forf = _
  rw [vals_more, csum_app]
  omega
theorem names_more {S : Sta} {X : Ent} {v : Value} {Z RX : List Tot} (hZ : Told (vsum (vals S.es)) Z) (hX : Told (vsum [X.val]) RX) (k : Key) : encW (vsum (vals (staMore S X v).es) k) = encW (tsum [Z, RX].flatten k) := by
  show encW (vsum (vals (S.es ++ [X])) k) = _
  rw [vals_more, vsum_app, show [Z, RX].flatten = Z ++ RX by simp, tsum_append]
  exact (encW_add (told_sum hZ k) (told_sum hX k)).symm
theorem sums_to (vs : List Val) (v : Value) (w : World) (h : VsAt w v vs) (hlen : vlen vs ≤ 1000000) :
    Calls Try.prog 14 #[v] w fun e w' => ∃ A c R, e = .returned (.tuple #[.agg (encW (csum vs)).toArray, .slice A R.length c]) ∧ TsAt w' (.slice A R.length c) R ∧ Below w.heap.size w w' ∧ Told (vsum vs) R :=
  (sums_any vs v w h (by omega)).mono fun e w' ⟨sl, R, h1, h2, h3, h4⟩ => by
    obtain ⟨A, c, rfl, _⟩ := own_form h2
    exact ⟨A, c, R, h1, TsAt.own h2, h3, h4⟩
section
variable {P : Program} {ops : Array Oper} {Q : Exit → Act → World → Prop} {md : Region.Mode} {S : World → Prop} {fuel : Nat} {listed : Array Bool} {a : Act} {w : World}
theorem hg_value1 (i : Nat) (d : Option Tmp) (o : Oper) (hd : o.dst = d) (hr : Region.ready md ops listed = [i]) (hi : ops[i]? = some o) (hw : Region.wanted o (yielded ops a.tmps) = true) (v : Value) (w1 : World) (hrun : (execOp a.eval o).run P w = .ok (.value v) w1)
    (h : S w1 ∧ wpAnyH P md ops Q S fuel (listed.setIfInBounds i true) (a.put d v) w1) : wpAnyH P md ops Q S (fuel + 1) listed a w :=
  hg_value i d o hd hr hi hw v w1 hrun h.1 h.2
theorem hg_ex {R : Value → World → Prop} (i : Nat) (d : Option Tmp) (o : Oper) (hd : o.dst = d) (hr : Region.ready md ops listed = [i]) (hi : ops[i]? = some o) (hw : Region.wanted o (yielded ops a.tmps) = true) (hex : ∃ v w1, (execOp a.eval o).run P w = .ok (.value v) w1 ∧ R v w1)
    (h : ∀ v w1, R v w1 → S w1 ∧ wpAnyH P md ops Q S fuel (listed.setIfInBounds i true) (a.put d v) w1) : wpAnyH P md ops Q S (fuel + 1) listed a w := by
  obtain ⟨v, w1, hrun, hR⟩ := hex
  exact hg_value i d o hd hr hi hw v w1 hrun (h v w1 hR).1 (h v w1 hR).2
theorem hg_ex_value {R : Value → World → Prop} (i j : Nat) (di dj : Option Tmp) (oi oj : Oper) (hdi : oi.dst = di) (hdj : oj.dst = dj) (hr : Region.ready md ops listed = [i, j]) (hi : ops[i]? = some oi) (hj : ops[j]? = some oj) (hgi : Region.wanted oi (yielded ops a.tmps) = true) (hgj : Region.wanted oj (yielded ops a.tmps) = true)
    (hex : ∃ v w1, (execOp a.eval oi).run P w = .ok (.value v) w1 ∧ R v w1) (v : Value) (w2 : World) (hrunj : (execOp a.eval oj).run P w = .ok (.value v) w2)
    (h1 : ∀ v w1, R v w1 → S w1 ∧ wpAnyH P md ops Q S fuel (listed.setIfInBounds i true) (a.put di v) w1)
    (h2 : S w2 ∧ wpAnyH P md ops Q S fuel (listed.setIfInBounds j true) (a.put dj v) w2) : wpAnyH P md ops Q S (fuel + 1) listed a w := by
  obtain ⟨u, w1, hrun, hR⟩ := hex
  exact hg_value_value i j di dj oi oj hdi hdj hr hi hj hgi hgj u w1 hrun v w2 hrunj (h1 u w1 hR) h2
end
end Go.Proofs.Ytjmkkndglmapaaa
