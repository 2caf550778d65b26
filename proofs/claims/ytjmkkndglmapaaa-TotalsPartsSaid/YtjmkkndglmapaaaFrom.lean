/- From what is read to what lies: a state, an entry. No condition. -/
import Derived.Test.YtjmkkndglmapaaaFits
import Derived.Test.YtjmkkndglmapaaaGreat0
set_option linter.unusedSimpArgs false
set_option linter.unusedVariables false
namespace Go.Proofs.Ytjmkkndglmapaaa
open Go.RowKit

section
variable {H : Type} {enc : TypeId × Value → H} {P : Program}
/-- A type whose cells are one-cell values, all of them fields' or elements'. -/
def onesT (P : Program) : Nat → TypeId → Bool
  | 0, _ => false
  | m + 1, t => match P.underlying t with
    | some .bool => true
    | some (.int _) => true
    | some .string => true
    | some (.struct fs) => (fs.toList.all fun f => onesT P m f.type) && (List.range (P.cellsOf t)).all fun i => fs.toList.any fun f => decide (f.offset ≤ i) && decide (i < f.offset + P.cellsOf f.type)
    | some (.array n e) => onesT P m e && decide (0 < P.cellsOf e) && decide (P.cellsOf t = n * P.cellsOf e)
    | some (.slice e) => true
    | _ => false
theorem mem_piece {cs : List Value} {v : Value} {i o n : Nat} (h : cs[i]? = some v) (h1 : o ≤ i) (h2 : i < o + n) : v ∈ (cs.drop o).take n := by
  refine List.mem_of_getElem? (i := i - o) ?_
  rw [List.getElem?_take, if_pos (by omega), List.getElem?_drop, show o + (i - o) = i by omega]
  exact h
theorem ones_trod {w : World} {base : Nat} {sp : Nat → Bool} {held : Bool} : ∀ (m : Nat) (t : TypeId), onesT P m t = true → ∀ (fuel : Nat) (cs : List Value) (x : DataW H × List MemPlace),
    DataW.trod enc P w base sp held fuel t cs = some x → ∀ v ∈ cs, v.oneCell' = true := by
  intro m
  induction m with
  | zero => intro t hp; simp [onesT] at hp
  | succ m ih =>
    intro t hp fuel cs x h v hv
    unfold onesT at hp
    split at hp
    · rename_i hu
      obtain ⟨b, rfl, rfl⟩ := DataW.trod_bool hu h
      rw [List.mem_singleton.1 hv]; rfl
    · rename_i q hu
      obtain ⟨n, rfl, rfl, hw⟩ := DataW.trod_int hu h
      rw [List.mem_singleton.1 hv]; rfl
    · rename_i hu
      obtain ⟨s, rfl, rfl, _⟩ := DataW.trod_string hu h
      rw [List.mem_singleton.1 hv]; rfl
    · rename_i fs hu
      rw [Bool.and_eq_true] at hp
      obtain ⟨xs, n, rfl, rfl, hc, hl, hf⟩ := DataW.trod_struct hu h
      obtain ⟨i, hi⟩ := List.mem_iff_getElem?.1 hv
      have hlt : i < P.cellsOf t := by rw [← hc]; exact (List.getElem?_eq_some_iff.1 hi).1
      have ha := List.all_eq_true.1 hp.2 i (List.mem_range.2 hlt)
      obtain ⟨f, hfm, hfo⟩ := List.any_eq_true.1 ha
      rw [Bool.and_eq_true, decide_eq_true_eq, decide_eq_true_eq] at hfo
      obtain ⟨j, hj⟩ := List.mem_iff_getElem?.1 hfm
      have hj' : fs[j]? = some f := by simpa using hj
      have hjl : j < xs.length := by rw [hl]; exact (Array.getElem?_eq_some_iff.1 hj').1
      have h1 := hf j f hj'
      rw [List.getElem?_eq_getElem hjl] at h1
      exact ih f.type (List.all_eq_true.1 hp.1 f hfm) _ _ _ h1 v (mem_piece hi hfo.1 hfo.2)
    · rename_i k e hu
      rw [Bool.and_eq_true, Bool.and_eq_true, decide_eq_true_eq, decide_eq_true_eq] at hp
      obtain ⟨xs, n, rfl, rfl, hc, hl, hf⟩ := DataW.trod_array hu h
      obtain ⟨i, hi⟩ := List.mem_iff_getElem?.1 hv
      have hlt : i < k * P.cellsOf e := by rw [← hp.2, ← hc]; exact (List.getElem?_eq_some_iff.1 hi).1
      have hq : i / P.cellsOf e < k := Nat.div_lt_of_lt_mul (by rw [Nat.mul_comm]; exact hlt)
      have h1 := hf _ hq
      rw [List.getElem?_eq_getElem (by omega)] at h1
      have h2 := Nat.div_add_mod i (P.cellsOf e)
      have h3 := Nat.mod_lt i hp.1.2
      rw [Nat.mul_comm] at h2
      exact ih e hp.1.1 _ _ _ h1 v (mem_piece hi (by omega) (by omega))
    · rename_i e hu
      rcases DataW.trod_slice hu h with ⟨rfl, _⟩ | ⟨a, len, cap, elems, rest, n, rfl, rfl, _⟩
      · rw [List.mem_singleton.1 hv]; rfl
      · rw [List.mem_singleton.1 hv]; rfl
    · cases hp
theorem Rd.ones {w : World} {t : TypeId} {cs : List Value} {d : DataW H} (m : Nat) (ht : onesT P m t = true) (h : Rd enc P w t cs d) : ∀ v ∈ cs, v.oneCell' = true := by
  obtain ⟨s, f, p, h0⟩ := h.now
  exact ones_trod m t ht _ _ _ h0
theorem exists_list {α : Type} {n : Nat} {R : Nat → α → Prop} (h : ∀ i, i < n → ∃ x, R i x) : ∃ l : List α, l.length = n ∧ ∀ (i : Nat) x, l[i]? = some x → R i x := by
  induction n with
  | zero => exact ⟨[], rfl, by simp⟩
  | succ n ih =>
    obtain ⟨l, hl, hx⟩ := ih fun i hi => h i (by omega)
    obtain ⟨x, hR⟩ := h n (by omega)
    refine ⟨l ++ [x], by simp [hl], fun i y hy => ?_⟩
    by_cases hi : i < n
    · rw [List.getElem?_append_left (by omega)] at hy
      exact hx i y hy
    · have : i = n := by
        have := (List.getElem?_eq_some_iff.1 hy).1
        simp at this
        omega
      subst this
      rw [List.getElem?_append_right (by omega)] at hy
      simp [hl] at hy
      subst hy
      exact hR
/-- An array of bytes. -/
theorem Rd.bytes {w : World} {t e : TypeId} {n : Nat} {cs : List Value} {d : DataW H} (ht : P.underlying t = some (.array n e)) (he : P.underlying e = some (.int .u8)) (hc : P.cellsOf e = 1) (ht' : P.cellsOf t = n) (h : Rd enc P w t cs d) : ∃ l : List UInt8, cs = encB l ∧ l.length = n := by
  obtain ⟨s, f, p, h0⟩ := h.now
  obtain ⟨xs, m, rfl, _, hl, hn, hx⟩ := DataW.trod_array ht h0
  obtain ⟨l, hll, hle⟩ := exists_list (n := n) (R := fun i (c : UInt8) => cs[i]? = some (.int .u8 c.toNat)) fun i hi => by
    have h1 := hx i hi
    rw [List.getElem?_eq_getElem (by omega), hc, Nat.mul_one] at h1
    obtain ⟨z, hz, _, hw⟩ := DataW.trod_int he h1
    have hz1 := at_of_take1 hz
    simp only [Lit.wf, IntKind.min, IntKind.max, IntKind.signed, IntKind.bits] at hw
    simp at hw
    refine ⟨UInt8.ofNat z.toNat, ?_⟩
    rw [hz1]
    congr 2
    simp only [UInt8.toNat_ofNat']
    omega
  refine ⟨l, ?_, hll⟩
  apply List.ext_getElem?
  intro i
  by_cases hi : i < n
  · have h1 := hle i l[i] (List.getElem?_eq_getElem (by omega))
    rw [h1]
    unfold encB
    rw [List.getElem?_map, List.getElem?_eq_getElem (by omega)]
    rfl
  · rw [List.getElem?_eq_none (by omega), List.getElem?_eq_none (by rw [encB_len]; omega)]
end

section
variable {H : Type} {enc : TypeId × Value → H}
theorem ones_state : onesT Try.prog 30 36 = true := by kernel_rfl
theorem ones_entry : onesT Try.prog 30 51 = true := by kernel_rfl
theorem rd_hash {w : World} {cs : List Value} {d : DataW H} (h : Rd enc Try.prog w 27 cs d) : ∃ l : List UInt8, cs = encB l ∧ l.length = 32 :=
  h.bytes Try.underlying27 Try.underlying5 (by kernel_rfl) sz_api_Hash
theorem rd_i64 {w : World} {cs : List Value} {d : DataW H} (h : Rd enc Try.prog w 2 cs d) : ∃ n, cs = [.int .i64 n] ∧ i64 n := by
  obtain ⟨n, h1, _, h3⟩ := h.int Try.underlying2
  refine ⟨n, h1, ?_⟩
  simp only [Lit.wf, IntKind.min, IntKind.max, IntKind.signed, IntKind.bits] at h3
  simp at h3
  unfold i64
  omega
/-- A row of things, read. -/
theorem rd_row {α : Type} {w : World} {t e : TypeId} {size : Nat} {en : World → α → List Value → Prop} {Q : DataW H → α → Prop} (ht : Try.prog.underlying t = some (.slice e)) (hs : Try.prog.cellsOf e = size) (h0 : 0 < size)
    (hx : ∀ cs d, Rd enc Try.prog w e cs d → ∃ x, en w x cs ∧ Q d x) {v : Value} {d : DataW H} (h : Rd enc Try.prog w t [v] d) :
    ∃ l : List α, SlAt w size en v l ∧ l.length = (els d).length ∧ ∀ (i : Nat) x, l[i]? = some x → Q ((els d).getD i .nil) x := by
  rcases h.slice ht (by rw [hs]; exact h0) with ⟨hv, rfl⟩ | ⟨a, len, cap, es, sp, hv, rfl, hl, hlc, hcm, hel⟩
  · simp only [List.cons.injEq, and_true] at hv
    subst hv
    exact ⟨[], ⟨none, 0, 0, 0, rfl, by simp, by simp, by simp, by simp, by simp⟩, rfl, by simp⟩
  · simp only [List.cons.injEq, and_true] at hv
    subst hv
    rw [hs] at hel
    obtain ⟨l, hll, hlx⟩ := exists_list (n := len) (R := fun i x => ∃ cs, en w x cs ∧ cs.length = size ∧ w.rangeAt a.block (a.off + i * size) cs ∧ Q (es.getD i .nil) x) fun i hi => by
      obtain ⟨_, c, hc, hr, hrd⟩ := hel i hi
      obtain ⟨x, hx1, hx2⟩ := hx c _ hrd
      exact ⟨x, c, hx1, hc, hr, hx2⟩
    refine ⟨l, ⟨some a, cap, a.block, a.off, by rw [hll], by omega, hcm, by simp, fun hp => ?_, fun i x hi => ?_⟩, by show l.length = es.length; rw [hll, hl], fun i x hi => ?_⟩
    · have := (hel 0 (by omega)).1
      cases a
      simp_all
    · obtain ⟨cs, h1, h2, h3, _⟩ := hlx i x hi
      exact ⟨cs, h1, h2, h3⟩
    · obtain ⟨cs, _, _, _, h4⟩ := hlx i x hi
      exact h4
theorem rd_asset {w : World} {cs : List Value} {d : DataW H} (h : Rd enc Try.prog w 97 cs d) : ∃ x : Key × Int, enAsset w x cs ∧ True := by
  have hl := len_api_Asset h
  obtain ⟨p, hp, hpl⟩ := rd_hash (fl_api_Asset_0 h)
  obtain ⟨s, hs, _, hsz⟩ := (fl_api_Asset_1 h).str Try.underlying9
  obtain ⟨n, hn, hni⟩ := rd_i64 (fl_api_Asset_2 h)
  refine ⟨(⟨p, s⟩, n), ⟨?_, ⟨hpl, hsz⟩, hni⟩, trivial⟩
  unfold encA
  rw [List.drop_zero] at hp
  have e1 : cs = cs.take 32 ++ ((cs.drop 32).take 1 ++ (cs.drop 33).take 1) := by
    have h1 : (cs.drop 33).take 1 = cs.drop 33 := List.take_of_length_le (by rw [List.length_drop]; omega)
    have h2 : (cs.drop 32).take 1 ++ cs.drop 33 = cs.drop 32 := by
      have := List.take_append_drop 1 (cs.drop 32)
      rw [List.drop_drop] at this
      exact this
    rw [h1, h2, List.take_append_drop]
  rw [e1, hp, hs, hn]
  rfl
theorem rd_val {w : World} {cs : List Value} {d : DataW H} (h : Rd enc Try.prog w 43 cs d) : ∃ x : Val, enVal w x cs ∧ x.al.length = (els (fld 1 d)).length := by
  have hl := len_api_Value h
  obtain ⟨n, hn, hni⟩ := rd_i64 (fl_api_Value_0 h)
  obtain ⟨v, hv⟩ := (fl_api_Value_1 h).one Try.underlying41
  have h1 := fl_api_Value_1 h
  rw [hv] at h1
  obtain ⟨al, hal, hlen, _⟩ := rd_row (en := enAsset) (Q := fun _ _ => True) Try.underlying41 sz_api_Asset (by omega) (fun cs d => rd_asset) h1
  refine ⟨⟨n, al⟩, ⟨v, ?_, hni, hal⟩, hlen⟩
  rw [List.drop_zero] at hn
  have e1 : cs = cs.take 1 ++ (cs.drop 1).take 1 := by
    rw [List.take_of_length_le (l := cs.drop 1) (by rw [List.length_drop]; omega), List.take_append_drop]
  rw [e1, hn, hv]
  rfl
theorem rd_ent {w : World} {cs : List Value} {d : DataW H} (h : Rd enc Try.prog w 51 cs d) : ∃ e : Ent, (enEnt w e cs ∧ e.cs = cs) ∧ e.val.al.length = (els (fld 1 (fld 1 (fld 1 d)))).length := by
  have hl := len_api_Entry h
  have ho := fl_api_Entry_1 h
  have ha := fl_api_Output_0 ho
  obtain ⟨x, hx, hxl⟩ := rd_val (fl_api_Output_1 ho)
  refine ⟨⟨cs, (cs.drop 33).take 33, x⟩, ⟨⟨rfl, hl, rfl, ?_, ?_, h.ones 30 ones_entry⟩, rfl⟩, hxl⟩
  · have e : (((cs.drop 33).take 69).drop 33).take 2 = (cs.drop 66).take 2 := by
      rw [List.take_of_length_le (l := cs.drop 33) (by rw [List.length_drop]; omega), List.drop_drop]
    rw [e] at hx
    exact hx
  · have e : (((cs.drop 33).take 69).drop 0).take 33 = (cs.drop 33).take 33 := by
      rw [List.take_of_length_le (l := cs.drop 33) (by rw [List.length_drop]; omega), List.drop_zero]
    rw [e] at ha
    exact Fine.of_rd kt_addr (by rw [List.length_take, List.length_drop, hl]; kernel_rfl) ha
theorem rd_sta {w : World} {cs : List Value} {d : DataW H} (h : Rd enc Try.prog w 36 cs d) : ∃ S : Sta, enSta w S ∧ S.cs = cs ∧ S.es.length = (els (fld 2 d)).length ∧ ∀ (i : Nat) e, S.es[i]? = some e → e.val.al.length = (els (fld 1 (fld 1 (fld 1 ((els (fld 2 d)).getD i .nil))))).length := by
  have hl := len_api_State h
  obtain ⟨v, hv⟩ := (fl_api_State_2 h).one Try.underlying28
  have h2 := fl_api_State_2 h
  rw [hv] at h2
  obtain ⟨es, hes, hlen, hq⟩ := rd_row (en := enEnt) (Q := fun d (e : Ent) => e.val.al.length = (els (fld 1 (fld 1 (fld 1 d)))).length) Try.underlying28 sz_api_Entry (by omega) (fun cs d hr => by
    obtain ⟨e, h1, h2⟩ := rd_ent hr
    exact ⟨e, h1.1, h2⟩) h2
  obtain ⟨n7, hn7, hi7⟩ := rd_i64 (fl_api_State_7 h)
  obtain ⟨n8, hn8, hi8⟩ := rd_i64 (fl_api_State_8 h)
  exact ⟨⟨cs, es, n7, n8⟩, ⟨hl, ⟨v, at_of_take1 hv, hes⟩, ⟨at_of_take1 hn7, hi7⟩, ⟨at_of_take1 hn8, hi8⟩, h.ones 30 ones_state⟩, rfl, hlen, hq⟩

/-! Bounds. -/
theorem cnt_ge (most : Int) (g : DataW H → Int) : ∀ (l : List (DataW H)) (n0 : Int), (∀ i, i < l.length → 0 ≤ g (l.getD i .nil)) → n0 ≤ cnt most g n0 l := by
  intro l
  induction l with
  | nil => intro n0 _; exact Int.le_refl _
  | cons x l ih =>
    intro n0 hg
    have h0 := hg 0 (by simp)
    have h1 := ih (if n0 ≤ most then n0 + g x else n0) fun i hi => by
      have := hg (i + 1) (by simpa using hi)
      simpa using this
    show n0 ≤ cnt most g (if n0 ≤ most then n0 + g x else n0) l
    simp at h0
    split at h1 <;> rename_i hc
    · rw [if_pos hc]; omega
    · rw [if_neg hc]; omega
/-- Where all are counted, and each counts for at least one and f. -/
theorem cnt_all (most : Int) (g : DataW H → Int) (f : DataW H → Nat) : ∀ (l : List (DataW H)) (n0 : Int), 0 ≤ n0 → (∀ i, i < l.length → 0 ≤ g (l.getD i .nil)) → (∀ i, i < l.length → g (l.getD i .nil) ≤ most → 1 + (f (l.getD i .nil) : Int) ≤ g (l.getD i .nil)) → cnt most g n0 l ≤ most →
    n0 + (l.length : Int) + ((l.map f).sum : Nat) ≤ cnt most g n0 l := by
  intro l
  induction l with
  | nil => intro n0 _ _ _ h; simp [cnt]
  | cons x l ih =>
    intro n0 h00 hg hf h
    have h0 := hg 0 (by simp)
    have hf0 := hf 0 (by simp)
    simp at h0 hf0
    have hg' : ∀ i, i < l.length → 0 ≤ g (l.getD i .nil) := fun i hi => by
      have := hg (i + 1) (by simpa using hi)
      simpa using this
    have hf' : ∀ i, i < l.length → g (l.getD i .nil) ≤ most → 1 + (f (l.getD i .nil) : Int) ≤ g (l.getD i .nil) := fun i hi => by
      have := hf (i + 1) (by simpa using hi)
      simpa using this
    have hge := cnt_ge most g l (if n0 ≤ most then n0 + g x else n0) hg'
    have h1 : cnt most g (if n0 ≤ most then n0 + g x else n0) l ≤ most := h
    by_cases hc : n0 ≤ most
    · rw [if_pos hc] at h1 hge
      have h2 := ih (n0 + g x) (by omega) hg' hf' h1
      have h3 := hf0 (by omega)
      have h4 : cnt most g n0 (x :: l) = cnt most g (n0 + g x) l := by
        show cnt most g (if n0 ≤ most then n0 + g x else n0) l = _
        rw [if_pos hc]
      rw [h4]
      simp only [List.length_cons, List.map_cons, List.sum_cons]
      omega
    · rw [if_neg hc] at h1 hge
      omega
def nA (x : DataW H) : Nat := (els (fld 1 (fld 1 (fld 1 x)))).length
theorem assets_le {d : DataW H} (hf : fits d = true) (h : dAssetsOf 6000 d ≤ 6000) : ((els d).length : Int) ≤ dAssetsOf 6000 d := by
  have := cnt_all 6000 (eAssetsOf 6000) (fun _ => 0) (els d) 0 (by omega) (fun i hi => (beAssetsOf 6000 _ (by omega) (fits_el hf i)).1) (fun i hi _ => by
    unfold eAssetsOf
    have := Int.ediv_nonneg (a := (slen (fld 1 ((els d).getD i .nil)) : Int)) (b := 16) (by omega) (by omega)
    simp
    omega) h
  unfold dAssetsOf
  simp at this
  omega
theorem output_le {d : DataW H} (hf : fits d = true) (h : dOutputOf 6000 d ≤ 6000) : ((els (fld 1 (fld 1 d))).length : Int) ≤ dOutputOf 6000 d := by
  unfold dOutputOf sOutputOf dValueOf sValueOf at *
  have h1 := (bTermOf 6000 (fld 4 d) (by omega) (fits_fld hf 4)).1
  have h2 := assets_le (fits_fld (fits_fld hf 1) 1) (by omega)
  omega
theorem entries_le {d : DataW H} (hf : fits d = true) (h : dEntriesOf 6000 d ≤ 6000) : ((els d).length : Int) + (((els d).map nA).sum : Nat) ≤ 6000 := by
  have := cnt_all 6000 (eEntriesOf 6000) nA (els d) 0 (by omega) (fun i hi => (beEntriesOf 6000 _ (by omega) (fits_el hf i)).1) (fun i hi he => by
    have h1 := output_le (fits_fld (fits_el hf i) 1) (by unfold eEntriesOf at he; omega)
    unfold eEntriesOf nA at *
    omega) h
  unfold dEntriesOf at h
  omega
theorem state_le {d : DataW H} (hf : fits d = true) (h : dStateOf 6000 d ≤ 6000) : ((els (fld 2 d)).length : Int) + (((els (fld 2 d)).map nA).sum : Nat) ≤ 6000 := by
  have h0 : sStateOf 6000 d ≤ dStateOf 6000 d := cnt_ge _ _ _ _ fun i hi => (beStateOf 6000 _ (by omega) (fits_el (fits_fld hf 3) i)).1
  have h1 := (bTxsOf 6000 (fld 10 d) (by omega) (fits_fld hf 10)).1
  unfold sStateOf at h0
  exact entries_le (fits_fld hf 2) (by omega)
theorem sum_eq {α β : Type} (f : α → Nat) (g : β → Nat) : ∀ (l : List α) (m : List β), l.length = m.length → (∀ (i : Nat) x y, l[i]? = some x → m[i]? = some y → f x = g y) → (l.map f).sum = (m.map g).sum := by
  intro l
  induction l with
  | nil => intro m h _; rw [List.length_eq_zero_iff.1 h.symm]; rfl
  | cons x l ih =>
    intro m h hx
    cases m with
    | nil => simp at h
    | cons y m =>
      rw [List.map_cons, List.sum_cons, List.map_cons, List.sum_cons, hx 0 x y rfl rfl, ih m (by simpa using h) fun i a b ha hb => hx (i + 1) a b (by simpa using ha) (by simpa using hb)]
theorem vlen_of {es : List Ent} {l : List (DataW H)} (h1 : es.length = l.length) (h2 : ∀ (i : Nat) e, es[i]? = some e → e.val.al.length = nA (l.getD i .nil)) : vlen (vals es) = (l.map nA).sum := by
  unfold vlen vals
  rw [List.map_map]
  refine sum_eq _ _ es l h1 fun i x y hx hy => ?_
  have := h2 i x hx
  rw [List.getD_eq_getElem?_getD, hy] at this
  exact this
end
end Go.Proofs.Ytjmkkndglmapaaa
