/- Plain law: two rows that tell the same sums have the same cells; sums of sums. No condition. -/
import Derived.Test.YtjmkkndglmapaaaGuard
import Derived.Test.YtjmkkndglmapaaaBal
set_option linter.unusedSimpArgs false
set_option linter.unusedVariables false
namespace Go.Proofs.Ytjmkkndglmapaaa
open Go.RowKit

theorem kc_irr (a : Key) : ¬ keyCmp a a < 0 := by rw [kc_self]; omega
theorem rows_same : ∀ (R S : List Tot), R.Pairwise (fun a b => keyCmp a.k b.k < 0) → S.Pairwise (fun a b => keyCmp a.k b.k < 0) →
    (∀ k, (∃ t ∈ R, t.k = k) ↔ (∃ t ∈ S, t.k = k)) → (∀ t ∈ R, ∀ u ∈ S, t.k = u.k → encT t = encT u) → R.map encT = S.map encT := by
  intro R
  induction R with
  | nil =>
    intro S _ _ hk _
    cases S with
    | nil => rfl
    | cons b S =>
      obtain ⟨t, ht, _⟩ := (hk b.k).2 ⟨b, by simp, rfl⟩
      simp at ht
  | cons a R ih =>
    intro S hR hS hk he
    cases S with
    | nil =>
      obtain ⟨t, ht, _⟩ := (hk a.k).1 ⟨a, by simp, rfl⟩
      simp at ht
    | cons b S =>
      rw [List.pairwise_cons] at hR hS
      have hab : a.k = b.k := by
        obtain ⟨t, ht, e1⟩ := (hk a.k).1 ⟨a, by simp, rfl⟩
        obtain ⟨u, hu, e2⟩ := (hk b.k).2 ⟨b, by simp, rfl⟩
        rcases List.mem_cons.1 ht with rfl | ht
        · exact e1.symm
        rcases List.mem_cons.1 hu with rfl | hu
        · exact e2
        have h1 := hS.1 t ht
        have h2 := hR.1 u hu
        rw [e1] at h1
        rw [e2] at h2
        exact absurd (kc_trans h1 h2) (kc_irr _)
      rw [List.map_cons, List.map_cons, he a (by simp) b (by simp) hab, ih S hR.2 hS.2 (fun k => ⟨?_, ?_⟩) (fun t ht u hu => he t (by simp [ht]) u (by simp [hu]))]
      · rintro ⟨t, ht, rfl⟩
        obtain ⟨u, hu, e⟩ := (hk t.k).1 ⟨t, by simp [ht], rfl⟩
        rcases List.mem_cons.1 hu with rfl | hu
        · have := hR.1 t ht
          rw [hab, e] at this
          exact absurd this (kc_irr _)
        · exact ⟨u, hu, e⟩
      · rintro ⟨t, ht, rfl⟩
        obtain ⟨u, hu, e⟩ := (hk t.k).2 ⟨t, by simp [ht], rfl⟩
        rcases List.mem_cons.1 hu with rfl | hu
        · have := hS.1 t ht
          rw [← hab, e] at this
          exact absurd this (kc_irr _)
        · exact ⟨u, hu, e⟩

theorem told_same {T U : Key → Int} {R S : List Tot} (h : Told T R) (h' : Told U S) (e : ∀ k, encW (T k) = encW (U k)) : R.map encT = S.map encT := by
  refine rows_same R S h.up h'.up (fun k => ⟨?_, ?_⟩) fun t ht u hu hk => ?_
  · rintro ⟨t, ht, rfl⟩
    obtain ⟨h1, h2⟩ := h.val t ht
    exact h'.all _ (by rw [← e, ← h1]; exact h2)
  · rintro ⟨t, ht, rfl⟩
    obtain ⟨h1, h2⟩ := h'.val t ht
    exact h.all _ (by rw [e, ← h1]; exact h2)
  · unfold encT
    rw [(h.val t ht).1, (h'.val u hu).1, hk, e]

theorem encT_inj {t u : Tot} (h : encT t = encT u) : t.k = u.k ∧ encW t.v = encW u.v := by
  unfold encT at h
  have h1 := List.append_inj h (by rw [encK_len _ t.h.1, encK_len _ u.h.1])
  exact ⟨encK_inj t.h u.h h1.1, h1.2⟩
theorem same_told1 {T U : Key → Int} {R S : List Tot} (h : Told T R) (h' : Told U S) (e : R.map encT = S.map encT) (k : Key) (hk : encW (T k) ≠ encW 0) : encW (T k) = encW (U k) := by
  obtain ⟨t, ht, rfl⟩ := h.all k hk
  have hm : encT t ∈ S.map encT := by rw [← e]; exact List.mem_map.2 ⟨t, ht, rfl⟩
  obtain ⟨u, hu, hx⟩ := List.mem_map.1 hm
  obtain ⟨h1, h2⟩ := encT_inj hx
  rw [← (h.val t ht).1, ← h2, (h'.val u hu).1, h1]
theorem same_told {T U : Key → Int} {R S : List Tot} (h : Told T R) (h' : Told U S) (e : R.map encT = S.map encT) (k : Key) : encW (T k) = encW (U k) := by
  by_cases hk : encW (T k) = encW 0
  · by_cases hu : encW (U k) = encW 0
    · rw [hk, hu]
    · exact (same_told1 h' h e.symm k hu).symm
  · exact same_told1 h h' e k hk
theorem told_iff {T U : Key → Int} {R S : List Tot} (h : Told T R) (h' : Told U S) : R.map encT = S.map encT ↔ ∀ k, encW (T k) = encW (U k) := ⟨same_told h h', told_same h h'⟩

/-! Numbers that read the same. -/
theorem encW_iff (x y : Int) : encW x = encW y ↔ x % m128 = y % m128 := by
  rw [← words_eq]
  unfold encW
  simp
theorem encW_add {x x' y y' : Int} (h : encW x = encW x') (h' : encW y = encW y') : encW (x + y) = encW (x' + y') := by
  rw [encW_iff] at *
  rw [Int.add_emod, h, h', ← Int.add_emod]
theorem tsum_nil (k : Key) : tsum [] k = 0 := rfl
theorem tsum_append (R S : List Tot) (k : Key) : tsum (R ++ S) k = tsum R k + tsum S k := by
  unfold tsum
  rw [List.map_append, List.sum_append]
noncomputable def pick (f : Int) (c : Prop) : Int := by classical exact if c then f else 0
theorem pick_pos {f : Int} {c : Prop} (h : c) : pick f c = f := by unfold pick; rw [if_pos h]
theorem pick_neg {f : Int} {c : Prop} (h : ¬ c) : pick f c = 0 := by unfold pick; rw [if_neg h]
theorem tsum_cons (t : Tot) (R : List Tot) (k : Key) : tsum (t :: R) k = pick t.v (t.k = k) + tsum R k := by
  unfold tsum pick
  simp only [List.map_cons, List.sum_cons]
theorem tsum_none {R : List Tot} {k : Key} (h : ∀ t ∈ R, t.k ≠ k) : tsum R k = 0 := by
  induction R with
  | nil => rfl
  | cons a R ih =>
    rw [tsum_cons, pick_neg (h a (by simp)), ih fun t ht => h t (by simp [ht])]
    rfl
theorem tsum_one : ∀ {R : List Tot}, R.Pairwise (fun a b => keyCmp a.k b.k < 0) → ∀ t ∈ R, tsum R t.k = t.v := by
  intro R
  induction R with
  | nil => intro _ t ht; simp at ht
  | cons a R ih =>
    intro h t ht
    rw [List.pairwise_cons] at h
    rw [tsum_cons]
    rcases List.mem_cons.1 ht with rfl | ht
    · rw [pick_pos rfl, tsum_none (fun u hu (e : u.k = _) => by have := h.1 u hu; rw [e] at this; exact kc_irr _ this)]
      omega
    · rw [pick_neg (fun (e : a.k = t.k) => by have := h.1 t ht; rw [e] at this; exact kc_irr _ this), ih h.2 t ht]
      omega
/-- A row that tells T sums up to T. -/
theorem told_sum {T : Key → Int} {R : List Tot} (h : Told T R) (k : Key) : encW (tsum R k) = encW (T k) := by
  by_cases hk : encW (T k) = encW 0
  · by_cases hx : ∃ t ∈ R, t.k = k
    · obtain ⟨t, ht, rfl⟩ := hx
      rw [tsum_one h.up t ht, (h.val t ht).1]
    · rw [tsum_none (fun t ht e => hx ⟨t, ht, e⟩), hk]
  · obtain ⟨t, ht, rfl⟩ := h.all k hk
    rw [tsum_one h.up t ht, (h.val t ht).1]

/-! Sums over the entries, address by address. -/
theorem sum_pick {α : Type} (f : Int) (x : α) : ∀ {l : List α}, l.Nodup → x ∈ l → (l.map fun a => pick f (x = a)).sum = f := by
  intro l
  induction l with
  | nil => intro _ h; simp at h
  | cons a l ih =>
    intro hn hx
    rw [List.nodup_cons] at hn
    rw [List.map_cons, List.sum_cons]
    by_cases e : x = a
    · subst e
      have : ∀ {m : List α}, x ∉ m → (m.map fun a => pick f (x = a)).sum = 0 := by
        intro m
        induction m with
        | nil => intro _; rfl
        | cons b m im =>
          intro hm
          rw [List.map_cons, List.sum_cons, pick_neg (fun e => hm (by simp [e])), im (fun h => hm (by simp [h]))]
          rfl
      rw [pick_pos rfl, this hn.1]
      omega
    · rw [pick_neg e, ih hn.2 (by rcases List.mem_cons.1 hx with h | h; exact absurd h e; exact h)]
      omega
theorem sum_map_add {α : Type} (l : List α) (f g : α → Int) : (l.map fun a => f a + g a).sum = (l.map f).sum + (l.map g).sum := by
  induction l with
  | nil => rfl
  | cons a l ih => simp only [List.map_cons, List.sum_cons, ih]; omega
theorem sum_parts (f : Ent → Int) {seen : List (List Value)} (hn : seen.Nodup) : ∀ (es : List Ent), (∀ e ∈ es, e.ad ∈ seen) → (seen.map fun a => ((es.filter (ofAddr a)).map f).sum).sum = (es.map f).sum := by
  intro es
  induction es with
  | nil =>
    intro _
    have : ∀ (l : List (List Value)), (l.map fun _ => (0 : Int)).sum = 0 := by
      intro l
      induction l with
      | nil => rfl
      | cons a l ih => simp only [List.map_cons, List.sum_cons, ih]; rfl
    simpa using this seen
  | cons e es ih =>
    intro h
    have hx : ∀ a, (((e :: es).filter (ofAddr a)).map f).sum = pick (f e) (e.ad = a) + ((es.filter (ofAddr a)).map f).sum := fun a => by
      by_cases ha : e.ad = a
      · rw [List.filter_cons_of_pos ((ofAddr_iff a e).2 ha), pick_pos ha, List.map_cons, List.sum_cons]
      · rw [List.filter_cons_of_neg (fun hh => ha ((ofAddr_iff a e).1 hh)), pick_neg ha]
        omega
    rw [List.map_congr_left (fun a _ => hx a), sum_map_add, sum_pick (f e) e.ad hn (h e (by simp)), ih fun x hx => h x (by simp [hx]), List.map_cons, List.sum_cons]
theorem csum_vals (es : List Ent) : csum (vals es) = (es.map fun e => e.val.coin).sum := by
  unfold csum vals
  rw [List.map_map]
  rfl
theorem vsum_vals (es : List Ent) (k : Key) : vsum (vals es) k = (es.map fun e => asum e.val.al k).sum := by
  unfold vsum vals
  rw [List.map_map]
  rfl
theorem vlen_vals (es : List Ent) : vlen (vals es) = (es.map fun e => e.val.al.length).sum := by
  unfold vlen vals
  rw [List.map_map]
  rfl
/-- The coins of all the addresses are the coins. -/
theorem coin_parts {seen : List (List Value)} (hn : seen.Nodup) (es : List Ent) (h : ∀ e ∈ es, e.ad ∈ seen) : (seen.map fun a => csum (vals (es.filter (ofAddr a)))).sum = csum (vals es) := by
  rw [csum_vals, ← sum_parts _ hn es h]
  congr 1
  exact List.map_congr_left fun a _ => csum_vals _
theorem name_parts {seen : List (List Value)} (hn : seen.Nodup) (es : List Ent) (h : ∀ e ∈ es, e.ad ∈ seen) (k : Key) : (seen.map fun a => vsum (vals (es.filter (ofAddr a))) k).sum = vsum (vals es) k := by
  rw [vsum_vals, ← sum_parts _ hn es h]
  congr 1
  exact List.map_congr_left fun a _ => vsum_vals _ _
/-- Rows that tell the sums of addresses tell all sums, together. -/
theorem rows_parts (T : List Value → Key → Int) : ∀ (seen : List (List Value)) (Rs : List (List Tot)), Rs.length = seen.length → (∀ (i : Nat) a R, seen[i]? = some a → Rs[i]? = some R → Told (T a) R) →
    ∀ k, encW (tsum Rs.flatten k) = encW (seen.map fun a => T a k).sum := by
  intro seen
  induction seen with
  | nil =>
    intro Rs hl _ k
    have : Rs = [] := List.length_eq_zero_iff.1 hl
    subst this
    rfl
  | cons a seen ih =>
    intro Rs hl h k
    cases Rs with
    | nil => simp at hl
    | cons R Rs =>
      rw [List.flatten_cons, tsum_append, List.map_cons, List.sum_cons]
      exact encW_add (told_sum (h 0 a R rfl rfl) k) (ih Rs (by simpa using hl) (fun i b S hb hS => h (i + 1) b S (by simpa using hb) (by simpa using hS)) k)
theorem told_len {vs : List Val} {R : List Tot} (h : Told (vsum vs) R) : R.length ≤ vlen vs := by
  classical
  have hz : ∀ (al : List (Key × Int)) k, (∀ x ∈ al, x.1 ≠ k) → asum al k = 0 := by
    intro al k
    induction al with
    | nil => intro _; rfl
    | cons x al ih =>
      intro hx
      have h1 := ih fun y hy => hx y (by simp [hy])
      have h2 := hx x (by simp)
      unfold asum at *
      rw [List.map_cons, List.sum_cons, h1]
      simp [h2]
  have hv : ∀ (vs : List Val) k, (∀ v ∈ vs, ∀ x ∈ v.al, x.1 ≠ k) → vsum vs k = 0 := by
    intro vs k
    induction vs with
    | nil => intro _; rfl
    | cons v vs ih =>
      intro hx
      have h1 := ih fun y hy => hx y (by simp [hy])
      have h2 := hz v.al k (hx v (by simp))
      unfold vsum at *
      rw [List.map_cons, List.sum_cons, h1, h2]
      rfl
  have hn : (R.map (·.k)).Nodup := by
    rw [List.nodup_iff_pairwise_ne, List.pairwise_map]
    exact h.up.imp fun {a b} hab e => by rw [e] at hab; exact kc_irr _ hab
  have hm : ∀ k ∈ R.map (·.k), k ∈ (vs.map fun v => v.al.map (·.1)).flatten := fun k hk => by
    obtain ⟨t, ht, rfl⟩ := List.mem_map.1 hk
    by_cases hx : t.k ∈ (vs.map fun v => v.al.map (·.1)).flatten
    · exact hx
    exfalso
    obtain ⟨h1, h2⟩ := h.val t ht
    rw [h1] at h2
    refine h2 ?_
    rw [hv vs t.k fun v hv x hxv e => hx ?_]
    rw [List.mem_flatten]
    exact ⟨v.al.map (·.1), List.mem_map.2 ⟨v, hv, rfl⟩, List.mem_map.2 ⟨x, hxv, e⟩⟩
  have := nodup_len hn hm
  rw [List.length_map, List.length_flatten, List.map_map] at this
  have e : (List.length ∘ fun v : Val => v.al.map (·.1)) = fun v => v.al.length := by
    funext v
    simp
  rw [e] at this
  exact this
end Go.Proofs.Ytjmkkndglmapaaa
