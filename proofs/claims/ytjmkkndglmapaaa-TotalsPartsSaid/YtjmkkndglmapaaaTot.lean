/- The order of names is total; a row of totals, sorted: plain laws. -/
import Derived.Test.YtjmkkndglmapaaaIter
set_option linter.unusedSimpArgs false
set_option linter.unusedVariables false
namespace Go.Proofs.Ytjmkkndglmapaaa
open Go.RowKit Go.Shelf Go.Lib Go.Sort

theorem u8_tri (a b : UInt8) : a < b ∨ a = b ∨ b < a := by
  rcases Nat.lt_trichotomy a.toNat b.toNat with h | h | h
  · exact .inl (UInt8.lt_iff_toNat_lt.2 h)
  · exact .inr (.inl (UInt8.toNat_inj.1 h))
  · exact .inr (.inr (UInt8.lt_iff_toNat_lt.2 h))
theorem u8_asymm {a b : UInt8} (h : a < b) : ¬ b < a := by
  rw [UInt8.lt_iff_toNat_lt] at *
  omega
theorem u8_trans {a b c : UInt8} (h : a < b) (k : b < c) : a < c := by
  rw [UInt8.lt_iff_toNat_lt] at *
  omega

theorem cb_self : ∀ a, Lib.compareBytes a a = 0
  | [] => rfl
  | x :: a => by simp [Lib.compareBytes, cb_self a, UInt8.lt_irrefl]
theorem cb_zero : ∀ {a b}, Lib.compareBytes a b = 0 → a = b
  | [], [], _ => rfl
  | [], _ :: _, h => by simp [Lib.compareBytes] at h
  | _ :: _, [], h => by simp [Lib.compareBytes] at h
  | x :: a, y :: b, h => by
    unfold Lib.compareBytes at h
    split at h
    · simp at h
    · split at h
      · simp at h
      · rename_i h1 h2
        rcases u8_tri x y with h3 | h3 | h3
        · exact absurd h3 h1
        · rw [h3, cb_zero h]
        · exact absurd h3 h2
theorem cb_swap : ∀ a b, Lib.compareBytes b a = - Lib.compareBytes a b
  | [], [] => rfl
  | [], _ :: _ => rfl
  | _ :: _, [] => rfl
  | x :: a, y :: b => by
    unfold Lib.compareBytes
    rcases u8_tri x y with h | h | h
    · rw [if_neg (u8_asymm h), if_pos h, if_pos h]; rfl
    · subst h
      rw [if_neg (UInt8.lt_irrefl x), if_neg (UInt8.lt_irrefl x), if_neg (UInt8.lt_irrefl x), if_neg (UInt8.lt_irrefl x)]
      exact cb_swap a b
    · rw [if_pos h, if_neg (u8_asymm h), if_pos h]
theorem cb_trans : ∀ {a b c}, Lib.compareBytes a b < 0 → Lib.compareBytes b c < 0 → Lib.compareBytes a c < 0
  | [], [], _, h, _ => by simp [Lib.compareBytes] at h
  | _ :: _, [], _, h, _ => by simp [Lib.compareBytes] at h
  | _, _ :: _, [], _, h => by simp [Lib.compareBytes] at h
  | [], _ :: _, _ :: _, _, _ => by simp [Lib.compareBytes]
  | x :: a, y :: b, z :: c, h, k => by
    unfold Lib.compareBytes at *
    rcases u8_tri x y with h1 | h1 | h1
    · rcases u8_tri y z with h2 | h2 | h2
      · rw [if_pos (u8_trans h1 h2)]; decide
      · subst h2; rw [if_pos h1]; decide
      · rw [if_neg (u8_asymm h2), if_pos h2] at k; simp at k
    · subst h1
      rw [if_neg (UInt8.lt_irrefl x), if_neg (UInt8.lt_irrefl x)] at h
      rcases u8_tri x z with h2 | h2 | h2
      · rw [if_pos h2]; decide
      · subst h2
        rw [if_neg (UInt8.lt_irrefl x), if_neg (UInt8.lt_irrefl x)] at *
        exact cb_trans h k
      · rw [if_neg (u8_asymm h2), if_pos h2] at k; simp at k
    · rw [if_neg (u8_asymm h1), if_pos h1] at h; simp at h

theorem kc_self (a : Key) : keyCmp a a = 0 := by simp [keyCmp, cb_self]
theorem kc_zero {a b : Key} (h : keyCmp a b = 0) : a = b := by
  unfold keyCmp at h
  split at h
  · rename_i h1
    have e1 := cb_zero h1
    have e2 := cb_zero h
    cases a
    cases b
    simp only [Key.mk.injEq]
    refine ⟨e1, ByteArray.ext ?_⟩
    exact Array.toList_inj.1 e2
  · rename_i h1; exact absurd h h1
theorem kc_swap (a b : Key) : keyCmp b a = - keyCmp a b := by
  unfold keyCmp
  rw [cb_swap a.pol b.pol, cb_swap a.nm.data.toList b.nm.data.toList]
  by_cases h : Lib.compareBytes a.pol b.pol = 0
  · rw [if_pos h, if_pos (by omega)]
  · rw [if_neg h, if_neg (by omega)]
theorem kc_trans {a b c : Key} (h : keyCmp a b < 0) (k : keyCmp b c < 0) : keyCmp a c < 0 := by
  unfold keyCmp at *
  by_cases h1 : Lib.compareBytes a.pol b.pol = 0
  · rw [if_pos h1] at h
    have e := cb_zero h1
    rw [e]
    by_cases h2 : Lib.compareBytes b.pol c.pol = 0
    · rw [if_pos h2] at k ⊢
      exact cb_trans h k
    · rw [if_neg h2] at k ⊢
      exact k
  · rw [if_neg h1] at h
    by_cases h2 : Lib.compareBytes b.pol c.pol = 0
    · have e := cb_zero h2
      rw [← e, if_neg h1]
      exact h
    · rw [if_neg h2] at k
      have := cb_trans h k
      rw [if_neg (by omega)]
      exact this

structure Tot where
  k : Key
  h : okK k
  v : Int
instance : Inhabited Tot := ⟨⟨⟨List.replicate 32 0, ⟨#[]⟩⟩, ⟨by simp, Nat.zero_le _⟩, 0⟩⟩
def encT (t : Tot) : List Value := encK t.k ++ encW t.v
theorem encT_len (t : Tot) : (encT t).length = 35 := by unfold encT; rw [List.length_append, encK_len _ t.h.1]; rfl
theorem encT_one (t : Tot) : ∀ v ∈ encT t, v.oneCell' = true := fun v hv => by
  unfold encT encK encW at hv
  simp only [List.mem_append, List.mem_cons, List.not_mem_nil, or_false] at hv
  rcases hv with (h | rfl) | rfl | rfl
  · exact encB_one _ v h
  · rfl
  · rfl
  · rfl
def totCmp (a b : Tot) : Int := keyCmp a.k b.k
theorem swo_tot : SWO (ltOf totCmp) where
  irrefl x := by simp [ltOf, totCmp, kc_self]
  trans x y z h k := by
    exact decide_eq_true (kc_trans (of_decide_eq_true h) (of_decide_eq_true k))
  ntrans x y z h k := by
    have h := of_decide_eq_false h
    have k := of_decide_eq_false k
    refine decide_eq_false fun h1 => ?_
    unfold totCmp at *
    by_cases e1 : keyCmp x.k y.k = 0
    · have := kc_zero e1
      rw [← this] at k
      exact k h1
    · have l1 : keyCmp y.k x.k < 0 := by have := kc_swap x.k y.k; omega
      exact k (kc_trans l1 h1)

theorem isAggT (w : World) : (isAgg 88).run Try.prog w = .ok true w := Try.isAgg88 w
theorem sizeOfT (w : World) : (Go.sizeOf 88).run Try.prog w = .ok 35 w := Try.sizeOf88 w

theorem closure_lays (blk off size : Nat) (w : World) : CmpLays Try.prog 36 #[] encT 35 totCmp blk off size w := fun m os dk _ x y => by
  refine (closure_any x.k y.k (encW x.v) (encW y.v) x.h.1 y.h.1 _).mono fun e w' ⟨he, hg⟩ => ⟨he, ?_⟩
  obtain ⟨q, os', rfl⟩ := hg.out
  exact ⟨q, os', rfl⟩

/-- The sort of a row of totals. -/
theorem sort_any (blk cap : Nat) (d : Array Tot) (w : World) (hH : HoldsK encT 35 w blk 0 d) (hblk : blk < w.heap.size) (hsz : d.size < 4611686018427387904) :
    Calls Try.prog 35 #[.slice (some ⟨blk, 0, none⟩) d.size cap, .func (.func 36) #[] #[]] w fun e w' =>
      e = .returned (.tuple #[]) ∧ ∃ d' n os, PermIn 0 d.size d d' ∧ SortedIn (ltOf totCmp) 0 d.size d' ∧ w' = sortWorldK encT 35 w blk 0 n d' os :=
  AnyQ.slices_SortFunc Try.sortTotals 35 isAggT sizeOfT encT encT_len encT_one totCmp swo_tot 36 #[] blk 0 cap d w (enters_of Try.func36 (by kernel_rfl) rfl) (closure_lays blk 0 d.size w) hH hblk hsz
theorem sort_none (p : Option Addr) (cap : Nat) (fv : Value) (w : World) :
    Calls Try.prog 35 #[.slice p 0 cap, fv] w fun e w' => e = .returned (.tuple #[]) ∧ w' = w :=
  AnyF.slices_SortFunc_none Try.sortTotals p cap fv w
end Go.Proofs.Ytjmkkndglmapaaa
