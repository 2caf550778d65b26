/- Wide numbers: what stands for an exact sum, its two cells; value.Wide, value.Plus: they compute with these. -/
import Derived.Test.YtjmkkndglmapaaaTy
import Derived.Test.YtjmkkndglmapaaaLaw
import Derived.WalkKit
import Derived.ProofKit
import Derived.WalkSpells
import Derived.WalkLawsBesides
import Derived.Laws.Externs
import Derived.Lib.Hide
import Derived.Outline
set_option linter.unusedVariables false
namespace Go.Proofs.Ytjmkkndglmapaaa
open Go.ChangeShapes Go.WideShapes Go.RowKit

/-- The high and the low word of a whole number, 128 bits of it. -/
def hiW (x : Int) : Int := (x / 18446744073709551616 + 9223372036854775808) % 18446744073709551616 - 9223372036854775808
def loW (x : Int) : Int := x % 18446744073709551616
def encW (x : Int) : List Value := [.int .i64 (hiW x), .int .u64 (loW x)]
theorem encW_len (x : Int) : (encW x).length = 2 := rfl
def m128 : Int := 340282366920938463463374607431768211456
theorem hiW_bd (x : Int) : -9223372036854775808 ≤ hiW x ∧ hiW x ≤ 9223372036854775807 := by unfold hiW; omega
theorem loW_bd (x : Int) : 0 ≤ loW x ∧ loW x ≤ 18446744073709551615 := by unfold loW; omega
/-- Two numbers have the same words just where they are the same to 128 bits. -/
theorem words_eq (x y : Int) : (hiW x = hiW y ∧ loW x = loW y) ↔ x % m128 = y % m128 := by
  unfold hiW loW m128
  constructor
  · intro ⟨h1, h2⟩
    have a1 : x / 18446744073709551616 % 18446744073709551616 = y / 18446744073709551616 % 18446744073709551616 := by omega
    have b1 : x % 340282366920938463463374607431768211456 = x / 18446744073709551616 % 18446744073709551616 * 18446744073709551616 + x % 18446744073709551616 := by omega
    have b2 : y % 340282366920938463463374607431768211456 = y / 18446744073709551616 % 18446744073709551616 * 18446744073709551616 + y % 18446744073709551616 := by omega
    omega
  · intro h
    have b1 : x % 340282366920938463463374607431768211456 = x / 18446744073709551616 % 18446744073709551616 * 18446744073709551616 + x % 18446744073709551616 := by omega
    have b2 : y % 340282366920938463463374607431768211456 = y / 18446744073709551616 % 18446744073709551616 * 18446744073709551616 + y % 18446744073709551616 := by omega
    omega
/-- Whatever two words are those of a number. -/
theorem words_of (h l : Int) (hh : -9223372036854775808 ≤ h ∧ h ≤ 9223372036854775807) (hl : 0 ≤ l ∧ l ≤ 18446744073709551615) : hiW (h * 18446744073709551616 + l) = h ∧ loW (h * 18446744073709551616 + l) = l := by
  unfold hiW loW
  omega
/-- A number of 64 bits. -/
theorem words_i64 (n : Int) (h : -9223372036854775808 ≤ n ∧ n ≤ 9223372036854775807) : hiW n = (if n < 0 then -1 else 0) ∧ loW n = n % 18446744073709551616 := by
  unfold hiW loW
  refine ⟨?_, rfl⟩
  split <;> omega

/-- The two sums of words, carry and all. -/
theorem words_add (x y : Int) :
    loW (x + y) = (loW x + loW y) % 18446744073709551616 ∧
    hiW (x + y) = ((hiW x % 18446744073709551616 + hiW y % 18446744073709551616 + (loW x + loW y) / 18446744073709551616) % 18446744073709551616 + 9223372036854775808) % 18446744073709551616 - 9223372036854775808 := by
  unfold hiW loW
  constructor <;> omega

def sLo (x y c : Int) : Int := (x + y + c) % 18446744073709551616
def sHi (x y c : Int) : Int := (x + y + c) / 18446744073709551616
theorem sHi_bd (x y : Int) (hx : 0 ≤ x ∧ x ≤ 18446744073709551615) (hy : 0 ≤ y ∧ y ≤ 18446744073709551615) : 0 ≤ sHi x y 0 ∧ sHi x y 0 ≤ 1 := by unfold sHi; omega

/-- bits.Add64, as the model has it. -/
theorem add64 (x y c : Int) (hx : 0 ≤ x) (hy : 0 ≤ y) (hc : 0 ≤ c ∧ c ≤ 1) (w : World) :
    (callFunc 20 #[.int .u64 x, .int .u64 y, .int .u64 c]).run Try.prog w = .ok (.value (.tuple #[.int .u64 (sLo x y c), .int .u64 (sHi x y c)])) w := by
  rw [run_callFunc_extern Try.func20 (by kernel_rfl) (by kernel_rfl) (by kernel_rfl) (e := add64Entry) (by kernel_rfl), run_add64 x y c hx hy hc.1 hc.2]
  rfl

/-- The first word's bits without their sign; a word's bits with a sign. -/
def uW (h : Int) : Int := IntKind.u64.wrap h
def iW (h : Int) : Int := IntKind.i64.wrap h
theorem uW_bd (h : Int) : 0 ≤ uW h ∧ uW h ≤ 18446744073709551615 := by
  unfold uW IntKind.wrap
  simp [IntKind.signed, IntKind.bits]
  omega
theorem words_plus (x y : Int) : loW (x + y) = sLo (loW x) (loW y) 0 ∧ hiW (x + y) = iW (sLo (uW (hiW x)) (uW (hiW y)) (sHi (loW x) (loW y) 0)) := by
  obtain ⟨h1, h2⟩ := words_add x y
  have e : ∀ h, IntKind.u64.wrap h = h % 18446744073709551616 := fun h => by unfold IntKind.wrap; simp [IntKind.signed, IntKind.bits]
  unfold sLo sHi uW iW
  rw [h1, h2, IntKind.wrap_i64, e, e]
  refine ⟨by omega, ?_⟩
  rw [Int.add_zero]

def psum (xs : List Int) (k : Nat) : Int := (xs.take k).sum
theorem psum_succ (xs : List Int) (k : Nat) (h : k < xs.length) : psum xs (k + 1) = psum xs k + xs.getD k 0 := by
  unfold psum
  rw [List.take_succ_eq_append_getElem h, List.sum_append, List.getD_eq_getElem?_getD, List.getElem?_eq_getElem h]
  simp

set_option maxRecDepth 100000 in
set_option maxHeartbeats 1000000 in
theorem plus_any (xs : List Int) (A : Option Addr) (n c b o : Nat) (w : World) (hn : xs.length = n) (hm : n ≤ 1000) (hA : 0 < n → A = some ⟨b, o, none⟩) (hx : ∀ i, i < n → w.rangeAt b (o + i * 2) (encW (xs.getD i 0))) :
    Calls Try.prog 7 #[.slice A n c] w fun e w' => e = .returned (.agg #[.int .i64 (hiW xs.sum), .int .u64 (loW xs.sum)]) ∧ Below w.heap.size w w' := by
  have Hn := Lib.hid hn
  clear hn
  go_enter Try.func7, Try.ntmps7
  go_wp2
  go_loopw [11] (fun i wr => ∃ k : Nat, k ≤ n ∧ i = .int .i64 k ∧ wr.heap[w.heap.size]? = some (.cells #[.int .i64 (hiW (psum xs k)), .int .u64 (loW (psum xs k))] 57) ∧ Below w.heap.size w wr) (fun i _ => n - (intOf i).toNat)
  case atStart => exact ⟨0, Nat.zero_le _, rfl, heap_alloc_new w _, (Below.refl _ w).alloc (Nat.le_refl _) _⟩
  case round =>
    obtain ⟨k, hk, rfl, hH, hB⟩ := hrel
    by_cases hlt : k < n
    · have hr := rangeAt_below (hx k hlt) hB
      have hc0 := hr 0 _ rfl
      have hc1 := hr 1 _ rfl
      rw [Nat.add_zero] at hc0
      obtain rfl := hA (by omega)
      have hk0 : wr.cell? ⟨w.heap.size, 0, none⟩ = some (.int .i64 (hiW (psum xs k))) := cell_of_row _ _ _ _ _ _ hH
      have hk1 : wr.cell? ⟨w.heap.size, 1, none⟩ = some (.int .u64 (loW (psum xs k))) := cell_of_row _ _ _ _ _ _ hH
      have hf : ∀ j, wr.frozen? ⟨w.heap.size, j, none⟩ = false := fun j => frozen_of_row _ _ _ _ _ hH
      have hf0 := hf 0
      have hf1 := hf 1
      have hlt2 : w.heap.size < wr.heap.size := (Array.getElem?_eq_some_iff.1 hH).1
      have hst := words_plus (psum xs k) (xs.getD k 0)
      rw [← psum_succ xs k (by rw [Hn.out]; exact hlt)] at hst
      have b1 := loW_bd (psum xs k)
      have b2 := loW_bd (xs.getD k 0)
      have b3 := sHi_bd _ _ b1 b2
      have a1 := add64 (loW (psum xs k)) (loW (xs.getD k 0)) 0 b1.1 b2.1 (by omega)
      have a2 := add64 (uW (hiW (psum xs k))) (uW (hiW (xs.getD k 0))) (sHi (loW (psum xs k)) (loW (xs.getD k 0)) 0) (uW_bd _).1 (uW_bd _).1 b3
      have HB := Lib.hid hB
      have Hst := Lib.hid hst
      clear hx hA hr hB hf hst b1 b2 b3
      generalize hiW (psum xs k) = h1 at *
      generalize loW (psum xs k) = l1 at *
      generalize hiW (xs.getD k 0) = h2 at *
      generalize loW (xs.getD k 0) = l2 at *
      have ew : ∀ h, IntKind.u64.wrap h = uW h := fun _ => rfl
      have ei : IntKind.i64.wrap (sLo (uW h1) (uW h2) (sHi l1 l2 0)) = iW (sLo (uW h1) (uW h2) (sHi l1 l2 0)) := rfl
      go_wp2
      refine ⟨?_, by simp [intOf]; omega⟩
      refine ⟨k + 1, by omega, by go_num, ?_, ?_⟩
      · rw [Below.heap_alloc _ _ _ (by simpa using hlt2), heap_setCell_same _ _ _ _ _ _ (heap_setCell_same _ _ _ _ _ _ hH), Hst.out.1, Hst.out.2]
        rfl
      · exact ((HB.out.setCell (Nat.le_refl _) _).setCell (Nat.le_refl _) _).alloc (by simp; omega) _
    · obtain rfl : k = n := by omega
      have hk0 : wr.cell? ⟨w.heap.size, 0, none⟩ = some (.int .i64 (hiW (psum xs k))) := cell_of_row _ _ _ _ _ _ hH
      have hk1 : wr.cell? ⟨w.heap.size, 1, none⟩ = some (.int .u64 (loW (psum xs k))) := cell_of_row _ _ _ _ _ _ hH
      have hf0 : wr.frozen? ⟨w.heap.size, 0, none⟩ = false := frozen_of_row _ _ _ _ _ hH
      have hf1 : wr.frozen? ⟨w.heap.size, 1, none⟩ = false := frozen_of_row _ _ _ _ _ hH
      have hps : psum xs k = xs.sum := by unfold psum; rw [← Hn.out, List.take_length]
      rw [hps] at hk0 hk1 hH
      have HB := Lib.hid hB
      have HH := Lib.hid hH
      clear hx hA hB hps hH
      generalize he1 : hiW xs.sum = h1 at *
      generalize he2 : loW xs.sum = l1 at *
      have E1 := Lib.hid he1
      have E2 := Lib.hid he2
      clear he1 he2
      go_wp2
      refine bodyPost_ret (results_cell_row rfl _ _ w.heap.size 57 #[.int .i64 h1, .int .u64 l1] (0, 0) _ rfl ?_ Try.underlying57 rfl (by kernel_rfl)) rfl ⟨by rw [E1.out, E2.out], ?_⟩
      · rw [heap_setCell_same _ _ _ _ _ _ (heap_setCell_same _ _ _ _ _ _ HH.out)]
        rfl
      · exact (HB.out.setCell (Nat.le_refl _) _).setCell (Nat.le_refl _) _
end Go.Proofs.Ytjmkkndglmapaaa
