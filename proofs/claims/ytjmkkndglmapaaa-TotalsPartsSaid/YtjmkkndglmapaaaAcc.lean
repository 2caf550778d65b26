/- What a sum at work holds. -/
import Derived.Test.YtjmkkndglmapaaaStep
set_option linter.unusedSimpArgs false
set_option linter.unusedVariables false
namespace Go.Proofs.Ytjmkkndglmapaaa
open Go.RowKit Go.Shelf Go.Lib Go.Sort Go.WideShapes Go.ChangeShapes

/-- What is held between two steps: the book tells T in at most N names, the coins are x. -/
structure Acc (w wr : World) (b m : Nat) (T : Key → Int) (N : Nat) (x : Int) : Prop where
  book : ∃ L c, BookAt wr m L c ∧ (∀ j, valAt L j = T j) ∧ L.length ≤ N
  coin : Box wr b (encW x) 57
  bl : Below w.heap.size w wr
  lo : w.heap.size ≤ b
  ord : b < m
theorem Acc.step {w wr W : World} {b m : Nat} {T : Key → Int} {N : Nat} {x : Int} (h : Acc w wr b m T N x) (hb : Below wr.heap.size wr W) : Acc w W b m T N x := by
  obtain ⟨L, c, h1, h2, h3⟩ := h.book
  exact ⟨⟨L, c, h1.below hb, h2, h3⟩, h.coin.below hb, h.bl.trans (hb.mono h.bl.size), h.lo, h.ord⟩
theorem Acc.added {w wr W : World} {b m : Nat} {T T' : Key → Int} {N : Nat} {x : Int} (h : Acc w wr b m T N x) {L' : BookL} {c' : Nat} (hb : BookAt W m L' c') (hT : ∀ j, valAt L' j = T' j) (hl : L'.length ≤ N + 1) (hg : wr.grownBy W (some m)) : Acc w W b m T' (N + 1) x := by
  obtain ⟨L, c, h1, _, _⟩ := h.book
  have hm := h1.lt
  have ho := h.ord
  have hl0 := h.lo
  refine ⟨⟨L', c', hb, hT, hl⟩, (hg.block b (by omega) (by simp; omega)).trans h.coin, ?_, h.lo, h.ord⟩
  exact ⟨hg.os.trans h.bl.os, hg.tape.trans h.bl.tape, hg.output.trans h.bl.output, by have := h.bl.size; have := hg.size; omega, fun k hk => (hg.block k (by omega) (by simp; omega)).trans (h.bl.block k hk)⟩
theorem Acc.stored {w wr W : World} {b m : Nat} {T : Key → Int} {N : Nat} {x x' : Int} (h : Acc w wr b m T N x) (hB : Box W b (encW x') 57) (ho : Only b wr W) : Acc w W b m T N x' := by
  obtain ⟨L, c, h1, h2, h3⟩ := h.book
  have := h.ord
  exact ⟨⟨L, c, h1.kept (ho.block m (by omega)), h2, h3⟩, hB, h.bl.trans (ho.below h.lo), h.lo, h.ord⟩
theorem Acc.next {w wr : World} {b m : Nat} {T T' : Key → Int} {N N' : Nat} {x : Int} (h : Acc w wr b m T N x) (hT : ∀ j, T j = T' j) (hN : N ≤ N') : Acc w wr b m T' N' x := by
  obtain ⟨L, c, h1, h2, h3⟩ := h.book
  exact ⟨⟨L, c, h1, fun j => (h2 j).trans (hT j), by omega⟩, h.coin, h.bl, h.lo, h.ord⟩
def zVal : List Value := [.int .i64 0, .slice none 0 0]
def zAsset : List Value := List.replicate 32 (.int .u8 0) ++ [.string ⟨#[]⟩, .int .i64 0]
theorem encW_lit (x : Int) : (Value.agg #[.int .i64 (hiW x), .int .u64 (loW x)]) = .agg (encW x).toArray := rfl
theorem box_range {w : World} {b : Nat} {cs : List Value} {t : TypeId} (h : Box w b cs t) : w.rangeAt b 0 cs := h.whole

end Go.Proofs.Ytjmkkndglmapaaa
