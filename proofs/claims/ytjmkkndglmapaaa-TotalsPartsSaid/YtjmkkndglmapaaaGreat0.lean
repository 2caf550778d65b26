/- moidorelaw27.entry, great. -/
import Derived.Test.YtjmkkndglmapaaaCoin
import Derived.Test.YtjmkkndglmapaaaOf
set_option linter.unusedSimpArgs false
set_option linter.unusedVariables false
namespace Go.Proofs.Ytjmkkndglmapaaa
open Go.RowKit Go.Shelf Go.Lib Go.Sort Go.WideShapes Go.ChangeShapes

theorem great_any {H : Type} {enc : TypeId × Value → H} (cs : List Value) (d : DataW H) (w : World) (h : Rd enc Try.prog w 36 cs d) (hf : fits d = true) :
    Calls Try.prog 5 #[.agg cs.toArray] w fun e w' => e = .returned (.bool (decide (dStateOf 6000 d > 6000))) ∧ Below w.heap.size w w' := by
  have HO : Hid (∀ W, Below w.heap.size w W → Calls Try.prog 17 #[.agg cs.toArray, .int .i64 6000] W fun e w' => e = .returned (.int .i64 (dStateOf 6000 d)) ∧ Below W.heap.size W w') := fun W hb => cStateOf cs d 6000 W (by omega) (h.below hb) hf
  have HL := Lib.hid (len_api_State h)
  clear h hf
  go_enter Try.func5, Try.ntmps5
  go_wp2_with (first
    | (refine wpList_box_box rfl 36 _ rfl cs rfl ?_; intro W1 hx1 hb1 hs1; simp only [Act.put, List.setIfInBounds_toArray, List.set_cons_zero, List.set_cons_succ])
    | (refine wpList_load_mid rfl 36 _ rfl w.heap.size 0 rfl cs _ hx1.whole Try.underlying36 rfl (by rw [HL.out]; kernel_rfl) ?_; simp only [Act.put, List.setIfInBounds_toArray, List.set_cons_zero, List.set_cons_succ])
    | (go_at_call 17; refine (HO.out W1 hb1).mono ?_; rintro e w5 ⟨rfl, hb5⟩))
  go_ret
  exact ⟨rfl, hb1.trans (hb5.mono hb1.size)⟩
end Go.Proofs.Ytjmkkndglmapaaa
