/- What the form's own reach gives: strings and slices of at most 2^47. No condition. -/
import Derived.Test.YtjmkkndglmapaaaCnt
import Derived.Test.YtjmkkndglmapaaaChecked
import Derived.SizedLaws
import Derived.KernelRfl
set_option linter.unusedSimpArgs false
set_option linter.unusedVariables false
namespace Go.Proofs.Ytjmkkndglmapaaa
open Go.RowKit

section
variable {H : Type} {enc : TypeId × Value → H} {P : Program}
theorem fitsAll_of {l : List (DataW H)} (h : ∀ d ∈ l, fits d = true) : fitsAll l = true := by
  induction l with
  | nil => rfl
  | cons d l ih =>
    unfold fitsAll
    rw [h d (by simp), ih fun x hx => h x (by simp [hx])]
    rfl
theorem weightsAll_mem {e : TypeId} {l : List (DataW H)} {d : DataW H} (hd : d ∈ l) {n : Nat} (hn : n ∈ d.weights P e) : n ∈ DataW.weightsAll P e l := by
  induction l with
  | nil => cases hd
  | cons x l ih =>
    simp only [DataW.weightsAll, List.mem_append]
    rcases List.mem_cons.1 hd with rfl | hd
    · exact .inl hn
    · exact .inr (ih hd)
theorem reach_big : reachBytes ≤ big := by decide
/-- A type of bools, numbers, strings, slices, arrays and structs alone. -/
def plainT (P : Program) : Nat → TypeId → Bool
  | 0, _ => false
  | m + 1, t => match P.underlying t with
    | some .bool => true
    | some (.int _) => true
    | some .string => true
    | some (.struct fs) => fs.toList.all fun f => plainT P m f.type
    | some (.array _ e) => plainT P m e
    | some (.slice e) => decide (0 < P.bytesOf e) && plainT P m e
    | _ => false
theorem fits_trod {w : World} {base : Nat} {sp : Nat → Bool} {held : Bool} : ∀ (m : Nat) (t : TypeId), plainT P m t = true → ∀ (fuel : Nat) (cs : List Value) (x : DataW H × List MemPlace),
    DataW.trod enc P w base sp held fuel t cs = some x → (∀ n ∈ x.1.weights P t, n ≤ reachBytes) → fits x.1 = true := by
  intro m
  induction m with
  | zero => intro t hp; simp [plainT] at hp
  | succ m ih =>
    intro t hp fuel cs x h hw
    unfold plainT at hp
    split at hp
    · rename_i hu
      obtain ⟨b, rfl, rfl⟩ := DataW.trod_bool hu h
      rfl
    · rename_i q hu
      obtain ⟨n, rfl, rfl, hw⟩ := DataW.trod_int hu h
      rfl
    · rename_i hu
      obtain ⟨s, rfl, rfl, _⟩ := DataW.trod_string hu h
      have := hw s.data.toList.length (by simp [DataW.weights])
      have h2 := reach_big
      simp only [fits, decide_eq_true_eq]
      omega
    · rename_i fs hu
      obtain ⟨xs, n, rfl, rfl, _, hl, hf⟩ := DataW.trod_struct hu h
      show fitsAll (xs.map (·.1)) = true
      refine fitsAll_of fun d hd => ?_
      obtain ⟨y, hy, rfl⟩ := List.mem_map.1 hd
      obtain ⟨i, hi⟩ := List.mem_iff_getElem?.1 hy
      have hlt : i < fs.size := by rw [← hl]; exact (List.getElem?_eq_some_iff.1 hi).1
      have hfi : fs[i]? = some fs[i] := Array.getElem?_eq_getElem hlt
      refine ih _ (List.all_eq_true.1 hp fs[i] (by simp)) _ _ y ((hf i _ hfi).trans hi) fun m hm => hw m ?_
      simp only [DataW.weights, hu]
      refine DataW.weights_mem_each (j := i) (t := fs[i].type) (d := y.1) ?_ ?_ m hm
      · rw [List.getElem?_map, Array.getElem?_toList, hfi]
        rfl
      · rw [List.getElem?_map, hi]
        rfl
    · rename_i k e hu
      obtain ⟨xs, n, rfl, rfl, _, hl, hf⟩ := DataW.trod_array hu h
      show fitsAll (xs.map (·.1)) = true
      refine fitsAll_of fun d hd => ?_
      obtain ⟨y, hy, rfl⟩ := List.mem_map.1 hd
      obtain ⟨i, hi⟩ := List.mem_iff_getElem?.1 hy
      have hlt : i < k := by rw [← hl]; exact (List.getElem?_eq_some_iff.1 hi).1
      refine ih _ hp _ _ y ((hf i hlt).trans hi) fun m hm => hw m ?_
      simp only [DataW.weights, hu]
      exact weightsAll_mem hd hm
    · rename_i e hu
      rw [Bool.and_eq_true, decide_eq_true_eq] at hp
      rcases DataW.trod_slice hu h with ⟨_, rfl⟩ | ⟨a, len, cap, elems, rest, n, rfl, _, rfl, _, _, _, hl, hf, _, _⟩
      · rfl
      · have h0 := hp.1
        have h1 := hw (((elems.map (·.1)).length + (rest.map (·.1)).length) * P.bytesOf e) (by simp only [DataW.weights, hu]; exact List.mem_cons_self ..)
        have h2 := reach_big
        have h3 : (elems.map (·.1)).length ≤ reachBytes := by
          have : (elems.map (·.1)).length * 1 ≤ ((elems.map (·.1)).length + (rest.map (·.1)).length) * P.bytesOf e := Nat.mul_le_mul (by omega) h0
          omega
        show (decide ((elems.map (·.1)).length ≤ big) && fitsAll (elems.map (·.1))) = true
        rw [Bool.and_eq_true]
        refine ⟨decide_eq_true (by omega), fitsAll_of fun d hd => ?_⟩
        obtain ⟨y, hy, rfl⟩ := List.mem_map.1 hd
        obtain ⟨i, hi⟩ := List.mem_iff_getElem?.1 hy
        have hlt : i < len := by rw [← hl]; exact (List.getElem?_eq_some_iff.1 hi).1
        have h4 := (hf i hlt).trans hi
        obtain ⟨c, _, h5⟩ := Option.bind_eq_some_iff.1 h4
        refine ih _ hp.2 _ _ y h5 fun m hm => hw m ?_
        simp only [DataW.weights, hu]
        exact List.mem_cons_of_mem _ (List.mem_append_left _ (weightsAll_mem hd hm))
    · cases hp
end
theorem plain_state : plainT Try.prog 30 36 = true := by kernel_rfl
theorem plain_entry : plainT Try.prog 30 51 = true := by kernel_rfl
end Go.Proofs.Ytjmkkndglmapaaa
