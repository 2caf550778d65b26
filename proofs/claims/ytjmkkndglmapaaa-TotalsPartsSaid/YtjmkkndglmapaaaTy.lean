/- The sizes of types, and one lemma a field: printed by wip/tools/gen_types.py off the types' table. -/
import Derived.Test.YtjmkkndglmapaaaChecked
import Derived.Test.YtjmkkndglmapaaaCnt
import Derived.KernelRfl
namespace Go.Proofs.Ytjmkkndglmapaaa
section
variable {H : Type} {enc : TypeId × Value → H}
theorem sz_api_Budget : Try.prog.cellsOf 23 = 2 := by kernel_rfl
theorem fl_api_Budget_0 {w : World} {cs : List Value} {d : DataW H} (h : Rd enc Try.prog w 23 cs d) : Rd enc Try.prog w 2 ((cs.drop 0).take 1) (fld 0 d) := h.fl Try.underlying23 0 rfl rfl (by kernel_rfl) rfl
theorem fl_api_Budget_1 {w : World} {cs : List Value} {d : DataW H} (h : Rd enc Try.prog w 23 cs d) : Rd enc Try.prog w 2 ((cs.drop 1).take 1) (fld 1 d) := h.fl Try.underlying23 1 rfl rfl (by kernel_rfl) rfl
theorem len_api_Budget {w : World} {cs : List Value} {d : DataW H} (h : Rd enc Try.prog w 23 cs d) : cs.length = 2 := (h.struct Try.underlying23).1.trans sz_api_Budget
theorem hs_api_Budget {w : World} {cs : List Value} {d : DataW H} (h : Rd enc Try.prog w 23 cs d) : (Try.prog.info? 23).map (·.size) = some cs.length := by rw [len_api_Budget h]; kernel_rfl
theorem sz_api_Params : Try.prog.cellsOf 25 = 12 := by kernel_rfl
theorem fl_api_Params_0 {w : World} {cs : List Value} {d : DataW H} (h : Rd enc Try.prog w 25 cs d) : Rd enc Try.prog w 2 ((cs.drop 0).take 1) (fld 0 d) := h.fl Try.underlying25 0 rfl rfl (by kernel_rfl) rfl
theorem fl_api_Params_1 {w : World} {cs : List Value} {d : DataW H} (h : Rd enc Try.prog w 25 cs d) : Rd enc Try.prog w 2 ((cs.drop 1).take 1) (fld 1 d) := h.fl Try.underlying25 1 rfl rfl (by kernel_rfl) rfl
theorem fl_api_Params_2 {w : World} {cs : List Value} {d : DataW H} (h : Rd enc Try.prog w 25 cs d) : Rd enc Try.prog w 2 ((cs.drop 2).take 1) (fld 2 d) := h.fl Try.underlying25 2 rfl rfl (by kernel_rfl) rfl
theorem fl_api_Params_3 {w : World} {cs : List Value} {d : DataW H} (h : Rd enc Try.prog w 25 cs d) : Rd enc Try.prog w 2 ((cs.drop 3).take 1) (fld 3 d) := h.fl Try.underlying25 3 rfl rfl (by kernel_rfl) rfl
theorem fl_api_Params_4 {w : World} {cs : List Value} {d : DataW H} (h : Rd enc Try.prog w 25 cs d) : Rd enc Try.prog w 2 ((cs.drop 4).take 1) (fld 4 d) := h.fl Try.underlying25 4 rfl rfl (by kernel_rfl) rfl
theorem fl_api_Params_5 {w : World} {cs : List Value} {d : DataW H} (h : Rd enc Try.prog w 25 cs d) : Rd enc Try.prog w 2 ((cs.drop 5).take 1) (fld 5 d) := h.fl Try.underlying25 5 rfl rfl (by kernel_rfl) rfl
theorem fl_api_Params_6 {w : World} {cs : List Value} {d : DataW H} (h : Rd enc Try.prog w 25 cs d) : Rd enc Try.prog w 3 ((cs.drop 6).take 1) (fld 6 d) := h.fl Try.underlying25 6 rfl rfl (by kernel_rfl) rfl
theorem fl_api_Params_7 {w : World} {cs : List Value} {d : DataW H} (h : Rd enc Try.prog w 25 cs d) : Rd enc Try.prog w 3 ((cs.drop 7).take 1) (fld 7 d) := h.fl Try.underlying25 7 rfl rfl (by kernel_rfl) rfl
theorem fl_api_Params_8 {w : World} {cs : List Value} {d : DataW H} (h : Rd enc Try.prog w 25 cs d) : Rd enc Try.prog w 23 ((cs.drop 8).take 2) (fld 8 d) := h.fl Try.underlying25 8 rfl rfl (by kernel_rfl) rfl
theorem fl_api_Params_9 {w : World} {cs : List Value} {d : DataW H} (h : Rd enc Try.prog w 25 cs d) : Rd enc Try.prog w 3 ((cs.drop 10).take 1) (fld 9 d) := h.fl Try.underlying25 9 rfl rfl (by kernel_rfl) rfl
theorem fl_api_Params_10 {w : World} {cs : List Value} {d : DataW H} (h : Rd enc Try.prog w 25 cs d) : Rd enc Try.prog w 3 ((cs.drop 11).take 1) (fld 10 d) := h.fl Try.underlying25 10 rfl rfl (by kernel_rfl) rfl
theorem len_api_Params {w : World} {cs : List Value} {d : DataW H} (h : Rd enc Try.prog w 25 cs d) : cs.length = 12 := (h.struct Try.underlying25).1.trans sz_api_Params
theorem hs_api_Params {w : World} {cs : List Value} {d : DataW H} (h : Rd enc Try.prog w 25 cs d) : (Try.prog.info? 25).map (·.size) = some cs.length := by rw [len_api_Params h]; kernel_rfl
theorem sz_api_Hash : Try.prog.cellsOf 27 = 32 := by kernel_rfl
theorem sl_api_Entry {w : World} {v : Value} {d : DataW H} (h : Rd enc Try.prog w 28 [v] d) : ∃ (A : Option Addr) (n c b o : Nat), v = .slice A n c ∧ (els d).length = n ∧ n ≤ c ∧ c ≤ maxLen ∧ (0 < n → A = some ⟨b, o, none⟩) ∧ ∀ i, i < n → ∃ cs, cs.length = 102 ∧ w.rangeAt b (o + i * 102) cs ∧ Rd enc Try.prog w 51 cs ((els d).getD i .nil) := by
  have e : Try.prog.cellsOf 51 = 102 := by kernel_rfl
  have h' := h.sl Try.underlying28 (by rw [e]; decide)
  rwa [e] at h'
theorem sl_api_Stored {w : World} {v : Value} {d : DataW H} (h : Rd enc Try.prog w 29 [v] d) : ∃ (A : Option Addr) (n c b o : Nat), v = .slice A n c ∧ (els d).length = n ∧ n ≤ c ∧ c ≤ maxLen ∧ (0 < n → A = some ⟨b, o, none⟩) ∧ ∀ i, i < n → ∃ cs, cs.length = 106 ∧ w.rangeAt b (o + i * 106) cs ∧ Rd enc Try.prog w 108 cs ((els d).getD i .nil) := by
  have e : Try.prog.cellsOf 108 = 106 := by kernel_rfl
  have h' := h.sl Try.underlying29 (by rw [e]; decide)
  rwa [e] at h'
theorem sz_api_Header : Try.prog.cellsOf 32 = 67 := by kernel_rfl
theorem fl_api_Header_0 {w : World} {cs : List Value} {d : DataW H} (h : Rd enc Try.prog w 32 cs d) : Rd enc Try.prog w 27 ((cs.drop 0).take 32) (fld 0 d) := h.fl Try.underlying32 0 rfl rfl (by kernel_rfl) rfl
theorem fl_api_Header_1 {w : World} {cs : List Value} {d : DataW H} (h : Rd enc Try.prog w 32 cs d) : Rd enc Try.prog w 3 ((cs.drop 32).take 1) (fld 1 d) := h.fl Try.underlying32 1 rfl rfl (by kernel_rfl) rfl
theorem fl_api_Header_2 {w : World} {cs : List Value} {d : DataW H} (h : Rd enc Try.prog w 32 cs d) : Rd enc Try.prog w 2 ((cs.drop 33).take 1) (fld 2 d) := h.fl Try.underlying32 2 rfl rfl (by kernel_rfl) rfl
theorem fl_api_Header_3 {w : World} {cs : List Value} {d : DataW H} (h : Rd enc Try.prog w 32 cs d) : Rd enc Try.prog w 27 ((cs.drop 34).take 32) (fld 3 d) := h.fl Try.underlying32 3 rfl rfl (by kernel_rfl) rfl
theorem fl_api_Header_4 {w : World} {cs : List Value} {d : DataW H} (h : Rd enc Try.prog w 32 cs d) : Rd enc Try.prog w 30 ((cs.drop 66).take 1) (fld 4 d) := h.fl Try.underlying32 4 rfl rfl (by kernel_rfl) rfl
theorem len_api_Header {w : World} {cs : List Value} {d : DataW H} (h : Rd enc Try.prog w 32 cs d) : cs.length = 67 := (h.struct Try.underlying32).1.trans sz_api_Header
theorem hs_api_Header {w : World} {cs : List Value} {d : DataW H} (h : Rd enc Try.prog w 32 cs d) : (Try.prog.info? 32).map (·.size) = some cs.length := by rw [len_api_Header h]; kernel_rfl
theorem sl_api_Total {w : World} {v : Value} {d : DataW H} (h : Rd enc Try.prog w 33 [v] d) : ∃ (A : Option Addr) (n c b o : Nat), v = .slice A n c ∧ (els d).length = n ∧ n ≤ c ∧ c ≤ maxLen ∧ (0 < n → A = some ⟨b, o, none⟩) ∧ ∀ i, i < n → ∃ cs, cs.length = 35 ∧ w.rangeAt b (o + i * 35) cs ∧ Rd enc Try.prog w 88 cs ((els d).getD i .nil) := by
  have e : Try.prog.cellsOf 88 = 35 := by kernel_rfl
  have h' := h.sl Try.underlying33 (by rw [e]; decide)
  rwa [e] at h'
theorem sl_api_Tx {w : World} {v : Value} {d : DataW H} (h : Rd enc Try.prog w 34 [v] d) : ∃ (A : Option Addr) (n c b o : Nat), v = .slice A n c ∧ (els d).length = n ∧ n ≤ c ∧ c ≤ maxLen ∧ (0 < n → A = some ⟨b, o, none⟩) ∧ ∀ i, i < n → ∃ cs, cs.length = 45 ∧ w.rangeAt b (o + i * 45) cs ∧ Rd enc Try.prog w 127 cs ((els d).getD i .nil) := by
  have e : Try.prog.cellsOf 127 = 45 := by kernel_rfl
  have h' := h.sl Try.underlying34 (by rw [e]; decide)
  rwa [e] at h'
theorem sz_api_State : Try.prog.cellsOf 36 = 182 := by kernel_rfl
theorem fl_api_State_0 {w : World} {cs : List Value} {d : DataW H} (h : Rd enc Try.prog w 36 cs d) : Rd enc Try.prog w 25 ((cs.drop 0).take 12) (fld 0 d) := h.fl Try.underlying36 0 rfl rfl (by kernel_rfl) rfl
theorem fl_api_State_1 {w : World} {cs : List Value} {d : DataW H} (h : Rd enc Try.prog w 36 cs d) : Rd enc Try.prog w 27 ((cs.drop 12).take 32) (fld 1 d) := h.fl Try.underlying36 1 rfl rfl (by kernel_rfl) rfl
theorem fl_api_State_2 {w : World} {cs : List Value} {d : DataW H} (h : Rd enc Try.prog w 36 cs d) : Rd enc Try.prog w 28 ((cs.drop 44).take 1) (fld 2 d) := h.fl Try.underlying36 2 rfl rfl (by kernel_rfl) rfl
theorem fl_api_State_3 {w : World} {cs : List Value} {d : DataW H} (h : Rd enc Try.prog w 36 cs d) : Rd enc Try.prog w 29 ((cs.drop 45).take 1) (fld 3 d) := h.fl Try.underlying36 3 rfl rfl (by kernel_rfl) rfl
theorem fl_api_State_4 {w : World} {cs : List Value} {d : DataW H} (h : Rd enc Try.prog w 36 cs d) : Rd enc Try.prog w 32 ((cs.drop 46).take 67) (fld 4 d) := h.fl Try.underlying36 4 rfl rfl (by kernel_rfl) rfl
theorem fl_api_State_5 {w : World} {cs : List Value} {d : DataW H} (h : Rd enc Try.prog w 36 cs d) : Rd enc Try.prog w 27 ((cs.drop 113).take 32) (fld 5 d) := h.fl Try.underlying36 5 rfl rfl (by kernel_rfl) rfl
theorem fl_api_State_6 {w : World} {cs : List Value} {d : DataW H} (h : Rd enc Try.prog w 36 cs d) : Rd enc Try.prog w 27 ((cs.drop 145).take 32) (fld 6 d) := h.fl Try.underlying36 6 rfl rfl (by kernel_rfl) rfl
theorem fl_api_State_7 {w : World} {cs : List Value} {d : DataW H} (h : Rd enc Try.prog w 36 cs d) : Rd enc Try.prog w 2 ((cs.drop 177).take 1) (fld 7 d) := h.fl Try.underlying36 7 rfl rfl (by kernel_rfl) rfl
theorem fl_api_State_8 {w : World} {cs : List Value} {d : DataW H} (h : Rd enc Try.prog w 36 cs d) : Rd enc Try.prog w 2 ((cs.drop 178).take 1) (fld 8 d) := h.fl Try.underlying36 8 rfl rfl (by kernel_rfl) rfl
theorem fl_api_State_9 {w : World} {cs : List Value} {d : DataW H} (h : Rd enc Try.prog w 36 cs d) : Rd enc Try.prog w 33 ((cs.drop 179).take 1) (fld 9 d) := h.fl Try.underlying36 9 rfl rfl (by kernel_rfl) rfl
theorem fl_api_State_10 {w : World} {cs : List Value} {d : DataW H} (h : Rd enc Try.prog w 36 cs d) : Rd enc Try.prog w 34 ((cs.drop 180).take 1) (fld 10 d) := h.fl Try.underlying36 10 rfl rfl (by kernel_rfl) rfl
theorem fl_api_State_11 {w : World} {cs : List Value} {d : DataW H} (h : Rd enc Try.prog w 36 cs d) : Rd enc Try.prog w 2 ((cs.drop 181).take 1) (fld 11 d) := h.fl Try.underlying36 11 rfl rfl (by kernel_rfl) rfl
theorem len_api_State {w : World} {cs : List Value} {d : DataW H} (h : Rd enc Try.prog w 36 cs d) : cs.length = 182 := (h.struct Try.underlying36).1.trans sz_api_State
theorem hs_api_State {w : World} {cs : List Value} {d : DataW H} (h : Rd enc Try.prog w 36 cs d) : (Try.prog.info? 36).map (·.size) = some cs.length := by rw [len_api_State h]; kernel_rfl
theorem sz_api_Ref : Try.prog.cellsOf 38 = 33 := by kernel_rfl
theorem fl_api_Ref_0 {w : World} {cs : List Value} {d : DataW H} (h : Rd enc Try.prog w 38 cs d) : Rd enc Try.prog w 27 ((cs.drop 0).take 32) (fld 0 d) := h.fl Try.underlying38 0 rfl rfl (by kernel_rfl) rfl
theorem fl_api_Ref_1 {w : World} {cs : List Value} {d : DataW H} (h : Rd enc Try.prog w 38 cs d) : Rd enc Try.prog w 3 ((cs.drop 32).take 1) (fld 1 d) := h.fl Try.underlying38 1 rfl rfl (by kernel_rfl) rfl
theorem len_api_Ref {w : World} {cs : List Value} {d : DataW H} (h : Rd enc Try.prog w 38 cs d) : cs.length = 33 := (h.struct Try.underlying38).1.trans sz_api_Ref
theorem hs_api_Ref {w : World} {cs : List Value} {d : DataW H} (h : Rd enc Try.prog w 38 cs d) : (Try.prog.info? 38).map (·.size) = some cs.length := by rw [len_api_Ref h]; kernel_rfl
theorem sz_api_Address : Try.prog.cellsOf 40 = 33 := by kernel_rfl
theorem fl_api_Address_0 {w : World} {cs : List Value} {d : DataW H} (h : Rd enc Try.prog w 40 cs d) : Rd enc Try.prog w 4 ((cs.drop 0).take 1) (fld 0 d) := h.fl Try.underlying40 0 rfl rfl (by kernel_rfl) rfl
theorem fl_api_Address_1 {w : World} {cs : List Value} {d : DataW H} (h : Rd enc Try.prog w 40 cs d) : Rd enc Try.prog w 27 ((cs.drop 1).take 32) (fld 1 d) := h.fl Try.underlying40 1 rfl rfl (by kernel_rfl) rfl
theorem len_api_Address {w : World} {cs : List Value} {d : DataW H} (h : Rd enc Try.prog w 40 cs d) : cs.length = 33 := (h.struct Try.underlying40).1.trans sz_api_Address
theorem hs_api_Address {w : World} {cs : List Value} {d : DataW H} (h : Rd enc Try.prog w 40 cs d) : (Try.prog.info? 40).map (·.size) = some cs.length := by rw [len_api_Address h]; kernel_rfl
theorem sl_api_Asset {w : World} {v : Value} {d : DataW H} (h : Rd enc Try.prog w 41 [v] d) : ∃ (A : Option Addr) (n c b o : Nat), v = .slice A n c ∧ (els d).length = n ∧ n ≤ c ∧ c ≤ maxLen ∧ (0 < n → A = some ⟨b, o, none⟩) ∧ ∀ i, i < n → ∃ cs, cs.length = 34 ∧ w.rangeAt b (o + i * 34) cs ∧ Rd enc Try.prog w 97 cs ((els d).getD i .nil) := by
  have e : Try.prog.cellsOf 97 = 34 := by kernel_rfl
  have h' := h.sl Try.underlying41 (by rw [e]; decide)
  rwa [e] at h'
theorem sz_api_Value : Try.prog.cellsOf 43 = 2 := by kernel_rfl
theorem fl_api_Value_0 {w : World} {cs : List Value} {d : DataW H} (h : Rd enc Try.prog w 43 cs d) : Rd enc Try.prog w 2 ((cs.drop 0).take 1) (fld 0 d) := h.fl Try.underlying43 0 rfl rfl (by kernel_rfl) rfl
theorem fl_api_Value_1 {w : World} {cs : List Value} {d : DataW H} (h : Rd enc Try.prog w 43 cs d) : Rd enc Try.prog w 41 ((cs.drop 1).take 1) (fld 1 d) := h.fl Try.underlying43 1 rfl rfl (by kernel_rfl) rfl
theorem len_api_Value {w : World} {cs : List Value} {d : DataW H} (h : Rd enc Try.prog w 43 cs d) : cs.length = 2 := (h.struct Try.underlying43).1.trans sz_api_Value
theorem hs_api_Value {w : World} {cs : List Value} {d : DataW H} (h : Rd enc Try.prog w 43 cs d) : (Try.prog.info? 43).map (·.size) = some cs.length := by rw [len_api_Value h]; kernel_rfl
theorem sl_api_Node {w : World} {v : Value} {d : DataW H} (h : Rd enc Try.prog w 45 [v] d) : ∃ (A : Option Addr) (n c b o : Nat), v = .slice A n c ∧ (els d).length = n ∧ n ≤ c ∧ c ≤ maxLen ∧ (0 < n → A = some ⟨b, o, none⟩) ∧ ∀ i, i < n → ∃ cs, cs.length = 5 ∧ w.rangeAt b (o + i * 5) cs ∧ Rd enc Try.prog w 112 cs ((els d).getD i .nil) := by
  have e : Try.prog.cellsOf 112 = 5 := by kernel_rfl
  have h' := h.sl Try.underlying45 (by rw [e]; decide)
  rwa [e] at h'
theorem sz_api_Term : Try.prog.cellsOf 47 = 1 := by kernel_rfl
theorem fl_api_Term_0 {w : World} {cs : List Value} {d : DataW H} (h : Rd enc Try.prog w 47 cs d) : Rd enc Try.prog w 45 ((cs.drop 0).take 1) (fld 0 d) := h.fl Try.underlying47 0 rfl rfl (by kernel_rfl) rfl
theorem len_api_Term {w : World} {cs : List Value} {d : DataW H} (h : Rd enc Try.prog w 47 cs d) : cs.length = 1 := (h.struct Try.underlying47).1.trans sz_api_Term
theorem hs_api_Term {w : World} {cs : List Value} {d : DataW H} (h : Rd enc Try.prog w 47 cs d) : (Try.prog.info? 47).map (·.size) = some cs.length := by rw [len_api_Term h]; kernel_rfl
theorem sz_api_Output : Try.prog.cellsOf 49 = 69 := by kernel_rfl
theorem fl_api_Output_0 {w : World} {cs : List Value} {d : DataW H} (h : Rd enc Try.prog w 49 cs d) : Rd enc Try.prog w 40 ((cs.drop 0).take 33) (fld 0 d) := h.fl Try.underlying49 0 rfl rfl (by kernel_rfl) rfl
theorem fl_api_Output_1 {w : World} {cs : List Value} {d : DataW H} (h : Rd enc Try.prog w 49 cs d) : Rd enc Try.prog w 43 ((cs.drop 33).take 2) (fld 1 d) := h.fl Try.underlying49 1 rfl rfl (by kernel_rfl) rfl
theorem fl_api_Output_2 {w : World} {cs : List Value} {d : DataW H} (h : Rd enc Try.prog w 49 cs d) : Rd enc Try.prog w 44 ((cs.drop 35).take 1) (fld 2 d) := h.fl Try.underlying49 2 rfl rfl (by kernel_rfl) rfl
theorem fl_api_Output_3 {w : World} {cs : List Value} {d : DataW H} (h : Rd enc Try.prog w 49 cs d) : Rd enc Try.prog w 27 ((cs.drop 36).take 32) (fld 3 d) := h.fl Try.underlying49 3 rfl rfl (by kernel_rfl) rfl
theorem fl_api_Output_4 {w : World} {cs : List Value} {d : DataW H} (h : Rd enc Try.prog w 49 cs d) : Rd enc Try.prog w 47 ((cs.drop 68).take 1) (fld 4 d) := h.fl Try.underlying49 4 rfl rfl (by kernel_rfl) rfl
theorem len_api_Output {w : World} {cs : List Value} {d : DataW H} (h : Rd enc Try.prog w 49 cs d) : cs.length = 69 := (h.struct Try.underlying49).1.trans sz_api_Output
theorem hs_api_Output {w : World} {cs : List Value} {d : DataW H} (h : Rd enc Try.prog w 49 cs d) : (Try.prog.info? 49).map (·.size) = some cs.length := by rw [len_api_Output h]; kernel_rfl
theorem sz_api_Entry : Try.prog.cellsOf 51 = 102 := by kernel_rfl
theorem fl_api_Entry_0 {w : World} {cs : List Value} {d : DataW H} (h : Rd enc Try.prog w 51 cs d) : Rd enc Try.prog w 38 ((cs.drop 0).take 33) (fld 0 d) := h.fl Try.underlying51 0 rfl rfl (by kernel_rfl) rfl
theorem fl_api_Entry_1 {w : World} {cs : List Value} {d : DataW H} (h : Rd enc Try.prog w 51 cs d) : Rd enc Try.prog w 49 ((cs.drop 33).take 69) (fld 1 d) := h.fl Try.underlying51 1 rfl rfl (by kernel_rfl) rfl
theorem len_api_Entry {w : World} {cs : List Value} {d : DataW H} (h : Rd enc Try.prog w 51 cs d) : cs.length = 102 := (h.struct Try.underlying51).1.trans sz_api_Entry
theorem hs_api_Entry {w : World} {cs : List Value} {d : DataW H} (h : Rd enc Try.prog w 51 cs d) : (Try.prog.info? 51).map (·.size) = some cs.length := by rw [len_api_Entry h]; kernel_rfl
theorem sl_api_Address {w : World} {v : Value} {d : DataW H} (h : Rd enc Try.prog w 55 [v] d) : ∃ (A : Option Addr) (n c b o : Nat), v = .slice A n c ∧ (els d).length = n ∧ n ≤ c ∧ c ≤ maxLen ∧ (0 < n → A = some ⟨b, o, none⟩) ∧ ∀ i, i < n → ∃ cs, cs.length = 33 ∧ w.rangeAt b (o + i * 33) cs ∧ Rd enc Try.prog w 40 cs ((els d).getD i .nil) := by
  have e : Try.prog.cellsOf 40 = 33 := by kernel_rfl
  have h' := h.sl Try.underlying55 (by rw [e]; decide)
  rwa [e] at h'
theorem sz_api_Wide : Try.prog.cellsOf 57 = 2 := by kernel_rfl
theorem fl_api_Wide_0 {w : World} {cs : List Value} {d : DataW H} (h : Rd enc Try.prog w 57 cs d) : Rd enc Try.prog w 2 ((cs.drop 0).take 1) (fld 0 d) := h.fl Try.underlying57 0 rfl rfl (by kernel_rfl) rfl
theorem fl_api_Wide_1 {w : World} {cs : List Value} {d : DataW H} (h : Rd enc Try.prog w 57 cs d) : Rd enc Try.prog w 30 ((cs.drop 1).take 1) (fld 1 d) := h.fl Try.underlying57 1 rfl rfl (by kernel_rfl) rfl
theorem len_api_Wide {w : World} {cs : List Value} {d : DataW H} (h : Rd enc Try.prog w 57 cs d) : cs.length = 2 := (h.struct Try.underlying57).1.trans sz_api_Wide
theorem hs_api_Wide {w : World} {cs : List Value} {d : DataW H} (h : Rd enc Try.prog w 57 cs d) : (Try.prog.info? 57).map (·.size) = some cs.length := by rw [len_api_Wide h]; kernel_rfl
theorem sl_sl_api_Total {w : World} {v : Value} {d : DataW H} (h : Rd enc Try.prog w 60 [v] d) : ∃ (A : Option Addr) (n c b o : Nat), v = .slice A n c ∧ (els d).length = n ∧ n ≤ c ∧ c ≤ maxLen ∧ (0 < n → A = some ⟨b, o, none⟩) ∧ ∀ i, i < n → ∃ cs, cs.length = 1 ∧ w.rangeAt b (o + i * 1) cs ∧ Rd enc Try.prog w 33 cs ((els d).getD i .nil) := by
  have e : Try.prog.cellsOf 33 = 1 := by kernel_rfl
  have h' := h.sl Try.underlying60 (by rw [e]; decide)
  rwa [e] at h'
theorem sl_api_Output {w : World} {v : Value} {d : DataW H} (h : Rd enc Try.prog w 70 [v] d) : ∃ (A : Option Addr) (n c b o : Nat), v = .slice A n c ∧ (els d).length = n ∧ n ≤ c ∧ c ≤ maxLen ∧ (0 < n → A = some ⟨b, o, none⟩) ∧ ∀ i, i < n → ∃ cs, cs.length = 69 ∧ w.rangeAt b (o + i * 69) cs ∧ Rd enc Try.prog w 49 cs ((els d).getD i .nil) := by
  have e : Try.prog.cellsOf 49 = 69 := by kernel_rfl
  have h' := h.sl Try.underlying70 (by rw [e]; decide)
  rwa [e] at h'
theorem sz_api_Genesis : Try.prog.cellsOf 72 = 14 := by kernel_rfl
theorem fl_api_Genesis_0 {w : World} {cs : List Value} {d : DataW H} (h : Rd enc Try.prog w 72 cs d) : Rd enc Try.prog w 25 ((cs.drop 0).take 12) (fld 0 d) := h.fl Try.underlying72 0 rfl rfl (by kernel_rfl) rfl
theorem fl_api_Genesis_1 {w : World} {cs : List Value} {d : DataW H} (h : Rd enc Try.prog w 72 cs d) : Rd enc Try.prog w 2 ((cs.drop 12).take 1) (fld 1 d) := h.fl Try.underlying72 1 rfl rfl (by kernel_rfl) rfl
theorem fl_api_Genesis_2 {w : World} {cs : List Value} {d : DataW H} (h : Rd enc Try.prog w 72 cs d) : Rd enc Try.prog w 70 ((cs.drop 13).take 1) (fld 2 d) := h.fl Try.underlying72 2 rfl rfl (by kernel_rfl) rfl
theorem len_api_Genesis {w : World} {cs : List Value} {d : DataW H} (h : Rd enc Try.prog w 72 cs d) : cs.length = 14 := (h.struct Try.underlying72).1.trans sz_api_Genesis
theorem hs_api_Genesis {w : World} {cs : List Value} {d : DataW H} (h : Rd enc Try.prog w 72 cs d) : (Try.prog.info? 72).map (·.size) = some cs.length := by rw [len_api_Genesis h]; kernel_rfl
theorem sl_api_Wide {w : World} {v : Value} {d : DataW H} (h : Rd enc Try.prog w 77 [v] d) : ∃ (A : Option Addr) (n c b o : Nat), v = .slice A n c ∧ (els d).length = n ∧ n ≤ c ∧ c ≤ maxLen ∧ (0 < n → A = some ⟨b, o, none⟩) ∧ ∀ i, i < n → ∃ cs, cs.length = 2 ∧ w.rangeAt b (o + i * 2) cs ∧ Rd enc Try.prog w 57 cs ((els d).getD i .nil) := by
  have e : Try.prog.cellsOf 57 = 2 := by kernel_rfl
  have h' := h.sl Try.underlying77 (by rw [e]; decide)
  rwa [e] at h'
theorem sz_totals_sums : Try.prog.cellsOf 85 = 3 := by kernel_rfl
theorem fl_totals_sums_0 {w : World} {cs : List Value} {d : DataW H} (h : Rd enc Try.prog w 85 cs d) : Rd enc Try.prog w 57 ((cs.drop 0).take 2) (fld 0 d) := h.fl Try.underlying85 0 rfl rfl (by kernel_rfl) rfl
theorem fl_totals_sums_1 {w : World} {cs : List Value} {d : DataW H} (h : Rd enc Try.prog w 85 cs d) : Rd enc Try.prog w 33 ((cs.drop 2).take 1) (fld 1 d) := h.fl Try.underlying85 1 rfl rfl (by kernel_rfl) rfl
theorem len_totals_sums {w : World} {cs : List Value} {d : DataW H} (h : Rd enc Try.prog w 85 cs d) : cs.length = 3 := (h.struct Try.underlying85).1.trans sz_totals_sums
theorem hs_totals_sums {w : World} {cs : List Value} {d : DataW H} (h : Rd enc Try.prog w 85 cs d) : (Try.prog.info? 85).map (·.size) = some cs.length := by rw [len_totals_sums h]; kernel_rfl
theorem sz_api_Total : Try.prog.cellsOf 88 = 35 := by kernel_rfl
theorem fl_api_Total_0 {w : World} {cs : List Value} {d : DataW H} (h : Rd enc Try.prog w 88 cs d) : Rd enc Try.prog w 27 ((cs.drop 0).take 32) (fld 0 d) := h.fl Try.underlying88 0 rfl rfl (by kernel_rfl) rfl
theorem fl_api_Total_1 {w : World} {cs : List Value} {d : DataW H} (h : Rd enc Try.prog w 88 cs d) : Rd enc Try.prog w 9 ((cs.drop 32).take 1) (fld 1 d) := h.fl Try.underlying88 1 rfl rfl (by kernel_rfl) rfl
theorem fl_api_Total_2 {w : World} {cs : List Value} {d : DataW H} (h : Rd enc Try.prog w 88 cs d) : Rd enc Try.prog w 57 ((cs.drop 33).take 2) (fld 2 d) := h.fl Try.underlying88 2 rfl rfl (by kernel_rfl) rfl
theorem len_api_Total {w : World} {cs : List Value} {d : DataW H} (h : Rd enc Try.prog w 88 cs d) : cs.length = 35 := (h.struct Try.underlying88).1.trans sz_api_Total
theorem hs_api_Total {w : World} {cs : List Value} {d : DataW H} (h : Rd enc Try.prog w 88 cs d) : (Try.prog.info? 88).map (·.size) = some cs.length := by rw [len_api_Total h]; kernel_rfl
theorem sz_value_name : Try.prog.cellsOf 93 = 33 := by kernel_rfl
theorem fl_value_name_0 {w : World} {cs : List Value} {d : DataW H} (h : Rd enc Try.prog w 93 cs d) : Rd enc Try.prog w 27 ((cs.drop 0).take 32) (fld 0 d) := h.fl Try.underlying93 0 rfl rfl (by kernel_rfl) rfl
theorem fl_value_name_1 {w : World} {cs : List Value} {d : DataW H} (h : Rd enc Try.prog w 93 cs d) : Rd enc Try.prog w 9 ((cs.drop 32).take 1) (fld 1 d) := h.fl Try.underlying93 1 rfl rfl (by kernel_rfl) rfl
theorem len_value_name {w : World} {cs : List Value} {d : DataW H} (h : Rd enc Try.prog w 93 cs d) : cs.length = 33 := (h.struct Try.underlying93).1.trans sz_value_name
theorem hs_value_name {w : World} {cs : List Value} {d : DataW H} (h : Rd enc Try.prog w 93 cs d) : (Try.prog.info? 93).map (·.size) = some cs.length := by rw [len_value_name h]; kernel_rfl
theorem sl_api_Value {w : World} {v : Value} {d : DataW H} (h : Rd enc Try.prog w 95 [v] d) : ∃ (A : Option Addr) (n c b o : Nat), v = .slice A n c ∧ (els d).length = n ∧ n ≤ c ∧ c ≤ maxLen ∧ (0 < n → A = some ⟨b, o, none⟩) ∧ ∀ i, i < n → ∃ cs, cs.length = 2 ∧ w.rangeAt b (o + i * 2) cs ∧ Rd enc Try.prog w 43 cs ((els d).getD i .nil) := by
  have e : Try.prog.cellsOf 43 = 2 := by kernel_rfl
  have h' := h.sl Try.underlying95 (by rw [e]; decide)
  rwa [e] at h'
theorem sz_api_Asset : Try.prog.cellsOf 97 = 34 := by kernel_rfl
theorem fl_api_Asset_0 {w : World} {cs : List Value} {d : DataW H} (h : Rd enc Try.prog w 97 cs d) : Rd enc Try.prog w 27 ((cs.drop 0).take 32) (fld 0 d) := h.fl Try.underlying97 0 rfl rfl (by kernel_rfl) rfl
theorem fl_api_Asset_1 {w : World} {cs : List Value} {d : DataW H} (h : Rd enc Try.prog w 97 cs d) : Rd enc Try.prog w 9 ((cs.drop 32).take 1) (fld 1 d) := h.fl Try.underlying97 1 rfl rfl (by kernel_rfl) rfl
theorem fl_api_Asset_2 {w : World} {cs : List Value} {d : DataW H} (h : Rd enc Try.prog w 97 cs d) : Rd enc Try.prog w 2 ((cs.drop 33).take 1) (fld 2 d) := h.fl Try.underlying97 2 rfl rfl (by kernel_rfl) rfl
theorem len_api_Asset {w : World} {cs : List Value} {d : DataW H} (h : Rd enc Try.prog w 97 cs d) : cs.length = 34 := (h.struct Try.underlying97).1.trans sz_api_Asset
theorem hs_api_Asset {w : World} {cs : List Value} {d : DataW H} (h : Rd enc Try.prog w 97 cs d) : (Try.prog.info? 97).map (·.size) = some cs.length := by rw [len_api_Asset h]; kernel_rfl
theorem sz_api_Block : Try.prog.cellsOf 103 = 68 := by kernel_rfl
theorem fl_api_Block_0 {w : World} {cs : List Value} {d : DataW H} (h : Rd enc Try.prog w 103 cs d) : Rd enc Try.prog w 32 ((cs.drop 0).take 67) (fld 0 d) := h.fl Try.underlying103 0 rfl rfl (by kernel_rfl) rfl
theorem fl_api_Block_1 {w : World} {cs : List Value} {d : DataW H} (h : Rd enc Try.prog w 103 cs d) : Rd enc Try.prog w 34 ((cs.drop 67).take 1) (fld 1 d) := h.fl Try.underlying103 1 rfl rfl (by kernel_rfl) rfl
theorem len_api_Block {w : World} {cs : List Value} {d : DataW H} (h : Rd enc Try.prog w 103 cs d) : cs.length = 68 := (h.struct Try.underlying103).1.trans sz_api_Block
theorem hs_api_Block {w : World} {cs : List Value} {d : DataW H} (h : Rd enc Try.prog w 103 cs d) : (Try.prog.info? 103).map (·.size) = some cs.length := by rw [len_api_Block h]; kernel_rfl
theorem sz_api_Diff : Try.prog.cellsOf 106 = 5 := by kernel_rfl
theorem fl_api_Diff_0 {w : World} {cs : List Value} {d : DataW H} (h : Rd enc Try.prog w 106 cs d) : Rd enc Try.prog w 28 ((cs.drop 0).take 1) (fld 0 d) := h.fl Try.underlying106 0 rfl rfl (by kernel_rfl) rfl
theorem fl_api_Diff_1 {w : World} {cs : List Value} {d : DataW H} (h : Rd enc Try.prog w 106 cs d) : Rd enc Try.prog w 28 ((cs.drop 1).take 1) (fld 1 d) := h.fl Try.underlying106 1 rfl rfl (by kernel_rfl) rfl
theorem fl_api_Diff_2 {w : World} {cs : List Value} {d : DataW H} (h : Rd enc Try.prog w 106 cs d) : Rd enc Try.prog w 2 ((cs.drop 2).take 1) (fld 2 d) := h.fl Try.underlying106 2 rfl rfl (by kernel_rfl) rfl
theorem fl_api_Diff_3 {w : World} {cs : List Value} {d : DataW H} (h : Rd enc Try.prog w 106 cs d) : Rd enc Try.prog w 2 ((cs.drop 3).take 1) (fld 3 d) := h.fl Try.underlying106 3 rfl rfl (by kernel_rfl) rfl
theorem fl_api_Diff_4 {w : World} {cs : List Value} {d : DataW H} (h : Rd enc Try.prog w 106 cs d) : Rd enc Try.prog w 33 ((cs.drop 4).take 1) (fld 4 d) := h.fl Try.underlying106 4 rfl rfl (by kernel_rfl) rfl
theorem len_api_Diff {w : World} {cs : List Value} {d : DataW H} (h : Rd enc Try.prog w 106 cs d) : cs.length = 5 := (h.struct Try.underlying106).1.trans sz_api_Diff
theorem hs_api_Diff {w : World} {cs : List Value} {d : DataW H} (h : Rd enc Try.prog w 106 cs d) : (Try.prog.info? 106).map (·.size) = some cs.length := by rw [len_api_Diff h]; kernel_rfl
theorem sz_api_Stored : Try.prog.cellsOf 108 = 106 := by kernel_rfl
theorem fl_api_Stored_0 {w : World} {cs : List Value} {d : DataW H} (h : Rd enc Try.prog w 108 cs d) : Rd enc Try.prog w 27 ((cs.drop 0).take 32) (fld 0 d) := h.fl Try.underlying108 0 rfl rfl (by kernel_rfl) rfl
theorem fl_api_Stored_1 {w : World} {cs : List Value} {d : DataW H} (h : Rd enc Try.prog w 108 cs d) : Rd enc Try.prog w 103 ((cs.drop 32).take 68) (fld 1 d) := h.fl Try.underlying108 1 rfl rfl (by kernel_rfl) rfl
theorem fl_api_Stored_2 {w : World} {cs : List Value} {d : DataW H} (h : Rd enc Try.prog w 108 cs d) : Rd enc Try.prog w 104 ((cs.drop 100).take 1) (fld 2 d) := h.fl Try.underlying108 2 rfl rfl (by kernel_rfl) rfl
theorem fl_api_Stored_3 {w : World} {cs : List Value} {d : DataW H} (h : Rd enc Try.prog w 108 cs d) : Rd enc Try.prog w 106 ((cs.drop 101).take 5) (fld 3 d) := h.fl Try.underlying108 3 rfl rfl (by kernel_rfl) rfl
theorem len_api_Stored {w : World} {cs : List Value} {d : DataW H} (h : Rd enc Try.prog w 108 cs d) : cs.length = 106 := (h.struct Try.underlying108).1.trans sz_api_Stored
theorem hs_api_Stored {w : World} {cs : List Value} {d : DataW H} (h : Rd enc Try.prog w 108 cs d) : (Try.prog.info? 108).map (·.size) = some cs.length := by rw [len_api_Stored h]; kernel_rfl
theorem sz_api_Node : Try.prog.cellsOf 112 = 5 := by kernel_rfl
theorem fl_api_Node_0 {w : World} {cs : List Value} {d : DataW H} (h : Rd enc Try.prog w 112 cs d) : Rd enc Try.prog w 110 ((cs.drop 0).take 1) (fld 0 d) := h.fl Try.underlying112 0 rfl rfl (by kernel_rfl) rfl
theorem fl_api_Node_1 {w : World} {cs : List Value} {d : DataW H} (h : Rd enc Try.prog w 112 cs d) : Rd enc Try.prog w 2 ((cs.drop 1).take 1) (fld 1 d) := h.fl Try.underlying112 1 rfl rfl (by kernel_rfl) rfl
theorem fl_api_Node_2 {w : World} {cs : List Value} {d : DataW H} (h : Rd enc Try.prog w 112 cs d) : Rd enc Try.prog w 30 ((cs.drop 2).take 1) (fld 2 d) := h.fl Try.underlying112 2 rfl rfl (by kernel_rfl) rfl
theorem fl_api_Node_3 {w : World} {cs : List Value} {d : DataW H} (h : Rd enc Try.prog w 112 cs d) : Rd enc Try.prog w 9 ((cs.drop 3).take 1) (fld 3 d) := h.fl Try.underlying112 3 rfl rfl (by kernel_rfl) rfl
theorem fl_api_Node_4 {w : World} {cs : List Value} {d : DataW H} (h : Rd enc Try.prog w 112 cs d) : Rd enc Try.prog w 3 ((cs.drop 4).take 1) (fld 4 d) := h.fl Try.underlying112 4 rfl rfl (by kernel_rfl) rfl
theorem len_api_Node {w : World} {cs : List Value} {d : DataW H} (h : Rd enc Try.prog w 112 cs d) : cs.length = 5 := (h.struct Try.underlying112).1.trans sz_api_Node
theorem hs_api_Node {w : World} {cs : List Value} {d : DataW H} (h : Rd enc Try.prog w 112 cs d) : (Try.prog.info? 112).map (·.size) = some cs.length := by rw [len_api_Node h]; kernel_rfl
theorem sl_int64 {w : World} {v : Value} {d : DataW H} (h : Rd enc Try.prog w 113 [v] d) : ∃ (A : Option Addr) (n c b o : Nat), v = .slice A n c ∧ (els d).length = n ∧ n ≤ c ∧ c ≤ maxLen ∧ (0 < n → A = some ⟨b, o, none⟩) ∧ ∀ i, i < n → ∃ cs, cs.length = 1 ∧ w.rangeAt b (o + i * 1) cs ∧ Rd enc Try.prog w 2 cs ((els d).getD i .nil) := by
  have e : Try.prog.cellsOf 2 = 1 := by kernel_rfl
  have h' := h.sl Try.underlying113 (by rw [e]; decide)
  rwa [e] at h'
theorem sl_api_Ref {w : World} {v : Value} {d : DataW H} (h : Rd enc Try.prog w 119 [v] d) : ∃ (A : Option Addr) (n c b o : Nat), v = .slice A n c ∧ (els d).length = n ∧ n ≤ c ∧ c ≤ maxLen ∧ (0 < n → A = some ⟨b, o, none⟩) ∧ ∀ i, i < n → ∃ cs, cs.length = 33 ∧ w.rangeAt b (o + i * 33) cs ∧ Rd enc Try.prog w 38 cs ((els d).getD i .nil) := by
  have e : Try.prog.cellsOf 38 = 33 := by kernel_rfl
  have h' := h.sl Try.underlying119 (by rw [e]; decide)
  rwa [e] at h'
theorem sz_api_Body : Try.prog.cellsOf 121 = 40 := by kernel_rfl
theorem fl_api_Body_0 {w : World} {cs : List Value} {d : DataW H} (h : Rd enc Try.prog w 121 cs d) : Rd enc Try.prog w 119 ((cs.drop 0).take 1) (fld 0 d) := h.fl Try.underlying121 0 rfl rfl (by kernel_rfl) rfl
theorem fl_api_Body_1 {w : World} {cs : List Value} {d : DataW H} (h : Rd enc Try.prog w 121 cs d) : Rd enc Try.prog w 119 ((cs.drop 1).take 1) (fld 1 d) := h.fl Try.underlying121 1 rfl rfl (by kernel_rfl) rfl
theorem fl_api_Body_2 {w : World} {cs : List Value} {d : DataW H} (h : Rd enc Try.prog w 121 cs d) : Rd enc Try.prog w 70 ((cs.drop 2).take 1) (fld 2 d) := h.fl Try.underlying121 2 rfl rfl (by kernel_rfl) rfl
theorem fl_api_Body_3 {w : World} {cs : List Value} {d : DataW H} (h : Rd enc Try.prog w 121 cs d) : Rd enc Try.prog w 70 ((cs.drop 3).take 1) (fld 3 d) := h.fl Try.underlying121 3 rfl rfl (by kernel_rfl) rfl
theorem fl_api_Body_4 {w : World} {cs : List Value} {d : DataW H} (h : Rd enc Try.prog w 121 cs d) : Rd enc Try.prog w 2 ((cs.drop 4).take 1) (fld 4 d) := h.fl Try.underlying121 4 rfl rfl (by kernel_rfl) rfl
theorem fl_api_Body_5 {w : World} {cs : List Value} {d : DataW H} (h : Rd enc Try.prog w 121 cs d) : Rd enc Try.prog w 2 ((cs.drop 5).take 1) (fld 5 d) := h.fl Try.underlying121 5 rfl rfl (by kernel_rfl) rfl
theorem fl_api_Body_6 {w : World} {cs : List Value} {d : DataW H} (h : Rd enc Try.prog w 121 cs d) : Rd enc Try.prog w 2 ((cs.drop 6).take 1) (fld 6 d) := h.fl Try.underlying121 6 rfl rfl (by kernel_rfl) rfl
theorem fl_api_Body_7 {w : World} {cs : List Value} {d : DataW H} (h : Rd enc Try.prog w 121 cs d) : Rd enc Try.prog w 41 ((cs.drop 7).take 1) (fld 7 d) := h.fl Try.underlying121 7 rfl rfl (by kernel_rfl) rfl
theorem fl_api_Body_8 {w : World} {cs : List Value} {d : DataW H} (h : Rd enc Try.prog w 121 cs d) : Rd enc Try.prog w 27 ((cs.drop 8).take 32) (fld 8 d) := h.fl Try.underlying121 8 rfl rfl (by kernel_rfl) rfl
theorem len_api_Body {w : World} {cs : List Value} {d : DataW H} (h : Rd enc Try.prog w 121 cs d) : cs.length = 40 := (h.struct Try.underlying121).1.trans sz_api_Body
theorem hs_api_Body {w : World} {cs : List Value} {d : DataW H} (h : Rd enc Try.prog w 121 cs d) : (Try.prog.info? 121).map (·.size) = some cs.length := by rw [len_api_Body h]; kernel_rfl
theorem sl_api_Signature {w : World} {v : Value} {d : DataW H} (h : Rd enc Try.prog w 122 [v] d) : ∃ (A : Option Addr) (n c b o : Nat), v = .slice A n c ∧ (els d).length = n ∧ n ≤ c ∧ c ≤ maxLen ∧ (0 < n → A = some ⟨b, o, none⟩) ∧ ∀ i, i < n → ∃ cs, cs.length = 1 ∧ w.rangeAt b (o + i * 1) cs ∧ Rd enc Try.prog w 141 cs ((els d).getD i .nil) := by
  have e : Try.prog.cellsOf 141 = 1 := by kernel_rfl
  have h' := h.sl Try.underlying122 (by rw [e]; decide)
  rwa [e] at h'
theorem sl_api_Program {w : World} {v : Value} {d : DataW H} (h : Rd enc Try.prog w 123 [v] d) : ∃ (A : Option Addr) (n c b o : Nat), v = .slice A n c ∧ (els d).length = n ∧ n ≤ c ∧ c ≤ maxLen ∧ (0 < n → A = some ⟨b, o, none⟩) ∧ ∀ i, i < n → ∃ cs, cs.length = 2 ∧ w.rangeAt b (o + i * 2) cs ∧ Rd enc Try.prog w 161 cs ((els d).getD i .nil) := by
  have e : Try.prog.cellsOf 161 = 2 := by kernel_rfl
  have h' := h.sl Try.underlying123 (by rw [e]; decide)
  rwa [e] at h'
theorem sl_api_Term {w : World} {v : Value} {d : DataW H} (h : Rd enc Try.prog w 124 [v] d) : ∃ (A : Option Addr) (n c b o : Nat), v = .slice A n c ∧ (els d).length = n ∧ n ≤ c ∧ c ≤ maxLen ∧ (0 < n → A = some ⟨b, o, none⟩) ∧ ∀ i, i < n → ∃ cs, cs.length = 1 ∧ w.rangeAt b (o + i * 1) cs ∧ Rd enc Try.prog w 47 cs ((els d).getD i .nil) := by
  have e : Try.prog.cellsOf 47 = 1 := by kernel_rfl
  have h' := h.sl Try.underlying124 (by rw [e]; decide)
  rwa [e] at h'
theorem sl_api_Redeemer {w : World} {v : Value} {d : DataW H} (h : Rd enc Try.prog w 125 [v] d) : ∃ (A : Option Addr) (n c b o : Nat), v = .slice A n c ∧ (els d).length = n ∧ n ≤ c ∧ c ≤ maxLen ∧ (0 < n → A = some ⟨b, o, none⟩) ∧ ∀ i, i < n → ∃ cs, cs.length = 5 ∧ w.rangeAt b (o + i * 5) cs ∧ Rd enc Try.prog w 144 cs ((els d).getD i .nil) := by
  have e : Try.prog.cellsOf 144 = 5 := by kernel_rfl
  have h' := h.sl Try.underlying125 (by rw [e]; decide)
  rwa [e] at h'
theorem sz_api_Tx : Try.prog.cellsOf 127 = 45 := by kernel_rfl
theorem fl_api_Tx_0 {w : World} {cs : List Value} {d : DataW H} (h : Rd enc Try.prog w 127 cs d) : Rd enc Try.prog w 121 ((cs.drop 0).take 40) (fld 0 d) := h.fl Try.underlying127 0 rfl rfl (by kernel_rfl) rfl
theorem fl_api_Tx_1 {w : World} {cs : List Value} {d : DataW H} (h : Rd enc Try.prog w 127 cs d) : Rd enc Try.prog w 122 ((cs.drop 40).take 1) (fld 1 d) := h.fl Try.underlying127 1 rfl rfl (by kernel_rfl) rfl
theorem fl_api_Tx_2 {w : World} {cs : List Value} {d : DataW H} (h : Rd enc Try.prog w 127 cs d) : Rd enc Try.prog w 123 ((cs.drop 41).take 1) (fld 2 d) := h.fl Try.underlying127 2 rfl rfl (by kernel_rfl) rfl
theorem fl_api_Tx_3 {w : World} {cs : List Value} {d : DataW H} (h : Rd enc Try.prog w 127 cs d) : Rd enc Try.prog w 124 ((cs.drop 42).take 1) (fld 3 d) := h.fl Try.underlying127 3 rfl rfl (by kernel_rfl) rfl
theorem fl_api_Tx_4 {w : World} {cs : List Value} {d : DataW H} (h : Rd enc Try.prog w 127 cs d) : Rd enc Try.prog w 125 ((cs.drop 43).take 1) (fld 4 d) := h.fl Try.underlying127 4 rfl rfl (by kernel_rfl) rfl
theorem fl_api_Tx_5 {w : World} {cs : List Value} {d : DataW H} (h : Rd enc Try.prog w 127 cs d) : Rd enc Try.prog w 4 ((cs.drop 44).take 1) (fld 5 d) := h.fl Try.underlying127 5 rfl rfl (by kernel_rfl) rfl
theorem len_api_Tx {w : World} {cs : List Value} {d : DataW H} (h : Rd enc Try.prog w 127 cs d) : cs.length = 45 := (h.struct Try.underlying127).1.trans sz_api_Tx
theorem hs_api_Tx {w : World} {cs : List Value} {d : DataW H} (h : Rd enc Try.prog w 127 cs d) : (Try.prog.info? 127).map (·.size) = some cs.length := by rw [len_api_Tx h]; kernel_rfl
theorem sl_uint8 {w : World} {v : Value} {d : DataW H} (h : Rd enc Try.prog w 134 [v] d) : ∃ (A : Option Addr) (n c b o : Nat), v = .slice A n c ∧ (els d).length = n ∧ n ≤ c ∧ c ≤ maxLen ∧ (0 < n → A = some ⟨b, o, none⟩) ∧ ∀ i, i < n → ∃ cs, cs.length = 1 ∧ w.rangeAt b (o + i * 1) cs ∧ Rd enc Try.prog w 5 cs ((els d).getD i .nil) := by
  have e : Try.prog.cellsOf 5 = 1 := by kernel_rfl
  have h' := h.sl Try.underlying134 (by rw [e]; decide)
  rwa [e] at h'
theorem sl_api_Hash {w : World} {v : Value} {d : DataW H} (h : Rd enc Try.prog w 139 [v] d) : ∃ (A : Option Addr) (n c b o : Nat), v = .slice A n c ∧ (els d).length = n ∧ n ≤ c ∧ c ≤ maxLen ∧ (0 < n → A = some ⟨b, o, none⟩) ∧ ∀ i, i < n → ∃ cs, cs.length = 32 ∧ w.rangeAt b (o + i * 32) cs ∧ Rd enc Try.prog w 27 cs ((els d).getD i .nil) := by
  have e : Try.prog.cellsOf 27 = 32 := by kernel_rfl
  have h' := h.sl Try.underlying139 (by rw [e]; decide)
  rwa [e] at h'
theorem sz_api_Signature : Try.prog.cellsOf 141 = 1 := by kernel_rfl
theorem fl_api_Signature_0 {w : World} {cs : List Value} {d : DataW H} (h : Rd enc Try.prog w 141 cs d) : Rd enc Try.prog w 139 ((cs.drop 0).take 1) (fld 0 d) := h.fl Try.underlying141 0 rfl rfl (by kernel_rfl) rfl
theorem len_api_Signature {w : World} {cs : List Value} {d : DataW H} (h : Rd enc Try.prog w 141 cs d) : cs.length = 1 := (h.struct Try.underlying141).1.trans sz_api_Signature
theorem hs_api_Signature {w : World} {cs : List Value} {d : DataW H} (h : Rd enc Try.prog w 141 cs d) : (Try.prog.info? 141).map (·.size) = some cs.length := by rw [len_api_Signature h]; kernel_rfl
theorem sz_api_Redeemer : Try.prog.cellsOf 144 = 5 := by kernel_rfl
theorem fl_api_Redeemer_0 {w : World} {cs : List Value} {d : DataW H} (h : Rd enc Try.prog w 144 cs d) : Rd enc Try.prog w 142 ((cs.drop 0).take 1) (fld 0 d) := h.fl Try.underlying144 0 rfl rfl (by kernel_rfl) rfl
theorem fl_api_Redeemer_1 {w : World} {cs : List Value} {d : DataW H} (h : Rd enc Try.prog w 144 cs d) : Rd enc Try.prog w 3 ((cs.drop 1).take 1) (fld 1 d) := h.fl Try.underlying144 1 rfl rfl (by kernel_rfl) rfl
theorem fl_api_Redeemer_2 {w : World} {cs : List Value} {d : DataW H} (h : Rd enc Try.prog w 144 cs d) : Rd enc Try.prog w 47 ((cs.drop 2).take 1) (fld 2 d) := h.fl Try.underlying144 2 rfl rfl (by kernel_rfl) rfl
theorem fl_api_Redeemer_3 {w : World} {cs : List Value} {d : DataW H} (h : Rd enc Try.prog w 144 cs d) : Rd enc Try.prog w 23 ((cs.drop 3).take 2) (fld 3 d) := h.fl Try.underlying144 3 rfl rfl (by kernel_rfl) rfl
theorem len_api_Redeemer {w : World} {cs : List Value} {d : DataW H} (h : Rd enc Try.prog w 144 cs d) : cs.length = 5 := (h.struct Try.underlying144).1.trans sz_api_Redeemer
theorem hs_api_Redeemer {w : World} {cs : List Value} {d : DataW H} (h : Rd enc Try.prog w 144 cs d) : (Try.prog.info? 144).map (·.size) = some cs.length := by rw [len_api_Redeemer h]; kernel_rfl
theorem sl_int {w : World} {v : Value} {d : DataW H} (h : Rd enc Try.prog w 156 [v] d) : ∃ (A : Option Addr) (n c b o : Nat), v = .slice A n c ∧ (els d).length = n ∧ n ≤ c ∧ c ≤ maxLen ∧ (0 < n → A = some ⟨b, o, none⟩) ∧ ∀ i, i < n → ∃ cs, cs.length = 1 ∧ w.rangeAt b (o + i * 1) cs ∧ Rd enc Try.prog w 3 cs ((els d).getD i .nil) := by
  have e : Try.prog.cellsOf 3 = 1 := by kernel_rfl
  have h' := h.sl Try.underlying156 (by rw [e]; decide)
  rwa [e] at h'
theorem sl_api_Instr {w : World} {v : Value} {d : DataW H} (h : Rd enc Try.prog w 159 [v] d) : ∃ (A : Option Addr) (n c b o : Nat), v = .slice A n c ∧ (els d).length = n ∧ n ≤ c ∧ c ≤ maxLen ∧ (0 < n → A = some ⟨b, o, none⟩) ∧ ∀ i, i < n → ∃ cs, cs.length = 4 ∧ w.rangeAt b (o + i * 4) cs ∧ Rd enc Try.prog w 170 cs ((els d).getD i .nil) := by
  have e : Try.prog.cellsOf 170 = 4 := by kernel_rfl
  have h' := h.sl Try.underlying159 (by rw [e]; decide)
  rwa [e] at h'
theorem sz_api_Program : Try.prog.cellsOf 161 = 2 := by kernel_rfl
theorem fl_api_Program_0 {w : World} {cs : List Value} {d : DataW H} (h : Rd enc Try.prog w 161 cs d) : Rd enc Try.prog w 3 ((cs.drop 0).take 1) (fld 0 d) := h.fl Try.underlying161 0 rfl rfl (by kernel_rfl) rfl
theorem fl_api_Program_1 {w : World} {cs : List Value} {d : DataW H} (h : Rd enc Try.prog w 161 cs d) : Rd enc Try.prog w 159 ((cs.drop 1).take 1) (fld 1 d) := h.fl Try.underlying161 1 rfl rfl (by kernel_rfl) rfl
theorem len_api_Program {w : World} {cs : List Value} {d : DataW H} (h : Rd enc Try.prog w 161 cs d) : cs.length = 2 := (h.struct Try.underlying161).1.trans sz_api_Program
theorem hs_api_Program {w : World} {cs : List Value} {d : DataW H} (h : Rd enc Try.prog w 161 cs d) : (Try.prog.info? 161).map (·.size) = some cs.length := by rw [len_api_Program h]; kernel_rfl
theorem sz_api_Instr : Try.prog.cellsOf 170 = 4 := by kernel_rfl
theorem fl_api_Instr_0 {w : World} {cs : List Value} {d : DataW H} (h : Rd enc Try.prog w 170 cs d) : Rd enc Try.prog w 168 ((cs.drop 0).take 1) (fld 0 d) := h.fl Try.underlying170 0 rfl rfl (by kernel_rfl) rfl
theorem fl_api_Instr_1 {w : World} {cs : List Value} {d : DataW H} (h : Rd enc Try.prog w 170 cs d) : Rd enc Try.prog w 2 ((cs.drop 1).take 1) (fld 1 d) := h.fl Try.underlying170 1 rfl rfl (by kernel_rfl) rfl
theorem fl_api_Instr_2 {w : World} {cs : List Value} {d : DataW H} (h : Rd enc Try.prog w 170 cs d) : Rd enc Try.prog w 30 ((cs.drop 2).take 1) (fld 2 d) := h.fl Try.underlying170 2 rfl rfl (by kernel_rfl) rfl
theorem fl_api_Instr_3 {w : World} {cs : List Value} {d : DataW H} (h : Rd enc Try.prog w 170 cs d) : Rd enc Try.prog w 47 ((cs.drop 3).take 1) (fld 3 d) := h.fl Try.underlying170 3 rfl rfl (by kernel_rfl) rfl
theorem len_api_Instr {w : World} {cs : List Value} {d : DataW H} (h : Rd enc Try.prog w 170 cs d) : cs.length = 4 := (h.struct Try.underlying170).1.trans sz_api_Instr
theorem hs_api_Instr {w : World} {cs : List Value} {d : DataW H} (h : Rd enc Try.prog w 170 cs d) : (Try.prog.info? 170).map (·.size) = some cs.length := by rw [len_api_Instr h]; kernel_rfl
end
end Go.Proofs.Ytjmkkndglmapaaa
