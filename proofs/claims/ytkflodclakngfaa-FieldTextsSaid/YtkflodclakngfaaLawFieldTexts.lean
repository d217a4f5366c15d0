/-
  FieldTexts: the walk of the law.
-/
import Derived.Test.YtkflodclakngfaaKey
import Derived.Test.YtkflodclakngfaaLawFieldNumbers
import Derived.Deep.WholeRow
set_option linter.unusedVariables false
namespace Go.Proofs.Ytkflodclakngfaa
open Go.RowKit

set_option maxHeartbeats 4000000 in
theorem fieldTexts_walk (w : World) (t : ByteArray) (ht : t.size ≤ 140737488351232) (s : ByteArray) (hs : s.size ≤ 140737488351232) :
    Calls Try.prog 5 #[.string t, .string s] w fun e w' => e = .returned (.bool true) ∧ Below w.heap.size w w' := by
  by_cases h1 : 3000 < s.size
  · have hd : decide ((3000 : Int) < (s.size : Int)) = true := decide_eq_true (by omega)
    go_enter Try.func5, Try.ntmps5
    go_wp2_with fail
    refine (shown_ok _).mono ?_
    rintro e w3 ⟨rfl, h3⟩
    go_wp2_with fail
    go_ret
    exact ⟨rfl, h3⟩
  by_cases h2 : 3000 < t.size
  · have hd : decide ((3000 : Int) < (s.size : Int)) = false := decide_eq_false (by omega)
    have hd2 : decide ((3000 : Int) < (t.size : Int)) = true := decide_eq_true (by omega)
    go_enter Try.func5, Try.ntmps5
    go_wp2_with fail
    refine (shown_ok _).mono ?_
    rintro e w3 ⟨rfl, h3⟩
    go_wp2_with fail
    go_ret
    exact ⟨rfl, h3⟩
  have hkey := Lib.hid (fun W => key_self (tyK s) (tyK_len s) W)
  go_enter Try.func5, Try.ntmps5
  go_wp2_with fail
  refine (shown_ok _).mono ?_
  rintro e w3 ⟨rfl, h3⟩
  go_wp2_with fail
  refine (text_any t _ (by omega)).mono ?_
  rintro e w4 ⟨rfl, h4⟩
  have b4 := below2 h3 h4
  unfold v2
  go_wp2_with fail
  refine (rtext_any t _ (by omega)).mono ?_
  rintro e w5 ⟨rfl, h5⟩
  have b5 := below2 b4 h5
  unfold v2
  go_wp2_with fail
  refine (taketext_any s _ hs).mono ?_
  rintro e w6 ⟨rfl, h6⟩
  have b6 := below2 b5 h6
  unfold v3
  go_wp2_with fail
  refine (rtaketext_any s _ hs).mono ?_
  rintro e w7 ⟨rfl, h7⟩
  have b7 := below2 b6 h7
  unfold v3
  go_wp2_with fail
  refine (key_any s _ hs).mono ?_
  rintro e w8 ⟨rfl, h8⟩
  have b8 := below2 b7 h8
  have HK := Lib.hid (kyC_size (tyK_len s))
  have HO := Lib.hid (kyC_one (tyK s))
  have st : ∀ W : World, Hid ((storeVar 39 ⟨W.heap.size, 0, none⟩ (.agg (kyC (tyK s)))).run Try.prog (W.alloc (.cells ky0 39)) = .ok () (W.alloc (.cells (kyC (tyK s)) 39))) := by
    intro W
    have := storeVar_at (P := Try.prog) (W.alloc (.cells ky0 39)) W.heap.size 0 39 39 ky0 (kyC (tyK s)) 16 (heap_alloc_new W _) info39s HK.out (by decide) HO.out
    rw [splice_all (by rw [HK.out]; rfl), World.setRow_alloc_new] at this
    exact this
  have hc := fun W => rkey_any s W hs
  have HC := Lib.hid hc
  have hty : tyV s = .tuple #[.agg (kyC (tyK s)), .string (tyR s), .int .i64 (tyE s)] := rfl
  have HV := Lib.hid hty
  clear hty hc
  generalize kyC (tyK s) = K at *
  have S8 := st w8
  rw [HV.out]
  go_wp2_with (refine wpList_store_at rfl 39 (.tmp 15) (.tmp 59) rfl _ rfl _ rfl S8.out ?_)
  have b8' := below_alloc b8 (Nat.le_refl _) (.cells K 39)
  have hg8 : (w8.alloc (.cells K 39)).heap[w8.heap.size]? = some (.cells K 39 (0, 0)) := heap_alloc_new w8 _
  have HG8 := Lib.hid hg8
  clear hg8
  refine (HC.out _).mono ?_
  rintro e w9 ⟨rfl, h9⟩
  have b9 := below2 b8' h9
  have hl15 : (w9.alloc (.cells K 39)).heap[w8.heap.size]? = some (.cells K 39 (0, 0)) := by
    rw [Below.heap_alloc _ _ _ (by have := h9.size; simp at this; omega), h9.block _ (by simp)]
    exact HG8.out
  have hl18 : (w9.alloc (.cells K 39)).heap[w9.heap.size]? = some (.cells K 39 (0, 0)) := heap_alloc_new w9 _
  have L15 := Lib.hid (run_loadVar_row (P := Try.prog) _ w8.heap.size 39 39 K (0, 0) _ hl15 Try.underlying39 rfl (by rw [info39s, HK.out]))
  have L18 := Lib.hid (run_loadVar_row (P := Try.prog) _ w9.heap.size 39 39 K (0, 0) _ hl18 Try.underlying39 rfl (by rw [info39s, HK.out]))
  clear hl15 hl18
  rw [HV.out]
  have S9 := st w9
  have hk := hkey.out (w9.alloc (.cells K 39))
  go_wp2_with (first | (refine wpList_store_at rfl 39 (.tmp 18) (.tmp 65) rfl _ rfl _ rfl S9.out ?_) | (refine wpList_load_w (by rfl) 39 (.tmp 15) rfl _ rfl _ L15.out ?_) | (refine wpList_load_w (by rfl) 39 (.tmp 18) rfl _ rfl _ L18.out ?_))
  go_ret
  exact ⟨rfl, below_alloc b9 (Nat.le_refl _) _⟩
end Go.Proofs.Ytkflodclakngfaa
