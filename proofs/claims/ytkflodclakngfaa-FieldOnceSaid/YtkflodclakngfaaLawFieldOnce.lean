/-
  FieldOnce: the walk of the law.
-/
import Derived.Test.YtkflodclakngfaaLawFieldLists
import Derived.Test.YtkflodclakngfaaOnce
set_option linter.unusedVariables false
namespace Go.Proofs.Ytkflodclakngfaa
open Go.RowKit

theorem self_beq (s : ByteArray) : (s.toList == s.toList) = true := by simp

set_option maxHeartbeats 2000000 in
theorem once_text (s : ByteArray) (w : World) (hs : s.size ≤ 140737488351232) (h : ttE s = 0) :
    Calls Try.prog 15 #[.string (ttX s)] w fun e w' => e = .returned (.tuple #[.string (pre (ttX s)), .int .i64 0]) ∧ Below w.heap.size w w' := by
  have hx := ttX_size s
  exact text_ok _ w (by omega) (by omega)

set_option maxHeartbeats 4000000 in
theorem fieldOnce_walk (w : World) (s : ByteArray) (hs : s.size ≤ 140737488351232) :
    Calls Try.prog 8 #[.string s] w fun e w' => e = .returned (.bool true) ∧ Below w.heap.size w w' := by
  by_cases h2 : 3000 < s.size
  · have hd2 : decide ((3000 : Int) < (s.size : Int)) = true := decide_eq_true (by omega)
    go_enter Try.func8, Try.ntmps8
    go_wp2_with fail
    refine (shown_ok _).mono ?_
    rintro e w3 ⟨rfl, h3⟩
    go_wp2_with fail
    go_ret
    exact ⟨rfl, h3⟩
  by_cases hE : (tl s).e = 0
  · obtain ⟨g1, g2, g3⟩ := tl_whole hE
    have hls := ls_ok _ g2 g3
    have HLS := Lib.hid hls
    have HE := Lib.hid hE
    have hsz : (listBytes (tl s).l).size + (tl s).r.size ≤ 3000 := by
      have := congrArg ByteArray.size g1
      rw [ByteArray.size_append] at this
      omega
    have hlen := tl_len s
    have hq : ((listBytes (tl s).l ++ (tl s).r).toList == s.toList) = true := by rw [← g1]; simp
    clear g1 hE hls g3
    generalize hB : listBytes (tl s).l = B at hsz hq
    have HB := Lib.hid hB
    clear hB
    go_enter Try.func8, Try.ntmps8
    go_wp2_with fail
    refine (shown_ok _).mono ?_
    rintro e w3 ⟨rfl, h3⟩
    go_wp2_with fail
    refine (takelist_any s _ hs).mono ?_
    rintro e w4 ⟨v, rfl, hv, h4⟩
    have b4 := below2 h3 h4
    rw [HE.out]
    have HV := Lib.hid hv
    clear hv
    go_wp2_with fail
    refine (list_any v (tl s).l _ HV.out (by omega)).mono ?_
    rintro e w5 ⟨rfl, h5⟩
    have b5 := below2 b4 h5
    rw [HLS.out, HB.out]
    unfold v2
    by_cases hT : ttE s = 0
    · obtain ⟨t1, t2⟩ := tt_whole hT
      have hT2 : (((pre (ttX s)) ++ ttR s).toList == s.toList) = true := by rw [← t1]; simp
      have ht3 : (pre (ttX s)).size + (ttR s).size ≤ 3000 := by
        have := congrArg ByteArray.size t1
        rw [ByteArray.size_append] at this
        omega
      have HT := Lib.hid hT
      clear t1 hT
      generalize hpe : pre (ttX s) = PX at hT2 ht3
      have HP := Lib.hid hpe
      clear hpe
      go_wp2_with fail
      refine (taketext_ok s _ hs HT.out).mono ?_
      rintro e w6 ⟨rfl, h6⟩
      have b6 := below2 b5 h6
      go_wp2_with fail
      refine (once_text s _ hs HT.out).mono ?_
      rintro e w7 ⟨rfl, h7⟩
      rw [HP.out]
      go_wp2_with fail
      go_ret
      exact ⟨rfl, below2 b6 h7⟩
    · obtain ⟨t1, t2⟩ := tt_nil hT
      have hne : (ttE s == 0) = false := by simpa using hT
      have hne' : (ttE s != 0) = true := by simpa using hT
      have T1 := Lib.hid t1
      have T2 := Lib.hid t2
      clear t1 t2
      go_wp2_with fail
      refine (taketext_any s _ hs).mono ?_
      rintro e w6 ⟨rfl, h6⟩
      rw [T1.out, T2.out]
      unfold v3
      go_wp2_with fail
      go_ret
      exact ⟨rfl, below2 b5 h6⟩
  · have hne : ((tl s).e == 0) = false := by simpa using hE
    have hne' : ((tl s).e != 0) = true := by simpa using hE
    go_enter Try.func8, Try.ntmps8
    go_wp2_with fail
    refine (shown_ok _).mono ?_
    rintro e w3 ⟨rfl, h3⟩
    go_wp2_with fail
    refine (takelist_any s _ hs).mono ?_
    rintro e w4 ⟨v, rfl, hv, h4⟩
    have b4 := below2 h3 h4
    clear hv
    generalize tl s = x at *
    by_cases hT : ttE s = 0
    · obtain ⟨t1, t2⟩ := tt_whole hT
      have hT2 : (((pre (ttX s)) ++ ttR s).toList == s.toList) = true := by rw [← t1]; simp
      have ht3 : (pre (ttX s)).size + (ttR s).size ≤ 3000 := by
        have := congrArg ByteArray.size t1
        rw [ByteArray.size_append] at this
        omega
      have HT := Lib.hid hT
      clear t1 hT
      generalize hpe : pre (ttX s) = PX at hT2 ht3
      have HP := Lib.hid hpe
      clear hpe
      go_wp2_with fail
      refine (taketext_ok s _ hs HT.out).mono ?_
      rintro e w6 ⟨rfl, h6⟩
      have b6 := below2 b4 h6
      go_wp2_with fail
      refine (once_text s _ hs HT.out).mono ?_
      rintro e w7 ⟨rfl, h7⟩
      rw [HP.out]
      go_wp2_with fail
      go_ret
      exact ⟨rfl, below2 b6 h7⟩
    · obtain ⟨t1, t2⟩ := tt_nil hT
      have hne : (ttE s == 0) = false := by simpa using hT
      have hne' : (ttE s != 0) = true := by simpa using hT
      have T1 := Lib.hid t1
      have T2 := Lib.hid t2
      clear t1 t2
      go_wp2_with fail
      refine (taketext_any s _ hs).mono ?_
      rintro e w6 ⟨rfl, h6⟩
      rw [T1.out, T2.out]
      unfold v3
      go_wp2_with fail
      go_ret
      exact ⟨rfl, below2 b4 h6⟩
end Go.Proofs.Ytkflodclakngfaa
