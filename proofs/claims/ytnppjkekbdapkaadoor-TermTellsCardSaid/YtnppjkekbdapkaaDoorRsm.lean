/-
  The reference: place, Same.
-/
import Derived.Test.YtnppjkekbdapkaaDoorRcw
import Derived.Deep.CutBlock
set_option linter.unusedVariables false
namespace Go.Proofs.YtnppjkekbdapkaaDoor
open Go.RowKit

def placeB (l : List Nd) (i : Int) : Bool := decide (0 ≤ i ∧ i < (l.length : Int)) && mayB l
theorem placeB_yes {l : List Nd} {i : Int} (h : placeB l i = true) : 0 ≤ i ∧ i < (l.length : Int) ∧ mayB l = true := by
  unfold placeB at h
  rw [Bool.and_eq_true, decide_eq_true_iff] at h
  exact ⟨h.1.1, h.1.2, h.2⟩
set_option maxHeartbeats 4000000 in
theorem rplace_any (l : List Nd) (i : Int) (v : Value) (w : World) (hl : NL w v l) (hi : wf64 i) : Calls Tryd.prog 31 #[v, .int .i64 i] w fun e w' => e = .returned (.bool (placeB l i)) ∧ Only (fun _ => False) w w' := by
  have HM := Lib.hid (rmay_any l v w hl)
  rw [wf64_iff] at hi
  obtain ⟨ad, cap, rfl, hrow⟩ := hl
  clear hrow
  unfold placeB
  cases hm : mayB l
  · rw [hm] at HM
    rw [Bool.and_false]
    clear hm
    go_enter Tryd.func31, Tryd.ntmps31
    go_wp2_with (go_at_call 14; refine HM.out.mono ?_; rintro e w1 ⟨rfl, k1⟩)
    go_ret
    exact ⟨rfl, k1⟩
  · rw [hm] at HM
    rw [Bool.and_true]
    clear hm
    by_cases h0 : 0 ≤ i
    · by_cases h1 : i < (l.length : Int)
      · rw [decide_eq_true ⟨h0, h1⟩]
        go_enter Tryd.func31, Tryd.ntmps31
        go_wp2_with (go_at_call 14; refine HM.out.mono ?_; rintro e w1 ⟨rfl, k1⟩)
        go_ret
        exact ⟨rfl, k1⟩
      · rw [decide_eq_false (fun h => h1 h.2)]
        have h1d : decide (i < (l.length : Int)) = false := decide_eq_false h1
        go_enter Tryd.func31, Tryd.ntmps31
        go_wp2_with (go_at_call 14; refine HM.out.mono ?_; rintro e w1 ⟨rfl, k1⟩)
        go_ret
        exact ⟨by first | rfl | (rw [← h1d]; rfl), k1⟩
    · rw [decide_eq_false (fun h => h0 h.1)]
      go_enter Tryd.func31, Tryd.ntmps31
      go_wp2_with (go_at_call 14; refine HM.out.mono ?_; rintro e w1 ⟨rfl, k1⟩)
      go_ret
      exact ⟨rfl, k1⟩
def sameB (l : List Nd) (i j : Int) : Bool := placeB l i && placeB l j && decide (cl l i.toNat = cl l j.toNat)
set_option maxHeartbeats 4000000 in
theorem rsame_any (l : List Nd) (i j : Int) (v : Value) (w : World) (hl : NL w v l) (hi : wf64 i) (hj : wf64 j) : Calls Tryd.prog 17 #[v, .int .i64 i, .int .i64 j] w fun e w' => e = .returned (.bool (sameB l i j)) ∧ Only (fun _ => False) w w' := by
  have HL := Lib.hid hl
  have HP1 := Lib.hid (rplace_any l i v w hl hi)
  have HP2 := Lib.hid (fun W (o : Only (fun _ => False) w W) => rplace_any l j v W (hl.keep o) hj)
  obtain ⟨ad, cap, rfl, hrow⟩ := hl
  clear hrow
  cases h1 : placeB l i
  · have HS : Hid (sameB l i j = false) := show _ = _ by unfold sameB; rw [h1]; rfl
    rw [h1] at HP1
    rw [HS.out]
    clear h1
    go_enter Tryd.func17, Tryd.ntmps17
    go_wp2_with (go_at_call 31; refine HP1.out.mono ?_; rintro e w1 ⟨rfl, k1⟩)
    go_ret
    exact ⟨rfl, k1⟩
  · cases h2 : placeB l j
    · have HS : Hid (sameB l i j = false) := show _ = _ by unfold sameB; rw [h1, h2]; rfl
      rw [h1] at HP1
      rw [h2] at HP2
      rw [HS.out]
      clear h1 h2
      go_enter Tryd.func17, Tryd.ntmps17
      go_wp2_with (first | (go_at_call 31; (with_reducible refine HP1.out.mono ?_); rintro e w1 ⟨rfl, k1⟩; have HP3 := Lib.hid (HP2.out _ k1)) | (go_at_call 31; refine HP3.out.mono ?_; rintro e w2 ⟨rfl, k2⟩))
      go_ret
      exact ⟨rfl, k1.trans k2⟩
    · obtain ⟨i0, i1, hm⟩ := placeB_yes h1
      obtain ⟨j0, j1, _⟩ := placeB_yes h2
      have HMB := Lib.hid hm
      obtain ⟨I, rfl⟩ := Int.eq_ofNat_of_zero_le i0
      obtain ⟨J, rfl⟩ := Int.eq_ofNat_of_zero_le j0
      have hI : I < l.length := by omega
      have hJ : J < l.length := by omega
      have HS : Hid (sameB l (I : Int) (J : Int) = decide (cl l I = cl l J)) := show _ = _ by unfold sameB; rw [h1, h2]; rfl
      rw [h1] at HP1
      rw [h2] at HP2
      rw [HS.out]
      obtain ⟨r, hr⟩ : ∃ r, decide (cl l I = cl l J) = r := ⟨_, rfl⟩
      rw [hr]
      have HRR := Lib.hid hr
      clear h1 h2 hm hr HS
      go_enter Tryd.func17, Tryd.ntmps17
      go_upto_region 4 with (first | (go_at_call 31; (with_reducible refine HP1.out.mono ?_); rintro e w1 ⟨rfl, k1⟩; have HP3 := Lib.hid (HP2.out _ k1)) | (go_at_call 31; (with_reducible refine HP3.out.mono ?_); rintro e w2 ⟨rfl, k2⟩; have HC := Lib.hid (rclasses_any l _ w2 (HL.out.keep (k1.trans k2)) HMB.out)) | (go_at_call 33; refine HC.out.mono ?_; rintro e w3 ⟨cv, rfl, hf, k3⟩))
      have HO := Lib.hid ((k1.trans k2).trans k3)
      have HF := Lib.hid hf
      have zI : I < (firsts l).length := by rw [firsts_len]; exact hI
      have zJ : J < (firsts l).length := by rw [firsts_len]; exact hJ
      have zI' : (I : Int) < ((firsts l).length : Int) := by omega
      have zJ' : (J : Int) < ((firsts l).length : Int) := by omega
      obtain ⟨gf, fc, cur, rfl, _, _, _, hdrop⟩ := hf.at zI
      have qI := HF.out.cell rfl zI
      have qJ := HF.out.cell rfl zJ
      have eI : (firsts l).getD I 0 = cl l I := rfl
      have eJ : (firsts l).getD J 0 = cl l J := rfl
      rw [eI] at qI
      rw [eJ] at qJ
      clear hdrop eI eJ hf k1 k2 k3 HC HP1 HP2 HP3
      generalize cl l I = cI at *
      generalize cl l J = cJ at *
      by_cases hc : cI = cJ
      · subst hc
        obtain rfl : r = true := by rw [← HRR.out]; simp
        go_wp2_with fail
        go_quiet (fail)
        go_wp2_with fail
        go_ret
        exact ⟨rfl, HO.out.drewN _⟩
      · obtain rfl : r = false := by rw [← HRR.out]; exact decide_eq_false hc
        have hc1 : (cI == cJ) = false := by rw [beq_eq_false_iff_ne]; exact hc
        clear hc
        go_wp2_with fail
        go_quiet (fail)
        go_wp2_with fail
        go_ret
        exact ⟨rfl, HO.out.drewN _⟩
end Go.Proofs.YtnppjkekbdapkaaDoor
