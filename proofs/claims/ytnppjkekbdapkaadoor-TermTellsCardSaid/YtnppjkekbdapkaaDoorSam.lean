/-
  Same.
-/
import Derived.Test.YtnppjkekbdapkaaDoorCls
set_option linter.unusedVariables false
namespace Go.Proofs.YtnppjkekbdapkaaDoor
open Go.RowKit

set_option maxHeartbeats 4000000 in
theorem same_any (l : List Nd) (i j : Int) (v : Value) (w : World) (hl : NL w v l) (hlen : l.length ≤ 1000000) (hwf : ∀ x ∈ l, x.Wf) (hi : wf64 i) (hj : wf64 j) : Calls Tryd.prog 11 #[v, .int .i64 i, .int .i64 j] w fun e w' => e = .returned (.bool (sameB l i j)) ∧ Only (fun _ => False) w w' := by
  have HL := Lib.hid hl
  have HWF := Lib.hid hwf
  have HP1 : Hid (Calls Tryd.prog 21 #[v, .int .i64 i] w fun e w' => e = .returned (.bool (placeB l i)) ∧ Only (fun _ => False) w w') := place_any l i v w hl hlen hi
  have HP2 : Hid (∀ W, Only (fun _ => False) w W → Calls Tryd.prog 21 #[v, .int .i64 j] W fun e w' => e = .returned (.bool (placeB l j)) ∧ Only (fun _ => False) W w') := fun W o => place_any l j v W (hl.keep o) hlen hj
  obtain ⟨ad, cap, rfl, hrow⟩ := hl
  clear hrow hwf
  cases h1 : placeB l i
  · have HS : Hid (sameB l i j = false) := show _ = _ by unfold sameB; rw [h1]; rfl
    rw [h1] at HP1
    rw [HS.out]
    clear h1
    go_enter Tryd.func11, Tryd.ntmps11
    go_wp2_with (go_at_call 21; refine HP1.out.mono ?_; rintro e w1 ⟨rfl, k1⟩)
    go_ret
    exact ⟨rfl, k1⟩
  · cases h2 : placeB l j
    · have HS : Hid (sameB l i j = false) := show _ = _ by unfold sameB; rw [h1, h2]; rfl
      rw [h1] at HP1
      rw [h2] at HP2
      rw [HS.out]
      clear h1 h2
      go_enter Tryd.func11, Tryd.ntmps11
      go_wp2_with (first | (go_at_call 21; (with_reducible refine HP1.out.mono ?_); rintro e w1 ⟨rfl, k1⟩; have HP3 := Lib.hid (HP2.out _ k1)) | (go_at_call 21; refine HP3.out.mono ?_; rintro e w2 ⟨rfl, k2⟩))
      go_ret
      exact ⟨rfl, k1.trans k2⟩
    · obtain ⟨i0, i1, hm⟩ := placeB_yes h1
      obtain ⟨j0, j1, _⟩ := placeB_yes h2
      have HMB := Lib.hid hm
      obtain ⟨I, rfl⟩ := Int.eq_ofNat_of_zero_le i0
      obtain ⟨J, rfl⟩ := Int.eq_ofNat_of_zero_le j0
      have hI : I < l.length := by omega
      have hJ : J < l.length := by omega
      have HS : Hid (sameB l (I : Int) (J : Int) = decide (cl l I = cl l J)) := show _ = _ by unfold sameB; rw [h1, h2]; rfl
      rw [h1] at HP1
      rw [h2] at HP2
      rw [HS.out]
      obtain ⟨r, hr⟩ : ∃ r, decide (cl l I = cl l J) = r := ⟨_, rfl⟩
      rw [hr]
      have HRR := Lib.hid hr
      clear h1 h2 hm hr HS
      go_enter Tryd.func11, Tryd.ntmps11
      go_upto_region 4 with (first | (go_at_call 21; (with_reducible refine HP1.out.mono ?_); rintro e w1 ⟨rfl, k1⟩; have HP3 := Lib.hid (HP2.out _ k1)) | (go_at_call 21; (with_reducible refine HP3.out.mono ?_); rintro e w2 ⟨rfl, k2⟩; have HC := Lib.hid (classes_any l _ w2 (HL.out.keep (k1.trans k2)) HMB.out HWF.out)) | (go_at_call 26; refine HC.out.mono ?_; rintro e w3 ⟨cv, rfl, hf, k3⟩))
      have HO := Lib.hid ((k1.trans k2).trans k3)
      have HF := Lib.hid hf
      have zI : I < (firsts l).length := by rw [firsts_len]; exact hI
      have zJ : J < (firsts l).length := by rw [firsts_len]; exact hJ
      have zI' : (I : Int) < ((firsts l).length : Int) := by omega
      have zJ' : (J : Int) < ((firsts l).length : Int) := by omega
      obtain ⟨gf, fo, fc, rfl, _, _, qI⟩ := hf.at zI
      obtain ⟨gf', fo', fc', he, _, _, qJ⟩ := HF.out.at zJ
      cases he
      have eI : (firsts l)[I] = cl l I := Option.some.inj ((List.getElem?_eq_getElem zI).symm.trans (firsts_at hI))
      have eJ : (firsts l)[J] = cl l J := Option.some.inj ((List.getElem?_eq_getElem zJ).symm.trans (firsts_at hJ))
      rw [eI] at qI
      rw [eJ] at qJ
      clear eI eJ hf k1 k2 k3 HC HP1 HP2 HP3
      generalize cl l I = cI at *
      generalize cl l J = cJ at *
      by_cases hc : cI = cJ
      · subst hc
        obtain rfl : r = true := by rw [← HRR.out]; simp
        go_wp2_with fail
        go_quiet (fail)
        go_wp2_with fail
        go_ret
        exact ⟨rfl, HO.out.drewN _⟩
      · obtain rfl : r = false := by rw [← HRR.out]; exact decide_eq_false hc
        have hc1 : (cI == cJ) = false := by rw [beq_eq_false_iff_ne]; exact hc
        clear hc
        go_wp2_with fail
        go_quiet (fail)
        go_wp2_with fail
        go_ret
        exact ⟨rfl, HO.out.drewN _⟩
end Go.Proofs.YtnppjkekbdapkaaDoor
