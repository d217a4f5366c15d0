/-
  Terms are the same just if their texts are, of those that have one: for every input.
-/
import Derived.Test.YtnppjkekbdapkaaDoorTxt
import Derived.Test.YtnppjkekbdapkaaDoorSam
set_option linter.unusedVariables false
namespace Go.Proofs.YtnppjkekbdapkaaDoor
open Go.RowKit

theorem place_at {l : List Nd} (hm : mayB l = true) {i : Nat} (h1 : i < l.length) : placeB l (i : Int) = true := by
  unfold placeB
  rw [decide_eq_true ⟨by omega, by omega⟩, hm]
  rfl
theorem size_nat {l : List Nd} (hm : mayB l = true) {i : Nat} (h1 : i < l.length) : sizeB l (i : Int) = szN l i := sizeB_yes (place_at hm h1)
theorem text_long {l : List Nd} (hm : mayB l = true) {i : Nat} (h1 : i < l.length) (h : 2000 < szN l i) : textB l (i : Int) = [] := if_pos (.inr (by rw [size_nat hm h1]; exact h))
theorem text_short {l : List Nd} (hm : mayB l = true) {i : Nat} (h1 : i < l.length) (h : ¬ 2000 < szN l i) : textB l (i : Int) = txN l i := if_neg (by
  rw [size_nat hm h1]
  have := (sz_range hm h1).1
  omega)
theorem str_toL (s : List UInt8) : (⟨s.toArray⟩ : ByteArray).toList = s := by simp
theorem str_ne {t : List UInt8} (h : 2 ≤ t.length) : (⟨t.toArray⟩ : ByteArray).toList.isEmpty = false := by
  rw [str_toL]
  cases t with
  | nil => simp at h
  | cons c t => rfl
theorem str_eq (s t : List UInt8) : ((⟨s.toArray⟩ : ByteArray).toList == (⟨t.toArray⟩ : ByteArray).toList) = decide (s = t) := by
  rw [str_toL, str_toL]
  by_cases h : s = t
  · rw [h, decide_eq_true rfl]
    simp
  · rw [decide_eq_false h, beq_eq_false_iff_ne]
    exact h
set_option maxHeartbeats 8000000 in
theorem termSame_walk (w : World) (a0 : Option Addr) (len0 cap0 : Nat) (l : List Nd) (hl : NdRow w a0 len0 cap0 l) (n : Int) (hn : (Lit.int .u8 n).wf = true) (m : Int) (hm0 : (Lit.int .u8 m).wf = true) (htab : Pow10 w) :
    Calls Tryd.prog 4 #[.slice a0 len0 cap0, .int .u8 n, .int .u8 m] w fun e w' => e = .returned (.bool true) ∧ Below w.heap.size w w' := by
  obtain ⟨hl1, rfl, hwf⟩ := hl
  have h1 : 0 ≤ n ∧ n ≤ 255 := by
    simp [Lit.wf, IntKind.min, IntKind.max, IntKind.signed, IntKind.bits] at hn
    omega
  have h2 : 0 ≤ m ∧ m ≤ 255 := by
    simp [Lit.wf, IntKind.min, IntKind.max, IntKind.signed, IntKind.bits] at hm0
    omega
  clear hn hm0
  have HL := Lib.hid hl1
  have HT := Lib.hid htab
  have HWF := Lib.hid hwf
  clear hl1 hwf htab
  have HSH : Hid (∀ W, Only (fun _ => False) w W → Calls Tryd.prog 8 #[] W fun e w' => e = .returned (.bool true) ∧ Only (fun _ => False) W w') := fun W o => shown_any W (HT.out.keep o)
  have HS0 := Lib.hid (HSH.out w (Only.refl _ w))
  have e1 : IntKind.i64.wrap n = n := IntWalk.i64_in _ (by omega)
  have e2 : IntKind.i64.wrap m = m := IntWalk.i64_in _ (by omega)
  by_cases g1 : 60 < l.length
  · have g1' : (60 : Int) < (l.length : Int) := by omega
    go_enter Tryd.func4, Tryd.ntmps4
    go_wp2_with (go_at_call 8; refine HS0.out.mono ?_; rintro e w1 ⟨rfl, h1⟩)
    go_ret
    exact ⟨rfl, h1.below (fun _ h => h.elim)⟩
  have g1' : ¬ (60 : Int) < (l.length : Int) := by omega
  have HM0 := Lib.hid (may_any l _ w HL.out (by omega))
  cases hm : mayB l
  · rw [hm] at HM0
    clear hm
    go_enter Tryd.func4, Tryd.ntmps4
    go_wp2_with (first | (go_at_call 7; (with_reducible refine HM0.out.mono ?_); rintro e w1 ⟨rfl, h1⟩; have HS1 := Lib.hid (HSH.out w1 (Only.of_below h1))) | (go_at_call 8; (with_reducible refine HS1.out.mono ?_); rintro e w2 ⟨rfl, h2⟩))
    go_ret
    exact ⟨rfl, ((Only.of_below (S := fun _ => False) h1).trans h2).below (fun _ h => h.elim)⟩
  have HMB := Lib.hid hm
  rw [hm] at HM0
  clear hm
  by_cases g3 : l.length = 0
  · have g3' : ((l.length : Int) == 0) = true := by simp [g3]
    clear g3
    go_enter Tryd.func4, Tryd.ntmps4
    go_wp2_with (first | (go_at_call 7; (with_reducible refine HM0.out.mono ?_); rintro e w1 ⟨rfl, h1⟩; have HS1 := Lib.hid (HSH.out w1 (Only.of_below h1))) | (go_at_call 8; (with_reducible refine HS1.out.mono ?_); rintro e w2 ⟨rfl, h2⟩))
    go_ret
    exact ⟨rfl, ((Only.of_below (S := fun _ => False) h1).trans h2).below (fun _ h => h.elim)⟩
  have g3' : ((l.length : Int) == 0) = false := by rw [beq_eq_false_iff_ne]; omega
  have g4 : ¬ (l.length : Int) = 0 := by omega
  obtain ⟨A, hAd⟩ : ∃ g : Nat, (g : Int) = n % (l.length : Int) := by
    obtain ⟨N, rfl⟩ := Int.eq_ofNat_of_zero_le h1.1
    exact ⟨N % l.length, by simp⟩
  obtain ⟨B, hBd⟩ : ∃ g : Nat, (g : Int) = m % (l.length : Int) := by
    obtain ⟨N, rfl⟩ := Int.eq_ofNat_of_zero_le h2.1
    exact ⟨N % l.length, by simp⟩
  have hA : A < l.length := by
    have := Int.emod_lt_of_pos n (show (0 : Int) < (l.length : Int) by omega)
    omega
  have hB : B < l.length := by
    have := Int.emod_lt_of_pos m (show (0 : Int) < (l.length : Int) by omega)
    omega
  have HAD := Lib.hid hAd
  have HBD := Lib.hid hBd
  clear hAd hBd
  have wA : wf64 (A : Int) := by rw [wf64_iff]; omega
  have wB : wf64 (B : Int) := by rw [wf64_iff]; omega
  obtain ⟨zA, hzA⟩ : ∃ z, szN l A = z := ⟨_, rfl⟩
  obtain ⟨zB, hzB⟩ : ∃ z, szN l B = z := ⟨_, rfl⟩
  obtain ⟨sA, hsA⟩ : ∃ s, s = (⟨(textB l (A : Int)).toArray⟩ : ByteArray) := ⟨_, rfl⟩
  obtain ⟨sB, hsB⟩ : ∃ s, s = (⟨(textB l (B : Int)).toArray⟩ : ByteArray) := ⟨_, rfl⟩
  have HTA : Hid (∀ W, Only (fun _ => False) w W → Calls Tryd.prog 10 #[.slice a0 l.length cap0, .int .i64 (A : Int)] W fun e w' => e = .returned (.string sA) ∧ Only (fun _ => False) W w') := fun W o => by
    have := text_any l (A : Int) _ W (HL.out.keep o) (by omega) wA (HT.out.keep o)
    rw [← hsA] at this
    exact this
  have HTB : Hid (∀ W, Only (fun _ => False) w W → Calls Tryd.prog 10 #[.slice a0 l.length cap0, .int .i64 (B : Int)] W fun e w' => e = .returned (.string sB) ∧ Only (fun _ => False) W w') := fun W o => by
    have := text_any l (B : Int) _ W (HL.out.keep o) (by omega) wB (HT.out.keep o)
    rw [← hsB] at this
    exact this
  have HZA : Hid (∀ W, Only (fun _ => False) w W → Calls Tryd.prog 9 #[.slice a0 l.length cap0, .int .i64 (A : Int)] W fun e w' => e = .returned (.int .i64 zA) ∧ Only (fun _ => False) W w') := fun W o => by
    have := size_any l (A : Int) _ W (HL.out.keep o) (by omega) wA (HT.out.keep o)
    rw [size_nat HMB.out hA, hzA] at this
    exact this
  have HZB : Hid (∀ W, Only (fun _ => False) w W → Calls Tryd.prog 9 #[.slice a0 l.length cap0, .int .i64 (B : Int)] W fun e w' => e = .returned (.int .i64 zB) ∧ Only (fun _ => False) W w') := fun W o => by
    have := size_any l (B : Int) _ W (HL.out.keep o) (by omega) wB (HT.out.keep o)
    rw [size_nat HMB.out hB, hzB] at this
    exact this
  go_enter Tryd.func4, Tryd.ntmps4
  go_upto_region 5 with (first | (go_at_call 7; (with_reducible refine HM0.out.mono ?_); rintro e w1 ⟨rfl, h1⟩; have HS1 := Lib.hid (HSH.out w1 (Only.of_below h1))) | (go_at_call 8; (with_reducible refine HS1.out.mono ?_); rintro e w2 ⟨rfl, h2⟩))
  have HO2 := Lib.hid ((Only.of_below (S := fun _ => False) h1).trans h2)
  clear h1 h2 HM0 HS1 HS0 HSH
  rw [← HAD.out, ← HBD.out]
  have HTA' := Lib.hid (HTA.out w2 HO2.out)
  by_cases cA : 2000 < zA
  · have hx : sA.toList.isEmpty = true := by rw [hsA, text_long HMB.out hA (by omega), str_toL]; rfl
    clear hsA hsB
    go_wp2_with (first | (go_at_call 10; (with_reducible refine HTA'.out.mono ?_); rintro e w3 ⟨rfl, k3⟩; have HTB' := Lib.hid (HTB.out w3 (HO2.out.trans k3))) | (go_at_call 10; (with_reducible refine HTB'.out.mono ?_); rintro e w4 ⟨rfl, k4⟩; have HZA' := Lib.hid (HZA.out w4 ((HO2.out.trans k3).trans k4))) | (go_at_call 9; (with_reducible refine HZA'.out.mono ?_); rintro e w5 ⟨rfl, k5⟩))
    go_ret
    exact ⟨rfl, (((HO2.out.trans k3).trans k4).trans k5).below (fun _ h => h.elim)⟩
  have tA := text_short HMB.out hA (by omega)
  obtain ⟨lA, lA2⟩ := sz_tx HMB.out A hA
  have hx : sA.toList.isEmpty = false := by rw [hsA, tA]; exact str_ne lA2
  by_cases cB : 2000 < zB
  · have hy : sB.toList.isEmpty = true := by rw [hsB, text_long HMB.out hB (by omega), str_toL]; rfl
    clear hsA hsB tA lA lA2
    go_wp2_with (first | (go_at_call 10; (with_reducible refine HTA'.out.mono ?_); rintro e w3 ⟨rfl, k3⟩; have HTB' := Lib.hid (HTB.out w3 (HO2.out.trans k3))) | (go_at_call 10; (with_reducible refine HTB'.out.mono ?_); rintro e w4 ⟨rfl, k4⟩; have HZA' := Lib.hid (HZA.out w4 ((HO2.out.trans k3).trans k4))) | (go_at_call 9; (with_reducible refine HZA'.out.mono ?_); rintro e w5 ⟨rfl, k5⟩; have HZB' := Lib.hid (HZB.out w5 (((HO2.out.trans k3).trans k4).trans k5))) | (go_at_call 9; (with_reducible refine HZB'.out.mono ?_); rintro e w6 ⟨rfl, k6⟩))
    go_ret
    exact ⟨rfl, ((((HO2.out.trans k3).trans k4).trans k5).trans k6).below (fun _ h => h.elim)⟩
  have tB := text_short HMB.out hB (by omega)
  obtain ⟨lB, lB2⟩ := sz_tx HMB.out B hB
  have hy : sB.toList.isEmpty = false := by rw [hsB, tB]; exact str_ne lB2
  obtain ⟨r, hr⟩ : ∃ r, decide (cl l A = cl l B) = r := ⟨_, rfl⟩
  have hss : (sA.toList == sB.toList) = r := by
    rw [hsA, hsB, tA, tB, str_eq, ← hr]
    exact decide_eq_decide.2 (tx_cl HMB.out hA hB)
  have hsz : (sA.size : Int) = zA := by
    rw [hsA, tA]
    show (((txN l A).toArray.size : Nat) : Int) = zA
    rw [List.size_toArray, ← hzA]
    omega
  have HSAB : Hid (∀ W, Only (fun _ => False) w W → Calls Tryd.prog 11 #[.slice a0 l.length cap0, .int .i64 (A : Int), .int .i64 (B : Int)] W fun e w' => e = .returned (.bool r) ∧ Only (fun _ => False) W w') := fun W o => by
    have := same_any l (A : Int) (B : Int) _ W (HL.out.keep o) (by omega) HWF.out wA wB
    have e : sameB l (A : Int) (B : Int) = r := by unfold sameB; rw [place_at HMB.out hA, place_at HMB.out hB, ← hr]; rfl
    rw [e] at this
    exact this
  have HSAA : Hid (∀ W, Only (fun _ => False) w W → Calls Tryd.prog 11 #[.slice a0 l.length cap0, .int .i64 (A : Int), .int .i64 (A : Int)] W fun e w' => e = .returned (.bool true) ∧ Only (fun _ => False) W w') := fun W o => by
    have := same_any l (A : Int) (A : Int) _ W (HL.out.keep o) (by omega) HWF.out wA wA
    have e : sameB l (A : Int) (A : Int) = true := by unfold sameB; rw [place_at HMB.out hA]; simp
    rw [e] at this
    exact this
  clear hsA hsB tA lA lA2 tB lB lB2 hr
  go_wp2_with (first | (go_at_call 10; (with_reducible refine HTA'.out.mono ?_); rintro e w3 ⟨rfl, k3⟩; have HTB' := Lib.hid (HTB.out w3 (HO2.out.trans k3))) | (go_at_call 10; (with_reducible refine HTB'.out.mono ?_); rintro e w4 ⟨rfl, k4⟩; have HSAB' := Lib.hid (HSAB.out w4 ((HO2.out.trans k3).trans k4))) | (go_at_call 11; (with_reducible refine HSAB'.out.mono ?_); rintro e w5 ⟨rfl, k5⟩; have HZA' := Lib.hid (HZA.out w5 (((HO2.out.trans k3).trans k4).trans k5))) | (go_at_call 9; (with_reducible refine HZA'.out.mono ?_); rintro e w6 ⟨rfl, k6⟩; have HSAA' := Lib.hid (HSAA.out w6 ((((HO2.out.trans k3).trans k4).trans k5).trans k6))) | (go_at_call 11; (with_reducible refine HSAA'.out.mono ?_); rintro e w7 ⟨rfl, k7⟩))
  go_ret
  exact ⟨rfl, (((((HO2.out.trans k3).trans k4).trans k5).trans k6).trans k7).below (fun _ h => h.elim)⟩
end Go.Proofs.YtnppjkekbdapkaaDoor
