/-
  Whether any nodes may be, their texts, sizes and parts, and which are the same, is the document's: for every input.
-/
import Derived.Test.YtnppjkekbdapkaaDoorRtt
import Derived.Test.YtnppjkekbdapkaaDoorRpa
import Derived.Test.YtnppjkekbdapkaaDoorSam
import Derived.Test.YtnppjkekbdapkaaDoorPar
import Derived.Test.YtnppjkekbdapkaaDoorIts
set_option linter.unusedVariables false
namespace Go.Proofs.YtnppjkekbdapkaaDoor
open Go.RowKit

set_option maxHeartbeats 8000000 in
theorem termTells_walk (w : World) (a0 : Option Addr) (len0 cap0 : Nat) (l : List Nd) (hl : NdRow w a0 len0 cap0 l) (i : Int) (wi : (Lit.int .i64 i).wf = true) (j : Int) (wj : (Lit.int .i64 j).wf = true) (htab : Pow10 w) :
    Calls Tryd.prog 6 #[.slice a0 len0 cap0, .int .i64 i, .int .i64 j] w fun e w' => e = .returned (.bool true) ∧ Below w.heap.size w w' := by
  obtain ⟨hl1, rfl, hwf⟩ := hl
  have HL := Lib.hid hl1
  have HT := Lib.hid htab
  have HWF := Lib.hid hwf
  have HWI : Hid (wf64 i) := wi
  have HWJ : Hid (wf64 j) := wj
  clear hl1 htab hwf wi wj
  have HSH : Hid (∀ W, Only (fun _ => False) w W → Calls Tryd.prog 8 #[] W fun e w' => e = .returned (.bool true) ∧ Only (fun _ => False) W w') := fun W o => shown_any W (HT.out.keep o)
  have HS0 := Lib.hid (HSH.out w (Only.refl _ w))
  by_cases g1 : 250 < l.length
  · have g1' : (250 : Int) < (l.length : Int) := by omega
    go_enter Tryd.func6, Tryd.ntmps6
    go_wp2_with (go_at_call 8; refine HS0.out.mono ?_; rintro e w1 ⟨rfl, h1⟩)
    go_ret
    exact ⟨rfl, h1.below (fun _ h => h.elim)⟩
  have g1' : ¬ (250 : Int) < (l.length : Int) := by omega
  go_enter Tryd.func6, Tryd.ntmps6
  go_upto_region 3 with (go_at_call 8; (with_reducible refine HS0.out.mono ?_); rintro e w1 ⟨rfl, h1⟩)
  have HO1 := Lib.hid h1
  have HI := Lib.hid (its_any l _ w1 (HL.out.keep h1) (by omega))
  clear h1 HS0 HSH
  go_upto_region 4 with (go_at_call 13; (with_reducible refine HI.out.mono ?_); rintro e w2 ⟨rv, rfl, hr, h2⟩)
  have HR := Lib.hid hr
  have HO2 := Lib.hid (HO1.out.trans h2)
  clear hr h2 HI
  obtain ⟨bm, hbm⟩ : ∃ b, mayB l = b := ⟨_, rfl⟩
  obtain ⟨z, hz⟩ : ∃ z, sizeB l i = z := ⟨_, rfl⟩
  obtain ⟨s, hs⟩ : ∃ s, (⟨(textB l i).toArray⟩ : ByteArray) = s := ⟨_, rfl⟩
  obtain ⟨bs, hbs⟩ : ∃ b, sameB l i j = b := ⟨_, rfl⟩
  obtain ⟨ps, hps⟩ : ∃ p, (if placeB l i then partsN l i.toNat else []) = p := ⟨_, rfl⟩
  have A7 : Hid (∀ W, Only (fun _ => False) w2 W → Calls Tryd.prog 7 #[.slice a0 l.length cap0] W fun e w' => e = .returned (.bool bm) ∧ Only (fun _ => False) W w') := fun W o => by
    refine (may_any l _ W (HL.out.keep (HO2.out.trans o)) (by omega)).mono ?_
    rintro e w' ⟨rfl, h⟩
    exact ⟨by rw [hbm], Only.of_below h⟩
  have A14 : Hid (∀ W, Only (fun _ => False) w2 W → Calls Tryd.prog 14 #[rv] W fun e w' => e = .returned (.bool bm) ∧ Only (fun _ => False) W w') := fun W o => by
    have := rmay_any l _ W (HR.out.keep o)
    rw [hbm] at this
    exact this
  have A10 : Hid (∀ W, Only (fun _ => False) w2 W → Calls Tryd.prog 10 #[.slice a0 l.length cap0, .int .i64 i] W fun e w' => e = .returned (.string s) ∧ Only (fun _ => False) W w') := fun W o => by
    have := text_any l i _ W (HL.out.keep (HO2.out.trans o)) (by omega) HWI.out (HT.out.keep (HO2.out.trans o))
    rw [hs] at this
    exact this
  have A15 : Hid (∀ W, Only (fun _ => False) w2 W → Calls Tryd.prog 15 #[rv, .int .i64 i] W fun e w' => e = .returned (.string s) ∧ Only (fun _ => False) W w') := fun W o => by
    have := rtext_any l i _ W (HR.out.keep o) HWI.out
    rw [hs] at this
    exact this
  have A9 : Hid (∀ W, Only (fun _ => False) w2 W → Calls Tryd.prog 9 #[.slice a0 l.length cap0, .int .i64 i] W fun e w' => e = .returned (.int .i64 z) ∧ Only (fun _ => False) W w') := fun W o => by
    have := size_any l i _ W (HL.out.keep (HO2.out.trans o)) (by omega) HWI.out (HT.out.keep (HO2.out.trans o))
    rw [hz] at this
    exact this
  have A16 : Hid (∀ W, Only (fun _ => False) w2 W → Calls Tryd.prog 16 #[rv, .int .i64 i] W fun e w' => e = .returned (.int .i64 z) ∧ Only (fun _ => False) W w') := fun W o => by
    have := rsize_any l i _ W (HR.out.keep o) HWI.out
    rw [hz] at this
    exact this
  have A11 : Hid (∀ W, Only (fun _ => False) w2 W → Calls Tryd.prog 11 #[.slice a0 l.length cap0, .int .i64 i, .int .i64 j] W fun e w' => e = .returned (.bool bs) ∧ Only (fun _ => False) W w') := fun W o => by
    have := same_any l i j _ W (HL.out.keep (HO2.out.trans o)) (by omega) HWF.out HWI.out HWJ.out
    rw [hbs] at this
    exact this
  have A17 : Hid (∀ W, Only (fun _ => False) w2 W → Calls Tryd.prog 17 #[rv, .int .i64 i, .int .i64 j] W fun e w' => e = .returned (.bool bs) ∧ Only (fun _ => False) W w') := fun W o => by
    have := rsame_any l i j _ W (HR.out.keep o) HWI.out HWJ.out
    rw [hbs] at this
    exact this
  have A12 : Hid (∀ W, Only (fun _ => False) w2 W → Calls Tryd.prog 12 #[.slice a0 l.length cap0, .int .i64 i] W fun e w' => ∃ v', e = .returned v' ∧ IL w' v' ps ∧ Only (fun _ => False) W w') := fun W o => by
    have := parts_any l i _ W (HL.out.keep (HO2.out.trans o)) (by omega) HWI.out
    rw [hps] at this
    exact this
  have A19 : Hid (∀ W, Only (fun _ => False) w2 W → Calls Tryd.prog 19 #[rv, .int .i64 i] W fun e w' => ∃ v', e = .returned v' ∧ IL w' v' ps ∧ Only (fun _ => False) W w') := fun W o => by
    have := rparts_any l i _ W (HR.out.keep o) HWI.out
    rw [hps] at this
    exact this
  clear hbm hz hs hbs hps
  have B7 := Lib.hid (A7.out w2 (Only.refl _ _))
  go_wp2_with (first | (go_at_call 7; (with_reducible refine B7.out.mono ?_); rintro e x1 ⟨rfl, k1⟩; have o1 := Lib.hid k1; have B14 := Lib.hid (A14.out x1 k1); clear k1) | (go_at_call 14; (with_reducible refine B14.out.mono ?_); rintro e x2 ⟨rfl, k2⟩; have o2 := Lib.hid (o1.out.trans k2); have B10 := Lib.hid (A10.out x2 o2.out); clear k2) | (go_at_call 10; (with_reducible refine B10.out.mono ?_); rintro e x3 ⟨rfl, k3⟩; have o3 := Lib.hid (o2.out.trans k3); have B15 := Lib.hid (A15.out x3 o3.out); clear k3) | (go_at_call 15; (with_reducible refine B15.out.mono ?_); rintro e x4 ⟨rfl, k4⟩; have o4 := Lib.hid (o3.out.trans k4); have B9 := Lib.hid (A9.out x4 o4.out); clear k4) | (go_at_call 9; (with_reducible refine B9.out.mono ?_); rintro e x5 ⟨rfl, k5⟩; have o5 := Lib.hid (o4.out.trans k5); have B16 := Lib.hid (A16.out x5 o5.out); clear k5) | (go_at_call 16; (with_reducible refine B16.out.mono ?_); rintro e x6 ⟨rfl, k6⟩; have o6 := Lib.hid (o5.out.trans k6); have B11 := Lib.hid (A11.out x6 o6.out); clear k6) | (go_at_call 11; (with_reducible refine B11.out.mono ?_); rintro e x7 ⟨rfl, k7⟩; have o7 := Lib.hid (o6.out.trans k7); have B17 := Lib.hid (A17.out x7 o7.out); clear k7) | (go_at_call 17; (with_reducible refine B17.out.mono ?_); rintro e x8 ⟨rfl, k8⟩; have o8 := Lib.hid (o7.out.trans k8); have B12 := Lib.hid (A12.out x8 o8.out); clear k8) | (go_at_call 12; (with_reducible refine B12.out.mono ?_); rintro e x9 ⟨v9, rfl, m9, k9⟩; have o9 := Lib.hid (o8.out.trans k9); have M9 := Lib.hid m9; have B19 := Lib.hid (A19.out x9 o9.out); clear k9 m9) | (go_at_call 19; (with_reducible refine B19.out.mono ?_); rintro e x10 ⟨v10, rfl, m10, k10⟩; have o10 := Lib.hid (o9.out.trans k10); have B18 : Hid (Calls Tryd.prog 18 #[v9, v10] x10 fun e w' => e = .returned (.bool true) ∧ Only (fun _ => False) x10 w') := (by have h := si_any ps ps v9 v10 x10 (M9.out.keep k10) m10; rw [decide_eq_true rfl] at h; exact h); clear k10 m10) | (go_at_call 18; (with_reducible refine B18.out.mono ?_); rintro e x11 ⟨rfl, k11⟩; have o11 := Lib.hid (o10.out.trans k11); clear k11))
  go_ret
  exact ⟨rfl, (HO2.out.trans o11.out).below (fun _ h => h.elim)⟩
end Go.Proofs.YtnppjkekbdapkaaDoor
