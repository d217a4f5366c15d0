/-
  What is known of any nodes by any places, which atoms, and which keys would help, is the document's: for every input.
-/
import Derived.Test.YtnppjkekbdapkaaRad
set_option linter.unusedVariables false
namespace Go.Proofs.Ytnppjkekbdapkaa
open Go.RowKit

set_option maxHeartbeats 8000000 in
theorem adversaryTells_walk (w : World) (a0 : Option Addr) (len0 cap0 : Nat) (l : List Nd) (hl : NdRow w a0 len0 cap0 l) (a1 : Option Addr) (len1 cap1 : Nat) (kn : List Int) (hk : NumRow w a1 len1 cap1 kn) (goal : Int) (hg : (Lit.int .i64 goal).wf = true) :
    Calls Try.prog 5 #[.slice a0 len0 cap0, .slice a1 len1 cap1, .int .i64 goal] w fun e w' => e = .returned (.bool true) ∧ Below w.heap.size w w' := by
  obtain ⟨hl1, rfl, hwf⟩ := hl
  obtain ⟨hk1, rfl, _⟩ := hk
  have hgw : wf64 goal := hg
  have HL := Lib.hid hl1
  have HK := Lib.hid hk1
  have HWF := Lib.hid hwf
  have HGW := Lib.hid hgw
  clear hl1 hk1 hwf hg hgw
  have HSH := Lib.hid shown_any
  by_cases g1 : 60 < l.length
  · have g1' : (60 : Int) < (l.length : Int) := by omega
    go_enter Try.func5, Try.ntmps5
    go_wp2_with (go_at_call 9; refine (HSH.out _).mono ?_; rintro e w1 ⟨rfl, h1⟩)
    go_ret
    exact ⟨rfl, h1.below (fun _ h => h.elim)⟩
  have g1' : ¬ (60 : Int) < (l.length : Int) := by omega
  by_cases g2 : 60 < kn.length
  · have g2' : (60 : Int) < (kn.length : Int) := by omega
    go_enter Try.func5, Try.ntmps5
    go_wp2_with (go_at_call 9; refine (HSH.out _).mono ?_; rintro e w1 ⟨rfl, h1⟩)
    go_ret
    exact ⟨rfl, h1.below (fun _ h => h.elim)⟩
  have g2' : ¬ (60 : Int) < (kn.length : Int) := by omega
  go_enter Try.func5, Try.ntmps5
  go_upto_region 3 with (go_at_call 9; refine (HSH.out _).mono ?_; rintro e w1 ⟨rfl, h1⟩)
  have HO1 := Lib.hid h1
  clear h1
  have HC15 := Lib.hid (its_any l _ w1 (HL.out.keep HO1.out) (by omega))
  go_upto_region 4 with (go_at_call 15; refine HC15.out.mono ?_; rintro e w2 ⟨rv, rfl, hr2, h2⟩)
  have HR := Lib.hid hr2
  have HO2 := Lib.hid (HO1.out.trans h2)
  clear hr2 h2 HC15
  have HL2 := Lib.hid (HL.out.keep HO2.out)
  have HK2 := Lib.hid (HK.out.keep HO2.out)
  have o2 := Only.refl (fun _ => False) w2
  have C10 : Hid (∀ W, Only (fun _ => False) w2 W → Calls Try.prog 10 #[.slice a0 l.length cap0, .slice a1 kn.length cap1] W fun e w' => ∃ bv, e = .returned bv ∧ BL w' bv (knows l kn) ∧ Only (fun _ => False) w2 w') := fun W o => (knows_any l kn _ _ W (HL2.out.keep o) (HK2.out.keep o) HWF.out (by omega) (by omega)).mono (by rintro e w' ⟨bv, rfl, h1, h2⟩; exact ⟨bv, rfl, h1, o.trans h2⟩)
  have C16 : Hid (∀ W xv, Only (fun _ => False) w2 W → BL W xv (knows l kn) → Calls Try.prog 16 #[rv, .slice a1 kn.length cap1] W fun e w' => ∃ bv, e = .returned bv ∧ BL w' bv (knows l kn) ∧ BL w' xv (knows l kn) ∧ Only (fun _ => False) w2 w') := fun W xv o hx => (rknows_any l kn _ _ W (HR.out.keep o) (HK2.out.keep o) (by omega)).mono (by rintro e w' ⟨bv, rfl, h1, h2⟩; exact ⟨bv, rfl, h1, hx.keep h2, o.trans h2⟩)
  have C11 : Hid (∀ W xv yv bs, Only (fun _ => False) w2 W → BL W xv bs → BL W yv bs → Calls Try.prog 11 #[xv, yv] W fun e w' => e = .returned (.bool true) ∧ Only (fun _ => False) w2 w') := fun W xv yv bs o hx hy => (sb_any bs bs xv yv W hx hy).mono (by rintro e w' ⟨rfl, h2⟩; exact ⟨by simp, o.trans h2⟩)
  have C14 : Hid (∀ W, Only (fun _ => False) w2 W → Calls Try.prog 14 #[.slice a0 l.length cap0, .slice a1 kn.length cap1, .int .i64 goal] W fun e w' => e = .returned (.bool (canB l kn goal)) ∧ Only (fun _ => False) w2 w') := fun W o => (can_any l kn goal _ _ W (HL2.out.keep o) (HK2.out.keep o) HWF.out (by omega) (by omega) HGW.out).mono (by rintro e w' ⟨rfl, h2⟩; exact ⟨rfl, o.trans h2⟩)
  have C17 : Hid (∀ W, Only (fun _ => False) w2 W → Calls Try.prog 17 #[rv, .slice a1 kn.length cap1, .int .i64 goal] W fun e w' => e = .returned (.bool (canB l kn goal)) ∧ Only (fun _ => False) w2 w') := fun W o => (rcan_any l kn goal _ _ W (HR.out.keep o) (HK2.out.keep o) (by omega) HGW.out).mono (by rintro e w' ⟨rfl, h2⟩; exact ⟨rfl, o.trans h2⟩)
  have C19 : Hid (∀ W, Only (fun _ => False) w2 W → Calls Try.prog 19 #[.slice a0 l.length cap0, .slice a1 kn.length cap1] W fun e w' => ∃ bv, e = .returned bv ∧ IL w' bv (atoms l kn) ∧ Only (fun _ => False) w2 w') := fun W o => (atoms_any l kn _ _ W (HL2.out.keep o) (HK2.out.keep o) HWF.out (by omega) (by omega)).mono (by rintro e w' ⟨bv, rfl, h1, h2⟩; exact ⟨bv, rfl, h1, o.trans h2⟩)
  have C20 : Hid (∀ W xv, Only (fun _ => False) w2 W → IL W xv (atoms l kn) → Calls Try.prog 20 #[rv, .slice a1 kn.length cap1] W fun e w' => ∃ bv, e = .returned bv ∧ IL w' bv (atoms l kn) ∧ IL w' xv (atoms l kn) ∧ Only (fun _ => False) w2 w') := fun W xv o hx => (ratoms_any l kn _ _ W (HR.out.keep o) (HK2.out.keep o) (by omega) (by omega)).mono (by rintro e w' ⟨bv, rfl, h1, h2⟩; exact ⟨bv, rfl, h1, hx.keep h2, o.trans h2⟩)
  have C18 : Hid (∀ W xv yv bs, Only (fun _ => False) w2 W → IL W xv bs → IL W yv bs → Calls Try.prog 18 #[xv, yv] W fun e w' => e = .returned (.bool true) ∧ Only (fun _ => False) w2 w') := fun W xv yv bs o hx hy => (si_any bs bs xv yv W hx hy).mono (by rintro e w' ⟨rfl, h2⟩; exact ⟨by simp, o.trans h2⟩)
  have C13 : Hid (∀ W, Only (fun _ => False) w2 W → Calls Try.prog 13 #[.slice a0 l.length cap0, .slice a1 kn.length cap1, .int .i64 goal] W fun e w' => ∃ bv, e = .returned bv ∧ IL w' bv (needs l kn goal) ∧ Only (fun _ => False) w2 w') := fun W o => (needs_any l kn goal _ _ W (HL2.out.keep o) (HK2.out.keep o) HWF.out (by omega) (by omega) HGW.out).mono (by rintro e w' ⟨bv, rfl, h1, h2⟩; exact ⟨bv, rfl, h1, o.trans h2⟩)
  have C21 : Hid (∀ W xv, Only (fun _ => False) w2 W → IL W xv (needs l kn goal) → Calls Try.prog 21 #[rv, .slice a1 kn.length cap1, .int .i64 goal] W fun e w' => ∃ bv, e = .returned bv ∧ IL w' bv (needs l kn goal) ∧ IL w' xv (needs l kn goal) ∧ Only (fun _ => False) w2 w') := fun W xv o hx => (rneeds_any l kn goal _ _ W (HR.out.keep o) (HK2.out.keep o) (by omega) (by omega) HGW.out).mono (by rintro e w' ⟨bv, rfl, h1, h2⟩; exact ⟨bv, rfl, h1, hx.keep h2, o.trans h2⟩)
  generalize canB l kn goal = cb at *
  have hcb : (cb == cb) = true := by simp
  have D10 := Lib.hid (C10.out w2 o2)
  go_wp2_with (first | (go_at_call 10; refine D10.out.mono ?_; rintro e w3 ⟨b1, rfl, h3, o3⟩; have D16 := Lib.hid (C16.out _ _ o3 h3); clear h3 o3) | (go_at_call 16; refine D16.out.mono ?_; rintro e w4 ⟨b2, rfl, h4, h4', o4⟩; have D11 := Lib.hid (C11.out _ _ _ _ o4 h4' h4); clear h4 h4' o4) | (go_at_call 11; refine D11.out.mono ?_; rintro e w5 ⟨rfl, o5⟩; have D14 := Lib.hid (C14.out _ o5); clear o5) | (go_at_call 14; refine D14.out.mono ?_; rintro e w6 ⟨rfl, o6⟩; have D17 := Lib.hid (C17.out _ o6); clear o6) | (go_at_call 17; refine D17.out.mono ?_; rintro e w7 ⟨rfl, o7⟩; have D19 := Lib.hid (C19.out _ o7); clear o7) | (go_at_call 19; refine D19.out.mono ?_; rintro e w8 ⟨b8, rfl, h8, o8⟩; have D20 := Lib.hid (C20.out _ _ o8 h8); clear h8 o8) | (go_at_call 20; refine D20.out.mono ?_; rintro e w9 ⟨b9, rfl, h9, h9', o9⟩; have D18 := Lib.hid (C18.out _ _ _ _ o9 h9' h9); clear h9 h9' o9) | (go_at_call 18; (with_reducible refine D18.out.mono ?_); rintro e w10 ⟨rfl, o10⟩; have D13 := Lib.hid (C13.out _ o10); clear o10) | (go_at_call 13; refine D13.out.mono ?_; rintro e w11 ⟨b11, rfl, h11, o11⟩; have D21 := Lib.hid (C21.out _ _ o11 h11); clear h11 o11) | (go_at_call 21; refine D21.out.mono ?_; rintro e w12 ⟨b12, rfl, h12, h12', o12⟩; have D22 := Lib.hid (C18.out _ _ _ _ o12 h12' h12); clear h12 h12' o12) | (go_at_call 18; (with_reducible refine D22.out.mono ?_); rintro e w13 ⟨rfl, o13⟩))
  go_ret
  exact ⟨by first | rfl | simp, (HO2.out.trans o13).below (fun _ h => h.elim)⟩
end Go.Proofs.Ytnppjkekbdapkaa
