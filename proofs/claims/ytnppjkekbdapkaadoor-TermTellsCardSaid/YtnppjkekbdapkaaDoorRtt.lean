/-
  The reference: Text.
-/
import Derived.Test.YtnppjkekbdapkaaDoorRtx
set_option linter.unusedVariables false
namespace Go.Proofs.YtnppjkekbdapkaaDoor
open Go.RowKit

set_option maxHeartbeats 4000000 in
theorem rtext_any (l : List Nd) (i : Int) (v : Value) (w : World) (hl : NL w v l) (hi : wf64 i) :
    Calls Tryd.prog 15 #[v, .int .i64 i] w fun e w' => e = .returned (.string ⟨(textB l i).toArray⟩) ∧ Only (fun _ => False) w w' := by
  have HL := Lib.hid hl
  have HS := Lib.hid (rsize_any l i v w hl hi)
  obtain ⟨ad, cap, rfl, hrow⟩ := hl
  clear hrow
  rw [wf64_iff] at hi
  by_cases h0 : sizeB l i = 0
  · have HE : Hid (textB l i = []) := show _ = _ from if_pos (.inl h0)
    rw [HE.out]
    rw [h0] at HS
    clear h0
    go_enter Tryd.func15, Tryd.ntmps15
    go_wp2_with (go_at_call 16; refine HS.out.mono ?_; rintro e w1 ⟨rfl, k1⟩)
    go_ret
    exact ⟨rfl, k1⟩
  · have hp := sizeB_pos h0
    obtain ⟨i0, i1, hm⟩ := placeB_yes hp
    obtain ⟨I, rfl⟩ := Int.eq_ofNat_of_zero_le i0
    have hI : I < l.length := by omega
    have hsz := sizeB_yes hp
    rw [Int.toNat_natCast] at hsz
    obtain ⟨hst, hst2⟩ := sz_tx hm I hI
    by_cases h1 : 2000 < sizeB l (I : Int)
    · have HE : Hid (textB l (I : Int) = []) := show _ = _ from if_pos (.inr h1)
      rw [HE.out]
      obtain ⟨n, hn⟩ : ∃ n, sizeB l (I : Int) = n := ⟨_, rfl⟩
      rw [hn] at HS h0 h1
      clear hsz hst hst2 hm hn HE hp
      have hb : (n == 0) = false := by rw [beq_eq_false_iff_ne]; exact h0
      go_enter Tryd.func15, Tryd.ntmps15
      go_wp2_with (go_at_call 16; refine HS.out.mono ?_; rintro e w1 ⟨rfl, k1⟩)
      go_ret
      exact ⟨rfl, k1⟩
    · have HE : Hid (textB l (I : Int) = txN l I) := show _ = _ from if_neg (fun h => h.elim h0 h1)
      rw [HE.out]
      obtain ⟨n, hn⟩ : ∃ n, sizeB l (I : Int) = n := ⟨_, rfl⟩
      have HTL : Hid ((txN l I).length ≤ 2000) := by
        show _ ≤ _
        omega
      rw [hn] at HS h0 h1
      have HMB := Lib.hid hm
      clear hsz hst hst2 hm hn HE hp
      have hb : (n == 0) = false := by rw [beq_eq_false_iff_ne]; exact h0
      have HWR := Lib.hid (rtext_in l _ w HL.out HMB.out I hI (by have := HTL.out; omega))
      go_enter Tryd.func15, Tryd.ntmps15
      go_wp2_with (first | (go_at_call 16; (with_reducible refine HS.out.mono ?_); rintro e w1 ⟨rfl, k1⟩; have HW2 := Lib.hid (HWR.out w1 k1)) | (go_at_call 30; (with_reducible refine HW2.out.mono ?_); rintro e w2 ⟨_, rfl, s, rfl, hs, k2⟩; have HSS := Lib.hid hs; clear hs))
      go_ret
      exact ⟨by rw [HSS.out]; rfl, k1.trans k2⟩
end Go.Proofs.YtnppjkekbdapkaaDoor
