/-
  Same, at two slices that read as one list.
-/
import Derived.Test.YtkflodclakngfaaTkl
set_option linter.unusedVariables false
namespace Go.Proofs.Ytkflodclakngfaa
open Go.RowKit

theorem SRow.drewN {w : World} {v : Value} {ss : List ByteArray} (h : SRow w v ss) (n : Nat) : SRow (w.drewN n) v ss := h

set_option maxHeartbeats 1000000 in
theorem same_true (v u : Value) (ss : List ByteArray) (w : World) (hv : SRow w v ss) (hu : SRow w u ss) (hl : ss.length ≤ 9223372036854775807) :
    Calls Try.prog 25 #[v, u] w fun e w' => e = .returned (.bool true) ∧ Below w.heap.size w w' := by
  obtain ⟨a, c, rfl, hss, hcell⟩ := hv
  obtain ⟨a', c', rfl, _, hcell'⟩ := hu
  have HC := Lib.hid hcell
  have HC' := Lib.hid hcell'
  clear hcell hcell' hss
  go_enter Try.func25, Try.ntmps25
  go_wp2_with fail
  go_loopw [5] (fun i wr => ∃ k n : Nat, k ≤ ss.length ∧ i = .int .i64 k ∧ w.drewN n = wr) (fun i _ => ss.length - (intOf i).toNat)
  case atStart => exact ⟨0, 0, Nat.zero_le _, rfl, rfl⟩
  case round =>
    obtain ⟨k, n, hk, rfl, rfl⟩ := hrel
    by_cases hlt : k < ss.length
    · obtain ⟨s, hs⟩ : ∃ s, ss[k]? = some s := ⟨_, List.getElem?_eq_getElem hlt⟩
      obtain ⟨b, off, rfl, hb, hc⟩ := HC.out k s hs
      obtain ⟨b', off', rfl, hb', hc'⟩ := HC'.out k s hs
      have HSK := Lib.hid hs
      clear hs
      have hlt' : (k : Int) < (ss.length : Int) := by omega
      go_wp2_with fail
      go_quiet (fail)
      go_wp2_with fail
      go_roundw
      case rel => exact ⟨k + 1, _, by omega, by go_num, rfl⟩
      case measure => simp [intOf]; omega
    · obtain rfl : k = ss.length := by omega
      go_wp2_with fail
      go_ret
      exact ⟨rfl, bdrewN (Below.refl _ _) _⟩
end Go.Proofs.Ytkflodclakngfaa
