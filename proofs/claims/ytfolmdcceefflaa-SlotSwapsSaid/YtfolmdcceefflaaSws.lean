/-
  SlotSwaps: the walk for every input.
-/
import Derived.Test.YtfolmdcceefflaaLawSlotSwaps
set_option linter.unusedVariables false
namespace Go.Proofs.Ytfolmdcceefflaa
open Go.RowKit

theorem slotSwaps_walk (w : World) (a : Option Addr) (len cap : Nat) (ks : List (List UInt8)) (hks : KeyRow w a len cap ks) (cut : Int) (hc : (Lit.int .u8 cut).wf = true) (keep : Int) (hq : (Lit.int .u8 keep).wf = true) :
    Calls Try.prog 6 #[.slice a len cap, .int .u8 cut, .int .u8 keep] w fun e w' => e = .returned (.bool true) ∧ Below w.heap.size w w' := by
  by_cases h : 20 < len
  · exact swaps_long w a len cap h cut keep
  · have c1 : 0 ≤ cut ∧ cut ≤ 255 := by
      simp [Lit.wf, IntKind.min, IntKind.max, IntKind.signed, IntKind.bits] at hc
      omega
    have c2 : 0 ≤ keep ∧ keep ≤ 255 := by
      simp [Lit.wf, IntKind.min, IntKind.max, IntKind.signed, IntKind.bits] at hq
      omega
    exact swaps_short w a len cap ks hks (by omega) cut keep c1.1 c1.2 c2.1 c2.2
end Go.Proofs.Ytfolmdcceefflaa
