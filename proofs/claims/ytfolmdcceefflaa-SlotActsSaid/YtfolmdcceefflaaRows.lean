/-
  No cell of these rows narrows 'for every input' (looked for: loops, veiled, ifaces, maps, wideKeys, modest, calm, conditions, laid).
  DERIVED. THE GIVEN ROWS OF THIS SEAT. 5 by the template 'for every input the law returns true; each argument reads behind the call as it read before'; 0 by the template 'total and deterministic' (their statements: YtfolmdcceefflaaTotals.lean).
  GIVEN WITH THE SEED: the statements are not yours to turn. If you find one false, say at which input.
  Laid BY PROGRAM, IN A SANDBOX (cutbox-rows.mjs): the forced cells as the released guide's own fill.sh prints them over the translation 1726efbd53433e5d… (all of the seat's roots in one cut). By AI agents, Wed Nov 11 2026. No macro, syntax, notation, axiom, sorry.
-/
import Derived.Test.YtfolmdcceefflaaChecked
import GoSem.Claim
import GoSem.ClaimJoined
import GoSem.ClaimMapViews
import Derived.JoinedTies
import Derived.KernelRfl
namespace Go.Proofs.Ytfolmdcceefflaa
/- THE CELL 'sum', in the pinned program and in every row, IS THE sha256 OF THE DUMP (.gsa) THAT YtfolmdcceefflaaProg.lean LOADS. Nothing in Lean hashes anything: it is a label: what it is worth is what the hold of that sum in a sandbox is worth. -/
noncomputable def Try.pinned : Pinned := { name := "ytfolmdcceefflaa", sum := "1726efbd53433e5d806f46e73bdebcb00b4cc1b4669bc87019c98489aeed05a6", checked := Try.checked }
namespace Rows
def none {H : Type} : Left H := { results := [], args := [] }

/-- 'oblivionlaw11.SlotGone': WHATEVER THE INPUT: true; the input reads as it did. -/
def slotGoneSpec : ChangeSpec := { name := "slotGone", fn := fun _ => fun
  | [d1, d2, d3, d4] => { results := [.lit (.bool true)], args := [d1, d2, d3, d4] }
  | _ => none }
def slotGoneRow : OpenClaim := { program := "ytfolmdcceefflaa", sum := "1726efbd53433e5d806f46e73bdebcb00b4cc1b4669bc87019c98489aeed05a6", func := "oblivion/oblivionlaw11.SlotGone", spec := "slotGone", inPlace := ["sync/atomic.LoadInt64", "sync/atomic.AddInt64"], apart := false }
def SlotGoneSaid : Prop := slotGoneRow.holds Try.pinned (OpenSpec.ofChange slotGoneSpec)

/-- ITS FALSE NEIGHBOUR: 'it returns false'. Refute it at one input. -/
def slotGoneWrong : ChangeSpec := { name := "slotGone", fn := fun _ => fun
  | [d1, d2, d3, d4] => { results := [.lit (.bool false)], args := [d1, d2, d3, d4] }
  | _ => none }
def SlotGoneWrongFalsely : Prop := slotGoneRow.holds Try.pinned (OpenSpec.ofChange slotGoneWrong)

/-- 'oblivionlaw11.SlotPart': WHATEVER THE INPUT: true; the input reads as it did. -/
def slotPartSpec : ChangeSpec := { name := "slotPart", fn := fun _ => fun
  | [d1, d2, d3, d4] => { results := [.lit (.bool true)], args := [d1, d2, d3, d4] }
  | _ => none }
def slotPartRow : OpenClaim := { program := "ytfolmdcceefflaa", sum := "1726efbd53433e5d806f46e73bdebcb00b4cc1b4669bc87019c98489aeed05a6", func := "oblivion/oblivionlaw11.SlotPart", spec := "slotPart", inPlace := ["sync/atomic.LoadInt64", "sync/atomic.AddInt64", "sync/atomic.StoreInt64"], apart := false }
def SlotPartSaid : Prop := slotPartRow.holds Try.pinned (OpenSpec.ofChange slotPartSpec)

/-- ITS FALSE NEIGHBOUR: 'it returns false'. Refute it at one input. -/
def slotPartWrong : ChangeSpec := { name := "slotPart", fn := fun _ => fun
  | [d1, d2, d3, d4] => { results := [.lit (.bool false)], args := [d1, d2, d3, d4] }
  | _ => none }
def SlotPartWrongFalsely : Prop := slotPartRow.holds Try.pinned (OpenSpec.ofChange slotPartWrong)

/-- 'oblivionlaw11.SlotErrors': WHATEVER THE INPUT: true; the input reads as it did. -/
def slotErrorsSpec : ChangeSpec := { name := "slotErrors", fn := fun _ => fun
  | [d1, d2, d3, d4] => { results := [.lit (.bool true)], args := [d1, d2, d3, d4] }
  | _ => none }
def slotErrorsRow : OpenClaim := { program := "ytfolmdcceefflaa", sum := "1726efbd53433e5d806f46e73bdebcb00b4cc1b4669bc87019c98489aeed05a6", func := "oblivion/oblivionlaw11.SlotErrors", spec := "slotErrors", inPlace := ["sync/atomic.LoadInt64", "sync/atomic.AddInt64"], apart := false }
def SlotErrorsSaid : Prop := slotErrorsRow.holds Try.pinned (OpenSpec.ofChange slotErrorsSpec)

/-- ITS FALSE NEIGHBOUR: 'it returns false'. Refute it at one input. -/
def slotErrorsWrong : ChangeSpec := { name := "slotErrors", fn := fun _ => fun
  | [d1, d2, d3, d4] => { results := [.lit (.bool false)], args := [d1, d2, d3, d4] }
  | _ => none }
def SlotErrorsWrongFalsely : Prop := slotErrorsRow.holds Try.pinned (OpenSpec.ofChange slotErrorsWrong)

/-- 'oblivionlaw11.SlotSwaps': WHATEVER THE INPUT: true; the input reads as it did. -/
def slotSwapsSpec : ChangeSpec := { name := "slotSwaps", fn := fun _ => fun
  | [d1, d2, d3] => { results := [.lit (.bool true)], args := [d1, d2, d3] }
  | _ => none }
def slotSwapsRow : OpenClaim := { program := "ytfolmdcceefflaa", sum := "1726efbd53433e5d806f46e73bdebcb00b4cc1b4669bc87019c98489aeed05a6", func := "oblivion/oblivionlaw11.SlotSwaps", spec := "slotSwaps", inPlace := ["sync/atomic.LoadInt64", "sync/atomic.AddInt64", "sync/atomic.StoreInt64"], apart := false }
def SlotSwapsSaid : Prop := slotSwapsRow.holds Try.pinned (OpenSpec.ofChange slotSwapsSpec)

/-- ITS FALSE NEIGHBOUR: 'it returns false'. Refute it at one input. -/
def slotSwapsWrong : ChangeSpec := { name := "slotSwaps", fn := fun _ => fun
  | [d1, d2, d3] => { results := [.lit (.bool false)], args := [d1, d2, d3] }
  | _ => none }
def SlotSwapsWrongFalsely : Prop := slotSwapsRow.holds Try.pinned (OpenSpec.ofChange slotSwapsWrong)

/-- 'oblivionlaw11.SlotActs': WHATEVER THE INPUT: true; the input reads as it did. -/
def slotActsSpec : ChangeSpec := { name := "slotActs", fn := fun _ => fun
  | [d] => { results := [.lit (.bool true)], args := [d] }
  | _ => none }
def slotActsRow : OpenClaim := { program := "ytfolmdcceefflaa", sum := "1726efbd53433e5d806f46e73bdebcb00b4cc1b4669bc87019c98489aeed05a6", func := "oblivion/oblivionlaw11.SlotActs", spec := "slotActs", inPlace := ["sync/atomic.LoadInt64", "sync/atomic.AddInt64", "sync/atomic.StoreInt64"], apart := false }
def SlotActsSaid : Prop := slotActsRow.holds Try.pinned (OpenSpec.ofChange slotActsSpec)

/-- ITS FALSE NEIGHBOUR: 'it returns false'. Refute it at one input. -/
def slotActsWrong : ChangeSpec := { name := "slotActs", fn := fun _ => fun
  | [d] => { results := [.lit (.bool false)], args := [d] }
  | _ => none }
def SlotActsWrongFalsely : Prop := slotActsRow.holds Try.pinned (OpenSpec.ofChange slotActsWrong)

/- THE SECOND FORM. 'bulk': how many values and letters a reading holds, each counted each time it is reached (what is shared counts as often as it is met; a slice's spare places count too). A statement '..UptoSaid' is the law's where the arguments, and the package variables that the reading takes, are together of bulk at most 1048576: NARROWER than '..Said'. Prove '..Said' where nothing that the law and all that it calls make is longer than what came in: it says more and counts as full. Else prove '..UptoSaid'. A law counts once. -/
mutual
def uptoBulk {H : Type} : DataW H → Nat
  | .lit (.string bytes) => bytes.length + 1
  | .lit _ => 1
  | .nil => 1
  | .ptr d => uptoBulk d + 1
  | .slice elems spare => uptoBulkAll elems + uptoBulkAll spare + 1
  | .agg parts => uptoBulkAll parts + 1
  | .iface _ d => uptoBulk d + 1
  | .map entries => uptoBulkEntries entries + 1
  | .held _ => 1
def uptoBulkAll {H : Type} : List (DataW H) → Nat
  | [] => 0
  | d :: r => uptoBulk d + uptoBulkAll r
def uptoBulkEntries {H : Type} : List (Lit × DataW H) → Nat
  | [] => 0
  | x :: r => uptoBulkEntry x + uptoBulkEntries r
def uptoBulkEntry {H : Type} : Lit × DataW H → Nat
  | (.string bytes, d) => bytes.length + uptoBulk d + 1
  | (_, d) => uptoBulk d + 1
 end
def uptoSmall : (H : Type) → List (DataW H) → Bool := fun _ ds => decide (uptoBulkAll ds ≤ 1048576)
def OpenSpec.upto (s : _root_.Go.ChangeSpec) : _root_.Go.OpenSpec := { _root_.Go.OpenSpec.ofChange s with cond := some uptoSmall }

/-- 'oblivionlaw11.SlotGone', WHERE WHAT IT READS IS OF BULK AT MOST 1048576: true; the input reads as it did. -/
def slotGoneUptoRow : OpenClaim := { program := "ytfolmdcceefflaa", sum := "1726efbd53433e5d806f46e73bdebcb00b4cc1b4669bc87019c98489aeed05a6", func := "oblivion/oblivionlaw11.SlotGone", spec := "slotGone", inPlace := ["sync/atomic.LoadInt64", "sync/atomic.AddInt64"], apart := false, narrowed := true }
def SlotGoneUptoSaid : Prop := slotGoneUptoRow.holds Try.pinned (OpenSpec.upto slotGoneSpec)

/-- 'oblivionlaw11.SlotPart', WHERE WHAT IT READS IS OF BULK AT MOST 1048576: true; the input reads as it did. -/
def slotPartUptoRow : OpenClaim := { program := "ytfolmdcceefflaa", sum := "1726efbd53433e5d806f46e73bdebcb00b4cc1b4669bc87019c98489aeed05a6", func := "oblivion/oblivionlaw11.SlotPart", spec := "slotPart", inPlace := ["sync/atomic.LoadInt64", "sync/atomic.AddInt64", "sync/atomic.StoreInt64"], apart := false, narrowed := true }
def SlotPartUptoSaid : Prop := slotPartUptoRow.holds Try.pinned (OpenSpec.upto slotPartSpec)

/-- 'oblivionlaw11.SlotErrors', WHERE WHAT IT READS IS OF BULK AT MOST 1048576: true; the input reads as it did. -/
def slotErrorsUptoRow : OpenClaim := { program := "ytfolmdcceefflaa", sum := "1726efbd53433e5d806f46e73bdebcb00b4cc1b4669bc87019c98489aeed05a6", func := "oblivion/oblivionlaw11.SlotErrors", spec := "slotErrors", inPlace := ["sync/atomic.LoadInt64", "sync/atomic.AddInt64"], apart := false, narrowed := true }
def SlotErrorsUptoSaid : Prop := slotErrorsUptoRow.holds Try.pinned (OpenSpec.upto slotErrorsSpec)

/-- 'oblivionlaw11.SlotSwaps', WHERE WHAT IT READS IS OF BULK AT MOST 1048576: true; the input reads as it did. -/
def slotSwapsUptoRow : OpenClaim := { program := "ytfolmdcceefflaa", sum := "1726efbd53433e5d806f46e73bdebcb00b4cc1b4669bc87019c98489aeed05a6", func := "oblivion/oblivionlaw11.SlotSwaps", spec := "slotSwaps", inPlace := ["sync/atomic.LoadInt64", "sync/atomic.AddInt64", "sync/atomic.StoreInt64"], apart := false, narrowed := true }
def SlotSwapsUptoSaid : Prop := slotSwapsUptoRow.holds Try.pinned (OpenSpec.upto slotSwapsSpec)

/-- 'oblivionlaw11.SlotActs', WHERE WHAT IT READS IS OF BULK AT MOST 1048576: true; the input reads as it did. -/
def slotActsUptoRow : OpenClaim := { program := "ytfolmdcceefflaa", sum := "1726efbd53433e5d806f46e73bdebcb00b4cc1b4669bc87019c98489aeed05a6", func := "oblivion/oblivionlaw11.SlotActs", spec := "slotActs", inPlace := ["sync/atomic.LoadInt64", "sync/atomic.AddInt64", "sync/atomic.StoreInt64"], apart := false, narrowed := true }
def SlotActsUptoSaid : Prop := slotActsUptoRow.holds Try.pinned (OpenSpec.upto slotActsSpec)

end Rows
end Go.Proofs.Ytfolmdcceefflaa
