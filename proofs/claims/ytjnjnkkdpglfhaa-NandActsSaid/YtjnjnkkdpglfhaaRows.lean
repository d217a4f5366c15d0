/-
  No cell of these rows narrows 'for every input' (looked for: loops, veiled, ifaces, maps, wideKeys, modest, calm, conditions, laid).
  DERIVED. THE GIVEN ROWS OF THIS SEAT. 5 by the template 'for every input the law returns true; each argument reads behind the call as it read before'; 0 by the template 'total and deterministic' (their statements: YtjnjnkkdpglfhaaTotals.lean).
  GIVEN WITH THE SEED: the statements are not yours to turn. If you find one false, say at which input.
  Laid BY PROGRAM, IN A SANDBOX (cutbox-rows.mjs): the forced cells as the released guide's own fill.sh prints them over the translation 642fb578ed5f16da… (all of the seat's roots in one cut). By AI agents, Wed Nov 11 2026. No macro, syntax, notation, axiom, sorry.
-/
import Derived.Test.YtjnjnkkdpglfhaaChecked
import GoSem.Claim
import GoSem.ClaimJoined
import GoSem.ClaimMapViews
import Derived.JoinedTies
import Derived.KernelRfl
namespace Go.Proofs.Ytjnjnkkdpglfhaa
/- THE CELL 'sum', in the pinned program and in every row, IS THE sha256 OF THE DUMP (.gsa) THAT YtjnjnkkdpglfhaaProg.lean LOADS. Nothing in Lean hashes anything: it is a label: what it is worth is what the hold of that sum in a sandbox is worth. -/
noncomputable def Try.pinned : Pinned := { name := "ytjnjnkkdpglfhaa", sum := "642fb578ed5f16dad42f8d264ccac34f038c68cff949f555dd64a5dc81fdd634", checked := Try.checked }
namespace Rows
def none {H : Type} : Left H := { results := [], args := [] }

/-- 'oblivionlaw10.NandWears': WHATEVER THE INPUT: true; the input reads as it did. -/
def nandWearsSpec : ChangeSpec := { name := "nandWears", fn := fun _ => fun
  | [d1, d2, d3] => { results := [.lit (.bool true)], args := [d1, d2, d3] }
  | _ => none }
def nandWearsRow : OpenClaim := { program := "ytjnjnkkdpglfhaa", sum := "642fb578ed5f16dad42f8d264ccac34f038c68cff949f555dd64a5dc81fdd634", func := "oblivion/oblivionlaw10.NandWears", spec := "nandWears", inPlace := ["internal/abi.NoEscape", "internal/bytealg.MakeNoZero", "sync/atomic.LoadInt64", "sync/atomic.AddInt64"], unfollowed := true, recurses := true, apart := false }
def NandWearsSaid : Prop := nandWearsRow.holds Try.pinned (OpenSpec.ofChange nandWearsSpec)

/-- ITS FALSE NEIGHBOUR: 'it returns false'. Refute it at one input. -/
def nandWearsWrong : ChangeSpec := { name := "nandWears", fn := fun _ => fun
  | [d1, d2, d3] => { results := [.lit (.bool false)], args := [d1, d2, d3] }
  | _ => none }
def NandWearsWrongFalsely : Prop := nandWearsRow.holds Try.pinned (OpenSpec.ofChange nandWearsWrong)

/-- 'oblivionlaw10.NandArgs': WHATEVER THE INPUT: true; the input reads as it did. -/
def nandArgsSpec : ChangeSpec := { name := "nandArgs", fn := fun _ => fun
  | [d1, d2, d3, d4] => { results := [.lit (.bool true)], args := [d1, d2, d3, d4] }
  | _ => none }
def nandArgsRow : OpenClaim := { program := "ytjnjnkkdpglfhaa", sum := "642fb578ed5f16dad42f8d264ccac34f038c68cff949f555dd64a5dc81fdd634", func := "oblivion/oblivionlaw10.NandArgs", spec := "nandArgs", inPlace := ["internal/abi.NoEscape", "internal/bytealg.MakeNoZero", "sync/atomic.LoadInt64", "sync/atomic.AddInt64"], unfollowed := true, recurses := true, apart := false }
def NandArgsSaid : Prop := nandArgsRow.holds Try.pinned (OpenSpec.ofChange nandArgsSpec)

/-- ITS FALSE NEIGHBOUR: 'it returns false'. Refute it at one input. -/
def nandArgsWrong : ChangeSpec := { name := "nandArgs", fn := fun _ => fun
  | [d1, d2, d3, d4] => { results := [.lit (.bool false)], args := [d1, d2, d3, d4] }
  | _ => none }
def NandArgsWrongFalsely : Prop := nandArgsRow.holds Try.pinned (OpenSpec.ofChange nandArgsWrong)

/-- 'oblivionlaw10.NandTorn': WHATEVER THE INPUT: true; the input reads as it did. -/
def nandTornSpec : ChangeSpec := { name := "nandTorn", fn := fun _ => fun
  | [d1, d2, d3, d4] => { results := [.lit (.bool true)], args := [d1, d2, d3, d4] }
  | _ => none }
def nandTornRow : OpenClaim := { program := "ytjnjnkkdpglfhaa", sum := "642fb578ed5f16dad42f8d264ccac34f038c68cff949f555dd64a5dc81fdd634", func := "oblivion/oblivionlaw10.NandTorn", spec := "nandTorn", inPlace := ["internal/abi.NoEscape", "internal/bytealg.MakeNoZero", "sync/atomic.LoadInt64", "sync/atomic.AddInt64", "sync/atomic.StoreInt64"], unfollowed := true, recurses := true, apart := false }
def NandTornSaid : Prop := nandTornRow.holds Try.pinned (OpenSpec.ofChange nandTornSpec)

/-- ITS FALSE NEIGHBOUR: 'it returns false'. Refute it at one input. -/
def nandTornWrong : ChangeSpec := { name := "nandTorn", fn := fun _ => fun
  | [d1, d2, d3, d4] => { results := [.lit (.bool false)], args := [d1, d2, d3, d4] }
  | _ => none }
def NandTornWrongFalsely : Prop := nandTornRow.holds Try.pinned (OpenSpec.ofChange nandTornWrong)

/-- 'oblivionlaw10.NandFills': WHATEVER THE INPUT: true; the input reads as it did. -/
def nandFillsSpec : ChangeSpec := { name := "nandFills", fn := fun _ => fun
  | [d1, d2, d3] => { results := [.lit (.bool true)], args := [d1, d2, d3] }
  | _ => none }
def nandFillsRow : OpenClaim := { program := "ytjnjnkkdpglfhaa", sum := "642fb578ed5f16dad42f8d264ccac34f038c68cff949f555dd64a5dc81fdd634", func := "oblivion/oblivionlaw10.NandFills", spec := "nandFills", inPlace := ["internal/abi.NoEscape", "internal/bytealg.MakeNoZero", "sync/atomic.LoadInt64", "sync/atomic.AddInt64"], unfollowed := true, recurses := true, apart := false }
def NandFillsSaid : Prop := nandFillsRow.holds Try.pinned (OpenSpec.ofChange nandFillsSpec)

/-- ITS FALSE NEIGHBOUR: 'it returns false'. Refute it at one input. -/
def nandFillsWrong : ChangeSpec := { name := "nandFills", fn := fun _ => fun
  | [d1, d2, d3] => { results := [.lit (.bool false)], args := [d1, d2, d3] }
  | _ => none }
def NandFillsWrongFalsely : Prop := nandFillsRow.holds Try.pinned (OpenSpec.ofChange nandFillsWrong)

/-- 'oblivionlaw10.NandActs': WHATEVER THE INPUT: true; the input reads as it did. -/
def nandActsSpec : ChangeSpec := { name := "nandActs", fn := fun _ => fun
  | [d1, d2, d3, d4, d5] => { results := [.lit (.bool true)], args := [d1, d2, d3, d4, d5] }
  | _ => none }
def nandActsRow : OpenClaim := { program := "ytjnjnkkdpglfhaa", sum := "642fb578ed5f16dad42f8d264ccac34f038c68cff949f555dd64a5dc81fdd634", func := "oblivion/oblivionlaw10.NandActs", spec := "nandActs", inPlace := ["internal/abi.NoEscape", "internal/bytealg.MakeNoZero", "sync/atomic.LoadInt64", "sync/atomic.AddInt64", "sync/atomic.StoreInt64"], unfollowed := true, recurses := true, apart := false }
def NandActsSaid : Prop := nandActsRow.holds Try.pinned (OpenSpec.ofChange nandActsSpec)

/-- ITS FALSE NEIGHBOUR: 'it returns false'. Refute it at one input. -/
def nandActsWrong : ChangeSpec := { name := "nandActs", fn := fun _ => fun
  | [d1, d2, d3, d4, d5] => { results := [.lit (.bool false)], args := [d1, d2, d3, d4, d5] }
  | _ => none }
def NandActsWrongFalsely : Prop := nandActsRow.holds Try.pinned (OpenSpec.ofChange nandActsWrong)

/- THE SECOND FORM. 'bulk': how many values and letters a reading holds, each counted each time it is reached (what is shared counts as often as it is met; a slice's spare places count too). A statement '..UptoSaid' is the law's where the arguments, and the package variables that the reading takes, are together of bulk at most 1048576: NARROWER than '..Said'. Prove '..Said' where nothing that the law and all that it calls make is longer than what came in: it says more and counts as full. Else prove '..UptoSaid'. A law counts once. -/
mutual
def uptoBulk {H : Type} : DataW H → Nat
  | .lit (.string bytes) => bytes.length + 1
  | .lit _ => 1
  | .nil => 1
  | .ptr d => uptoBulk d + 1
  | .slice elems spare => uptoBulkAll elems + uptoBulkAll spare + 1
  | .agg parts => uptoBulkAll parts + 1
  | .iface _ d => uptoBulk d + 1
  | .map entries => uptoBulkEntries entries + 1
  | .held _ => 1
def uptoBulkAll {H : Type} : List (DataW H) → Nat
  | [] => 0
  | d :: r => uptoBulk d + uptoBulkAll r
def uptoBulkEntries {H : Type} : List (Lit × DataW H) → Nat
  | [] => 0
  | x :: r => uptoBulkEntry x + uptoBulkEntries r
def uptoBulkEntry {H : Type} : Lit × DataW H → Nat
  | (.string bytes, d) => bytes.length + uptoBulk d + 1
  | (_, d) => uptoBulk d + 1
 end
def uptoSmall : (H : Type) → List (DataW H) → Bool := fun _ ds => decide (uptoBulkAll ds ≤ 1048576)
def OpenSpec.upto (s : _root_.Go.ChangeSpec) : _root_.Go.OpenSpec := { _root_.Go.OpenSpec.ofChange s with cond := some uptoSmall }

/-- 'oblivionlaw10.NandWears', WHERE WHAT IT READS IS OF BULK AT MOST 1048576: true; the input reads as it did. -/
def nandWearsUptoRow : OpenClaim := { program := "ytjnjnkkdpglfhaa", sum := "642fb578ed5f16dad42f8d264ccac34f038c68cff949f555dd64a5dc81fdd634", func := "oblivion/oblivionlaw10.NandWears", spec := "nandWears", inPlace := ["internal/abi.NoEscape", "internal/bytealg.MakeNoZero", "sync/atomic.LoadInt64", "sync/atomic.AddInt64"], unfollowed := true, recurses := true, apart := false, narrowed := true }
def NandWearsUptoSaid : Prop := nandWearsUptoRow.holds Try.pinned (OpenSpec.upto nandWearsSpec)

/-- 'oblivionlaw10.NandArgs', WHERE WHAT IT READS IS OF BULK AT MOST 1048576: true; the input reads as it did. -/
def nandArgsUptoRow : OpenClaim := { program := "ytjnjnkkdpglfhaa", sum := "642fb578ed5f16dad42f8d264ccac34f038c68cff949f555dd64a5dc81fdd634", func := "oblivion/oblivionlaw10.NandArgs", spec := "nandArgs", inPlace := ["internal/abi.NoEscape", "internal/bytealg.MakeNoZero", "sync/atomic.LoadInt64", "sync/atomic.AddInt64"], unfollowed := true, recurses := true, apart := false, narrowed := true }
def NandArgsUptoSaid : Prop := nandArgsUptoRow.holds Try.pinned (OpenSpec.upto nandArgsSpec)

/-- 'oblivionlaw10.NandTorn', WHERE WHAT IT READS IS OF BULK AT MOST 1048576: true; the input reads as it did. -/
def nandTornUptoRow : OpenClaim := { program := "ytjnjnkkdpglfhaa", sum := "642fb578ed5f16dad42f8d264ccac34f038c68cff949f555dd64a5dc81fdd634", func := "oblivion/oblivionlaw10.NandTorn", spec := "nandTorn", inPlace := ["internal/abi.NoEscape", "internal/bytealg.MakeNoZero", "sync/atomic.LoadInt64", "sync/atomic.AddInt64", "sync/atomic.StoreInt64"], unfollowed := true, recurses := true, apart := false, narrowed := true }
def NandTornUptoSaid : Prop := nandTornUptoRow.holds Try.pinned (OpenSpec.upto nandTornSpec)

/-- 'oblivionlaw10.NandFills', WHERE WHAT IT READS IS OF BULK AT MOST 1048576: true; the input reads as it did. -/
def nandFillsUptoRow : OpenClaim := { program := "ytjnjnkkdpglfhaa", sum := "642fb578ed5f16dad42f8d264ccac34f038c68cff949f555dd64a5dc81fdd634", func := "oblivion/oblivionlaw10.NandFills", spec := "nandFills", inPlace := ["internal/abi.NoEscape", "internal/bytealg.MakeNoZero", "sync/atomic.LoadInt64", "sync/atomic.AddInt64"], unfollowed := true, recurses := true, apart := false, narrowed := true }
def NandFillsUptoSaid : Prop := nandFillsUptoRow.holds Try.pinned (OpenSpec.upto nandFillsSpec)

/-- 'oblivionlaw10.NandActs', WHERE WHAT IT READS IS OF BULK AT MOST 1048576: true; the input reads as it did. -/
def nandActsUptoRow : OpenClaim := { program := "ytjnjnkkdpglfhaa", sum := "642fb578ed5f16dad42f8d264ccac34f038c68cff949f555dd64a5dc81fdd634", func := "oblivion/oblivionlaw10.NandActs", spec := "nandActs", inPlace := ["internal/abi.NoEscape", "internal/bytealg.MakeNoZero", "sync/atomic.LoadInt64", "sync/atomic.AddInt64", "sync/atomic.StoreInt64"], unfollowed := true, recurses := true, apart := false, narrowed := true }
def NandActsUptoSaid : Prop := nandActsUptoRow.holds Try.pinned (OpenSpec.upto nandActsSpec)

end Rows
end Go.Proofs.Ytjnjnkkdpglfhaa
