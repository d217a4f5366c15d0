/-
  No cell of these rows narrows 'for every input' (looked for: loops, veiled, ifaces, maps, wideKeys, modest, calm, conditions, laid).
  DERIVED. THE GIVEN ROWS OF THIS SEAT. 7 by the template 'for every input the law returns true; each argument reads behind the call as it read before'; 0 by the template 'total and deterministic' (their statements: YtbmckmlekhkpeaaTotals.lean).
  GIVEN WITH THE SEED: the statements are not yours to turn. If you find one false, say at which input.
  Laid BY PROGRAM, IN A SANDBOX (cutbox-rows.mjs): the forced cells as the released guide's own fill.sh prints them over the translation 4324f2e3c47e98e7… (all of the seat's roots in one cut). By AI agents, Wed Nov 11 2026. No macro, syntax, notation, axiom, sorry.
-/
import Derived.Test.YtbmckmlekhkpeaaChecked
import GoSem.Claim
import GoSem.ClaimJoined
import GoSem.ClaimMapViews
import Derived.JoinedTies
import Derived.KernelRfl
namespace Go.Proofs.Ytbmckmlekhkpeaa
/- THE CELL 'sum', in the pinned program and in every row, IS THE sha256 OF THE DUMP (.gsa) THAT YtbmckmlekhkpeaaProg.lean LOADS. Nothing in Lean hashes anything: it is a label: what it is worth is what the hold of that sum in a sandbox is worth. -/
noncomputable def Try.pinned : Pinned := { name := "ytbmckmlekhkpeaa", sum := "4324f2e3c47e98e75091d7b115d02c537b06b8b563e1d643fe33b1bc5c3818aa", checked := Try.checked }
namespace Rows
def none {H : Type} : Left H := { results := [], args := [] }

/-- 'oblivionlaw14.NodeDecodes': WHATEVER THE INPUT: true; the input reads as it did. -/
def nodeDecodesSpec : ChangeSpec := { name := "nodeDecodes", fn := fun _ => fun
  | [d] => { results := [.lit (.bool true)], args := [d] }
  | _ => none }
def nodeDecodesRow : OpenClaim := { program := "ytbmckmlekhkpeaa", sum := "4324f2e3c47e98e75091d7b115d02c537b06b8b563e1d643fe33b1bc5c3818aa", func := "oblivion/oblivionlaw14.NodeDecodes", spec := "nodeDecodes", inPlace := ["internal/abi.NoEscape"], unfollowed := true, recurses := true, apart := false }
def NodeDecodesSaid : Prop := nodeDecodesRow.holds Try.pinned (OpenSpec.ofChange nodeDecodesSpec)

/-- ITS FALSE NEIGHBOUR: 'it returns false'. Refute it at one input. -/
def nodeDecodesWrong : ChangeSpec := { name := "nodeDecodes", fn := fun _ => fun
  | [d] => { results := [.lit (.bool false)], args := [d] }
  | _ => none }
def NodeDecodesWrongFalsely : Prop := nodeDecodesRow.holds Try.pinned (OpenSpec.ofChange nodeDecodesWrong)

/-- 'oblivionlaw14.NodeSizes': WHATEVER THE INPUT: true; the input reads as it did. -/
def nodeSizesSpec : ChangeSpec := { name := "nodeSizes", fn := fun _ => fun
  | [d] => { results := [.lit (.bool true)], args := [d] }
  | _ => none }
def nodeSizesRow : OpenClaim := { program := "ytbmckmlekhkpeaa", sum := "4324f2e3c47e98e75091d7b115d02c537b06b8b563e1d643fe33b1bc5c3818aa", func := "oblivion/oblivionlaw14.NodeSizes", spec := "nodeSizes", inPlace := ["internal/abi.NoEscape"], unfollowed := true, recurses := true, apart := false }
def NodeSizesSaid : Prop := nodeSizesRow.holds Try.pinned (OpenSpec.ofChange nodeSizesSpec)

/-- ITS FALSE NEIGHBOUR: 'it returns false'. Refute it at one input. -/
def nodeSizesWrong : ChangeSpec := { name := "nodeSizes", fn := fun _ => fun
  | [d] => { results := [.lit (.bool false)], args := [d] }
  | _ => none }
def NodeSizesWrongFalsely : Prop := nodeSizesRow.holds Try.pinned (OpenSpec.ofChange nodeSizesWrong)

/-- 'oblivionlaw14.NodeOnce': WHATEVER THE INPUT: true; the input reads as it did. -/
def nodeOnceSpec : ChangeSpec := { name := "nodeOnce", fn := fun _ => fun
  | [d1, d2] => { results := [.lit (.bool true)], args := [d1, d2] }
  | _ => none }
def nodeOnceRow : OpenClaim := { program := "ytbmckmlekhkpeaa", sum := "4324f2e3c47e98e75091d7b115d02c537b06b8b563e1d643fe33b1bc5c3818aa", func := "oblivion/oblivionlaw14.NodeOnce", spec := "nodeOnce", inPlace := ["internal/abi.NoEscape"], unfollowed := true, recurses := true, apart := false }
def NodeOnceSaid : Prop := nodeOnceRow.holds Try.pinned (OpenSpec.ofChange nodeOnceSpec)

/-- ITS FALSE NEIGHBOUR: 'it returns false'. Refute it at one input. -/
def nodeOnceWrong : ChangeSpec := { name := "nodeOnce", fn := fun _ => fun
  | [d1, d2] => { results := [.lit (.bool false)], args := [d1, d2] }
  | _ => none }
def NodeOnceWrongFalsely : Prop := nodeOnceRow.holds Try.pinned (OpenSpec.ofChange nodeOnceWrong)

/-- 'oblivionlaw14.NodeEncodes': WHATEVER THE INPUT: true; the input reads as it did. -/
def nodeEncodesSpec : ChangeSpec := { name := "nodeEncodes", fn := fun _ => fun
  | [d] => { results := [.lit (.bool true)], args := [d] }
  | _ => none }
def nodeEncodesRow : OpenClaim := { program := "ytbmckmlekhkpeaa", sum := "4324f2e3c47e98e75091d7b115d02c537b06b8b563e1d643fe33b1bc5c3818aa", func := "oblivion/oblivionlaw14.NodeEncodes", spec := "nodeEncodes", inPlace := ["internal/abi.NoEscape"], unfollowed := true, recurses := true, apart := false }
def NodeEncodesSaid : Prop := nodeEncodesRow.holds Try.pinned (OpenSpec.ofChange nodeEncodesSpec)

/-- ITS FALSE NEIGHBOUR: 'it returns false'. Refute it at one input. -/
def nodeEncodesWrong : ChangeSpec := { name := "nodeEncodes", fn := fun _ => fun
  | [d] => { results := [.lit (.bool false)], args := [d] }
  | _ => none }
def NodeEncodesWrongFalsely : Prop := nodeEncodesRow.holds Try.pinned (OpenSpec.ofChange nodeEncodesWrong)

/-- 'oblivionlaw14.NodeDigits': WHATEVER THE INPUT: true; the input reads as it did. -/
def nodeDigitsSpec : ChangeSpec := { name := "nodeDigits", fn := fun _ => fun
  | [d1, d2] => { results := [.lit (.bool true)], args := [d1, d2] }
  | _ => none }
def nodeDigitsRow : OpenClaim := { program := "ytbmckmlekhkpeaa", sum := "4324f2e3c47e98e75091d7b115d02c537b06b8b563e1d643fe33b1bc5c3818aa", func := "oblivion/oblivionlaw14.NodeDigits", spec := "nodeDigits", inPlace := ["internal/abi.NoEscape"], unfollowed := true, recurses := true, apart := false }
def NodeDigitsSaid : Prop := nodeDigitsRow.holds Try.pinned (OpenSpec.ofChange nodeDigitsSpec)

/-- ITS FALSE NEIGHBOUR: 'it returns false'. Refute it at one input. -/
def nodeDigitsWrong : ChangeSpec := { name := "nodeDigits", fn := fun _ => fun
  | [d1, d2] => { results := [.lit (.bool false)], args := [d1, d2] }
  | _ => none }
def NodeDigitsWrongFalsely : Prop := nodeDigitsRow.holds Try.pinned (OpenSpec.ofChange nodeDigitsWrong)

/-- 'oblivionlaw14.NodeWith': WHATEVER THE INPUT: true; the input reads as it did. -/
def nodeWithSpec : ChangeSpec := { name := "nodeWith", fn := fun _ => fun
  | [d1, d2, d3] => { results := [.lit (.bool true)], args := [d1, d2, d3] }
  | _ => none }
def nodeWithRow : OpenClaim := { program := "ytbmckmlekhkpeaa", sum := "4324f2e3c47e98e75091d7b115d02c537b06b8b563e1d643fe33b1bc5c3818aa", func := "oblivion/oblivionlaw14.NodeWith", spec := "nodeWith", inPlace := ["internal/abi.NoEscape"], unfollowed := true, recurses := true, apart := false }
def NodeWithSaid : Prop := nodeWithRow.holds Try.pinned (OpenSpec.ofChange nodeWithSpec)

/-- ITS FALSE NEIGHBOUR: 'it returns false'. Refute it at one input. -/
def nodeWithWrong : ChangeSpec := { name := "nodeWith", fn := fun _ => fun
  | [d1, d2, d3] => { results := [.lit (.bool false)], args := [d1, d2, d3] }
  | _ => none }
def NodeWithWrongFalsely : Prop := nodeWithRow.holds Try.pinned (OpenSpec.ofChange nodeWithWrong)

/-- 'oblivionlaw14.NodePaths': WHATEVER THE INPUT: true; the input reads as it did. -/
def nodePathsSpec : ChangeSpec := { name := "nodePaths", fn := fun _ => fun
  | [d1, d2, d3, d4] => { results := [.lit (.bool true)], args := [d1, d2, d3, d4] }
  | _ => none }
def nodePathsRow : OpenClaim := { program := "ytbmckmlekhkpeaa", sum := "4324f2e3c47e98e75091d7b115d02c537b06b8b563e1d643fe33b1bc5c3818aa", func := "oblivion/oblivionlaw14.NodePaths", spec := "nodePaths", inPlace := ["internal/abi.NoEscape"], unfollowed := true, recurses := true, apart := false }
def NodePathsSaid : Prop := nodePathsRow.holds Try.pinned (OpenSpec.ofChange nodePathsSpec)

/-- ITS FALSE NEIGHBOUR: 'it returns false'. Refute it at one input. -/
def nodePathsWrong : ChangeSpec := { name := "nodePaths", fn := fun _ => fun
  | [d1, d2, d3, d4] => { results := [.lit (.bool false)], args := [d1, d2, d3, d4] }
  | _ => none }
def NodePathsWrongFalsely : Prop := nodePathsRow.holds Try.pinned (OpenSpec.ofChange nodePathsWrong)

/- THE SECOND FORM. 'bulk': how many values and letters a reading holds, each counted each time it is reached (what is shared counts as often as it is met; a slice's spare places count too). A statement '..UptoSaid' is the law's where the arguments, and the package variables that the reading takes, are together of bulk at most 1048576: NARROWER than '..Said'. Prove '..Said' where nothing that the law and all that it calls make is longer than what came in: it says more and counts as full. Else prove '..UptoSaid'. A law counts once. -/
mutual
def uptoBulk {H : Type} : DataW H → Nat
  | .lit (.string bytes) => bytes.length + 1
  | .lit _ => 1
  | .nil => 1
  | .ptr d => uptoBulk d + 1
  | .slice elems spare => uptoBulkAll elems + uptoBulkAll spare + 1
  | .agg parts => uptoBulkAll parts + 1
  | .iface _ d => uptoBulk d + 1
  | .map entries => uptoBulkEntries entries + 1
  | .held _ => 1
def uptoBulkAll {H : Type} : List (DataW H) → Nat
  | [] => 0
  | d :: r => uptoBulk d + uptoBulkAll r
def uptoBulkEntries {H : Type} : List (Lit × DataW H) → Nat
  | [] => 0
  | x :: r => uptoBulkEntry x + uptoBulkEntries r
def uptoBulkEntry {H : Type} : Lit × DataW H → Nat
  | (.string bytes, d) => bytes.length + uptoBulk d + 1
  | (_, d) => uptoBulk d + 1
 end
def uptoSmall : (H : Type) → List (DataW H) → Bool := fun _ ds => decide (uptoBulkAll ds ≤ 1048576)
def OpenSpec.upto (s : _root_.Go.ChangeSpec) : _root_.Go.OpenSpec := { _root_.Go.OpenSpec.ofChange s with cond := some uptoSmall }

/-- 'oblivionlaw14.NodeDecodes', WHERE WHAT IT READS IS OF BULK AT MOST 1048576: true; the input reads as it did. -/
def nodeDecodesUptoRow : OpenClaim := { program := "ytbmckmlekhkpeaa", sum := "4324f2e3c47e98e75091d7b115d02c537b06b8b563e1d643fe33b1bc5c3818aa", func := "oblivion/oblivionlaw14.NodeDecodes", spec := "nodeDecodes", inPlace := ["internal/abi.NoEscape"], unfollowed := true, recurses := true, apart := false, narrowed := true }
def NodeDecodesUptoSaid : Prop := nodeDecodesUptoRow.holds Try.pinned (OpenSpec.upto nodeDecodesSpec)

/-- 'oblivionlaw14.NodeSizes', WHERE WHAT IT READS IS OF BULK AT MOST 1048576: true; the input reads as it did. -/
def nodeSizesUptoRow : OpenClaim := { program := "ytbmckmlekhkpeaa", sum := "4324f2e3c47e98e75091d7b115d02c537b06b8b563e1d643fe33b1bc5c3818aa", func := "oblivion/oblivionlaw14.NodeSizes", spec := "nodeSizes", inPlace := ["internal/abi.NoEscape"], unfollowed := true, recurses := true, apart := false, narrowed := true }
def NodeSizesUptoSaid : Prop := nodeSizesUptoRow.holds Try.pinned (OpenSpec.upto nodeSizesSpec)

/-- 'oblivionlaw14.NodeOnce', WHERE WHAT IT READS IS OF BULK AT MOST 1048576: true; the input reads as it did. -/
def nodeOnceUptoRow : OpenClaim := { program := "ytbmckmlekhkpeaa", sum := "4324f2e3c47e98e75091d7b115d02c537b06b8b563e1d643fe33b1bc5c3818aa", func := "oblivion/oblivionlaw14.NodeOnce", spec := "nodeOnce", inPlace := ["internal/abi.NoEscape"], unfollowed := true, recurses := true, apart := false, narrowed := true }
def NodeOnceUptoSaid : Prop := nodeOnceUptoRow.holds Try.pinned (OpenSpec.upto nodeOnceSpec)

/-- 'oblivionlaw14.NodeEncodes', WHERE WHAT IT READS IS OF BULK AT MOST 1048576: true; the input reads as it did. -/
def nodeEncodesUptoRow : OpenClaim := { program := "ytbmckmlekhkpeaa", sum := "4324f2e3c47e98e75091d7b115d02c537b06b8b563e1d643fe33b1bc5c3818aa", func := "oblivion/oblivionlaw14.NodeEncodes", spec := "nodeEncodes", inPlace := ["internal/abi.NoEscape"], unfollowed := true, recurses := true, apart := false, narrowed := true }
def NodeEncodesUptoSaid : Prop := nodeEncodesUptoRow.holds Try.pinned (OpenSpec.upto nodeEncodesSpec)

/-- 'oblivionlaw14.NodeDigits', WHERE WHAT IT READS IS OF BULK AT MOST 1048576: true; the input reads as it did. -/
def nodeDigitsUptoRow : OpenClaim := { program := "ytbmckmlekhkpeaa", sum := "4324f2e3c47e98e75091d7b115d02c537b06b8b563e1d643fe33b1bc5c3818aa", func := "oblivion/oblivionlaw14.NodeDigits", spec := "nodeDigits", inPlace := ["internal/abi.NoEscape"], unfollowed := true, recurses := true, apart := false, narrowed := true }
def NodeDigitsUptoSaid : Prop := nodeDigitsUptoRow.holds Try.pinned (OpenSpec.upto nodeDigitsSpec)

/-- 'oblivionlaw14.NodeWith', WHERE WHAT IT READS IS OF BULK AT MOST 1048576: true; the input reads as it did. -/
def nodeWithUptoRow : OpenClaim := { program := "ytbmckmlekhkpeaa", sum := "4324f2e3c47e98e75091d7b115d02c537b06b8b563e1d643fe33b1bc5c3818aa", func := "oblivion/oblivionlaw14.NodeWith", spec := "nodeWith", inPlace := ["internal/abi.NoEscape"], unfollowed := true, recurses := true, apart := false, narrowed := true }
def NodeWithUptoSaid : Prop := nodeWithUptoRow.holds Try.pinned (OpenSpec.upto nodeWithSpec)

/-- 'oblivionlaw14.NodePaths', WHERE WHAT IT READS IS OF BULK AT MOST 1048576: true; the input reads as it did. -/
def nodePathsUptoRow : OpenClaim := { program := "ytbmckmlekhkpeaa", sum := "4324f2e3c47e98e75091d7b115d02c537b06b8b563e1d643fe33b1bc5c3818aa", func := "oblivion/oblivionlaw14.NodePaths", spec := "nodePaths", inPlace := ["internal/abi.NoEscape"], unfollowed := true, recurses := true, apart := false, narrowed := true }
def NodePathsUptoSaid : Prop := nodePathsUptoRow.holds Try.pinned (OpenSpec.upto nodePathsSpec)

end Rows
end Go.Proofs.Ytbmckmlekhkpeaa
