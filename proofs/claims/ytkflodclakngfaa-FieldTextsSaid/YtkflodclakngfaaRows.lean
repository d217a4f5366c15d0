/-
  No cell of these rows narrows 'for every input' (looked for: loops, veiled, ifaces, maps, wideKeys, modest, calm, conditions, laid).
  DERIVED. THE GIVEN ROWS OF THIS SEAT. 7 by the template 'for every input the law returns true; each argument reads behind the call as it read before'; 0 by the template 'total and deterministic' (their statements: YtkflodclakngfaaTotals.lean).
  GIVEN WITH THE SEED: the statements are not yours to turn. If you find one false, say at which input.
  Laid BY PROGRAM, IN A SANDBOX (cutbox-rows.mjs): the forced cells as the released guide's own fill.sh prints them over the translation 7fb2b5146325418c… (all of the seat's roots in one cut). By AI agents, Wed Nov 11 2026. No macro, syntax, notation, axiom, sorry.
-/
import Derived.Test.YtkflodclakngfaaChecked
import GoSem.Claim
import GoSem.ClaimJoined
import GoSem.ClaimMapViews
import Derived.JoinedTies
import Derived.KernelRfl
namespace Go.Proofs.Ytkflodclakngfaa
/- THE CELL 'sum', in the pinned program and in every row, IS THE sha256 OF THE DUMP (.gsa) THAT YtkflodclakngfaaProg.lean LOADS. Nothing in Lean hashes anything: it is a label: what it is worth is what the hold of that sum in a sandbox is worth. -/
noncomputable def Try.pinned : Pinned := { name := "ytkflodclakngfaa", sum := "7fb2b5146325418c1c14d7ff755e85b6483b50d56deb13a379b20a293834c00e", checked := Try.checked }
namespace Rows
def none {H : Type} : Left H := { results := [], args := [] }

/-- 'oblivionlaw01.FieldNumbers': WHATEVER THE INPUT: true; the input reads as it did. -/
def fieldNumbersSpec : ChangeSpec := { name := "fieldNumbers", fn := fun _ => fun
  | [d1, d2, d3] => { results := [.lit (.bool true)], args := [d1, d2, d3] }
  | _ => none }
def fieldNumbersRow : OpenClaim := { program := "ytkflodclakngfaa", sum := "7fb2b5146325418c1c14d7ff755e85b6483b50d56deb13a379b20a293834c00e", func := "oblivion/oblivionlaw01.FieldNumbers", spec := "fieldNumbers", inPlace := ["internal/abi.NoEscape"], apart := false }
def FieldNumbersSaid : Prop := fieldNumbersRow.holds Try.pinned (OpenSpec.ofChange fieldNumbersSpec)

/-- ITS FALSE NEIGHBOUR: 'it returns false'. Refute it at one input. -/
def fieldNumbersWrong : ChangeSpec := { name := "fieldNumbers", fn := fun _ => fun
  | [d1, d2, d3] => { results := [.lit (.bool false)], args := [d1, d2, d3] }
  | _ => none }
def FieldNumbersWrongFalsely : Prop := fieldNumbersRow.holds Try.pinned (OpenSpec.ofChange fieldNumbersWrong)

/-- 'oblivionlaw01.FieldWide': WHATEVER THE INPUT: true; the input reads as it did. -/
def fieldWideSpec : ChangeSpec := { name := "fieldWide", fn := fun _ => fun
  | [d1, d2] => { results := [.lit (.bool true)], args := [d1, d2] }
  | _ => none }
def fieldWideRow : OpenClaim := { program := "ytkflodclakngfaa", sum := "7fb2b5146325418c1c14d7ff755e85b6483b50d56deb13a379b20a293834c00e", func := "oblivion/oblivionlaw01.FieldWide", spec := "fieldWide", inPlace := ["internal/abi.NoEscape"], apart := false }
def FieldWideSaid : Prop := fieldWideRow.holds Try.pinned (OpenSpec.ofChange fieldWideSpec)

/-- ITS FALSE NEIGHBOUR: 'it returns false'. Refute it at one input. -/
def fieldWideWrong : ChangeSpec := { name := "fieldWide", fn := fun _ => fun
  | [d1, d2] => { results := [.lit (.bool false)], args := [d1, d2] }
  | _ => none }
def FieldWideWrongFalsely : Prop := fieldWideRow.holds Try.pinned (OpenSpec.ofChange fieldWideWrong)

/-- 'oblivionlaw01.FieldTexts': WHATEVER THE INPUT: true; the input reads as it did. -/
def fieldTextsSpec : ChangeSpec := { name := "fieldTexts", fn := fun _ => fun
  | [d1, d2] => { results := [.lit (.bool true)], args := [d1, d2] }
  | _ => none }
def fieldTextsRow : OpenClaim := { program := "ytkflodclakngfaa", sum := "7fb2b5146325418c1c14d7ff755e85b6483b50d56deb13a379b20a293834c00e", func := "oblivion/oblivionlaw01.FieldTexts", spec := "fieldTexts", inPlace := ["internal/abi.NoEscape"], unfollowed := true, recurses := true, apart := false }
def FieldTextsSaid : Prop := fieldTextsRow.holds Try.pinned (OpenSpec.ofChange fieldTextsSpec)

/-- ITS FALSE NEIGHBOUR: 'it returns false'. Refute it at one input. -/
def fieldTextsWrong : ChangeSpec := { name := "fieldTexts", fn := fun _ => fun
  | [d1, d2] => { results := [.lit (.bool false)], args := [d1, d2] }
  | _ => none }
def FieldTextsWrongFalsely : Prop := fieldTextsRow.holds Try.pinned (OpenSpec.ofChange fieldTextsWrong)

/-- 'oblivionlaw01.FieldLists': WHATEVER THE INPUT: true; the input reads as it did. -/
def fieldListsSpec : ChangeSpec := { name := "fieldLists", fn := fun _ => fun
  | [d1, d2] => { results := [.lit (.bool true)], args := [d1, d2] }
  | _ => none }
def fieldListsRow : OpenClaim := { program := "ytkflodclakngfaa", sum := "7fb2b5146325418c1c14d7ff755e85b6483b50d56deb13a379b20a293834c00e", func := "oblivion/oblivionlaw01.FieldLists", spec := "fieldLists", inPlace := ["internal/abi.NoEscape"], unfollowed := true, recurses := true, apart := false }
def FieldListsSaid : Prop := fieldListsRow.holds Try.pinned (OpenSpec.ofChange fieldListsSpec)

/-- ITS FALSE NEIGHBOUR: 'it returns false'. Refute it at one input. -/
def fieldListsWrong : ChangeSpec := { name := "fieldLists", fn := fun _ => fun
  | [d1, d2] => { results := [.lit (.bool false)], args := [d1, d2] }
  | _ => none }
def FieldListsWrongFalsely : Prop := fieldListsRow.holds Try.pinned (OpenSpec.ofChange fieldListsWrong)

/-- 'oblivionlaw01.FieldBack': WHATEVER THE INPUT: true; the input reads as it did. -/
def fieldBackSpec : ChangeSpec := { name := "fieldBack", fn := fun _ => fun
  | [d1, d2, d3, d4] => { results := [.lit (.bool true)], args := [d1, d2, d3, d4] }
  | _ => none }
def fieldBackRow : OpenClaim := { program := "ytkflodclakngfaa", sum := "7fb2b5146325418c1c14d7ff755e85b6483b50d56deb13a379b20a293834c00e", func := "oblivion/oblivionlaw01.FieldBack", spec := "fieldBack", inPlace := ["internal/abi.NoEscape"], unfollowed := true, recurses := true, apart := false }
def FieldBackSaid : Prop := fieldBackRow.holds Try.pinned (OpenSpec.ofChange fieldBackSpec)

/-- ITS FALSE NEIGHBOUR: 'it returns false'. Refute it at one input. -/
def fieldBackWrong : ChangeSpec := { name := "fieldBack", fn := fun _ => fun
  | [d1, d2, d3, d4] => { results := [.lit (.bool false)], args := [d1, d2, d3, d4] }
  | _ => none }
def FieldBackWrongFalsely : Prop := fieldBackRow.holds Try.pinned (OpenSpec.ofChange fieldBackWrong)

/-- 'oblivionlaw01.FieldOnce': WHATEVER THE INPUT: true; the input reads as it did. -/
def fieldOnceSpec : ChangeSpec := { name := "fieldOnce", fn := fun _ => fun
  | [d] => { results := [.lit (.bool true)], args := [d] }
  | _ => none }
def fieldOnceRow : OpenClaim := { program := "ytkflodclakngfaa", sum := "7fb2b5146325418c1c14d7ff755e85b6483b50d56deb13a379b20a293834c00e", func := "oblivion/oblivionlaw01.FieldOnce", spec := "fieldOnce", inPlace := ["internal/abi.NoEscape"], unfollowed := true, recurses := true, apart := false }
def FieldOnceSaid : Prop := fieldOnceRow.holds Try.pinned (OpenSpec.ofChange fieldOnceSpec)

/-- ITS FALSE NEIGHBOUR: 'it returns false'. Refute it at one input. -/
def fieldOnceWrong : ChangeSpec := { name := "fieldOnce", fn := fun _ => fun
  | [d] => { results := [.lit (.bool false)], args := [d] }
  | _ => none }
def FieldOnceWrongFalsely : Prop := fieldOnceRow.holds Try.pinned (OpenSpec.ofChange fieldOnceWrong)

/-- 'oblivionlaw01.FieldCut': WHATEVER THE INPUT: true; the input reads as it did. -/
def fieldCutSpec : ChangeSpec := { name := "fieldCut", fn := fun _ => fun
  | [d1, d2, d3, d4] => { results := [.lit (.bool true)], args := [d1, d2, d3, d4] }
  | _ => none }
def fieldCutRow : OpenClaim := { program := "ytkflodclakngfaa", sum := "7fb2b5146325418c1c14d7ff755e85b6483b50d56deb13a379b20a293834c00e", func := "oblivion/oblivionlaw01.FieldCut", spec := "fieldCut", inPlace := ["internal/abi.NoEscape"], unfollowed := true, recurses := true, apart := false }
def FieldCutSaid : Prop := fieldCutRow.holds Try.pinned (OpenSpec.ofChange fieldCutSpec)

/-- ITS FALSE NEIGHBOUR: 'it returns false'. Refute it at one input. -/
def fieldCutWrong : ChangeSpec := { name := "fieldCut", fn := fun _ => fun
  | [d1, d2, d3, d4] => { results := [.lit (.bool false)], args := [d1, d2, d3, d4] }
  | _ => none }
def FieldCutWrongFalsely : Prop := fieldCutRow.holds Try.pinned (OpenSpec.ofChange fieldCutWrong)

/- THE SECOND FORM. 'bulk': how many values and letters a reading holds, each counted each time it is reached (what is shared counts as often as it is met; a slice's spare places count too). A statement '..UptoSaid' is the law's where the arguments, and the package variables that the reading takes, are together of bulk at most 1048576: NARROWER than '..Said'. Prove '..Said' where nothing that the law and all that it calls make is longer than what came in: it says more and counts as full. Else prove '..UptoSaid'. A law counts once. -/
mutual
def uptoBulk {H : Type} : DataW H → Nat
  | .lit (.string bytes) => bytes.length + 1
  | .lit _ => 1
  | .nil => 1
  | .ptr d => uptoBulk d + 1
  | .slice elems spare => uptoBulkAll elems + uptoBulkAll spare + 1
  | .agg parts => uptoBulkAll parts + 1
  | .iface _ d => uptoBulk d + 1
  | .map entries => uptoBulkEntries entries + 1
  | .held _ => 1
def uptoBulkAll {H : Type} : List (DataW H) → Nat
  | [] => 0
  | d :: r => uptoBulk d + uptoBulkAll r
def uptoBulkEntries {H : Type} : List (Lit × DataW H) → Nat
  | [] => 0
  | x :: r => uptoBulkEntry x + uptoBulkEntries r
def uptoBulkEntry {H : Type} : Lit × DataW H → Nat
  | (.string bytes, d) => bytes.length + uptoBulk d + 1
  | (_, d) => uptoBulk d + 1
 end
def uptoSmall : (H : Type) → List (DataW H) → Bool := fun _ ds => decide (uptoBulkAll ds ≤ 1048576)
def OpenSpec.upto (s : _root_.Go.ChangeSpec) : _root_.Go.OpenSpec := { _root_.Go.OpenSpec.ofChange s with cond := some uptoSmall }

/-- 'oblivionlaw01.FieldNumbers', WHERE WHAT IT READS IS OF BULK AT MOST 1048576: true; the input reads as it did. -/
def fieldNumbersUptoRow : OpenClaim := { program := "ytkflodclakngfaa", sum := "7fb2b5146325418c1c14d7ff755e85b6483b50d56deb13a379b20a293834c00e", func := "oblivion/oblivionlaw01.FieldNumbers", spec := "fieldNumbers", inPlace := ["internal/abi.NoEscape"], apart := false, narrowed := true }
def FieldNumbersUptoSaid : Prop := fieldNumbersUptoRow.holds Try.pinned (OpenSpec.upto fieldNumbersSpec)

/-- 'oblivionlaw01.FieldWide', WHERE WHAT IT READS IS OF BULK AT MOST 1048576: true; the input reads as it did. -/
def fieldWideUptoRow : OpenClaim := { program := "ytkflodclakngfaa", sum := "7fb2b5146325418c1c14d7ff755e85b6483b50d56deb13a379b20a293834c00e", func := "oblivion/oblivionlaw01.FieldWide", spec := "fieldWide", inPlace := ["internal/abi.NoEscape"], apart := false, narrowed := true }
def FieldWideUptoSaid : Prop := fieldWideUptoRow.holds Try.pinned (OpenSpec.upto fieldWideSpec)

/-- 'oblivionlaw01.FieldTexts', WHERE WHAT IT READS IS OF BULK AT MOST 1048576: true; the input reads as it did. -/
def fieldTextsUptoRow : OpenClaim := { program := "ytkflodclakngfaa", sum := "7fb2b5146325418c1c14d7ff755e85b6483b50d56deb13a379b20a293834c00e", func := "oblivion/oblivionlaw01.FieldTexts", spec := "fieldTexts", inPlace := ["internal/abi.NoEscape"], unfollowed := true, recurses := true, apart := false, narrowed := true }
def FieldTextsUptoSaid : Prop := fieldTextsUptoRow.holds Try.pinned (OpenSpec.upto fieldTextsSpec)

/-- 'oblivionlaw01.FieldLists', WHERE WHAT IT READS IS OF BULK AT MOST 1048576: true; the input reads as it did. -/
def fieldListsUptoRow : OpenClaim := { program := "ytkflodclakngfaa", sum := "7fb2b5146325418c1c14d7ff755e85b6483b50d56deb13a379b20a293834c00e", func := "oblivion/oblivionlaw01.FieldLists", spec := "fieldLists", inPlace := ["internal/abi.NoEscape"], unfollowed := true, recurses := true, apart := false, narrowed := true }
def FieldListsUptoSaid : Prop := fieldListsUptoRow.holds Try.pinned (OpenSpec.upto fieldListsSpec)

/-- 'oblivionlaw01.FieldBack', WHERE WHAT IT READS IS OF BULK AT MOST 1048576: true; the input reads as it did. -/
def fieldBackUptoRow : OpenClaim := { program := "ytkflodclakngfaa", sum := "7fb2b5146325418c1c14d7ff755e85b6483b50d56deb13a379b20a293834c00e", func := "oblivion/oblivionlaw01.FieldBack", spec := "fieldBack", inPlace := ["internal/abi.NoEscape"], unfollowed := true, recurses := true, apart := false, narrowed := true }
def FieldBackUptoSaid : Prop := fieldBackUptoRow.holds Try.pinned (OpenSpec.upto fieldBackSpec)

/-- 'oblivionlaw01.FieldOnce', WHERE WHAT IT READS IS OF BULK AT MOST 1048576: true; the input reads as it did. -/
def fieldOnceUptoRow : OpenClaim := { program := "ytkflodclakngfaa", sum := "7fb2b5146325418c1c14d7ff755e85b6483b50d56deb13a379b20a293834c00e", func := "oblivion/oblivionlaw01.FieldOnce", spec := "fieldOnce", inPlace := ["internal/abi.NoEscape"], unfollowed := true, recurses := true, apart := false, narrowed := true }
def FieldOnceUptoSaid : Prop := fieldOnceUptoRow.holds Try.pinned (OpenSpec.upto fieldOnceSpec)

/-- 'oblivionlaw01.FieldCut', WHERE WHAT IT READS IS OF BULK AT MOST 1048576: true; the input reads as it did. -/
def fieldCutUptoRow : OpenClaim := { program := "ytkflodclakngfaa", sum := "7fb2b5146325418c1c14d7ff755e85b6483b50d56deb13a379b20a293834c00e", func := "oblivion/oblivionlaw01.FieldCut", spec := "fieldCut", inPlace := ["internal/abi.NoEscape"], unfollowed := true, recurses := true, apart := false, narrowed := true }
def FieldCutUptoSaid : Prop := fieldCutUptoRow.holds Try.pinned (OpenSpec.upto fieldCutSpec)

end Rows
end Go.Proofs.Ytkflodclakngfaa
