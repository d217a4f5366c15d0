/-
  No cell of these rows narrows 'for every input' (looked for: loops, veiled, ifaces, maps, wideKeys, modest, calm, conditions, laid).
  DERIVED. THE GIVEN ROWS OF THIS SEAT. 6 by the template 'for every input the law returns true; each argument reads behind the call as it read before'; 0 by the template 'total and deterministic' (their statements: YtnppjkekbdapkaaTotals.lean).
  GIVEN WITH THE SEED: the statements are not yours to turn. If you find one false, say at which input.
  Laid BY PROGRAM, IN A SANDBOX (cutbox-rows.mjs): the forced cells as the released guide's own fill.sh prints them over the translation 7de91287e8ad1d06… (all of the seat's roots in one cut). By AI agents, Wed Nov 11 2026. No macro, syntax, notation, axiom, sorry.
-/
import Derived.Test.YtnppjkekbdapkaaChecked
import GoSem.Claim
import GoSem.ClaimJoined
import GoSem.ClaimMapViews
import Derived.JoinedTies
import Derived.KernelRfl
namespace Go.Proofs.Ytnppjkekbdapkaa
/- THE CELL 'sum', in the pinned program and in every row, IS THE sha256 OF THE DUMP (.gsa) THAT YtnppjkekbdapkaaProg.lean LOADS. Nothing in Lean hashes anything: it is a label: what it is worth is what the hold of that sum in a sandbox is worth. -/
noncomputable def Try.pinned : Pinned := { name := "ytnppjkekbdapkaa", sum := "7de91287e8ad1d06179e30cea08ae08186cdef930fb1793979c0ee00c0706081", checked := Try.checked }
namespace Rows
def none {H : Type} : Left H := { results := [], args := [] }

/-- 'oblivionlaw09.AdversaryMore': WHATEVER THE INPUT: true; the input reads as it did. -/
def adversaryMoreSpec : ChangeSpec := { name := "adversaryMore", fn := fun _ => fun
  | [d1, d2, d3] => { results := [.lit (.bool true)], args := [d1, d2, d3] }
  | _ => none }
def adversaryMoreRow : OpenClaim := { program := "ytnppjkekbdapkaa", sum := "7de91287e8ad1d06179e30cea08ae08186cdef930fb1793979c0ee00c0706081", func := "oblivion/oblivionlaw09.AdversaryMore", spec := "adversaryMore", plainKeys := false, apart := false }
def AdversaryMoreSaid : Prop := adversaryMoreRow.holds Try.pinned (OpenSpec.ofChange adversaryMoreSpec)

/-- ITS FALSE NEIGHBOUR: 'it returns false'. Refute it at one input. -/
def adversaryMoreWrong : ChangeSpec := { name := "adversaryMore", fn := fun _ => fun
  | [d1, d2, d3] => { results := [.lit (.bool false)], args := [d1, d2, d3] }
  | _ => none }
def AdversaryMoreWrongFalsely : Prop := adversaryMoreRow.holds Try.pinned (OpenSpec.ofChange adversaryMoreWrong)

/-- 'oblivionlaw09.AdversaryNeeds': WHATEVER THE INPUT: true; the input reads as it did. -/
def adversaryNeedsSpec : ChangeSpec := { name := "adversaryNeeds", fn := fun _ => fun
  | [d1, d2, d3] => { results := [.lit (.bool true)], args := [d1, d2, d3] }
  | _ => none }
def adversaryNeedsRow : OpenClaim := { program := "ytnppjkekbdapkaa", sum := "7de91287e8ad1d06179e30cea08ae08186cdef930fb1793979c0ee00c0706081", func := "oblivion/oblivionlaw09.AdversaryNeeds", spec := "adversaryNeeds", recurses := true, plainKeys := false, apart := false }
def AdversaryNeedsSaid : Prop := adversaryNeedsRow.holds Try.pinned (OpenSpec.ofChange adversaryNeedsSpec)

/-- ITS FALSE NEIGHBOUR: 'it returns false'. Refute it at one input. -/
def adversaryNeedsWrong : ChangeSpec := { name := "adversaryNeeds", fn := fun _ => fun
  | [d1, d2, d3] => { results := [.lit (.bool false)], args := [d1, d2, d3] }
  | _ => none }
def AdversaryNeedsWrongFalsely : Prop := adversaryNeedsRow.holds Try.pinned (OpenSpec.ofChange adversaryNeedsWrong)

/-- 'oblivionlaw09.AdversaryTells': WHATEVER THE INPUT: true; the input reads as it did. -/
def adversaryTellsSpec : ChangeSpec := { name := "adversaryTells", fn := fun _ => fun
  | [d1, d2, d3] => { results := [.lit (.bool true)], args := [d1, d2, d3] }
  | _ => none }
def adversaryTellsRow : OpenClaim := { program := "ytnppjkekbdapkaa", sum := "7de91287e8ad1d06179e30cea08ae08186cdef930fb1793979c0ee00c0706081", func := "oblivion/oblivionlaw09.AdversaryTells", spec := "adversaryTells", recurses := true, plainKeys := false, apart := false }
def AdversaryTellsSaid : Prop := adversaryTellsRow.holds Try.pinned (OpenSpec.ofChange adversaryTellsSpec)

/-- ITS FALSE NEIGHBOUR: 'it returns false'. Refute it at one input. -/
def adversaryTellsWrong : ChangeSpec := { name := "adversaryTells", fn := fun _ => fun
  | [d1, d2, d3] => { results := [.lit (.bool false)], args := [d1, d2, d3] }
  | _ => none }
def AdversaryTellsWrongFalsely : Prop := adversaryTellsRow.holds Try.pinned (OpenSpec.ofChange adversaryTellsWrong)

/-- 'oblivionlaw09.AdversaryPairs': WHATEVER THE INPUT: true; the input reads as it did. -/
def adversaryPairsSpec : ChangeSpec := { name := "adversaryPairs", fn := fun _ => fun
  | [d1, d2, d3, d4] => { results := [.lit (.bool true)], args := [d1, d2, d3, d4] }
  | _ => none }
def adversaryPairsRow : OpenClaim := { program := "ytnppjkekbdapkaa", sum := "7de91287e8ad1d06179e30cea08ae08186cdef930fb1793979c0ee00c0706081", func := "oblivion/oblivionlaw09.AdversaryPairs", spec := "adversaryPairs", recurses := true, plainKeys := false, apart := false }
def AdversaryPairsSaid : Prop := adversaryPairsRow.holds Try.pinned (OpenSpec.ofChange adversaryPairsSpec)

/-- ITS FALSE NEIGHBOUR: 'it returns false'. Refute it at one input. -/
def adversaryPairsWrong : ChangeSpec := { name := "adversaryPairs", fn := fun _ => fun
  | [d1, d2, d3, d4] => { results := [.lit (.bool false)], args := [d1, d2, d3, d4] }
  | _ => none }
def AdversaryPairsWrongFalsely : Prop := adversaryPairsRow.holds Try.pinned (OpenSpec.ofChange adversaryPairsWrong)

/-- 'oblivionlaw09.AdversaryLock': WHATEVER THE INPUT: true; the input reads as it did. -/
def adversaryLockSpec : ChangeSpec := { name := "adversaryLock", fn := fun _ => fun
  | [d1, d2, d3] => { results := [.lit (.bool true)], args := [d1, d2, d3] }
  | _ => none }
def adversaryLockRow : OpenClaim := { program := "ytnppjkekbdapkaa", sum := "7de91287e8ad1d06179e30cea08ae08186cdef930fb1793979c0ee00c0706081", func := "oblivion/oblivionlaw09.AdversaryLock", spec := "adversaryLock", recurses := true, plainKeys := false, apart := false }
def AdversaryLockSaid : Prop := adversaryLockRow.holds Try.pinned (OpenSpec.ofChange adversaryLockSpec)

/-- ITS FALSE NEIGHBOUR: 'it returns false'. Refute it at one input. -/
def adversaryLockWrong : ChangeSpec := { name := "adversaryLock", fn := fun _ => fun
  | [d1, d2, d3] => { results := [.lit (.bool false)], args := [d1, d2, d3] }
  | _ => none }
def AdversaryLockWrongFalsely : Prop := adversaryLockRow.holds Try.pinned (OpenSpec.ofChange adversaryLockWrong)

/-- 'oblivionlaw09.AdversaryChain': WHATEVER THE INPUT: true; the input reads as it did. -/
def adversaryChainSpec : ChangeSpec := { name := "adversaryChain", fn := fun _ => fun
  | [d1, d2] => { results := [.lit (.bool true)], args := [d1, d2] }
  | _ => none }
def adversaryChainRow : OpenClaim := { program := "ytnppjkekbdapkaa", sum := "7de91287e8ad1d06179e30cea08ae08186cdef930fb1793979c0ee00c0706081", func := "oblivion/oblivionlaw09.AdversaryChain", spec := "adversaryChain", recurses := true, plainKeys := false, apart := false }
def AdversaryChainSaid : Prop := adversaryChainRow.holds Try.pinned (OpenSpec.ofChange adversaryChainSpec)

/-- ITS FALSE NEIGHBOUR: 'it returns false'. Refute it at one input. -/
def adversaryChainWrong : ChangeSpec := { name := "adversaryChain", fn := fun _ => fun
  | [d1, d2] => { results := [.lit (.bool false)], args := [d1, d2] }
  | _ => none }
def AdversaryChainWrongFalsely : Prop := adversaryChainRow.holds Try.pinned (OpenSpec.ofChange adversaryChainWrong)

/- THE SECOND FORM. 'bulk': how many values and letters a reading holds, each counted each time it is reached (what is shared counts as often as it is met; a slice's spare places count too). A statement '..UptoSaid' is the law's where the arguments, and the package variables that the reading takes, are together of bulk at most 1048576: NARROWER than '..Said'. Prove '..Said' where nothing that the law and all that it calls make is longer than what came in: it says more and counts as full. Else prove '..UptoSaid'. A law counts once. -/
mutual
def uptoBulk {H : Type} : DataW H → Nat
  | .lit (.string bytes) => bytes.length + 1
  | .lit _ => 1
  | .nil => 1
  | .ptr d => uptoBulk d + 1
  | .slice elems spare => uptoBulkAll elems + uptoBulkAll spare + 1
  | .agg parts => uptoBulkAll parts + 1
  | .iface _ d => uptoBulk d + 1
  | .map entries => uptoBulkEntries entries + 1
  | .held _ => 1
def uptoBulkAll {H : Type} : List (DataW H) → Nat
  | [] => 0
  | d :: r => uptoBulk d + uptoBulkAll r
def uptoBulkEntries {H : Type} : List (Lit × DataW H) → Nat
  | [] => 0
  | x :: r => uptoBulkEntry x + uptoBulkEntries r
def uptoBulkEntry {H : Type} : Lit × DataW H → Nat
  | (.string bytes, d) => bytes.length + uptoBulk d + 1
  | (_, d) => uptoBulk d + 1
 end
def uptoSmall : (H : Type) → List (DataW H) → Bool := fun _ ds => decide (uptoBulkAll ds ≤ 1048576)
def OpenSpec.upto (s : _root_.Go.ChangeSpec) : _root_.Go.OpenSpec := { _root_.Go.OpenSpec.ofChange s with cond := some uptoSmall }

/-- 'oblivionlaw09.AdversaryMore', WHERE WHAT IT READS IS OF BULK AT MOST 1048576: true; the input reads as it did. -/
def adversaryMoreUptoRow : OpenClaim := { program := "ytnppjkekbdapkaa", sum := "7de91287e8ad1d06179e30cea08ae08186cdef930fb1793979c0ee00c0706081", func := "oblivion/oblivionlaw09.AdversaryMore", spec := "adversaryMore", plainKeys := false, apart := false, narrowed := true }
def AdversaryMoreUptoSaid : Prop := adversaryMoreUptoRow.holds Try.pinned (OpenSpec.upto adversaryMoreSpec)

/-- 'oblivionlaw09.AdversaryNeeds', WHERE WHAT IT READS IS OF BULK AT MOST 1048576: true; the input reads as it did. -/
def adversaryNeedsUptoRow : OpenClaim := { program := "ytnppjkekbdapkaa", sum := "7de91287e8ad1d06179e30cea08ae08186cdef930fb1793979c0ee00c0706081", func := "oblivion/oblivionlaw09.AdversaryNeeds", spec := "adversaryNeeds", recurses := true, plainKeys := false, apart := false, narrowed := true }
def AdversaryNeedsUptoSaid : Prop := adversaryNeedsUptoRow.holds Try.pinned (OpenSpec.upto adversaryNeedsSpec)

/-- 'oblivionlaw09.AdversaryTells', WHERE WHAT IT READS IS OF BULK AT MOST 1048576: true; the input reads as it did. -/
def adversaryTellsUptoRow : OpenClaim := { program := "ytnppjkekbdapkaa", sum := "7de91287e8ad1d06179e30cea08ae08186cdef930fb1793979c0ee00c0706081", func := "oblivion/oblivionlaw09.AdversaryTells", spec := "adversaryTells", recurses := true, plainKeys := false, apart := false, narrowed := true }
def AdversaryTellsUptoSaid : Prop := adversaryTellsUptoRow.holds Try.pinned (OpenSpec.upto adversaryTellsSpec)

/-- 'oblivionlaw09.AdversaryPairs', WHERE WHAT IT READS IS OF BULK AT MOST 1048576: true; the input reads as it did. -/
def adversaryPairsUptoRow : OpenClaim := { program := "ytnppjkekbdapkaa", sum := "7de91287e8ad1d06179e30cea08ae08186cdef930fb1793979c0ee00c0706081", func := "oblivion/oblivionlaw09.AdversaryPairs", spec := "adversaryPairs", recurses := true, plainKeys := false, apart := false, narrowed := true }
def AdversaryPairsUptoSaid : Prop := adversaryPairsUptoRow.holds Try.pinned (OpenSpec.upto adversaryPairsSpec)

/-- 'oblivionlaw09.AdversaryLock', WHERE WHAT IT READS IS OF BULK AT MOST 1048576: true; the input reads as it did. -/
def adversaryLockUptoRow : OpenClaim := { program := "ytnppjkekbdapkaa", sum := "7de91287e8ad1d06179e30cea08ae08186cdef930fb1793979c0ee00c0706081", func := "oblivion/oblivionlaw09.AdversaryLock", spec := "adversaryLock", recurses := true, plainKeys := false, apart := false, narrowed := true }
def AdversaryLockUptoSaid : Prop := adversaryLockUptoRow.holds Try.pinned (OpenSpec.upto adversaryLockSpec)

/-- 'oblivionlaw09.AdversaryChain', WHERE WHAT IT READS IS OF BULK AT MOST 1048576: true; the input reads as it did. -/
def adversaryChainUptoRow : OpenClaim := { program := "ytnppjkekbdapkaa", sum := "7de91287e8ad1d06179e30cea08ae08186cdef930fb1793979c0ee00c0706081", func := "oblivion/oblivionlaw09.AdversaryChain", spec := "adversaryChain", recurses := true, plainKeys := false, apart := false, narrowed := true }
def AdversaryChainUptoSaid : Prop := adversaryChainUptoRow.holds Try.pinned (OpenSpec.upto adversaryChainSpec)

end Rows
end Go.Proofs.Ytnppjkekbdapkaa
