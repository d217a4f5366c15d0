/-
  What the rows' laid variables give; a world that meets them.
-/
import Derived.Test.YtnppjkekbdapkaaDoorSiz
import Derived.Test.YtnppjkekbdapkaaDoorRows
import Derived.LaidLaws
import Derived.LaidHandle
import Derived.Lib.LaidIn
import Derived.Lib.LaidTab
set_option linter.unusedVariables false
namespace Go.Proofs.YtnppjkekbdapkaaDoor
open Go.RowKit

def laidL : List (String × DataW Unit) := [("math/bits.deBruijn32tab", Rows.laid_math_bits_deBruijn32tab), ("math/bits.deBruijn64tab", Rows.laid_math_bits_deBruijn64tab), ("internal/strconv.uint64pow10", Rows.laid_internal_strconv_uint64pow10)]
theorem gP : Tryd.prog.globalNamed "internal/strconv.uint64pow10" = some 0 := by kernel_rfl
theorem gPType : (Tryd.prog.globals[0]?).map (·.type) = some 71 := by kernel_rfl
theorem laidMet_third {P : Program} {x y z : String × DataW Unit} {w : World} (h : laidMet P [x, y, z] w) : laidMet P [z] w := by
  obtain ⟨xn, xd⟩ := x
  obtain ⟨yn, yd⟩ := y
  obtain ⟨zn, zd⟩ := z
  obtain ⟨ps, ⟨_, _, _, _, p1, q1, _, _, _, _, ⟨_, _, _, _, p2, q2, _, _, _, _, h3, rfl⟩, rfl⟩, hn, hr⟩ := h
  refine ⟨q2, h3, ?_, fun b off hb => hr b off (by simp [hb])⟩
  have := (List.nodup_append.1 hn).2.1
  exact (List.nodup_append.1 this).2.1
theorem pow10_of_laid {W : World} (h : laidMetH Tryd.prog laidL W) : Pow10 W := by
  have h' : laidMet Tryd.prog laidL W := h
  have h3 : laidMet Tryd.prog (("internal/strconv.uint64pow10", Lib.tabData .u64 Lib.pow10Tab) :: []) W := laidMet_third h'
  exact Lib.tabIs_of_head gP gPType Tryd.underlying71 Tryd.underlying64 (by kernel_rfl) (by kernel_rfl) h3

def cellsOf : DataW Unit → Array Value
  | .agg xs => (xs.filterMap fun | .lit (.int k n) => some (Value.int k n) | _ => none).toArray
  | _ => #[]
/-- The settled world, the three variables laid. -/
noncomputable def laidWorld (os : Os) : World :=
  let w0 := World.holding Tryd.prog os ⟨#[], #[], []⟩
  { w0 with heap := ((w0.heap.modify 0 fun
      | .cells _ t frozen => .cells (cellsOf Rows.laid_internal_strconv_uint64pow10) t frozen
      | o => o).modify 1 fun
      | .cells _ t frozen => .cells (cellsOf Rows.laid_math_bits_deBruijn32tab) t frozen
      | o => o).modify 2 fun
      | .cells _ t frozen => .cells (cellsOf Rows.laid_math_bits_deBruijn64tab) t frozen
      | o => o }
theorem laidWorld_met (os : Os) (args : Array Value) : laidMetH Tryd.prog laidL ((laidWorld os).forCall (fun _ _ => 0) ⟨#[], args, []⟩).memory :=
  show laidMet Tryd.prog laidL _ from (LaidIn.of_run [0, 1, 2] 8 (by kernel_rfl) (by kernel_rfl) (by kernel_rfl) (by kernel_rfl)).met
end Go.Proofs.YtnppjkekbdapkaaDoor
