/-
  Maps from numbers to numbers: what is at each key.
-/
import Derived.Test.YtnppjkekbdapkaaDoorPla
import Derived.Maps.OwnSet
import Derived.Maps.Views
set_option linter.unusedVariables false
namespace Go.Proofs.YtnppjkekbdapkaaDoor
open Go.RowKit
open Go.Maps (Keyed)

/-- Block b is a map of at most n entries; at k it has f k. -/
def IM (w : World) (b n : Nat) (f : Int → Int) : Prop :=
  ∃ D : DataW Unit, w.ownsMap Tryd.prog 3 (plainElem Tryd.prog 3) b n D ∧ Maps.IsMap D ∧ ∀ k, D.atKey (.int .i64 k) (.lit (.int .i64 0)) = .lit (.int .i64 (f k))
theorem IM.new (w : World) : IM (w.alloc (.map #[] 0)) w.heap.size 0 (fun _ => 0) := ⟨.map [], World.ownsMap_made w _ _ _, Maps.isMap_empty, fun _ => rfl⟩
theorem IM.row {w : World} {b n : Nat} {f : Int → Int} (h : IM w b n f) : ∃ es clock, w.heap[b]? = some (.map es clock) := by
  obtain ⟨D, ⟨es, clock, hb, _⟩, _⟩ := h
  exact ⟨es, clock, hb⟩
theorem IM.keep {w w' : World} {b n : Nat} {f : Int → Int} {S : Nat → Prop} (h : IM w b n f) (o : Only S w w') (hs : ¬ S b) : IM w' b n f := by
  obtain ⟨D, ⟨es, clock, hb, r⟩, h2⟩ := h
  exact ⟨D, ⟨es, clock, keepRow o hb hs, r⟩, h2⟩
theorem IM.look {w : World} {b n : Nat} {f : Int → Int} (h : IM w b n f) {k : Int} (hk : wf64 k) : (Instr.lookup 34 (.map (some b)) (.int .i64 k) false).run Tryd.prog w = .ok (.int .i64 (f k)) w ∧ wf64 (f k) := by
  obtain ⟨D, h1, h2, h3⟩ := h
  obtain ⟨c, hrun, hat, hwc⟩ := h1.lookup_int (Maps.int_keyed Tryd.underlying3) Tryd.underlying34 Tryd.underlying3 (by kernel_rfl) (key := .int .i64 k) (Maps.keyOf_int_mk Tryd.underlying3 hk)
  rw [h3 k] at hat
  have e : f k = c := by injection hat with e; injection e
  rw [e]
  exact ⟨hrun, hwc⟩
theorem IM.put {w : World} {b n : Nat} {f : Int → Int} (h : IM w b n f) (hn : n < maxLen) {k v : Int} (hk : wf64 k) (hv : wf64 v) :
    ∃ w', (Instr.mapUpdate 34 (.map (some b)) (.int .i64 k) (.int .i64 v)).run Tryd.prog w = .ok () w' ∧ IM w' b (n + 1) (fun j => if j = k then v else f j) ∧ Only (fun x => x = b) w w' := by
  obtain ⟨D, h1, h2, h3⟩ := h
  obtain ⟨w', hrun, ho, hg⟩ := h1.update (Maps.int_keyed Tryd.underlying3) Tryd.underlying34 hn (key := .int .i64 k) (val := .int .i64 v) (Maps.keyOf_int_mk Tryd.underlying3 hk) (plainElem_int Tryd.underlying3 hv)
  refine ⟨w', hrun, ⟨_, ho, h2.put _ _, fun j => ?_⟩, ⟨hg.os, hg.tape, hg.output, hg.size, fun i hi hne => hg.block i hi (by intro e; exact hne (Option.some.inj e))⟩⟩
  by_cases hj : j = k
  · subst hj
    show _ = DataW.lit (.int .i64 (if j = j then v else f j))
    rw [if_pos rfl, Maps.atKey_put_same h2 (by trivial)]
  · show _ = DataW.lit (.int .i64 (if j = k then v else f j))
    rw [if_neg hj, Maps.atKey_put_other (by intro e; injection e with _ e; exact hj e), h3 j]
end Go.Proofs.YtnppjkekbdapkaaDoor
