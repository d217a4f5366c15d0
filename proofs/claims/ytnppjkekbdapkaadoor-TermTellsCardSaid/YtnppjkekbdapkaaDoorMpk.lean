/-
  Maps from nodes to numbers. (Printed by mkdoor2.py.)
-/
import Derived.Test.YtnppjkekbdapkaaDoorPla
import Derived.Maps.OwnSet
import Derived.Maps.Views
import Derived.DeepKeys4
set_option linter.unusedVariables false
namespace Go.Proofs.YtnppjkekbdapkaaDoor
open Go.RowKit
open Go.Maps (Keyed)

theorem laid34 : laidOutB Tryd.prog = true := by kernel_rfl
theorem law34 : Keyed Tryd.prog 27 := Maps.Keyed.of_law (deep_law_laid laid34 (m := 2) (by omega) (of_decide_eq_true (by kernel_rfl)) (by kernel_rfl) (by rw [Tryd.underlying27]))
theorem key_nd {x : Nd} (h : x.Wf) : ∃ kl, keyOf Tryd.prog 27 (.agg (ndA x)) = some kl := by
  obtain ⟨op, a, b⟩ := x
  obtain ⟨h1, h2, h3⟩ := h
  have hk : Tryd.prog.keyType 27 = true := by kernel_rfl
  have hf : (Value.agg (ndA ⟨op, a, b⟩)).formed Tryd.prog 27 = true := by
    have hc : Tryd.prog.cellsOf 27 = 3 := by kernel_rfl
    simp [Value.formed, Tryd.underlying27, hc, ndA]
  obtain ⟨n, hn⟩ : ∃ n, Tryd.prog.types.size = n + 1 := Nat.exists_eq_succ_of_ne_zero (by
    have : 0 < Tryd.prog.types.size := of_decide_eq_true (by kernel_rfl)
    omega)
  have hc : Tryd.prog.cellsOf 27 = 3 := by kernel_rfl
  have hc3 : Tryd.prog.cellsOf 3 = 1 := by kernel_rfl
  have hl : ∃ ls, Tryd.prog.keyLits (Tryd.prog.types.size + 1) 27 (Value.agg (ndA ⟨op, a, b⟩)).cells.toList = some ls := by
    rw [hn]
    refine ⟨[.int .i64 op, .int .i64 a, .int .i64 b], ?_⟩
    simp only [Program.keyLits, Tryd.underlying27, hc, Value.cells, ndA]
    unfold wf64 at h1 h2 h3
    simp [Tryd.underlying3, hc3, h1, h2, h3]
  obtain ⟨ls, hl⟩ := hl
  refine ⟨.string (keyBytes ls), ?_⟩
  unfold keyOf
  rw [Tryd.underlying27]
  simp only [hk, hf, hl]
  rfl

/-- Block b is a map of at most n entries: at x it has m x, or nothing. -/
def NM (w : World) (b n : Nat) (m : Nd → Option Int) : Prop :=
  ∃ D : DataW Unit, w.ownsMap Tryd.prog 27 (plainElem Tryd.prog 3) b n D ∧ Maps.IsMap D ∧ ∀ x kl, keyOf Tryd.prog 27 (.agg (ndA x)) = some kl → Maps.has D kl = (m x).isSome ∧ D.atKey kl (.lit (.int .i64 0)) = .lit (.int .i64 ((m x).getD 0))
theorem NM.new (w : World) : NM (w.alloc (.map #[] 0)) w.heap.size 0 (fun _ => none) := ⟨.map [], World.ownsMap_made w _ _ _, Maps.isMap_empty, fun _ _ _ => ⟨rfl, rfl⟩⟩
theorem NM.keep {w w' : World} {b n : Nat} {m : Nd → Option Int} {S : Nat → Prop} (h : NM w b n m) (o : Only S w w') (hs : ¬ S b) : NM w' b n m := by
  obtain ⟨D, ⟨es, clock, hb, r⟩, h2⟩ := h
  exact ⟨D, ⟨es, clock, keepRow o hb hs, r⟩, h2⟩
theorem NM.row {w : World} {b n : Nat} {m : Nd → Option Int} (h : NM w b n m) : ∃ es clock, w.heap[b]? = some (.map es clock) := by
  obtain ⟨D, ⟨es, clock, hb, _⟩, _⟩ := h
  exact ⟨es, clock, hb⟩
theorem NM.look {w : World} {b n : Nat} {m : Nd → Option Int} (h : NM w b n m) {x : Nd} (hx : x.Wf) : (Instr.lookup 59 (.map (some b)) (.agg (ndA x)) false).run Tryd.prog w = .ok (.int .i64 ((m x).getD 0)) w := by
  obtain ⟨D, h1, h2, h3⟩ := h
  obtain ⟨kl, hk⟩ := key_nd hx
  obtain ⟨c, hrun, hat, hwc⟩ := h1.lookup_int law34 Tryd.underlying59 Tryd.underlying3 (by kernel_rfl) hk
  rw [(h3 x kl hk).2] at hat
  have e : (m x).getD 0 = c := by injection hat with e; injection e
  rw [e]
  exact hrun
theorem NM.lookOk {w : World} {b n : Nat} {m : Nd → Option Int} (h : NM w b n m) {x : Nd} (hx : x.Wf) : (Instr.lookup 59 (.map (some b)) (.agg (ndA x)) true).run Tryd.prog w = .ok (.tuple #[.int .i64 ((m x).getD 0), .bool (m x).isSome]) w := by
  obtain ⟨D, h1, h2, h3⟩ := h
  obtain ⟨kl, hk⟩ := key_nd hx
  obtain ⟨v, ps, hrun, hv⟩ := h1.look_ok law34 Tryd.underlying59 (z := .int .i64 0) (by kernel_rfl) (plainElem_int Tryd.underlying3 (by decide)) hk
  obtain ⟨c, rfl, hc, hwc⟩ := plainElem_int_inv Tryd.underlying3 hv
  simp only [Prod.mk.injEq] at hc
  have hat := hc.1
  rw [(h3 x kl hk).2] at hat
  have e : (m x).getD 0 = c := by injection hat with e; injection e
  rw [hrun, (h3 x kl hk).1, e]
theorem NM.put {w : World} {b n : Nat} {m : Nd → Option Int} (h : NM w b n m) (hn : n < maxLen) {x : Nd} {v : Int} (hx : x.Wf) (hv : wf64 v) :
    ∃ w', (Instr.mapUpdate 59 (.map (some b)) (.agg (ndA x)) (.int .i64 v)).run Tryd.prog w = .ok () w' ∧ NM w' b (n + 1) (fun y => if y = x then some v else m y) ∧ Only (fun k => k = b) w w' := by
  obtain ⟨D, h1, h2, h3⟩ := h
  obtain ⟨kx, hk⟩ := key_nd hx
  obtain ⟨w', hrun, ho, hg⟩ := h1.update law34 Tryd.underlying59 hn hk (plainElem_int Tryd.underlying3 hv)
  refine ⟨w', hrun, ⟨_, ho, h2.put _ _, fun y ky hy => ?_⟩, ⟨hg.os, hg.tape, hg.output, hg.size, fun i hi hne => hg.block i hi (by intro e; exact hne (Option.some.inj e))⟩⟩
  show _ = (if y = x then some v else m y).isSome ∧ _ = DataW.lit (.int .i64 ((if y = x then some v else m y).getD 0))
  by_cases hyx : y = x
  · subst hyx
    obtain rfl : ky = kx := Option.some.inj (hy.symm.trans hk)
    rw [if_pos rfl, Maps.atKey_put_same h2 (law34.key hk), Maps.has_put_same h2 (law34.key hk)]
    exact ⟨rfl, rfl⟩
  · have hne : ky ≠ kx := by
      rintro rfl
      have := law34.inj hy hk
      apply hyx
      injection this with this
      obtain ⟨a1, a2, a3⟩ := y
      obtain ⟨b1, b2, b3⟩ := x
      simp [ndA] at this
      obtain ⟨rfl, rfl, rfl⟩ := this
      rfl
    rw [if_neg hyx, Maps.atKey_put_other hne, Maps.has_put_other hne]
    exact h3 y ky hy
end Go.Proofs.YtnppjkekbdapkaaDoor
