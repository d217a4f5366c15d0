/-
  Single operations of drawn regions; appends.
-/
import Derived.Test.YtnppjkekbdapkaaDoorHld
import Derived.Great.BuildSlice
import Derived.Laws.BytesArg
import Derived.Lib.ConvBytes
import Derived.Laws.MakeOwn
import Derived.Deep.LoopGhost
import Derived.Maps.AppendAt
set_option linter.unusedVariables false
namespace Go.Proofs.YtnppjkekbdapkaaDoor
open Go.RowKit

section
variable {P : Program} {ops : Array Oper} {S : World → Prop} {md : Region.Mode} {Q : Exit → Act → World → Prop}
/-- One operation that may come up alone, by its run. -/
theorem held_exec {j : Nat} {oj : Oper} {fuel : Nat} {listed : Array Bool} {a : Act} {w w' : World} (hr : Region.ready md ops listed = [j]) (hj : ops[j]? = some oj) (hw : Region.wanted oj (yielded ops a.tmps) = true)
    (v : Value) (hrun : (execOp a.eval oj).run P w = .ok (.value v) w') (hS : S w') (h : wpAnyH P md ops Q S fuel (listed.setIfInBounds j true) (a.put oj.dst v) w') : wpAnyH P md ops Q S (fuel + 1) listed a w := by
  refine wpAnyH_all hr (by simp) fun i hi => ?_
  obtain rfl : i = j := by simpa using hi
  unfold Go.wpOp
  simp only [hj]
  rw [if_pos hw]
  refine .inl ?_
  unfold Oper.wp
  rw [hrun, Oper.upon_value]
  exact ⟨hS, h⟩
/-- One operation of several that may come up, by its run. -/
theorem op_exec {K : Act → World → Prop} {j : Nat} {oj : Oper} {t : Tmp} {a : Act} {w w' : World} (hj : ops[j]? = some oj) (hd : oj.dst = some t) (hw : Region.wanted oj (yielded ops a.tmps) = true)
    (v : Value) (hrun : (execOp a.eval oj).run P w = .ok (.value v) w') (h : K ⟨a.tmps.setIfInBounds t v, a.defers⟩ w') : wpOp P ops Q j K a w := by
  unfold Go.wpOp
  simp only [hj]
  rw [if_pos hw]
  refine .inl ?_
  unfold Oper.wp
  rw [hrun, Oper.upon_value, hd, put_some]
  exact h
theorem exec_load {o : Oper} {a : Act} {w : World} (ty : TypeId) (x : Operand) (ho : o.op = .load ty x) (ad : Addr) (hx : a.eval x = .pointer (some ad)) (v : Value) (hrun : (loadVar ty ad).run P w = .ok v w) : (execOp a.eval o).run P w = .ok (.value v) w := by
  unfold execOp
  simp only [ho, hx, Instr.loadAt, Instr.sureAddr, Sem.run_bind, Sem.run_pure, Result.andThen_ok, hrun]
theorem exec_bs {o : Oper} {a : Act} {w w' : World} (ty : TypeId) (len : Nat) (ps : Array (Nat × Operand)) (ho : o.op = .buildSlice ty len ps) (qs : List (Nat × Value)) (hx : (ps.toList.map fun (i, x) => (i, a.eval x)) = qs) (v : Value)
    (hrun : (Instr.buildSlice ty len qs.toArray).run P w = .ok v w') : (execOp a.eval o).run P w = .ok (.value v) w' := by
  have e : (ps.map fun (i, x) => (i, a.eval x)) = qs.toArray := by rw [← hx]; apply Array.toList_inj.1; simp
  unfold execOp
  simp only [ho, e, Sem.run_bind, Sem.run_pure, Result.andThen_ok, hrun]
theorem exec_conv {o : Oper} {a : Act} {w : World} (sT dT : TypeId) (x : Operand) (ho : o.op = .convert sT dT x) (u : Value) (hx : a.eval x = u) (v : Value) (hrun : (convert sT dT u).run P w = .ok v w) : (execOp a.eval o).run P w = .ok (.value v) w := by
  unfold execOp
  simp only [ho, hx, Sem.run_bind, Sem.run_pure, Result.andThen_ok, hrun]
theorem held_execd {j : Nat} {oj : Oper} {t : Tmp} {fuel : Nat} {listed : Array Bool} {a : Act} {w w' : World} (hr : Region.ready md ops listed = [j]) (hj : ops[j]? = some oj) (hd : oj.dst = some t) (hw : Region.wanted oj (yielded ops a.tmps) = true)
    (v : Value) (hrun : (execOp a.eval oj).run P w = .ok (.value v) w') (hS : S w') (h : wpAnyH P md ops Q S fuel (listed.setIfInBounds j true) ⟨a.tmps.setIfInBounds t v, a.defers⟩ w') : wpAnyH P md ops Q S (fuel + 1) listed a w :=
  held_exec hr hj hw v hrun hS (by rw [hd, put_some]; exact h)
theorem held_make {j : Nat} {oj : Oper} {t : Tmp} {fuel : Nat} {listed : Array Bool} {a : Act} {w w' : World} (hr : Region.ready md ops listed = [j]) (hj : ops[j]? = some oj) (hgd : oj.guard = none) (hd : oj.dst = some t)
    (ty : TypeId) (x y : Operand) (ho : oj.op = .makeSlice ty x y) (u v r : Value) (hx : a.eval x = u) (hy : a.eval y = v) (hrun : (Instr.makeSlice ty u v).run P w = .ok r w') (hS : S w')
    (h : wpAnyH P md ops Q S fuel (listed.setIfInBounds j true) ⟨a.tmps.setIfInBounds t r, a.defers⟩ w') : wpAnyH P md ops Q S (fuel + 1) listed a w := by
  refine held_exec hr hj (by simp [Region.wanted, hgd]) r ?_ hS (by rw [hd, put_some]; exact h)
  unfold execOp
  simp only [ho, hx, hy, Sem.run_bind, Sem.run_pure, Result.andThen_ok, hrun]
theorem held_append {j : Nat} {oj : Oper} {t : Tmp} {fuel : Nat} {listed : Array Bool} {a : Act} {w : World} (hr : Region.ready md ops listed = [j]) (hj : ops[j]? = some oj) (hgd : oj.guard = none) (hd : oj.dst = some t)
    (s x : Operand) (ty : TypeId) (ho : oj.op = .call { callee := .builtin .append, args := #[s, x], argTypes := #[ty, ty] })
    (base : Nat) (e : TypeId) (i : TypeInfo) (z : Value) (size bytes : Nat) (ht : P.underlying ty = some (.slice e)) (hi : P.info? e = some i) (hz : i.zero = some z)
    (hsize : i.size = size) (hby : i.bytes = bytes) (hzs : z.cells.size = size) (hsz : 0 < size)
    (v : Value) (n : Nat) (xs : List Value) (hs : a.eval s = v) (hown : w.ownsRow base e size v n xs)
    (ad : Addr) (m c : Nat) (news : List Value) (hx : a.eval x = .slice (some ad) m c) (hl : news.length = m * size) (hnews : ∀ j u, news[j]? = some u → w.cell? (ad.add j) = some u) (h1 : ∀ u ∈ news, u.oneCell' = true)
    (h63 : n + m ≤ maxLen) (hbytes : (n + m) * bytes ≤ 140737488355328) (hbase : base ≤ w.heap.size)
    (h : ∀ v' w', w'.ownsRow base e size v' (n + m) (xs ++ news) → w.grownBy w' v.ownBlock → (v'.ownBlock = v.ownBlock ∨ v'.ownBlock = some w.heap.size) → S w' ∧ wpAnyH P md ops Q S fuel (listed.setIfInBounds j true) ⟨a.tmps.setIfInBounds t v', a.defers⟩ w') : wpAnyH P md ops Q S (fuel + 1) listed a w := by
  obtain ⟨v', w', hrn, h2, h3, _, h5⟩ := run_append_own_at (P := P) w base ty oj.type e i z size bytes ht hi hz hsize hby hzs hsz v n xs hown ad m c news hl hnews h1 h63 hbytes hbase
  obtain ⟨k1, k2⟩ := h v' w' h2 h3 h5
  refine held_exec hr hj (by simp [Region.wanted, hgd]) v' ?_ k1 (by rw [hd, put_some]; exact k2)
  unfold execOp
  simp only [ho, resolve, invoke, builtin, Sem.run_bind, Sem.run_pure, Result.andThen_ok, List.map_toArray, List.map_cons, List.map_nil, hs, hx, hrn]
theorem wpList_make_at {o : Oper} {rest : List Oper} {a : Act} {w w' : World} (hgd : o.guard = none) (ty : TypeId) (x y : Operand) (ho : o.op = .makeSlice ty x y) (u v r : Value) (hx : a.eval x = u) (hy : a.eval y = v)
    (hrun : (Instr.makeSlice ty u v).run P w = .ok r w') (h : wpList P ops Q rest (a.put o.dst r) w') : wpList P ops Q (o :: rest) a w :=
  wpList_plain hgd fun _ hK => by
    unfold Oper.wp execOp
    simp only [ho, hx, hy, Sem.run_bind, Sem.run_pure, Result.andThen_ok, hrun]
    exact hK _ _ h
end
theorem grown_only {w w' : World} {r : Option Nat} (h : w.grownBy w' r) : Only (fun k => r = some k) w w' := ⟨h.os, h.tape, h.output, h.size, fun k hk hn => h.block k hk (fun e => hn e.symm)⟩
/-- A cell of a row stored. -/
theorem one_at (w : World) {g o : Nat} {A : Array Value} {t ty : TypeId} {v : Value} (hg : w.heap[g]? = some (.cells A t (0, 0))) (hf : (Tryd.prog.info? ty).map (·.size) = some 1) (h1 : v.oneCell' = true) (ho : o < A.size) :
    ∃ W, (storeVar ty ⟨g, o, none⟩ v).run Tryd.prog w = .ok () W ∧ W.heap[g]? = some (.cells (A.setIfInBounds o v) t (0, 0)) ∧ Only (fun k => k = g) w W ∧ W.heap.size = w.heap.size := by
  have hs := storeVar_at (P := Tryd.prog) w g o t ty A #[v] 1 hg hf rfl (by omega) (by intro u hu; simp at hu; subst hu; exact h1)
  rw [splice_one A o v ho] at hs
  refine ⟨_, ?_, setRow_heap _ _ _ _ _ _ hg, ⟨rfl, rfl, rfl, by simp, fun k hk hn => setRow_other w g k _ hn⟩, by simp⟩
  rw [← hs]
  have e : v.cells = #[v] := by cases v <;> first | rfl | cases h1
  simp only [storeVar, e]
  rfl
theorem load_one {w : World} {ad : Addr} {v : Value} (ty : TypeId) (d : TypeDesc) (hu : Tryd.prog.underlying ty = some d) (hd : isAggD d = false) (hc : w.cell? ad = some v) : (loadVar ty ad).run Tryd.prog w = .ok v w := by
  have ha : (isAgg ty).run Tryd.prog w = .ok false w := by
    unfold isAgg
    rw [Sem.run_bind, run_underlying hu w]
    cases d <;> first | rfl | (simp [isAggD] at hd)
  simp [loadVar, Sem.run_bind, ha, run_load, hc]
end Go.Proofs.YtnppjkekbdapkaaDoor
