/-
  Drawn regions: slices built, calls, whole parts loaded and compared under a guard, two operations that may come in either order.
-/
import Derived.Test.YtjnjnkkdpglfhaaTab
set_option linter.unusedVariables false
namespace Go.Proofs.Ytjnjnkkdpglfhaa
open Go.RowKit

section
variable {P : Program} {ops : Array Oper} {S : World → Prop} {md : Region.Mode} {Q : Exit → Act → World → Prop}
theorem held_bs {j : Nat} {oj : Oper} {t : Tmp} {fuel : Nat} {listed : Array Bool} {a : Act} {w w' : World} (hr : Region.ready md ops listed = [j]) (hj : ops[j]? = some oj)
    (hgd : oj.guard = none) (hd : oj.dst = some t) (ty : TypeId) (len : Nat) (ps : Array (Nat × Operand)) (ho : oj.op = .buildSlice ty len ps) (qs : List (Nat × Value)) (hx : (ps.toList.map fun (i, x) => (i, a.eval x)) = qs) (v : Value)
    (hrun : (Instr.buildSlice ty len qs.toArray).run P w = .ok v w') (hS : S w') (h : wpAnyH P md ops Q S fuel (listed.setIfInBounds j true) ⟨a.tmps.setIfInBounds t v, a.defers⟩ w') : wpAnyH P md ops Q S (fuel + 1) listed a w := by
  refine wpAnyH_all hr (by simp) fun i hi => ?_
  obtain rfl : i = j := by simpa using hi
  unfold Go.wpOp
  simp only [hj]
  have hw : Region.wanted oj (yielded ops a.tmps) = true := by simp [Region.wanted, hgd]
  rw [if_pos hw]
  have e : (ps.map fun (i, x) => (i, a.eval x)) = qs.toArray := by rw [← hx]; apply Array.toList_inj.1; simp
  refine .inl ?_
  unfold Oper.wp execOp
  simp only [ho, e, Sem.run_bind, Sem.run_pure, Result.andThen_ok, hrun]
  exact ⟨hS, by rw [hd, put_some]; exact h⟩
theorem held_conv {j : Nat} {oj : Oper} {t : Tmp} {fuel : Nat} {listed : Array Bool} {a : Act} {w : World} (hr : Region.ready md ops listed = [j]) (hj : ops[j]? = some oj)
    (hgd : oj.guard = none) (hd : oj.dst = some t) (sT dT : TypeId) (x : Operand) (ho : oj.op = .convert sT dT x) (u : Value) (hx : a.eval x = u) (v : Value)
    (hrun : (convert sT dT u).run P w = .ok v w) (hS : S w) (h : wpAnyH P md ops Q S fuel (listed.setIfInBounds j true) ⟨a.tmps.setIfInBounds t v, a.defers⟩ w) : wpAnyH P md ops Q S (fuel + 1) listed a w := by
  refine wpAnyH_all hr (by simp) fun i hi => ?_
  obtain rfl : i = j := by simpa using hi
  unfold Go.wpOp
  simp only [hj]
  have hw : Region.wanted oj (yielded ops a.tmps) = true := by simp [Region.wanted, hgd]
  rw [if_pos hw]
  refine .inl ?_
  unfold Oper.wp execOp
  simp only [ho, hx, Sem.run_bind, Sem.run_pure, Result.andThen_ok, hrun]
  exact ⟨hS, by rw [hd, put_some]; exact h⟩
theorem yields_conv {o : Oper} {a : Act} (hgd : o.guard = none) (sT dT : TypeId) (x : Operand) (ho : o.op = .convert sT dT x) (u : Value) (hx : a.eval x = u) (v : Value)
    (hrun : ∀ w, S w → (convert sT dT u).run P w = .ok v w) : YieldsIf P ops S o v a := by
  refine .inl ⟨by simp [Region.wanted, hgd], fun w hS => ?_⟩
  unfold execOp
  simp only [ho, hx, Sem.run_bind, Sem.run_pure, Result.andThen_ok, hrun w hS]
end

section
variable {P : Program} {ops : Array Oper} {S : World → Prop} {md : Region.Mode} {Q : Exit → Act → World → Prop}
theorem held_call {j : Nat} {oj : Oper} {t : Tmp} {fuel : Nat} {listed : Array Bool} {a : Act} {w : World} (hr : Region.ready md ops listed = [j]) (hj : ops[j]? = some oj) (hd : oj.dst = some t)
    (hw : Region.wanted oj (yielded ops a.tmps) = true) {f : FuncId} {fn : Func} (hf : P.funcs[f]? = some fn) (hn : (fn.name == "runtime.NumGoroutine") = false) (hb : fn.body.isSome = true)
    {xs : Array Operand} {ts : Array TypeId} (hop : oj.op = .call { callee := .value (.func f), args := xs, argTypes := ts }) (al : List Value) (hargs : xs.toList.map a.eval = al) {v : Value} {R : World → Prop}
    (hc : Calls P f al.toArray w fun e w' => e = .returned v ∧ R w') (h : ∀ w', R w' → S w' ∧ wpAnyH P md ops Q S fuel (listed.setIfInBounds j true) ⟨a.tmps.setIfInBounds t v, a.defers⟩ w') : wpAnyH P md ops Q S (fuel + 1) listed a w := by
  refine wpAnyH_all hr (by simp) fun i hi => ?_
  obtain rfl : i = j := by simpa using hi
  unfold Go.wpOp
  simp only [hj]
  rw [if_pos hw]
  refine .inl ?_
  have h1 : fn.name ≠ "runtime.NumGoroutine" := by simpa using hn
  obtain ⟨c, hcb⟩ := Option.isSome_iff_exists.1 hb
  have hargs' : xs.map a.eval = al.toArray := by rw [← hargs]; apply Array.toList_inj.1; simp
  have he : (callFunc f al.toArray).run P w = .ok (.enter f al.toArray) w := by simp [callFunc, hf, h1, hcb]
  have hrun : (execOp a.eval oj).run P w = .ok (.enter f al.toArray) w := by
    unfold execOp
    simp [hop, resolve, Deferred.ofValue, invoke, Act.eval, hargs', he]
  unfold Oper.wp
  rw [hrun, Oper.upon_enter]
  refine hc.mono fun e w'' hh => ?_
  obtain ⟨rfl, hk⟩ := hh
  have := h w'' hk
  rw [← put_some (a := a), ← hd] at this
  exact this
theorem yields_load_w {o : Oper} {a : Act} (hw : Region.wanted o (yielded ops a.tmps) = true) (ty : TypeId) (x : Operand) (ho : o.op = .load ty x) (ad : Addr) (hx : a.eval x = .pointer (some ad)) (v : Value)
    (hrun : ∀ w, S w → (loadVar ty ad).run P w = .ok v w) : YieldsIf P ops S o v a := by
  refine .inl ⟨hw, fun w hS => ?_⟩
  unfold execOp
  simp only [ho, hx, Instr.loadAt, Instr.sureAddr, Sem.run_bind, Sem.run_pure, Result.andThen_ok, hrun w hS]
theorem yields_eql {o : Oper} {a : Act} (hw : Region.wanted o (yielded ops a.tmps) = true) (t : TypeId) (x y : Operand) (c : TypeId) (xs ys : Array Value) (r : Bool) (ho : o.op = .binOp .eql t x y c) (hx : a.eval x = .agg xs) (hy : a.eval y = .agg ys) (hm : P.eqGuardType P.depth t = false)
    (hrun : ∀ w, (Op.equalIn 10000 t (.agg xs) (.agg ys)).run P w = .ok r w) : YieldsIf P ops S o (.bool r) a := by
  refine .inl ⟨hw, fun w hS => ?_⟩
  have e1 := run_eql_struct (P := P) w t xs ys
  rw [hrun w] at e1
  unfold execOp
  simp only [ho, hx, hy, Sem.run_bind, run_eqGuard_agg (P := P) w .eql t x y xs ys hm, e1, Sem.run_pure, Result.andThen_ok]
theorem yields_neq {o : Oper} {a : Act} (hw : Region.wanted o (yielded ops a.tmps) = true) (t : TypeId) (x y : Operand) (c : TypeId) (xs ys : Array Value) (r : Bool) (ho : o.op = .binOp .neq t x y c) (hx : a.eval x = .agg xs) (hy : a.eval y = .agg ys) (hm : P.eqGuardType P.depth t = false)
    (hrun : ∀ w, (Op.equalIn 10000 t (.agg xs) (.agg ys)).run P w = .ok r w) : YieldsIf P ops S o (.bool (!r)) a := by
  refine .inl ⟨hw, fun w hS => ?_⟩
  have e1 := run_neq_struct (P := P) w t xs ys
  rw [hrun w] at e1
  unfold execOp
  simp only [ho, hx, hy, Sem.run_bind, run_eqGuard_agg (P := P) w .neq t x y xs ys hm, e1, Sem.run_pure, Result.andThen_ok]
end

section
variable {P : Program} {ops : Array Oper} {S : World → Prop} {md : Region.Mode} {Q : Exit → Act → World → Prop}
theorem held_two {j k : Nat} {fuel : Nat} {listed : Array Bool} {a : Act} {w : World} (hr : Region.ready md ops listed = [j, k])
    (h1 : wpOp P ops Q j (fun a' w' => S w' ∧ wpAnyH P md ops Q S fuel (listed.setIfInBounds j true) a' w') a w)
    (h2 : wpOp P ops Q k (fun a' w' => S w' ∧ wpAnyH P md ops Q S fuel (listed.setIfInBounds k true) a' w') a w) : wpAnyH P md ops Q S (fuel + 1) listed a w := by
  refine wpAnyH_all hr (by simp) fun i hi => ?_
  have : i = j ∨ i = k := by simpa using hi
  rcases this with rfl | rfl
  · exact h1
  · exact h2
theorem held_one {j : Nat} {fuel : Nat} {listed : Array Bool} {a : Act} {w : World} (hr : Region.ready md ops listed = [j])
    (h1 : wpOp P ops Q j (fun a' w' => S w' ∧ wpAnyH P md ops Q S fuel (listed.setIfInBounds j true) a' w') a w) : wpAnyH P md ops Q S (fuel + 1) listed a w := by
  refine wpAnyH_all hr (by simp) fun i hi => ?_
  obtain rfl : i = j := by simpa using hi
  exact h1
theorem op_alloc {K : Act → World → Prop} {j : Nat} {oj : Oper} {t : Tmp} {a : Act} {w : World} (hj : ops[j]? = some oj) (hgd : oj.guard = none) (hd : oj.dst = some t) (ty : TypeId) (ho : oj.op = .alloc ty) (Z : Array Value)
    (hz : (zeroValue ty).run P w = .ok (.agg Z) w) (h : K ⟨a.tmps.setIfInBounds t (.pointer (some ⟨w.heap.size, 0, none⟩)), a.defers⟩ (w.alloc (.cells Z ty))) : wpOp P ops Q j K a w := by
  unfold Go.wpOp
  simp only [hj]
  have hw : Region.wanted oj (yielded ops a.tmps) = true := by simp [Region.wanted, hgd]
  rw [if_pos hw]
  refine .inl ?_
  have hrun : (execOp a.eval oj).run P w = .ok (.value (.pointer (some ⟨w.heap.size, 0, none⟩))) (w.alloc (.cells Z ty)) := by
    unfold execOp
    simp only [ho, Instr.alloc, Sem.run_bind, Sem.run_pure, hz, Result.andThen_ok]
    rfl
  unfold Oper.wp
  rw [hrun, Oper.upon_value, hd, put_some]
  exact h
theorem op_call {K : Act → World → Prop} {j : Nat} {oj : Oper} {t : Tmp} {a : Act} {w : World} (hj : ops[j]? = some oj) (hd : oj.dst = some t)
    (hw : Region.wanted oj (yielded ops a.tmps) = true) {f : FuncId} {fn : Func} (hf : P.funcs[f]? = some fn) (hn : (fn.name == "runtime.NumGoroutine") = false) (hb : fn.body.isSome = true)
    {xs : Array Operand} {ts : Array TypeId} (hop : oj.op = .call { callee := .value (.func f), args := xs, argTypes := ts }) (al : List Value) (hargs : xs.toList.map a.eval = al) {v : Value} {R : World → Prop}
    (hc : Calls P f al.toArray w fun e w' => e = .returned v ∧ R w') (h : ∀ w', R w' → K ⟨a.tmps.setIfInBounds t v, a.defers⟩ w') : wpOp P ops Q j K a w := by
  unfold Go.wpOp
  simp only [hj]
  rw [if_pos hw]
  refine .inl ?_
  have h1 : fn.name ≠ "runtime.NumGoroutine" := by simpa using hn
  obtain ⟨c, hcb⟩ := Option.isSome_iff_exists.1 hb
  have hargs' : xs.map a.eval = al.toArray := by rw [← hargs]; apply Array.toList_inj.1; simp
  have he : (callFunc f al.toArray).run P w = .ok (.enter f al.toArray) w := by simp [callFunc, hf, h1, hcb]
  have hrun : (execOp a.eval oj).run P w = .ok (.enter f al.toArray) w := by
    unfold execOp
    simp [hop, resolve, Deferred.ofValue, invoke, Act.eval, hargs', he]
  unfold Oper.wp
  rw [hrun, Oper.upon_enter]
  refine hc.mono fun e w'' hh => ?_
  obtain ⟨rfl, hk⟩ := hh
  have := h w'' hk
  rw [← put_some (a := a), ← hd] at this
  exact this
end
end Go.Proofs.Ytjnjnkkdpglfhaa
