/-
  Whole blocks: an aggregate loaded from, or stored into, a part of a block; bytes of a text copied into one.
-/
import Derived.WalkKit
import Derived.WalkSpells
import Derived.WalkLawsBesides
import Derived.Laws.CopyRow
import Derived.Laws.Rows
import Derived.Below
import Derived.Deep.QuietTactic
import Derived.BigQuiet
import Derived.StillTailTactics
import Derived.Lib.UnsafeStr
import Derived.Lib.SlBuf
import Derived.Laws.StructEq
import Derived.OrdersHeld
set_option linter.unusedVariables false
namespace Go.Proofs.Ytjnjnkkdpglfhaa
open Go.RowKit

section
variable {P : Program}

/-- A block's cells with some of them replaced, from a place on. -/
def splice (cs : Array Value) (o : Nat) (vs : Array Value) : Array Value := (cs.toList.take o ++ vs.toList ++ cs.toList.drop (o + vs.size)).toArray

theorem splice_size {cs : Array Value} {o : Nat} {vs : Array Value} (h : o + vs.size ≤ cs.size) : (splice cs o vs).size = cs.size := by
  simp [splice]; omega

theorem splice_all {cs vs : Array Value} (h : vs.size = cs.size) : splice cs 0 vs = vs := by
  have e : cs.toList.drop cs.size = [] := List.drop_of_length_le (by simp)
  simp [splice, h, e]

theorem isAgg_run {ty : TypeId} {d : TypeDesc} (hu : P.underlying ty = some d) (hd : (match d with | .struct _ | .array _ _ => true | _ => false) = true) (w : World) : (isAgg ty).run P w = .ok true w := by
  unfold isAgg
  rw [Sem.run_bind, run_underlying hu w]
  cases d <;> simp_all

theorem loadVar_at (w : World) (g o : Nat) (t ty : TypeId) (cs : Array Value) (fr : Nat × Nat) (d : TypeDesc) (n : Nat) (hg : w.heap[g]? = some (.cells cs t fr))
    (hu : P.underlying ty = some d) (hd : (match d with | .struct _ | .array _ _ => true | _ => false) = true) (hi : (P.info? ty).map (·.size) = some n) (hfit : o + n ≤ cs.size) :
    (loadVar ty ⟨g, o, none⟩).run P w = .ok (.agg (cs.extract o (o + n))) w := by
  have hl := run_loadCells_list (P := P) w ⟨g, o, none⟩ (cs.extract o (o + n)).toList (fun j v hv => by
      have hadd : (⟨g, o, none⟩ : Addr).add j = ⟨g, o + j, none⟩ := by unfold Addr.add; split <;> simp_all
      rw [hadd, cell_of_row w g (o + j) cs t fr hg]
      rw [Array.getElem?_toList, Array.getElem?_extract] at hv
      split at hv
      · exact hv
      · cases hv)
  have hlen : (cs.extract o (o + n)).toList.length = n := by simp; omega
  rw [hlen] at hl
  cases hq : P.info? ty with
  | none => simp [hq] at hi
  | some i =>
    have hs : i.size = n := by simpa [hq] using hi
    simp only [Array.toArray_toList] at hl
    simp [loadVar, Sem.run_bind, isAgg_run hu hd, sizeOf, typeInfo, hq, hs, hl]

theorem storeVar_at (w : World) (g o : Nat) (t ty : TypeId) (cs vs : Array Value) (n : Nat) (hg : w.heap[g]? = some (.cells cs t (0, 0)))
    (hi : (P.info? ty).map (·.size) = some n) (hn : vs.size = n) (hfit : o + n ≤ cs.size) (h1 : ∀ v ∈ vs.toList, v.oneCell' = true) :
    (storeVar ty ⟨g, o, none⟩ (.agg vs)).run P w = .ok () (w.setRow g (splice cs o vs)) := by
  have hst := run_storeCells_at P g o t vs.toList 0 cs w hg (by simp; omega) h1
  cases hq : P.info? ty with
  | none => simp [hq] at hi
  | some i =>
    have hs : i.size = n := by simpa [hq] using hi
    simp only [Nat.add_zero, Array.length_toList] at hst
    simp [storeVar, sizeOf, typeInfo, hq, hs, Value.cells, hn, hst, splice]

theorem copy_string_at (w : World) (dT sT ty elem : TypeId) (g o n c : Nat) (s : ByteArray) (cs : Array Value) (t : TypeId)
    (hu : P.underlying dT = some (.slice elem)) (hs : (P.info? elem).map (·.size) = some 1) (hg : w.heap[g]? = some (.cells cs t (0, 0))) (hle : n ≤ s.size) (hfit : o + n ≤ cs.size) :
    (Builtin.copy_ #[dT, sT] ty #[.slice (some ⟨g, o, none⟩) n c, .string s]).run P w =
      .ok (goInt n) (w.setRow g (splice cs o ((s.data.toList.take n).map fun b => Value.int .u8 b.toNat).toArray)) := by
  have hlen : ((s.data.toList.take n).map fun b : UInt8 => Value.int .u8 b.toNat).length = n := by
    have : s.data.toList.length = s.size := by simp
    simp [this]; omega
  have hst := run_storeCells_at P g o t ((s.data.toList.take n).map fun b : UInt8 => Value.int .u8 b.toNat) 0 cs w hg (by rw [hlen]; simpa using hfit) (by
    intro v hv
    obtain ⟨b, _, rfl⟩ := List.mem_map.1 hv
    rfl)
  have hmin : Nat.min s.size n = n := Nat.min_eq_right hle
  rw [hlen] at hst
  simp only [Nat.add_zero] at hst
  cases hq : P.info? elem with
  | none => simp [hq] at hs
  | some i =>
    have e : (List.map (fun b : UInt8 => Value.int IntKind.u8 (b.toNat : Int)) (s.extract 0 n).data.toList) = (s.data.toList.take n).map fun b : UInt8 => Value.int .u8 b.toNat := by
      simp
    simp [Builtin.copy_, run_underlying hu, Builtin.lenOf, Builtin.firstCells, sizeOf, typeInfo, hq, hmin]
    have hls : (List.map (fun b : UInt8 => Value.int IntKind.u8 (b.toNat : Int)) (List.take n s.data.toList)).toArray.size = n := by simpa using hlen
    rw [← List.map_take, hst]
    simp only [Result.andThen, splice, hls]

variable {ops : Array Oper} {o : Oper} {rest : List Oper} {a : Act} {w w' : World}

theorem wp_load_at {K : Act → World → Prop} {Q : Exit → Act → World → Prop} (ty : TypeId) (x : Operand) (ho : o.op = .load ty x) (ad : Addr) (hx : a.eval x = .pointer (some ad)) (v : Value)
    (hrun : (loadVar ty ad).run P w = .ok v w) (h : K (a.put o.dst v) w) : o.wp P a w K Q := by
  unfold Oper.wp execOp
  simp only [ho, hx, Instr.loadAt, Instr.sureAddr, Sem.run_bind, Sem.run_pure, Result.andThen_ok, hrun]
  exact h

theorem wpList_load_at {Q : Exit → Act → World → Prop} (hgd : o.guard = none) (ty : TypeId) (x : Operand) (ho : o.op = .load ty x) (ad : Addr) (hx : a.eval x = .pointer (some ad)) (v : Value)
    (hrun : (loadVar ty ad).run P w = .ok v w) (h : wpList P ops Q rest (a.put o.dst v) w) : wpList P ops Q (o :: rest) a w :=
  wpList_plain hgd fun _ hK => wp_load_at ty x ho ad hx v hrun (hK _ _ h)

theorem wpList_load_w {Q : Exit → Act → World → Prop} (hw : Region.wanted o (yielded ops a.tmps) = true) (ty : TypeId) (x : Operand) (ho : o.op = .load ty x) (ad : Addr) (hx : a.eval x = .pointer (some ad)) (v : Value)
    (hrun : (loadVar ty ad).run P w = .ok v w) (h : wpList P ops Q rest (a.put o.dst v) w) : wpList P ops Q (o :: rest) a w :=
  wpList_step fun K hK => by rw [if_pos hw]; exact wp_load_at ty x ho ad hx v hrun (hK _ _ h)

theorem wp_store_at {K : Act → World → Prop} {Q : Exit → Act → World → Prop} (ty : TypeId) (x y : Operand) (ho : o.op = .store ty x y) (ad : Addr) (hx : a.eval x = .pointer (some ad)) (v : Value) (hy : a.eval y = v)
    (hrun : (storeVar ty ad v).run P w = .ok () w') (h : K (a.put o.dst undef) w') : o.wp P a w K Q := by
  unfold Oper.wp execOp
  simp only [ho, hx, hy, Instr.storeAt, Instr.sureAddr, Sem.run_bind, Sem.run_pure, Result.andThen_ok, hrun]
  exact h

theorem wpList_store_at {Q : Exit → Act → World → Prop} (hgd : o.guard = none) (ty : TypeId) (x y : Operand) (ho : o.op = .store ty x y) (ad : Addr) (hx : a.eval x = .pointer (some ad)) (v : Value) (hy : a.eval y = v)
    (hrun : (storeVar ty ad v).run P w = .ok () w') (h : wpList P ops Q rest (a.put o.dst undef) w') : wpList P ops Q (o :: rest) a w :=
  wpList_plain hgd fun _ hK => wp_store_at ty x y ho ad hx v hy hrun (hK _ _ h)

theorem still_load_at {Q : Act → Prop} (hgd : o.guard = none) (ty : TypeId) (x : Operand) (ho : o.op = .load ty x) (ad : Addr) (hx : a.eval x = .pointer (some ad)) (v : Value)
    (hrun : (loadVar ty ad).run P w = .ok v w) (h : wpStill P ops w Q rest (a.put o.dst v)) : wpStill P ops w Q (o :: rest) a := by
  refine wpStill_step fun K hK => ?_
  have hw : Region.wanted o (yielded ops a.tmps) = true := by simp [Region.wanted, hgd]
  rw [if_pos hw]
  unfold Oper.still execOp
  simp only [ho, hx, Instr.loadAt, Instr.sureAddr, Sem.run_bind, Sem.run_pure, Result.andThen_ok, hrun]
  exact ⟨rfl, hK _ h⟩

theorem quiet_load_at {C : World → Prop} {Q : Act → Prop} (hgd : o.guard = none) (ty : TypeId) (x : Operand) (ho : o.op = .load ty x) (ad : Addr) (hx : a.eval x = .pointer (some ad)) (v : Value)
    (hrun : ∀ w, C w → (loadVar ty ad).run P w = .ok v w) (h : wpQuiet P ops C Q rest (a.put o.dst v)) : wpQuiet P ops C Q (o :: rest) a := by
  refine wpQuiet_step fun K hK => ?_
  have hw : Region.wanted o (yielded ops a.tmps) = true := by simp [Region.wanted, hgd]
  rw [if_pos hw]
  refine ⟨v, fun w hC => ?_, hK _ h⟩
  unfold Oper.quietAt execOp
  simp only [ho, hx, Instr.loadAt, Instr.sureAddr, Sem.run_bind, Sem.run_pure, Result.andThen_ok, hrun w hC]
  exact ⟨rfl, rfl⟩

theorem quiet_store_at {C : World → Prop} {Q : Act → Prop} (hgd : o.guard = none) (ty : TypeId) (x y : Operand) (ho : o.op = .store ty x y) (ad : Addr) (hx : a.eval x = .pointer (some ad)) (v : Value) (hy : a.eval y = v)
    (hrun : ∀ w, C w → (storeVar ty ad v).run P w = .ok () w) (h : wpQuiet P ops C Q rest (a.put o.dst undef)) : wpQuiet P ops C Q (o :: rest) a := by
  refine wpQuiet_step fun K hK => ?_
  have hw : Region.wanted o (yielded ops a.tmps) = true := by simp [Region.wanted, hgd]
  rw [if_pos hw]
  refine ⟨undef, fun w hC => ?_, hK _ h⟩
  unfold Oper.quietAt execOp
  simp only [ho, hx, hy, Instr.storeAt, Instr.sureAddr, Sem.run_bind, Sem.run_pure, Result.andThen_ok, hrun w hC]
  exact ⟨rfl, rfl⟩

theorem step_load_at {K : Act → World → Prop} {Q : Exit → Act → World → Prop} {E : Prop} (hgd : o.guard = none) (ty : TypeId) (x : Operand) (ho : o.op = .load ty x) (ad : Addr) (hx : a.eval x = .pointer (some ad)) (v : Value)
    (hrun : (loadVar ty ad).run P w = .ok v w) (h : K (a.put o.dst v) w) : if Region.wanted o (yielded ops a.tmps) = true then Oper.wp P o a w K Q else E := by
  have hw : Region.wanted o (yielded ops a.tmps) = true := by simp [Region.wanted, hgd]
  rw [if_pos hw]
  exact wp_load_at ty x ho ad hx v hrun h

theorem step_store_at {K : Act → World → Prop} {Q : Exit → Act → World → Prop} {E : Prop} (hgd : o.guard = none) (ty : TypeId) (x y : Operand) (ho : o.op = .store ty x y) (ad : Addr) (hx : a.eval x = .pointer (some ad)) (v : Value) (hy : a.eval y = v)
    (hrun : (storeVar ty ad v).run P w = .ok () w') (h : K (a.put o.dst undef) w') : if Region.wanted o (yielded ops a.tmps) = true then Oper.wp P o a w K Q else E := by
  have hw : Region.wanted o (yielded ops a.tmps) = true := by simp [Region.wanted, hgd]
  rw [if_pos hw]
  exact wp_store_at ty x y ho ad hx v hy hrun h

theorem wp_eql_at {K : Act → World → Prop} {Q : Exit → Act → World → Prop} (t : TypeId) (x y : Operand) (c : TypeId) (xs ys : Array Value) (r : Bool) (ho : o.op = .binOp .eql t x y c) (hx : a.eval x = .agg xs) (hy : a.eval y = .agg ys) (hm : P.eqGuardType P.depth t = false)
    (hrun : (Op.equalIn 10000 t (.agg xs) (.agg ys)).run P w = .ok r w) (h : K (a.put o.dst (.bool r)) w) : o.wp P a w K Q := by
  have e1 := run_eql_struct (P := P) w t xs ys
  rw [hrun] at e1
  unfold Oper.wp execOp
  simp only [ho, hx, hy, Sem.run_bind, run_eqGuard_agg (P := P) w .eql t x y xs ys hm, e1, Sem.run_pure, Result.andThen_ok]
  exact h

theorem wp_neq_at {K : Act → World → Prop} {Q : Exit → Act → World → Prop} (t : TypeId) (x y : Operand) (c : TypeId) (xs ys : Array Value) (r : Bool) (ho : o.op = .binOp .neq t x y c) (hx : a.eval x = .agg xs) (hy : a.eval y = .agg ys) (hm : P.eqGuardType P.depth t = false)
    (hrun : (Op.equalIn 10000 t (.agg xs) (.agg ys)).run P w = .ok r w) (h : K (a.put o.dst (.bool (!r))) w) : o.wp P a w K Q := by
  have e1 := run_neq_struct (P := P) w t xs ys
  rw [hrun] at e1
  unfold Oper.wp execOp
  simp only [ho, hx, hy, Sem.run_bind, run_eqGuard_agg (P := P) w .neq t x y xs ys hm, e1, Sem.run_pure, Result.andThen_ok]
  exact h

theorem wpList_eql_at {Q : Exit → Act → World → Prop} (hgd : o.guard = none) (t : TypeId) (x y : Operand) (c : TypeId) (xs ys : Array Value) (r : Bool) (ho : o.op = .binOp .eql t x y c) (hx : a.eval x = .agg xs) (hy : a.eval y = .agg ys) (hm : P.eqGuardType P.depth t = false)
    (hrun : (Op.equalIn 10000 t (.agg xs) (.agg ys)).run P w = .ok r w) (h : wpList P ops Q rest (a.put o.dst (.bool r)) w) : wpList P ops Q (o :: rest) a w :=
  wpList_plain hgd fun _ hK => wp_eql_at t x y c xs ys r ho hx hy hm hrun (hK _ _ h)

theorem wpList_eql_w {Q : Exit → Act → World → Prop} (hw : Region.wanted o (yielded ops a.tmps) = true) (t : TypeId) (x y : Operand) (c : TypeId) (xs ys : Array Value) (r : Bool) (ho : o.op = .binOp .eql t x y c) (hx : a.eval x = .agg xs) (hy : a.eval y = .agg ys) (hm : P.eqGuardType P.depth t = false)
    (hrun : (Op.equalIn 10000 t (.agg xs) (.agg ys)).run P w = .ok r w) (h : wpList P ops Q rest (a.put o.dst (.bool r)) w) : wpList P ops Q (o :: rest) a w :=
  wpList_step fun K hK => by rw [if_pos hw]; exact wp_eql_at t x y c xs ys r ho hx hy hm hrun (hK _ _ h)

theorem wpList_neq_at {Q : Exit → Act → World → Prop} (hgd : o.guard = none) (t : TypeId) (x y : Operand) (c : TypeId) (xs ys : Array Value) (r : Bool) (ho : o.op = .binOp .neq t x y c) (hx : a.eval x = .agg xs) (hy : a.eval y = .agg ys) (hm : P.eqGuardType P.depth t = false)
    (hrun : (Op.equalIn 10000 t (.agg xs) (.agg ys)).run P w = .ok r w) (h : wpList P ops Q rest (a.put o.dst (.bool (!r))) w) : wpList P ops Q (o :: rest) a w :=
  wpList_plain hgd fun _ hK => wp_neq_at t x y c xs ys r ho hx hy hm hrun (hK _ _ h)

theorem wpList_neq_w {Q : Exit → Act → World → Prop} (hw : Region.wanted o (yielded ops a.tmps) = true) (t : TypeId) (x y : Operand) (c : TypeId) (xs ys : Array Value) (r : Bool) (ho : o.op = .binOp .neq t x y c) (hx : a.eval x = .agg xs) (hy : a.eval y = .agg ys) (hm : P.eqGuardType P.depth t = false)
    (hrun : (Op.equalIn 10000 t (.agg xs) (.agg ys)).run P w = .ok r w) (h : wpList P ops Q rest (a.put o.dst (.bool (!r))) w) : wpList P ops Q (o :: rest) a w :=
  wpList_step fun K hK => by rw [if_pos hw]; exact wp_neq_at t x y c xs ys r ho hx hy hm hrun (hK _ _ h)

theorem put_some {a : Act} {t : Tmp} {v : Value} : a.put (some t) v = ⟨a.tmps.setIfInBounds t v, a.defers⟩ := rfl

/-- The same arms, the act behind them written out. -/
theorem take_at {md : Region.Mode} {Q : Exit → Act → World → Prop} {i : Nat} {oi : Oper} {v : Value} {t : Tmp} {fuel : Nat} {listed : Array Bool} {a : Act} {w : World} (hi : ops[i]? = some oi) (hd : oi.dst = some t)
    (hs : Region.noSelect ops = true) (hf : Region.free md ops listed i = true) (hr : (Region.ready md ops listed).contains i = true)
    (hQ : ∀ c a w, Q (.panic c) (a.put oi.dst v) w → Q (.panic c) a w) (hy : Yields P ops oi v a)
    (h : wpAny P md ops Q fuel (listed.setIfInBounds i true) ⟨a.tmps.setIfInBounds t v, a.defers⟩ w) : wpAny P md ops Q (fuel + 1) listed a w :=
  wpAny_take hi hs hf hr hQ hy (by rw [hd, put_some]; exact h)

theorem load_take {K : Act → World → Prop} {Q : Exit → Act → World → Prop} {E : Prop} {t : Tmp} (hgd : o.guard = none) (hd : o.dst = some t) (ty : TypeId) (x : Operand) (ho : o.op = .load ty x) (ad : Addr) (hx : a.eval x = .pointer (some ad)) (v : Value)
    (hrun : (loadVar ty ad).run P w = .ok v w) (h : K ⟨a.tmps.setIfInBounds t v, a.defers⟩ w) : if Region.wanted o (yielded ops a.tmps) = true then Oper.wp P o a w K Q else E :=
  step_load_at hgd ty x ho ad hx v hrun (by rw [hd, put_some]; exact h)

theorem store_take {K : Act → World → Prop} {Q : Exit → Act → World → Prop} {E : Prop} (hgd : o.guard = none) (hd : o.dst = none) (ty : TypeId) (x y : Operand) (ho : o.op = .store ty x y) (ad : Addr) (hx : a.eval x = .pointer (some ad)) (v : Value) (hy : a.eval y = v)
    (hrun : (storeVar ty ad v).run P w = .ok () w') (h : K a w') : if Region.wanted o (yielded ops a.tmps) = true then Oper.wp P o a w K Q else E :=
  step_store_at hgd ty x y ho ad hx v hy hrun (by rw [hd]; exact h)

theorem wpList_build_at {Q : Exit → Act → World → Prop} (hgd : o.guard = none) (ty : TypeId) (ps : Array (Nat × Operand)) (ho : o.op = .build ty ps) (qs : List (Nat × Value)) (hx : (ps.toList.map fun (i, x) => (i, a.eval x)) = qs) (v : Value)
    (hrun : (Instr.build ty qs.toArray).run P w = .ok v w) (h : wpList P ops Q rest (a.put o.dst v) w) : wpList P ops Q (o :: rest) a w :=
  wpList_plain hgd fun _ hK => by
    have e : (ps.map fun (i, x) => (i, a.eval x)) = qs.toArray := by rw [← hx]; apply Array.toList_inj.1; simp
    unfold Oper.wp execOp
    simp only [ho, e, Sem.run_bind, Sem.run_pure, Result.andThen_ok, hrun]
    exact hK _ _ h

theorem wpList_index_at {Q : Exit → Act → World → Prop} (hgd : o.guard = none) (ty : TypeId) (x y : Operand) (ho : o.op = .index ty x y) (u v : Value) (hx : a.eval x = u) (hy : a.eval y = v) (r : Value)
    (hrun : (Instr.index ty u v).run P w = .ok r w) (h : wpList P ops Q rest (a.put o.dst r) w) : wpList P ops Q (o :: rest) a w :=
  wpList_plain hgd fun _ hK => by
    unfold Oper.wp execOp
    simp only [ho, hx, hy, Sem.run_bind, Sem.run_pure, Result.andThen_ok, hrun]
    exact hK _ _ h

theorem wpList_field_at {Q : Exit → Act → World → Prop} (hgd : o.guard = none) (ty : TypeId) (x : Operand) (f : Nat) (ho : o.op = .field ty x f) (u : Value) (hx : a.eval x = u) (r : Value)
    (hrun : (Instr.field ty u f).run P w = .ok r w) (h : wpList P ops Q rest (a.put o.dst r) w) : wpList P ops Q (o :: rest) a w :=
  wpList_plain hgd fun _ hK => by
    unfold Oper.wp execOp
    simp only [ho, hx, Sem.run_bind, Sem.run_pure, Result.andThen_ok, hrun]
    exact hK _ _ h

/-- Drawn regions with one store, by what holds behind every operation. -/
theorem yields_load {S : World → Prop} (hgd : o.guard = none) (ty : TypeId) (x : Operand) (ho : o.op = .load ty x) (ad : Addr) (hx : a.eval x = .pointer (some ad)) (v : Value)
    (hrun : ∀ w, S w → (loadVar ty ad).run P w = .ok v w) : YieldsIf P ops S o v a := by
  refine .inl ⟨by simp [Region.wanted, hgd], fun w hS => ?_⟩
  unfold execOp
  simp only [ho, hx, Instr.loadAt, Instr.sureAddr, Sem.run_bind, Sem.run_pure, Result.andThen_ok, hrun w hS]

theorem held_take {S : World → Prop} {md : Region.Mode} {Q : Exit → Act → World → Prop} {i : Nat} {oi : Oper} {v : Value} {t : Tmp} {fuel : Nat} {listed : Array Bool} {a : Act} {w : World} (hi : ops[i]? = some oi) (hd : oi.dst = some t)
    (hs : Region.noSelect ops = true) (hf : Region.free md ops listed i = true) (hr : (Region.ready md ops listed).contains i = true)
    (hQ : ∀ c a w, Q (.panic c) (a.put oi.dst v) w → Q (.panic c) a w) (hy : YieldsIf P ops S oi v a) (hS : S w)
    (h : wpAnyH P md ops Q S fuel (listed.setIfInBounds i true) ⟨a.tmps.setIfInBounds t v, a.defers⟩ w) : wpAnyH P md ops Q S (fuel + 1) listed a w :=
  wpAnyH_take hi hs hf hr hQ hy hS (by rw [hd, put_some]; exact h)

theorem held_pure {S : World → Prop} {md : Region.Mode} {Q : Exit → Act → World → Prop} {i : Nat} {oi : Oper} {v : Value} {t : Tmp} {fuel : Nat} {listed : Array Bool} {a : Act} {w : World} (hi : ops[i]? = some oi) (hd : oi.dst = some t)
    (hs : Region.noSelect ops = true) (hf : Region.free md ops listed i = true) (hr : (Region.ready md ops listed).contains i = true)
    (hQ : ∀ c a w, Q (.panic c) (a.put oi.dst v) w → Q (.panic c) a w) (hy : Yields P ops oi v a) (hS : S w)
    (h : wpAnyH P md ops Q S fuel (listed.setIfInBounds i true) ⟨a.tmps.setIfInBounds t v, a.defers⟩ w) : wpAnyH P md ops Q S (fuel + 1) listed a w :=
  held_take hi hd hs hf hr hQ hy.yieldsIf hS h

theorem held_store {S : World → Prop} {md : Region.Mode} {Q : Exit → Act → World → Prop} {j : Nat} {oj : Oper} {fuel : Nat} {listed : Array Bool} {a : Act} {w w' : World} (hr : Region.ready md ops listed = [j]) (hj : ops[j]? = some oj)
    (hgd : oj.guard = none) (hd : oj.dst = none) (ty : TypeId) (x y : Operand) (ho : oj.op = .store ty x y) (ad : Addr) (hx : a.eval x = .pointer (some ad)) (v : Value) (hy : a.eval y = v)
    (hrun : (storeVar ty ad v).run P w = .ok () w') (hS : S w') (h : wpAnyH P md ops Q S fuel (listed.setIfInBounds j true) a w') : wpAnyH P md ops Q S (fuel + 1) listed a w := by
  refine wpAnyH_all hr (by simp) fun i hi => ?_
  obtain rfl : i = j := by simpa using hi
  unfold Go.wpOp
  simp only [hj]
  have hw : Region.wanted oj (yielded ops a.tmps) = true := by simp [Region.wanted, hgd]
  rw [if_pos hw]
  exact .inl (wp_store_at ty x y ho ad hx v hy hrun ⟨hS, by rw [hd]; exact h⟩)

theorem wpList_bs_at {Q : Exit → Act → World → Prop} (hgd : o.guard = none) (ty : TypeId) (len : Nat) (ps : Array (Nat × Operand)) (ho : o.op = .buildSlice ty len ps) (qs : List (Nat × Value)) (hx : (ps.toList.map fun (i, x) => (i, a.eval x)) = qs) (v : Value)
    (hrun : (Instr.buildSlice ty len qs.toArray).run P w = .ok v w') (h : wpList P ops Q rest (a.put o.dst v) w') : wpList P ops Q (o :: rest) a w :=
  wpList_plain hgd fun _ hK => by
    have e : (ps.map fun (i, x) => (i, a.eval x)) = qs.toArray := by rw [← hx]; apply Array.toList_inj.1; simp
    unfold Oper.wp execOp
    simp only [ho, e, Sem.run_bind, Sem.run_pure, Result.andThen_ok, hrun]
    exact hK _ _ h

theorem quiet_load_w {C : World → Prop} {Q : Act → Prop} (hw : Region.wanted o (yielded ops a.tmps) = true) (ty : TypeId) (x : Operand) (ho : o.op = .load ty x) (ad : Addr) (hx : a.eval x = .pointer (some ad)) (v : Value)
    (hrun : ∀ w, C w → (loadVar ty ad).run P w = .ok v w) (h : wpQuiet P ops C Q rest (a.put o.dst v)) : wpQuiet P ops C Q (o :: rest) a := by
  refine wpQuiet_step fun K hK => ?_
  rw [if_pos hw]
  refine ⟨v, fun w hC => ?_, hK _ h⟩
  unfold Oper.quietAt execOp
  simp only [ho, hx, Instr.loadAt, Instr.sureAddr, Sem.run_bind, Sem.run_pure, Result.andThen_ok, hrun w hC]
  exact ⟨rfl, rfl⟩

theorem quiet_eql_w {C : World → Prop} {Q : Act → Prop} (hw : Region.wanted o (yielded ops a.tmps) = true) (t : TypeId) (x y : Operand) (c : TypeId) (xs ys : Array Value) (r : Bool) (ho : o.op = .binOp .eql t x y c) (hx : a.eval x = .agg xs) (hy : a.eval y = .agg ys) (hm : P.eqGuardType P.depth t = false)
    (hrun : ∀ w, C w → (Op.equalIn 10000 t (.agg xs) (.agg ys)).run P w = .ok r w) (h : wpQuiet P ops C Q rest (a.put o.dst (.bool r))) : wpQuiet P ops C Q (o :: rest) a := by
  refine wpQuiet_step fun K hK => ?_
  rw [if_pos hw]
  refine ⟨.bool r, fun w hC => ?_, hK _ h⟩
  have e1 := run_eql_struct (P := P) w t xs ys
  rw [hrun w hC] at e1
  unfold Oper.quietAt execOp
  simp only [ho, hx, hy, Sem.run_bind, run_eqGuard_agg (P := P) w .eql t x y xs ys hm, e1, Sem.run_pure, Result.andThen_ok]
  exact ⟨rfl, rfl⟩

theorem quiet_neq_w {C : World → Prop} {Q : Act → Prop} (hw : Region.wanted o (yielded ops a.tmps) = true) (t : TypeId) (x y : Operand) (c : TypeId) (xs ys : Array Value) (r : Bool) (ho : o.op = .binOp .neq t x y c) (hx : a.eval x = .agg xs) (hy : a.eval y = .agg ys) (hm : P.eqGuardType P.depth t = false)
    (hrun : ∀ w, C w → (Op.equalIn 10000 t (.agg xs) (.agg ys)).run P w = .ok r w) (h : wpQuiet P ops C Q rest (a.put o.dst (.bool (!r)))) : wpQuiet P ops C Q (o :: rest) a := by
  refine wpQuiet_step fun K hK => ?_
  rw [if_pos hw]
  refine ⟨.bool (!r), fun w hC => ?_, hK _ h⟩
  have e1 := run_neq_struct (P := P) w t xs ys
  rw [hrun w hC] at e1
  unfold Oper.quietAt execOp
  simp only [ho, hx, hy, Sem.run_bind, run_eqGuard_agg (P := P) w .neq t x y xs ys hm, e1, Sem.run_pure, Result.andThen_ok]
  exact ⟨rfl, rfl⟩
end
end Go.Proofs.Ytjnjnkkdpglfhaa
