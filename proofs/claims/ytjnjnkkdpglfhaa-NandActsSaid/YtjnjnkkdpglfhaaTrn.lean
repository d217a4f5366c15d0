/-
  The chip: what a store, an append, an act do to it; and single operations of drawn regions.
-/
import Derived.Test.YtjnjnkkdpglfhaaRea
import Derived.Test.YtjnjnkkdpglfhaaShelf
import Derived.Great.BuildSlice
import Derived.Laws.BytesArg
import Derived.Lib.ConvBytes
import Derived.Laws.MakeOwn
import Derived.Deep.LoopGhost
import Derived.Maps.AppendAt
set_option linter.unusedVariables false
namespace Go.Proofs.Ytjnjnkkdpglfhaa
open Go.RowKit

theorem heap_ne {w : World} {a b : Nat} {A B : Array Value} {s t : TypeId} {fa fb : Nat × Nat} (ha : w.heap[a]? = some (.cells A s fa)) (hb : w.heap[b]? = some (.cells B t fb)) (h : s ≠ t) : a ≠ b := by
  rintro rfl
  rw [ha] at hb
  simp at hb
  exact h hb.2.1

section
variable {B gc gl gp : Nat} {pg : Nat → Nat} {pv : Value} {st : Cp} {p : Pw} {w w' : World}
theorem Chip.pastBlock (h : Chip B gc gl gp pg pv st p w) {k : Nat} (hk : pv.ownBlock = some k) : ∃ cur, w.heap[k]? = some (.cells cur 9 (0, 0)) := by
  obtain ⟨_, ⟨rfl, _⟩ | ⟨g, cap, cur, rfl, _, hg, _⟩⟩ := h.past
  · cases hk
  · cases hk; exact ⟨cur, hg⟩
theorem Chip.row_pg (h : Chip B gc gl gp pg pv st p w) {i : Nat} (hi : i < st.segs) : ∃ cs, w.heap[pg i]? = some (.cells cs 91 (0, 0)) := by
  obtain ⟨cs, h1, _⟩ := h.page i hi
  exact ⟨cs, h1⟩
theorem Chip.row_gl (h : Chip B gc gl gp pg pv st p w) : ∃ cs, w.heap[gl]? = some (.cells cs 79 (0, 0)) := by
  obtain ⟨cs, h1, _⟩ := h.segs
  exact ⟨cs, h1⟩
theorem Chip.mine_lt (h : Chip B gc gl gp pg pv st p w) {k : Nat} (hk : Mine gc gl gp pg pv st.segs k) : k < w.heap.size := by
  rcases hk with rfl | rfl | rfl | ⟨i, hi, rfl⟩ | hk
  · exact (Array.getElem?_eq_some_iff.1 h.chip).1
  · obtain ⟨cs, hc⟩ := h.row_gl; exact (Array.getElem?_eq_some_iff.1 hc).1
  · exact (Array.getElem?_eq_some_iff.1 h.pw).1
  · obtain ⟨cs, hc⟩ := h.row_pg hi; exact (Array.getElem?_eq_some_iff.1 hc).1
  · exact (h.past.lt k hk).2
theorem keepRow {g : Nat} {o : Obj} {S : Nat → Prop} (ho : Only S w w') (hg : w.heap[g]? = some o) (hs : ¬ S g) : w'.heap[g]? = some o := (ho.block g (Array.getElem?_eq_some_iff.1 hg).1 hs).trans hg
theorem keepSegs {S : Nat → Prop} (ho : Only S w w') (h : SegsAt gl pg st w) (hs : ¬ S gl) : SegsAt gl pg st w' := by
  obtain ⟨cs, h1, h2⟩ := h
  exact ⟨cs, keepRow ho h1 hs, h2⟩
theorem keepPages {S : Nat → Prop} {i : Nat} (ho : Only S w w') (h : PagesAt pg pv st i w) (hs : ¬ S (pg i)) (hb : ∀ b s, w.heap[b]? = some (.cells #[.string s] 9 (0, 0)) → pv.ownBlock ≠ some b → ¬ S b) : PagesAt pg pv st i w' := by
  obtain ⟨cs, h1, h2, h3⟩ := h
  refine ⟨cs, keepRow ho h1 hs, h2, fun j hj => ?_⟩
  obtain ⟨v, h4, h5⟩ := h3 j hj
  exact ⟨v, h4, h5.keep fun b s hg hp => ho.block b (Array.getElem?_eq_some_iff.1 hg).1 (hb b s hg hp)⟩
theorem keepOwn {S : Nat → Prop} {b n size : Nat} {e : TypeId} {v : Value} {xs : List Value} (ho : Only S w w') (h : w.ownsRow b e size v n xs) (hs : ∀ k, v.ownBlock = some k → ¬ S k) : w'.ownsRow b e size v n xs := by
  obtain ⟨h1, h | ⟨g, cap, cur, rfl, hg, hb, rest⟩⟩ := h
  · exact ⟨h1, .inl h⟩
  · exact ⟨h1, .inr ⟨g, cap, cur, rfl, hg, keepRow ho hb (hs g rfl), rest⟩⟩
/-- Another power. -/
theorem Chip.power (h : Chip B gc gl gp pg pv st p w) {q : Pw} (hq : IsPw gp q w') (o : Only (fun k => k = gp) w w') : Chip B gc gl gp pg pv st q w' := by
  obtain ⟨c1, h1⟩ := h.row_gl
  refine ⟨keepRow o h.chip (heap_ne h.chip h.pw (by decide)), keepSegs o h.segs (heap_ne h1 h.pw (by decide)), fun i hi => ?_, hq, keepOwn o h.past fun k hk => ?_, h.inj, h.lens, h.base⟩
  · obtain ⟨c2, h2⟩ := h.row_pg hi
    exact keepPages o (h.page i hi) (heap_ne h2 h.pw (by decide)) fun b s hb _ => heap_ne hb h.pw (by decide)
  · obtain ⟨c3, h3⟩ := h.pastBlock hk
    exact heap_ne h3 h.pw (by decide)
/-- The chip's own block turned: its counts, its history. -/
theorem Chip.self (h : Chip B gc gl gp pg pv st p w) {pv' : Value} {st' : Cp} (hs : st'.segs = st.segs) (hp : st'.pages = st.pages) (hr : st'.page = st.page) (hw : st'.wear = st.wear) (hb : st'.bad = st.bad)
    (hc : w'.heap[gc]? = some (.cells (cpA gl gp pv' st') 75 (0, 0))) (o : Only (fun k => k = gc ∨ pv.ownBlock = some k) w w') (hpast : w'.ownsRow B 9 1 pv' st'.past.length (st'.past.map Value.string))
    (hn : ∀ b s, w.heap[b]? = some (.cells #[.string s] 9 (0, 0)) → pv.ownBlock ≠ some b → pv'.ownBlock ≠ some b) : Chip B gc gl gp pg pv' st' p w' := by
  obtain ⟨c1, h1⟩ := h.row_gl
  have hne : ∀ {k : Nat} {cs : Array Value} {ty : TypeId}, w.heap[k]? = some (.cells cs ty (0, 0)) → ty ≠ 75 → ty ≠ 9 → ¬ (k = gc ∨ pv.ownBlock = some k) := by
    intro k cs ty hk h75 h9 hor
    rcases hor with hor | hor
    · exact heap_ne hk h.chip h75 hor
    · obtain ⟨c3, h3⟩ := h.pastBlock hor
      exact heap_ne hk h3 h9 rfl
  have hst : ∀ b s, w.heap[b]? = some (.cells #[.string s] 9 (0, 0)) → pv.ownBlock ≠ some b → ¬ (b = gc ∨ pv.ownBlock = some b) := by
    intro b s hb hp hor
    rcases hor with hor | hor
    · exact heap_ne hb h.chip (by decide) hor
    · exact hp hor
  obtain ⟨segs', pages', rated', page', wear', bad', past', pr', er'⟩ := st'
  obtain ⟨segs, pages, rated, page, wear, bad, past, pr, er⟩ := st
  simp only at hs hp hr hw hb
  subst hs hp hr hw hb
  refine ⟨hc, keepSegs o h.segs (hne h1 (by decide) (by decide)), fun i hi => ?_, keepRow o h.pw (hne h.pw (by decide) (by decide)), hpast, h.inj, h.lens, h.base⟩
  obtain ⟨c2, h2⟩ := h.row_pg hi
  obtain ⟨cs, g1, g2, g3⟩ := keepPages o (h.page i hi) (hne h2 (by decide) (by decide)) hst
  refine ⟨cs, g1, g2, fun j hj => ?_⟩
  obtain ⟨v, g4, g5⟩ := g3 j hj
  refine ⟨v, g4, ?_⟩
  rcases g5 with g | ⟨b, s, k1, k2, k3, k4⟩
  · exact .inl g
  · refine .inr ⟨b, s, k1, k2, k3, hn b s ?_ k4⟩
    obtain ⟨cs', f1, f2, f3⟩ := h.page i hi
    have hcs : cs = cs' := by
      have := keepRow o f1 (hne h2 (by decide) (by decide))
      rw [this] at g1
      simp at g1
      exact g1.symm
    subst hcs
    obtain ⟨v', f4, f5⟩ := f3 j hj
    rw [g4] at f4
    obtain rfl := Option.some.inj f4
    rcases f5 with ⟨e1, e2⟩ | ⟨b', s', e1, e2, e3, e4⟩
    · rw [k1] at e1; cases e1
    · rw [k2] at e2
      have hbb : b = b' := by simpa using e2
      subst hbb
      rw [k1] at e1
      obtain rfl := Option.some.inj e1
      exact e3
/-- A page turned. -/
def updP (f : Nat → Nat → Option ByteArray) (i j : Nat) (o : Option ByteArray) : Nat → Nat → Option ByteArray := fun a b => if a = i ∧ b = j then o else f a b
theorem Chip.setPage (h : Chip B gc gl gp pg pv st p w) {i j b : Nat} (hi : i < st.segs) (hj : j < st.pages) {s : ByteArray} {cs : Array Value} (hcs : w.heap[pg i]? = some (.cells cs 91 (0, 0)))
    (hc : w'.heap[pg i]? = some (.cells (cs.setIfInBounds j (.pointer (some ⟨b, 0, none⟩))) 91 (0, 0))) (o : Only (fun k => k = pg i) w w') (hb : w.heap[b]? = some (.cells #[.string s] 9 (0, 0))) (hn : pv.ownBlock ≠ some b) :
    Chip B gc gl gp pg pv { st with page := updP st.page i j (some s) } p w' := by
  obtain ⟨c1, h1⟩ := h.row_gl
  obtain ⟨c2, h2⟩ := h.row_pg hi
  have hbk : ∀ b s, w.heap[b]? = some (.cells #[.string s] 9 (0, 0)) → pv.ownBlock ≠ some b → ¬ (b = pg i) := fun b s hb _ => heap_ne hb h2 (by decide)
  refine ⟨keepRow o h.chip (heap_ne h.chip h2 (by decide)), keepSegs o h.segs (heap_ne h1 h2 (by decide)), fun k hk => ?_, keepRow o h.pw (heap_ne h.pw h2 (by decide)), keepOwn o h.past fun k hk => ?_, h.inj, h.lens, h.base⟩
  · by_cases hki : k = i
    · subst hki
      obtain ⟨cs', g1, g2, g3⟩ := h.page k hk
      rw [hcs] at g1
      have : cs = cs' := by simpa using g1
      subst this
      refine ⟨_, hc, by simpa using g2, fun l hl => ?_⟩
      by_cases hlj : l = j
      · subst hlj
        refine ⟨_, Array.getElem?_setIfInBounds_self_of_lt (by rw [g2]; exact hl), .inr ⟨b, s, ?_, rfl, keepRow o hb (hbk b s hb hn), hn⟩⟩
        show updP st.page k l (some s) k l = some s
        simp [updP]
      · obtain ⟨v, g4, g5⟩ := g3 l hl
        refine ⟨v, by rw [Array.getElem?_setIfInBounds_ne (by omega)]; exact g4, ?_⟩
        show PageAt w' pv (updP st.page k j (some s) k l) v
        rw [updP, if_neg (by omega)]
        exact g5.keep fun b s hg hp => o.block b (Array.getElem?_eq_some_iff.1 hg).1 (hbk b s hg hp)
    · have hk' : k < st.segs := hk
      have hne : ¬ pg k = pg i := fun e => hki (h.inj k i hk' hi e)
      obtain ⟨cs', g1, g2, g3⟩ := keepPages o (h.page k hk') hne hbk
      refine ⟨cs', g1, g2, fun l hl => ?_⟩
      obtain ⟨v, g4, g5⟩ := g3 l hl
      refine ⟨v, g4, ?_⟩
      show PageAt w' pv (updP st.page i j (some s) k l) v
      rw [updP, if_neg (by omega)]
      exact g5
  · obtain ⟨c3, h3⟩ := h.pastBlock hk
    exact heap_ne h3 h2 (by decide)
/-- The first pages of a segment taken away. -/
def clrP (f : Nat → Nat → Option ByteArray) (i n : Nat) : Nat → Nat → Option ByteArray := fun a b => if a = i ∧ b < n then none else f a b
theorem Chip.clear (h : Chip B gc gl gp pg pv st p w) {i n : Nat} (hi : i < st.segs) {cs : Array Value} 
    (hc : w'.heap[pg i]? = some (.cells cs 91 (0, 0))) (hcs : ∃ old, w.heap[pg i]? = some (.cells old 91 (0, 0)) ∧ cs.size = old.size ∧ ∀ j, cs[j]? = if j < n ∧ j < old.size then some (.pointer none) else old[j]?) (o : Only (fun k => k = pg i) w w') :
    Chip B gc gl gp pg pv { st with page := clrP st.page i n } p w' := by
  obtain ⟨c1, h1⟩ := h.row_gl
  obtain ⟨c2, h2⟩ := h.row_pg hi
  have hbk : ∀ b s, w.heap[b]? = some (.cells #[.string s] 9 (0, 0)) → pv.ownBlock ≠ some b → ¬ (b = pg i) := fun b s hb _ => heap_ne hb h2 (by decide)
  refine ⟨keepRow o h.chip (heap_ne h.chip h2 (by decide)), keepSegs o h.segs (heap_ne h1 h2 (by decide)), fun k hk => ?_, keepRow o h.pw (heap_ne h.pw h2 (by decide)), keepOwn o h.past fun k hk => ?_, h.inj, h.lens, h.base⟩
  · have hk' : k < st.segs := hk
    by_cases hki : k = i
    · subst hki
      obtain ⟨cs', g1, g2, g3⟩ := h.page k hk'
      obtain ⟨old, e1, e2, e3⟩ := hcs
      rw [e1] at g1
      have : old = cs' := by simpa using g1
      subst this
      refine ⟨_, hc, by rw [e2]; exact g2, fun l hl => ?_⟩
      have hl' : l < st.pages := hl
      by_cases hln : l < n
      · refine ⟨.pointer none, by rw [e3, if_pos ⟨hln, by omega⟩], .inl ⟨?_, rfl⟩⟩
        show clrP st.page k n k l = none
        rw [clrP, if_pos ⟨rfl, hln⟩]
      · obtain ⟨v, g4, g5⟩ := g3 l hl'
        refine ⟨v, by rw [e3, if_neg (by omega)]; exact g4, ?_⟩
        show PageAt w' pv (clrP st.page k n k l) v
        rw [clrP, if_neg (by omega)]
        exact g5.keep fun b s hg hp => o.block b (Array.getElem?_eq_some_iff.1 hg).1 (hbk b s hg hp)
    · have hne : ¬ pg k = pg i := fun e => hki (h.inj k i hk' hi e)
      obtain ⟨cs', g1, g2, g3⟩ := keepPages o (h.page k hk') hne hbk
      refine ⟨cs', g1, g2, fun l hl => ?_⟩
      obtain ⟨v, g4, g5⟩ := g3 l hl
      refine ⟨v, g4, ?_⟩
      show PageAt w' pv (clrP st.page i n k l) v
      rw [clrP, if_neg (by omega)]
      exact g5
  · obtain ⟨c3, h3⟩ := h.pastBlock hk
    exact heap_ne h3 h2 (by decide)
/-- A segment's wear turned. -/
theorem Chip.setWear (h : Chip B gc gl gp pg pv st p w) {i : Nat} (hi : i < st.segs) (x : Int) {cs : Array Value} (hcs : w.heap[gl]? = some (.cells cs 79 (0, 0)))
    (hc : w'.heap[gl]? = some (.cells (cs.setIfInBounds (i * 3 + 1) (.int .i64 x)) 79 (0, 0))) (o : Only (fun k => k = gl) w w') :
    Chip B gc gl gp pg pv { st with wear := fun k => if k = i then x else st.wear k } p w' := by
  refine ⟨keepRow o h.chip (heap_ne h.chip hcs (by decide)), ?_, fun k hk => ?_, keepRow o h.pw (heap_ne h.pw hcs (by decide)), keepOwn o h.past fun k hk => ?_, h.inj, h.lens, h.base⟩
  · obtain ⟨cs', g1, g2, g3⟩ := h.segs
    rw [hcs] at g1
    have : cs = cs' := by simpa using g1
    subst this
    refine ⟨_, hc, by simpa using g2, fun k hk => ?_⟩
    have hk' : k < st.segs := hk
    obtain ⟨e1, e2, e3⟩ := g3 k hk'
    refine ⟨by rw [Array.getElem?_setIfInBounds_ne (by omega)]; exact e1, ?_, by rw [Array.getElem?_setIfInBounds_ne (by omega)]; exact e3⟩
    by_cases hki : k = i
    · subst hki
      rw [Array.getElem?_setIfInBounds_self_of_lt (by rw [g2]; omega)]
      simp
    · rw [Array.getElem?_setIfInBounds_ne (by omega)]
      simp only [if_neg hki]
      exact e2
  · obtain ⟨c2, h2⟩ := h.row_pg hk
    exact keepPages o (h.page k hk) (heap_ne h2 hcs (by decide)) fun b s hb _ => heap_ne hb hcs (by decide)
  · obtain ⟨c3, h3⟩ := h.pastBlock hk
    exact heap_ne h3 hcs (by decide)
end

section
variable {P : Program} {ops : Array Oper} {S : World → Prop} {md : Region.Mode} {Q : Exit → Act → World → Prop}
/-- One operation that may come up alone, by its run. -/
theorem held_exec {j : Nat} {oj : Oper} {fuel : Nat} {listed : Array Bool} {a : Act} {w w' : World} (hr : Region.ready md ops listed = [j]) (hj : ops[j]? = some oj) (hw : Region.wanted oj (yielded ops a.tmps) = true)
    (v : Value) (hrun : (execOp a.eval oj).run P w = .ok (.value v) w') (hS : S w') (h : wpAnyH P md ops Q S fuel (listed.setIfInBounds j true) (a.put oj.dst v) w') : wpAnyH P md ops Q S (fuel + 1) listed a w := by
  refine wpAnyH_all hr (by simp) fun i hi => ?_
  obtain rfl : i = j := by simpa using hi
  unfold Go.wpOp
  simp only [hj]
  rw [if_pos hw]
  refine .inl ?_
  unfold Oper.wp
  rw [hrun, Oper.upon_value]
  exact ⟨hS, h⟩
/-- One operation of several that may come up, by its run. -/
theorem op_exec {K : Act → World → Prop} {j : Nat} {oj : Oper} {t : Tmp} {a : Act} {w w' : World} (hj : ops[j]? = some oj) (hd : oj.dst = some t) (hw : Region.wanted oj (yielded ops a.tmps) = true)
    (v : Value) (hrun : (execOp a.eval oj).run P w = .ok (.value v) w') (h : K ⟨a.tmps.setIfInBounds t v, a.defers⟩ w') : wpOp P ops Q j K a w := by
  unfold Go.wpOp
  simp only [hj]
  rw [if_pos hw]
  refine .inl ?_
  unfold Oper.wp
  rw [hrun, Oper.upon_value, hd, put_some]
  exact h
theorem exec_load {o : Oper} {a : Act} {w : World} (ty : TypeId) (x : Operand) (ho : o.op = .load ty x) (ad : Addr) (hx : a.eval x = .pointer (some ad)) (v : Value) (hrun : (loadVar ty ad).run P w = .ok v w) : (execOp a.eval o).run P w = .ok (.value v) w := by
  unfold execOp
  simp only [ho, hx, Instr.loadAt, Instr.sureAddr, Sem.run_bind, Sem.run_pure, Result.andThen_ok, hrun]
theorem exec_bs {o : Oper} {a : Act} {w w' : World} (ty : TypeId) (len : Nat) (ps : Array (Nat × Operand)) (ho : o.op = .buildSlice ty len ps) (qs : List (Nat × Value)) (hx : (ps.toList.map fun (i, x) => (i, a.eval x)) = qs) (v : Value)
    (hrun : (Instr.buildSlice ty len qs.toArray).run P w = .ok v w') : (execOp a.eval o).run P w = .ok (.value v) w' := by
  have e : (ps.map fun (i, x) => (i, a.eval x)) = qs.toArray := by rw [← hx]; apply Array.toList_inj.1; simp
  unfold execOp
  simp only [ho, e, Sem.run_bind, Sem.run_pure, Result.andThen_ok, hrun]
theorem exec_conv {o : Oper} {a : Act} {w : World} (sT dT : TypeId) (x : Operand) (ho : o.op = .convert sT dT x) (u : Value) (hx : a.eval x = u) (v : Value) (hrun : (convert sT dT u).run P w = .ok v w) : (execOp a.eval o).run P w = .ok (.value v) w := by
  unfold execOp
  simp only [ho, hx, Sem.run_bind, Sem.run_pure, Result.andThen_ok, hrun]
theorem held_execd {j : Nat} {oj : Oper} {t : Tmp} {fuel : Nat} {listed : Array Bool} {a : Act} {w w' : World} (hr : Region.ready md ops listed = [j]) (hj : ops[j]? = some oj) (hd : oj.dst = some t) (hw : Region.wanted oj (yielded ops a.tmps) = true)
    (v : Value) (hrun : (execOp a.eval oj).run P w = .ok (.value v) w') (hS : S w') (h : wpAnyH P md ops Q S fuel (listed.setIfInBounds j true) ⟨a.tmps.setIfInBounds t v, a.defers⟩ w') : wpAnyH P md ops Q S (fuel + 1) listed a w :=
  held_exec hr hj hw v hrun hS (by rw [hd, put_some]; exact h)
theorem held_make {j : Nat} {oj : Oper} {t : Tmp} {fuel : Nat} {listed : Array Bool} {a : Act} {w w' : World} (hr : Region.ready md ops listed = [j]) (hj : ops[j]? = some oj) (hgd : oj.guard = none) (hd : oj.dst = some t)
    (ty : TypeId) (x y : Operand) (ho : oj.op = .makeSlice ty x y) (u v r : Value) (hx : a.eval x = u) (hy : a.eval y = v) (hrun : (Instr.makeSlice ty u v).run P w = .ok r w') (hS : S w')
    (h : wpAnyH P md ops Q S fuel (listed.setIfInBounds j true) ⟨a.tmps.setIfInBounds t r, a.defers⟩ w') : wpAnyH P md ops Q S (fuel + 1) listed a w := by
  refine held_exec hr hj (by simp [Region.wanted, hgd]) r ?_ hS (by rw [hd, put_some]; exact h)
  unfold execOp
  simp only [ho, hx, hy, Sem.run_bind, Sem.run_pure, Result.andThen_ok, hrun]
theorem held_append {j : Nat} {oj : Oper} {t : Tmp} {fuel : Nat} {listed : Array Bool} {a : Act} {w : World} (hr : Region.ready md ops listed = [j]) (hj : ops[j]? = some oj) (hgd : oj.guard = none) (hd : oj.dst = some t)
    (s x : Operand) (ty : TypeId) (ho : oj.op = .call { callee := .builtin .append, args := #[s, x], argTypes := #[ty, ty] })
    (base : Nat) (e : TypeId) (i : TypeInfo) (z : Value) (size bytes : Nat) (ht : P.underlying ty = some (.slice e)) (hi : P.info? e = some i) (hz : i.zero = some z)
    (hsize : i.size = size) (hby : i.bytes = bytes) (hzs : z.cells.size = size) (hsz : 0 < size)
    (v : Value) (n : Nat) (xs : List Value) (hs : a.eval s = v) (hown : w.ownsRow base e size v n xs)
    (ad : Addr) (m c : Nat) (news : List Value) (hx : a.eval x = .slice (some ad) m c) (hl : news.length = m * size) (hnews : ∀ j u, news[j]? = some u → w.cell? (ad.add j) = some u) (h1 : ∀ u ∈ news, u.oneCell' = true)
    (h63 : n + m ≤ maxLen) (hbytes : (n + m) * bytes ≤ 140737488355328) (hbase : base ≤ w.heap.size)
    (h : ∀ v' w', w'.ownsRow base e size v' (n + m) (xs ++ news) → w.grownBy w' v.ownBlock → (v'.ownBlock = v.ownBlock ∨ v'.ownBlock = some w.heap.size) → S w' ∧ wpAnyH P md ops Q S fuel (listed.setIfInBounds j true) ⟨a.tmps.setIfInBounds t v', a.defers⟩ w') : wpAnyH P md ops Q S (fuel + 1) listed a w := by
  obtain ⟨v', w', hrn, h2, h3, _, h5⟩ := run_append_own_at (P := P) w base ty oj.type e i z size bytes ht hi hz hsize hby hzs hsz v n xs hown ad m c news hl hnews h1 h63 hbytes hbase
  obtain ⟨k1, k2⟩ := h v' w' h2 h3 h5
  refine held_exec hr hj (by simp [Region.wanted, hgd]) v' ?_ k1 (by rw [hd, put_some]; exact k2)
  unfold execOp
  simp only [ho, resolve, invoke, builtin, Sem.run_bind, Sem.run_pure, Result.andThen_ok, List.map_toArray, List.map_cons, List.map_nil, hs, hx, hrn]
theorem wpList_make_at {o : Oper} {rest : List Oper} {a : Act} {w w' : World} (hgd : o.guard = none) (ty : TypeId) (x y : Operand) (ho : o.op = .makeSlice ty x y) (u v r : Value) (hx : a.eval x = u) (hy : a.eval y = v)
    (hrun : (Instr.makeSlice ty u v).run P w = .ok r w') (h : wpList P ops Q rest (a.put o.dst r) w') : wpList P ops Q (o :: rest) a w :=
  wpList_plain hgd fun _ hK => by
    unfold Oper.wp execOp
    simp only [ho, hx, hy, Sem.run_bind, Sem.run_pure, Result.andThen_ok, hrun]
    exact hK _ _ h
end
theorem grown_only {w w' : World} {r : Option Nat} (h : w.grownBy w' r) : Only (fun k => r = some k) w w' := ⟨h.os, h.tape, h.output, h.size, fun k hk hn => h.block k hk (fun e => hn e.symm)⟩
/-- A cell of a row stored. -/
theorem one_at (w : World) {g o : Nat} {A : Array Value} {t ty : TypeId} {v : Value} (hg : w.heap[g]? = some (.cells A t (0, 0))) (hf : (Try.prog.info? ty).map (·.size) = some 1) (h1 : v.oneCell' = true) (ho : o < A.size) :
    ∃ W, (storeVar ty ⟨g, o, none⟩ v).run Try.prog w = .ok () W ∧ W.heap[g]? = some (.cells (A.setIfInBounds o v) t (0, 0)) ∧ Only (fun k => k = g) w W ∧ W.heap.size = w.heap.size := by
  have hs := storeVar_at (P := Try.prog) w g o t ty A #[v] 1 hg hf rfl (by omega) (by intro u hu; simp at hu; subst hu; exact h1)
  rw [splice_one A o v ho] at hs
  refine ⟨_, ?_, setRow_heap _ _ _ _ _ _ hg, ⟨rfl, rfl, rfl, by simp, fun k hk hn => setRow_other w g k _ hn⟩, by simp⟩
  rw [← hs]
  have e : v.cells = #[v] := by cases v <;> first | rfl | cases h1
  simp only [storeVar, e]
  rfl
theorem load_one {w : World} {ad : Addr} {v : Value} (ty : TypeId) (d : TypeDesc) (hu : Try.prog.underlying ty = some d) (hd : isAggD d = false) (hc : w.cell? ad = some v) : (loadVar ty ad).run Try.prog w = .ok v w := by
  have ha : (isAgg ty).run Try.prog w = .ok false w := by
    unfold isAgg
    rw [Sem.run_bind, run_underlying hu w]
    cases d <;> first | rfl | (simp [isAggD] at hd)
  simp [loadVar, Sem.run_bind, ha, run_load, hc]
theorem bytes_conv {w : World} {g o n cap : Nat} {l : List UInt8} (hn : l.length = n) (hc : ∀ i (hi : i < l.length), w.cell? ⟨g, o + i, none⟩ = some (.int .u8 l[i].toNat)) :
    (convert 35 9 (.slice (some ⟨g, o, none⟩) n cap)).run Try.prog w = .ok (.string ⟨l.toArray⟩) w := by
  have hcast : strOfNums (l.map fun c : UInt8 => (c.toNat : Int)) = ⟨l.toArray⟩ := by
    have e : ((fun n : Int => UInt8.ofNat n.toNat) ∘ fun c : UInt8 => (c.toNat : Int)) = id := by funext c; simp
    simp [strOfNums, e]
  rw [← hcast]
  refine run_convert_bytes_arg w 35 5 Try.underlying35 Try.underlying5 g o n cap _ (by simpa using hn) (fun i hi => ?_) 9 Try.underlying9
  have hil : i < l.length := by omega
  have := hc i hil
  simpa [hil] using this
theorem info5s : (Try.prog.info? 5).map (·.size) = some 1 := by kernel_rfl
theorem info9s : (Try.prog.info? 9).map (·.size) = some 1 := by kernel_rfl
theorem info3s : (Try.prog.info? 3).map (·.size) = some 1 := by kernel_rfl
theorem info4s : (Try.prog.info? 4).map (·.size) = some 1 := by kernel_rfl
theorem info23s : (Try.prog.info? 23).map (·.size) = some 1 := by kernel_rfl
theorem info43s : (Try.prog.info? 43).map (·.size) = some 1 := by kernel_rfl
theorem info77s : (Try.prog.info? 77).map (·.size) = some 1 := by kernel_rfl
theorem info91s : (Try.prog.info? 91).map (·.size) = some 1 := by kernel_rfl
theorem info5 : (Try.prog.info? 5).map (fun i => (i.zero, i.size, i.bytes)) = some (some (.int .u8 0), 1, 1) := by kernel_rfl
theorem info9 : (Try.prog.info? 9).map (fun i => (i.zero, i.size, i.bytes)) = some (some (.string ByteArray.empty), 1, 16) := by kernel_rfl
theorem build_b (x : Int) (w : World) : (Instr.buildSlice 35 1 #[(0, .int .u8 x)]).run Try.prog w = .ok (.slice (some ⟨w.heap.size, 0, none⟩) 1 1) (w.alloc (.cells #[.int .u8 x] 5)) := by
  obtain ⟨ie, hie, hz, hs, hb⟩ := info_parts info5
  refine run_buildSlice w 35 5 1 _ _ ie _ Try.underlying35 hie hz (by omega) (by omega) ?_
  rw [hs]
  kernel_rfl
theorem build_s (x : ByteArray) (w : World) : (Instr.buildSlice 43 1 #[(0, .string x)]).run Try.prog w = .ok (.slice (some ⟨w.heap.size, 0, none⟩) 1 1) (w.alloc (.cells #[.string x] 9)) := by
  obtain ⟨ie, hie, hz, hs, hb⟩ := info_parts info9
  refine run_buildSlice w 43 9 1 _ _ ie _ Try.underlying43 hie hz (by omega) (by omega) ?_
  rw [hs]
  kernel_rfl
end Go.Proofs.Ytjnjnkkdpglfhaa
