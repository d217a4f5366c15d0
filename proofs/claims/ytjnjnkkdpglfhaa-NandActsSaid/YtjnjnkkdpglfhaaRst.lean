/-
  The reference's chip: what its stores make of it.
-/
import Derived.Test.YtjnjnkkdpglfhaaRlc
import Derived.Test.YtjnjnkkdpglfhaaErb
set_option linter.unusedVariables false
namespace Go.Proofs.Ytjnjnkkdpglfhaa
open Go.RowKit

section
variable {P : Program} {ops : Array Oper} {rest : List Oper} {o : Oper} {a : Act} {w w' : World} {Q : Exit → Act → World → Prop}
theorem wpList_want (hw : Region.wanted o (yielded ops a.tmps) = true) (h : ∀ K : Act → World → Prop, (∀ a w, wpList P ops Q rest a w → K a w) → o.wp P a w K Q) : wpList P ops Q (o :: rest) a w :=
  wpList_step fun K hK => by rw [if_pos hw]; exact h K hK
/-- append, guarded or not. -/
theorem wpList_app_g (hw : Region.wanted o (yielded ops a.tmps) = true) (s x : Operand) (t : TypeId) (ho : o.op = .call { callee := .builtin .append, args := #[s, x], argTypes := #[t, t] }) (v u v' : Value) (hs : a.eval s = v) (hx : a.eval x = u)
    (hrun : ∀ ty, (Builtin.append_ #[t, t] ty #[v, u]).run P w = .ok v' w') (h : wpList P ops Q rest (a.put o.dst v') w') : wpList P ops Q (o :: rest) a w := by
  refine wpList_want hw fun K hK => ?_
  unfold Oper.wp execOp
  simp only [ho, resolve, invoke, builtin, Sem.run_bind, Sem.run_pure, Result.andThen_ok, List.map_toArray, List.map_cons, List.map_nil, hs, hx, hrun]
  exact hK _ _ h
/-- A new box, its zero by the caller. -/
theorem wpList_alloc_at (hgd : o.guard = none) (ty : TypeId) (ho : o.op = .alloc ty) (cs : Array Value) (hz : (zeroValue ty).run P w = .ok (.agg cs) w) (h : wpList P ops Q rest (a.put o.dst (.pointer (some ⟨w.heap.size, 0, none⟩))) (w.alloc (.cells cs ty))) : wpList P ops Q (o :: rest) a w :=
  wpList_plain hgd fun _ hK => by
    unfold Oper.wp execOp
    simp only [ho, Instr.alloc, Sem.run_bind, Sem.run_pure, Result.andThen_ok, hz]
    have hn : (newVar ty (.agg cs)).run P w = .ok ⟨w.heap.size, 0, none⟩ (w.alloc (.cells cs ty)) := rfl
    simp only [hn, Result.andThen_ok]
    exact hK _ _ h
end
theorem zero53 (w : World) : (zeroValue 53).run Try.prog w = .ok (.agg Z53) w := by kernel_rfl
theorem splice_in1 {A B : Array Value} {o j : Nat} (hf : o + B.size ≤ A.size) (hj : j < B.size) : (splice A o B)[o + j]? = B[j]? := by
  unfold splice
  have hl : (A.toList.take o).length = o := by simp; omega
  rw [List.getElem?_toArray, List.append_assoc, List.getElem?_append_right (by omega), hl, Nat.add_sub_cancel_left, List.getElem?_append_left (by simpa using hj), Array.getElem?_toList]
section
variable {A : Array Value} {lv pv : Value} {st : Cp} {p : Pw}
theorem RA.setPw (h : RA A lv pv st p) (q : Pw) : RA (splice A 0 q.cells) lv pv st q := by
  have hs := h.size
  have e4 : q.cells.size = 4 := rfl
  have hf : 0 + q.cells.size ≤ A.size := by omega
  have hz : (splice A 0 q.cells).size = 139 := by rw [splice_size hf]; exact hs
  have k : ∀ j, 4 ≤ j → (splice A 0 q.cells)[j]? = A[j]? := fun j hj => splice_out hf (by omega)
  refine ⟨hz, ?_, by rw [k _ (by omega)]; exact h.segs, by rw [k _ (by omega)]; exact h.pages, by rw [k _ (by omega)]; exact h.rated, fun i hi => by rw [k _ (by omega)]; exact h.bad i hi, by rw [k _ (by omega)]; exact h.l, fun i hi => by rw [k _ (by omega)]; exact h.worn i hi, by rw [k _ (by omega)]; exact h.past, by rw [k _ (by omega)]; exact h.programs, by rw [k _ (by omega)]; exact h.erases, h.lens, ?_⟩
  · apply Array.ext_getElem?
    intro j
    rw [Array.getElem?_extract]
    by_cases hj : j < 4
    · rw [if_pos (by omega), ← splice_in1 hf (by omega)]
    · rw [if_neg (by omega), Array.getElem?_eq_none (by omega)]
  · intro v hv
    unfold splice at hv
    simp only [List.mem_append] at hv
    rcases hv with (hv | hv) | hv
    · exact h.one v (List.mem_of_mem_take hv)
    · exact p4_one q.off q.left q.keep q.junk v hv
    · exact h.one v (List.mem_of_mem_drop hv)
theorem RA.set1 (h : RA A lv pv st p) {o : Nat} {v : Value} (ho : o < 139) (h1 : v.oneCell' = true) : (A.setIfInBounds o v).size = 139 ∧ (A.setIfInBounds o v)[o]? = some v ∧ (∀ j, j ≠ o → (A.setIfInBounds o v)[j]? = A[j]?) ∧ (∀ u ∈ (A.setIfInBounds o v).toList, u.oneCell' = true) ∧ (4 ≤ o → (A.setIfInBounds o v).extract 0 4 = p.cells) := by
  have hs := h.size
  refine ⟨by rw [Array.size_setIfInBounds]; exact hs, Array.getElem?_setIfInBounds_self_of_lt (by omega), fun j hj => Array.getElem?_setIfInBounds_ne (by omega), fun u hu => ?_, fun h4 => ?_⟩
  · rw [Array.toList_setIfInBounds] at hu
    rcases List.mem_or_eq_of_mem_set hu with hu | rfl
    · exact h.one u hu
    · exact h1
  · rw [← h.pw]
    apply Array.ext_getElem?
    intro j
    rw [Array.getElem?_extract, Array.getElem?_extract]
    by_cases hj : j < 4
    · rw [if_pos (by rw [Array.size_setIfInBounds]; omega), if_pos (by omega), Array.getElem?_setIfInBounds_ne (by omega)]
    · rw [if_neg (by omega), if_neg (by omega)]
theorem RA.setL (h : RA A lv pv st p) (u : Value) (h1 : u.oneCell' = true) : RA (A.setIfInBounds 71 u) u pv st p := by
  obtain ⟨a1, a2, k, a4, a5⟩ := h.set1 (o := 71) (by omega) h1
  exact ⟨a1, a5 (by omega), by rw [k _ (by omega)]; exact h.segs, by rw [k _ (by omega)]; exact h.pages, by rw [k _ (by omega)]; exact h.rated, fun i hi => by have := h.lens; rw [k _ (by omega)]; exact h.bad i hi, a2, fun i hi => by rw [k _ (by omega)]; exact h.worn i hi, by rw [k _ (by omega)]; exact h.past, by rw [k _ (by omega)]; exact h.programs, by rw [k _ (by omega)]; exact h.erases, h.lens, a4⟩
theorem RA.setPast (h : RA A lv pv st p) (u : Value) (h1 : u.oneCell' = true) : RA (A.setIfInBounds 136 u) lv u st p := by
  obtain ⟨a1, a2, k, a4, a5⟩ := h.set1 (o := 136) (by omega) h1
  exact ⟨a1, a5 (by omega), by rw [k _ (by omega)]; exact h.segs, by rw [k _ (by omega)]; exact h.pages, by rw [k _ (by omega)]; exact h.rated, fun i hi => by have := h.lens; rw [k _ (by omega)]; exact h.bad i hi, by rw [k _ (by omega)]; exact h.l, fun i hi => by have := h.lens; rw [k _ (by omega)]; exact h.worn i hi, a2, by rw [k _ (by omega)]; exact h.programs, by rw [k _ (by omega)]; exact h.erases, h.lens, a4⟩
theorem RA.setPrograms (h : RA A lv pv st p) (x : Int) : RA (A.setIfInBounds 137 (.int .i64 x)) lv pv { st with programs := x } p := by
  obtain ⟨a1, a2, k, a4, a5⟩ := h.set1 (o := 137) (v := .int .i64 x) (by omega) rfl
  exact ⟨a1, a5 (by omega), by rw [k _ (by omega)]; exact h.segs, by rw [k _ (by omega)]; exact h.pages, by rw [k _ (by omega)]; exact h.rated, fun i hi => by have := h.lens; rw [k _ (by have : i < st.segs := hi; omega)]; exact h.bad i hi, by rw [k _ (by omega)]; exact h.l, fun i hi => by have := h.lens; rw [k _ (by have : i < st.segs := hi; omega)]; exact h.worn i hi, by rw [k _ (by omega)]; exact h.past, a2, by rw [k _ (by omega)]; exact h.erases, h.lens, a4⟩
theorem RA.setErases (h : RA A lv pv st p) (x : Int) : RA (A.setIfInBounds 138 (.int .i64 x)) lv pv { st with erases := x } p := by
  obtain ⟨a1, a2, k, a4, a5⟩ := h.set1 (o := 138) (v := .int .i64 x) (by omega) rfl
  exact ⟨a1, a5 (by omega), by rw [k _ (by omega)]; exact h.segs, by rw [k _ (by omega)]; exact h.pages, by rw [k _ (by omega)]; exact h.rated, fun i hi => by have := h.lens; rw [k _ (by have : i < st.segs := hi; omega)]; exact h.bad i hi, by rw [k _ (by omega)]; exact h.l, fun i hi => by have := h.lens; rw [k _ (by have : i < st.segs := hi; omega)]; exact h.worn i hi, by rw [k _ (by omega)]; exact h.past, by rw [k _ (by omega)]; exact h.programs, a2, h.lens, a4⟩
theorem RA.setWorn (h : RA A lv pv st p) {i : Nat} (hi : i < st.segs) (x : Int) : RA (A.setIfInBounds (72 + i) (.int .i64 x)) lv pv { st with wear := fun k => if k = i then x else st.wear k } p := by
  have hl := h.lens
  obtain ⟨a1, a2, k, a4, a5⟩ := h.set1 (o := 72 + i) (v := .int .i64 x) (by omega) rfl
  refine ⟨a1, a5 (by omega), by rw [k _ (by omega)]; exact h.segs, by rw [k _ (by omega)]; exact h.pages, by rw [k _ (by omega)]; exact h.rated, fun j hj => ?_, by rw [k _ (by omega)]; exact h.l, fun j hj => ?_, by rw [k _ (by omega)]; exact h.past, by rw [k _ (by omega)]; exact h.programs, by rw [k _ (by omega)]; exact h.erases, h.lens, a4⟩
  · have hj' : j < st.segs := hj
    rw [k _ (by omega)]
    exact h.bad j hj
  · by_cases e : j = i
    · subst e
      simp only [if_true]
      exact a2
    · simp only [if_neg e]
      rw [k _ (by omega)]
      exact h.worn j hj
theorem RA.setPage (h : RA A lv pv st p) (f : Nat → Nat → Option ByteArray) (l : List ByteArray) : RA A lv pv { st with page := f, past := l } p := ⟨h.size, h.pw, h.segs, h.pages, h.rated, h.bad, h.l, h.worn, h.past, h.programs, h.erases, h.lens, h.one⟩
theorem Tab.rowOf {T : List (Nat × Array Value × TypeId)} {a w : World} {g : Nat} {cur : Array Value} {cap : Nat} (h : Tab T a w) (i : Nat) (hi : T[i]? = some (g, cur, 97)) (hr : LR cur st) (h1 : st.segs * st.pages ≤ cap) (h2 : cap ≤ maxLen) : LC w (.slice (some ⟨g, 0, none⟩) (st.segs * st.pages) cap) st :=
  ⟨g, cap, rfl, h1, h2, fun k u hu => h.c i hi k (hr.2 k u hu)⟩
end
/-- The value v is a new slice of the pages' cells. -/
def LNew (w w' : World) (v : Value) (st : Cp) : Prop := ∃ b cap cur, v = .slice (some ⟨b, 0, none⟩) (st.segs * st.pages) cap ∧ st.segs * st.pages ≤ cap ∧ cap ≤ maxLen ∧ w'.heap[b]? = some (.cells cur 97 (0, 0)) ∧ w.heap.size ≤ b ∧ LR cur st
theorem Tab.rowNew {st : Cp} {T : List (Nat × Array Value × TypeId)} {a w : World} {g : Nat} {cur : Array Value} {cap : Nat} (h : Tab T a w) (i : Nat) (hi : T[i]? = some (g, cur, 97)) (hr : LR cur st) (h1 : st.segs * st.pages ≤ cap) (h2 : cap ≤ maxLen) : LNew a w (.slice (some ⟨g, 0, none⟩) (st.segs * st.pages) cap) st :=
  ⟨g, cap, cur, rfl, h1, h2, h.get i hi, h.new _ (List.mem_of_getElem? hi), hr⟩
theorem clr_upd (f : Nat → Nat → Option ByteArray) (i k : Nat) : updP (clrP f i k) i k none = clrP f i (k + 1) := by
  funext x y
  unfold updP clrP
  by_cases h1 : x = i
  · by_cases h2 : y = k
    · rw [if_pos ⟨h1, h2⟩, if_pos ⟨h1, by omega⟩]
    · rw [if_neg (by omega)]
      by_cases h3 : y < k
      · rw [if_pos ⟨h1, h3⟩, if_pos ⟨h1, by omega⟩]
      · rw [if_neg (by omega), if_neg (by omega)]
  · rw [if_neg (by omega), if_neg (by omega), if_neg (by omega)]
theorem clr_0 (f : Nat → Nat → Option ByteArray) (i : Nat) : clrP f i 0 = f := by
  funext x y
  unfold clrP
  rw [if_neg (by omega)]
theorem info50s : (Try.prog.info? 50).map (·.size) = some 1 := by kernel_rfl
theorem Z53_size : Z53.size = 139 := by rfl
end Go.Proofs.Ytjnjnkkdpglfhaa
