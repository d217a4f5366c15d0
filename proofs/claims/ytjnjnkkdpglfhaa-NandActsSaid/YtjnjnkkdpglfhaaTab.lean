/-
  The rows that a call has made and keeps: which blocks, and what they hold; all that was there before is as it was.
-/
import Derived.Test.YtjnjnkkdpglfhaaPow
import Derived.Test.YtjnjnkkdpglfhaaBlk
set_option linter.unusedVariables false
namespace Go.Proofs.Ytjnjnkkdpglfhaa
open Go.RowKit

/-- A struct or an array. -/
def isAggD (d : TypeDesc) : Bool := match d with | .struct _ | .array _ _ => true | _ => false

structure Tab (T : List (Nat × Array Value × TypeId)) (a w : World) : Prop where
  rows : ∀ p ∈ T, w.heap[p.1]? = some (.cells p.2.1 p.2.2 (0, 0))
  new : ∀ p ∈ T, a.heap.size ≤ p.1
  nd : (T.map (·.1)).Nodup
  only : Only (fun _ => False) a w

section
variable {T : List (Nat × Array Value × TypeId)} {a w w' : World} {g : Nat} {A B : Array Value} {t ty : TypeId}
theorem Tab.nil (a : World) : Tab [] a a := ⟨by simp, by simp, by simp, Only.refl _ _⟩
theorem Tab.lt (h : Tab T a w) {p : Nat × Array Value × TypeId} (hp : p ∈ T) : p.1 < w.heap.size := by
  have := h.rows p hp
  exact (Array.getElem?_eq_some_iff.1 this).1
theorem Tab.move (h : Tab T a w) {S : Nat → Prop} (o : Only S w w') (hT : ∀ p ∈ T, ¬ S p.1) (hS : ∀ k, S k → a.heap.size ≤ k) : Tab T a w' :=
  ⟨fun p hp => (o.block p.1 (h.lt hp) (hT p hp)).trans (h.rows p hp), h.new, h.nd,
   ⟨o.os.trans h.only.os, o.tape.trans h.only.tape, o.output.trans h.only.output, Nat.le_trans h.only.size o.size, fun k hk hf => (o.block k (Nat.lt_of_lt_of_le hk h.only.size) fun x => by have := hS k x; omega).trans (h.only.block k hk hf)⟩⟩
theorem Tab.on (h : Tab T a w) (o : Only (fun _ => False) w w') : Tab T a w' := h.move o (fun _ _ x => x) (fun _ x => x.elim)
theorem Tab.call (h : Tab T a w) (o : Below w.heap.size w w') : Tab T a w' := h.on (Only.of_below o)
theorem Tab.drew (h : Tab T a w) : Tab T a w.drew := h.on (Only.refl _ _).drew
theorem Tab.drewN (h : Tab T a w) (n : Nat) : Tab T a (w.drewN n) := h.on ((Only.refl _ _).drewN n)
theorem Tab.cons (h : Tab T a w) (ho : Only (fun _ => False) w w') (hg : w'.heap[g]? = some (.cells A t (0, 0))) (hgs : w.heap.size ≤ g) : Tab ((g, A, t) :: T) a w' := by
  have h2 := h.on ho
  refine ⟨?_, ?_, ?_, h2.only⟩
  · intro p hp
    rcases List.mem_cons.1 hp with rfl | hp
    · exact hg
    · exact h2.rows p hp
  · intro p hp
    rcases List.mem_cons.1 hp with rfl | hp
    · exact Nat.le_trans h.only.size hgs
    · exact h.new p hp
  · rw [List.map_cons, List.nodup_cons]
    refine ⟨fun hm => ?_, h.nd⟩
    obtain ⟨p, hp, e⟩ := List.mem_map.1 hm
    have := h.lt hp
    simp only at e
    omega
theorem Tab.weak (h : Tab T a w) : Tab [] a w := ⟨by simp, by simp, by simp, h.only⟩
theorem Tab.tail {p : Nat × Array Value × TypeId} (h : Tab (p :: T) a w) : Tab T a w := ⟨fun q hq => h.rows q (by simp [hq]), fun q hq => h.new q (by simp [hq]), (List.nodup_cons.1 (by rw [← List.map_cons]; exact h.nd)).2, h.only⟩
theorem Tab.alloc (h : Tab T a w) (A : Array Value) (t : TypeId) : Tab ((w.heap.size, A, t) :: T) a (w.alloc (.cells A t)) :=
  h.cons ((Only.refl _ w).alloc _) (heap_alloc_new w _) (Nat.le_refl _)
theorem Tab.get (h : Tab T a w) (i : Nat) (hi : T[i]? = some (g, A, t)) : w.heap[g]? = some (.cells A t (0, 0)) := h.rows _ (List.mem_of_getElem? hi)
theorem Tab.row (h : Tab T a w) {o : Obj} (hg : a.heap[g]? = some o) : w.heap[g]? = some o := (h.only.block g (Array.getElem?_eq_some_iff.1 hg).1 (fun x => x)).trans hg
theorem Tab.turn (h : Tab T a w) (i : Nat) (hi : T[i]? = some (g, A, t)) (o : Only (fun k => k = g) w w') (hg : w'.heap[g]? = some (.cells B t (0, 0))) : Tab (T.set i (g, B, t)) a w' := by
  have hil : i < T.length := (List.getElem?_eq_some_iff.1 hi).1
  have hmap : (T.set i (g, B, t)).map (·.1) = T.map (·.1) := by
    apply List.ext_getElem?
    intro j
    rw [List.getElem?_map, List.getElem?_map]
    by_cases hj : j = i
    · subst hj
      rw [List.getElem?_set_self hil, hi]
      rfl
    · rw [List.getElem?_set_ne (by omega)]
  have hgn : a.heap.size ≤ g := h.new _ (List.mem_of_getElem? hi)
  refine ⟨?_, ?_, by rw [hmap]; exact h.nd, (h.weak.move (S := fun k => k = g) o (by simp) (by rintro k rfl; exact hgn) |>.only : Only (fun _ => False) a w')⟩
  · intro p hp
    obtain ⟨j, hj⟩ := List.mem_iff_getElem?.1 hp
    by_cases hji : j = i
    · subst hji
      rw [List.getElem?_set_self hil] at hj
      obtain rfl := Option.some.inj hj
      exact hg
    · rw [List.getElem?_set_ne (by omega)] at hj
      have hpm : p ∈ T := List.mem_of_getElem? hj
      refine (o.block p.1 (h.lt hpm) ?_).trans (h.rows p hpm)
      intro e
      have hnd := h.nd
      have hjl : j < T.length := (List.getElem?_eq_some_iff.1 hj).1
      have := (List.getElem_inj (xs := T.map (·.1)) (h₀ := by simpa using hjl) (h₁ := by simpa using hil) hnd).1 (by
        rw [List.getElem_map, List.getElem_map, (List.getElem?_eq_some_iff.1 hj).2, (List.getElem?_eq_some_iff.1 hi).2]
        exact e)
      exact hji this
  · intro p hp
    have : p.1 ∈ T.map (·.1) := by rw [← hmap]; exact List.mem_map_of_mem hp
    obtain ⟨r, hr, e⟩ := List.mem_map.1 this
    rw [← e]
    exact h.new r hr
end

theorem Tab.below {T : List (Nat × Array Value × TypeId)} {a w : World} (h : Tab T a w) : Below a.heap.size a w := h.only.below (fun _ x => x.elim)

section
variable {T : List (Nat × Array Value × TypeId)} {a w : World} {g : Nat} {A B : Array Value} {t ty : TypeId} {n : Nat}
/-- A part stored. -/
theorem Tab.part (h : Tab T a w) (i : Nat) (hi : T[i]? = some (g, A, t)) (ty : TypeId) (o : Nat) (hf : (Try.prog.info? ty).map (·.size) = some n) (hn : B.size = n) (hfit : o + n ≤ A.size) (h1 : ∀ v ∈ B.toList, v.oneCell' = true) :
    ∃ W, (storeVar ty ⟨g, o, none⟩ (.agg B)).run Try.prog w = .ok () W ∧ Tab (T.set i (g, splice A o B, t)) a W ∧ W.heap.size = w.heap.size ∧ Only (fun k => k = g) w W :=
  ⟨_, storeVar_at (P := Try.prog) w g o t ty A B n (h.get i hi) hf hn hfit h1, h.turn i hi ⟨rfl, rfl, rfl, by simp, fun k hk hs => setRow_other w g k _ hs⟩ (setRow_heap _ _ _ _ _ _ (h.get i hi)), by simp, ⟨rfl, rfl, rfl, by simp, fun k hk hs => setRow_other w g k _ hs⟩⟩
/-- A whole row stored. -/
theorem Tab.whole (h : Tab T a w) (i : Nat) (hi : T[i]? = some (g, A, t)) (ty : TypeId) (hf : (Try.prog.info? ty).map (·.size) = some n) (hn : B.size = n) (hA : A.size = n) (h1 : ∀ v ∈ B.toList, v.oneCell' = true) :
    ∃ W, (storeVar ty ⟨g, 0, none⟩ (.agg B)).run Try.prog w = .ok () W ∧ Tab (T.set i (g, B, t)) a W ∧ W.heap.size = w.heap.size ∧ Only (fun k => k = g) w W := by
  obtain ⟨W, hs, ht, hz⟩ := h.part i hi ty 0 hf hn (by omega) h1
  rw [splice_all (by omega)] at ht
  exact ⟨W, hs, ht, hz⟩
/-- A new row, and its first store. -/
theorem Tab.fresh (h : Tab T a w) (Z : Array Value) (ty : TypeId) (hf : (Try.prog.info? ty).map (·.size) = some n) (hn : B.size = n) (hA : Z.size = n) (h1 : ∀ v ∈ B.toList, v.oneCell' = true) :
    ∃ W, (storeVar ty ⟨w.heap.size, 0, none⟩ (.agg B)).run Try.prog (w.alloc (.cells Z ty)) = .ok () W ∧ Tab ((w.heap.size, B, ty) :: T) a W ∧ W.heap.size = w.heap.size + 1 ∧ Only (fun _ => False) w W := by
  obtain ⟨W, hs, ht, hz, ho⟩ := (h.alloc Z ty).whole 0 rfl ty hf hn hA h1
  have o1 : Only (fun k => k = w.heap.size) w W := (Only.trans ((Only.refl _ w).alloc _) ho)
  exact ⟨W, hs, ht, by rw [hz]; simp, ⟨o1.os, o1.tape, o1.output, o1.size, fun k hk _ => o1.block k hk (by omega)⟩⟩
/-- One cell stored. -/
theorem Tab.cell (h : Tab T a w) (i : Nat) (hi : T[i]? = some (g, A, t)) (o : Nat) (v : Value) : Tab (T.set i (g, A.setIfInBounds o v, t)) a (w.setCell ⟨g, o, none⟩ v) :=
  h.turn i hi (Only.setCell (S := fun k => k = g) (Only.refl _ w) (p := ⟨g, o, none⟩) rfl v) (heap_setCell_same w g o _ t _ (h.get i hi))
/-- One cell stored, by the operation. -/
theorem splice_one (A : Array Value) (o : Nat) (v : Value) (ho : o < A.size) : splice A o #[v] = A.setIfInBounds o v := by
  have hs : #[v].size = 1 := rfl
  apply Array.toList_inj.1
  rw [Array.toList_setIfInBounds, List.set_eq_take_append_cons_drop, if_pos (by simpa using ho)]
  simp [splice]
theorem Tab.one (h : Tab T a w) (i : Nat) (hi : T[i]? = some (g, A, t)) (ty : TypeId) (o : Nat) (v : Value) (hf : (Try.prog.info? ty).map (·.size) = some 1) (h1 : v.oneCell' = true) (ho : o < A.size) :
    ∃ W, (storeVar ty ⟨g, o, none⟩ v).run Try.prog w = .ok () W ∧ Tab (T.set i (g, A.setIfInBounds o v, t)) a W ∧ W.heap.size = w.heap.size ∧ Only (fun k => k = g) w W := by
  obtain ⟨W, hs, ht, hz⟩ := h.part (B := #[v]) i hi ty o hf rfl (by omega) (by intro u hu; simp at hu; subst hu; exact h1)
  rw [splice_one A o v ho] at ht
  refine ⟨W, ?_, ht, hz⟩
  rw [← hs]
  have e : v.cells = #[v] := by cases v <;> first | rfl | cases h1
  simp only [storeVar, e]
  rfl
theorem Tab.c (h : Tab T a w) (i : Nat) (hi : T[i]? = some (g, A, t)) (o : Nat) {v : Value} (hv : A[o]? = some v) : w.cell? ⟨g, o, none⟩ = some v := (cell_of_row w g o _ _ _ (h.get i hi)).trans hv
theorem Tab.f (h : Tab T a w) (i : Nat) (hi : T[i]? = some (g, A, t)) (o : Nat) : w.frozen? ⟨g, o, none⟩ = false := frozen_of_row w g o _ _ (h.get i hi)
/-- A part loaded. -/
theorem Tab.load (h : Tab T a w) (i : Nat) (hi : T[i]? = some (g, A, t)) (ty : TypeId) (d : TypeDesc) (hu : Try.prog.underlying ty = some d) (hd : isAggD d = true) (o : Nat)
    (hf : (Try.prog.info? ty).map (·.size) = some n) (hfit : o + n ≤ A.size) : (loadVar ty ⟨g, o, none⟩).run Try.prog w = .ok (.agg (A.extract o (o + n))) w :=
  loadVar_at (P := Try.prog) w g o t ty A (0, 0) d n (h.get i hi) hu (by cases d <;> first | rfl | (simp [isAggD] at hd)) hf hfit
theorem Tab.loadAll (h : Tab T a w) (i : Nat) (hi : T[i]? = some (g, A, t)) (ty : TypeId) (d : TypeDesc) (hu : Try.prog.underlying ty = some d) (hd : isAggD d = true)
    (hf : (Try.prog.info? ty).map (·.size) = some n) (hA : A.size = n) : (loadVar ty ⟨g, 0, none⟩).run Try.prog w = .ok (.agg A) w := by
  have e : A.extract 0 (0 + n) = A := by rw [Nat.zero_add, ← hA, Array.extract_size]
  rw [h.load i hi ty d hu hd 0 hf (by omega), e]
end

theorem Tab.box1 (w : World) (A : Array Value) (s : TypeId) : Tab [(w.heap.size, A, s)] w (w.alloc (.cells A s)) := (Tab.nil w).alloc A s
theorem Tab.box2 (w : World) (A B : Array Value) (s t : TypeId) : Tab [(w.heap.size + 1, B, t), (w.heap.size, A, s)] w ((w.alloc (.cells A s)).alloc (.cells B t)) := by
  have := (Tab.box1 w A s).alloc B t
  rwa [show (w.alloc (.cells A s)).heap.size = w.heap.size + 1 by simp] at this
theorem Tab.box3 (w : World) (A B C : Array Value) (s t u : TypeId) : Tab [(w.heap.size + 1 + 1, C, u), (w.heap.size + 1, B, t), (w.heap.size, A, s)] w (((w.alloc (.cells A s)).alloc (.cells B t)).alloc (.cells C u)) := by
  have := (Tab.box2 w A B s t).alloc C u
  rwa [show ((w.alloc (.cells A s)).alloc (.cells B t)).heap.size = w.heap.size + 1 + 1 by simp] at this
end Go.Proofs.Ytjnjnkkdpglfhaa
