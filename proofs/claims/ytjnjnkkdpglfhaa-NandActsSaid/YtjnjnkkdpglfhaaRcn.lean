/-
  The reference's Program: the texts' slices, in whatever order.
-/
import Derived.Test.YtjnjnkkdpglfhaaRbf
set_option linter.unusedVariables false
namespace Go.Proofs.Ytjnjnkkdpglfhaa
open Go.RowKit

section
variable {P : Program} {ops : Array Oper} {S : World → Prop} {md : Region.Mode} {Q : Exit → Act → World → Prop}
theorem exec_app {o : Oper} {a : Act} {w w' : World} (s x : Operand) (t : TypeId) (ho : o.op = .call { callee := .builtin .append, args := #[s, x], argTypes := #[t, t] }) (v u v' : Value) (hs : a.eval s = v) (hx : a.eval x = u)
    (hrun : ∀ ty, (Builtin.append_ #[t, t] ty #[v, u]).run P w = .ok v' w') : (execOp a.eval o).run P w = .ok (.value v') w' := by
  unfold execOp
  simp only [ho, resolve, invoke, builtin, Sem.run_bind, Sem.run_pure, Result.andThen_ok, List.map_toArray, List.map_cons, List.map_nil, hs, hx, hrun]
theorem held_three {j k l : Nat} {fuel : Nat} {listed : Array Bool} {a : Act} {w : World} (hr : Region.ready md ops listed = [j, k, l])
    (h1 : wpOp P ops Q j (fun a' w' => S w' ∧ wpAnyH P md ops Q S fuel (listed.setIfInBounds j true) a' w') a w)
    (h2 : wpOp P ops Q k (fun a' w' => S w' ∧ wpAnyH P md ops Q S fuel (listed.setIfInBounds k true) a' w') a w)
    (h3 : wpOp P ops Q l (fun a' w' => S w' ∧ wpAnyH P md ops Q S fuel (listed.setIfInBounds l true) a' w') a w) : wpAnyH P md ops Q S (fuel + 1) listed a w := by
  refine wpAnyH_all hr (by simp) fun i hi => ?_
  have : i = j ∨ i = k ∨ i = l := by simpa using hi
  rcases this with rfl | rfl | rfl
  · exact h1
  · exact h2
  · exact h3
end
/-- Between: what is new since D. -/
structure Cn (D : World) (ov : Option (Value × List ByteArray)) (og : Option (Nat × ByteArray)) (W : World) : Prop where
  on : Only (fun _ => False) D W
  own : ∀ v xs, ov = some (v, xs) → OS W D.heap.size v xs ∧ ∀ k, v.ownBlock = some k → k < W.heap.size
  row : ∀ g t, og = some (g, t) → W.heap[g]? = some (.cells #[.string t] 9 (0, 0))
  ne : ∀ v xs g t, ov = some (v, xs) → og = some (g, t) → v.ownBlock ≠ some g
section
variable {D W : World} {v pv : Value} {past : List ByteArray} {t : ByteArray} {g : Nat} {ov : Option (Value × List ByteArray)} {og : Option (Nat × ByteArray)}
theorem Cn.zero (D : World) : Cn D none none D := by
  refine ⟨Only.refl _ _, ?_, ?_, ?_⟩
  · intro v xs h; cases h
  · intro g t h; cases h
  · intro v xs g t h; cases h
theorem Cn.glt (h : Cn D ov (some (g, t)) W) : g < W.heap.size := (Array.getElem?_eq_some_iff.1 (h.row g t rfl)).1
theorem cn_0 (h : Cn D none og W) : ∃ v W', (Instr.buildSlice 43 0 #[]).run Try.prog W = .ok v W' ∧ Cn D (some (v, [])) og W' := by
  have o1 : Only (fun _ => False) W (W.alloc (.cells #[] 9)) := (Only.refl _ W).alloc _
  refine ⟨_, _, sbuild_0 W, h.on.trans o1, fun v xs e => ?_, fun g t e => keepRow o1 (h.row g t e) (fun x => x), fun v xs g t e e2 => ?_⟩
  · cases e
    exact ⟨OS.new W h.on.size, fun k hk => by cases hk; simp⟩
  · cases e
    have := (Array.getElem?_eq_some_iff.1 (h.row g t e2)).1
    intro e3
    have e4 : W.heap.size = g := by simpa [Value.ownBlock] using e3
    omega
theorem cn_6 (h : Cn D ov none W) (t : ByteArray) : ∃ g W', (Instr.buildSlice 43 1 #[(0, .string t)]).run Try.prog W = .ok (.slice (some ⟨g, 0, none⟩) 1 1) W' ∧ Cn D ov (some (g, t)) W' := by
  have o1 : Only (fun _ => False) W (W.alloc (.cells #[.string t] 9)) := (Only.refl _ W).alloc _
  refine ⟨_, _, build_s t W, h.on.trans o1, fun v xs e => ?_, fun g t2 e => ?_, fun v xs g t2 e e2 => ?_⟩
  · obtain ⟨k1, k2⟩ := h.own v xs e
    exact ⟨k1.keep o1 (fun k hk x => x), fun k hk => Nat.lt_of_lt_of_le (k2 k hk) o1.size⟩
  · cases e
    exact heap_alloc_new _ _
  · cases e2
    intro e3
    have := (h.own v xs e).2 _ e3
    omega
theorem cn_3 (h : Cn D (some (v, [])) og W) (hs : SL D pv past) (hn : past.length ≤ 100000) : ∃ v' W', (∀ ty, (Builtin.append_ #[43, 43] ty #[v, pv]).run Try.prog W = .ok v' W') ∧ Cn D (some (v', past)) og W' := by
  obtain ⟨k1, k2⟩ := h.own v [] rfl
  obtain ⟨v', W', hr, ho, o1, hat⟩ := app_strs k1 (hs.keep h.on) h.on.size (by simp; omega)
  have on2 := fresh_only h.on o1 (fun k hk => k1.base_le hk)
  refine ⟨v', W', hr, on2, fun v2 xs e => ?_, fun g t e => keepRow o1 (h.row g t e) (h.ne v [] g t rfl e), fun v2 xs g t e e2 => ?_⟩
  · cases e
    refine ⟨ho, fun k hk => ?_⟩
    obtain ⟨_, ⟨rfl, _⟩ | ⟨g2, _, _, rfl, _, hg2, _⟩⟩ := ho
    · cases hk
    · cases hk
      exact (Array.getElem?_eq_some_iff.1 hg2).1
  · cases e
    intro e3
    rcases hat with hat | hat
    · exact h.ne v [] g t rfl e2 (hat ▸ e3)
    · rw [hat] at e3
      cases e3
      have := (Array.getElem?_eq_some_iff.1 (h.row _ t e2)).1
      omega
theorem cn_7 (h : Cn D (some (v, past)) (some (g, t)) W) (hn : past.length ≤ 100000) : ∃ v' W', (∀ ty, (Builtin.append_ #[43, 43] ty #[v, .slice (some ⟨g, 0, none⟩) 1 1]).run Try.prog W = .ok v' W') ∧ OS W' D.heap.size v' (past ++ [t]) ∧ Only (fun _ => False) D W' := by
  obtain ⟨k1, k2⟩ := h.own v past rfl
  obtain ⟨v', W', hr, ho, o1, hat⟩ := app_strs k1 (SL.one (h.row g t rfl)) h.on.size (by simp; omega)
  exact ⟨v', W', hr, ho, fresh_only h.on o1 (fun k hk => k1.base_le hk)⟩
end
end Go.Proofs.Ytjnjnkkdpglfhaa
