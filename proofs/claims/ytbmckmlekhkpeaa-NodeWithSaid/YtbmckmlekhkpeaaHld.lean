/-
  Drawn regions: a slice built, bytes turned into a text, where nothing else may come up.
-/
import Derived.Test.YtbmckmlekhkpeaaBui
set_option linter.unusedVariables false
namespace Go.Proofs.Ytbmckmlekhkpeaa
open Go.RowKit

section
variable {P : Program} {ops : Array Oper} {S : World → Prop} {md : Region.Mode} {Q : Exit → Act → World → Prop}
theorem held_bs {j : Nat} {oj : Oper} {t : Tmp} {fuel : Nat} {listed : Array Bool} {a : Act} {w w' : World} (hr : Region.ready md ops listed = [j]) (hj : ops[j]? = some oj)
    (hgd : oj.guard = none) (hd : oj.dst = some t) (ty : TypeId) (len : Nat) (ps : Array (Nat × Operand)) (ho : oj.op = .buildSlice ty len ps) (qs : List (Nat × Value)) (hx : (ps.toList.map fun (i, x) => (i, a.eval x)) = qs) (v : Value)
    (hrun : (Instr.buildSlice ty len qs.toArray).run P w = .ok v w') (hS : S w') (h : wpAnyH P md ops Q S fuel (listed.setIfInBounds j true) ⟨a.tmps.setIfInBounds t v, a.defers⟩ w') : wpAnyH P md ops Q S (fuel + 1) listed a w := by
  refine wpAnyH_all hr (by simp) fun i hi => ?_
  obtain rfl : i = j := by simpa using hi
  unfold Go.wpOp
  simp only [hj]
  have hw : Region.wanted oj (yielded ops a.tmps) = true := by simp [Region.wanted, hgd]
  rw [if_pos hw]
  have e : (ps.map fun (i, x) => (i, a.eval x)) = qs.toArray := by rw [← hx]; apply Array.toList_inj.1; simp
  refine .inl ?_
  unfold Oper.wp execOp
  simp only [ho, e, Sem.run_bind, Sem.run_pure, Result.andThen_ok, hrun]
  exact ⟨hS, by rw [hd, put_some]; exact h⟩
theorem held_conv {j : Nat} {oj : Oper} {t : Tmp} {fuel : Nat} {listed : Array Bool} {a : Act} {w : World} (hr : Region.ready md ops listed = [j]) (hj : ops[j]? = some oj)
    (hgd : oj.guard = none) (hd : oj.dst = some t) (sT dT : TypeId) (x : Operand) (ho : oj.op = .convert sT dT x) (u : Value) (hx : a.eval x = u) (v : Value)
    (hrun : (convert sT dT u).run P w = .ok v w) (hS : S w) (h : wpAnyH P md ops Q S fuel (listed.setIfInBounds j true) ⟨a.tmps.setIfInBounds t v, a.defers⟩ w) : wpAnyH P md ops Q S (fuel + 1) listed a w := by
  refine wpAnyH_all hr (by simp) fun i hi => ?_
  obtain rfl : i = j := by simpa using hi
  unfold Go.wpOp
  simp only [hj]
  have hw : Region.wanted oj (yielded ops a.tmps) = true := by simp [Region.wanted, hgd]
  rw [if_pos hw]
  refine .inl ?_
  unfold Oper.wp execOp
  simp only [ho, hx, Sem.run_bind, Sem.run_pure, Result.andThen_ok, hrun]
  exact ⟨hS, by rw [hd, put_some]; exact h⟩
theorem yields_conv {o : Oper} {a : Act} (hgd : o.guard = none) (sT dT : TypeId) (x : Operand) (ho : o.op = .convert sT dT x) (u : Value) (hx : a.eval x = u) (v : Value)
    (hrun : ∀ w, S w → (convert sT dT u).run P w = .ok v w) : YieldsIf P ops S o v a := by
  refine .inl ⟨by simp [Region.wanted, hgd], fun w hS => ?_⟩
  unfold execOp
  simp only [ho, hx, Sem.run_bind, Sem.run_pure, Result.andThen_ok, hrun w hS]
end

theorem bytes_conv {w : World} {g o n cap : Nat} {l : List UInt8} (hn : l.length = n) (hc : ∀ i (hi : i < l.length), w.cell? ⟨g, o + i, none⟩ = some (.int .u8 l[i].toNat)) :
    (convert 66 9 (.slice (some ⟨g, o, none⟩) n cap)).run Try.prog w = .ok (.string ⟨l.toArray⟩) w := by
  have hcast : strOfNums (l.map fun c : UInt8 => (c.toNat : Int)) = ⟨l.toArray⟩ := by
    have e : ((fun n : Int => UInt8.ofNat n.toNat) ∘ fun c : UInt8 => (c.toNat : Int)) = id := by funext c; simp
    simp [strOfNums, e]
  rw [← hcast]
  refine run_convert_bytes_arg w 66 5 Try.underlying66 Try.underlying5 g o n cap _ (by simpa using hn) (fun i hi => ?_) 9 Try.underlying9
  have hil : i < l.length := by omega
  have := hc i hil
  simpa [hil] using this
end Go.Proofs.Ytbmckmlekhkpeaa
