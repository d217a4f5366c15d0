/-
  The reference's Empty; children loaded.
-/
import Derived.Test.YtbmckmlekhkpeaaEmp
set_option linter.unusedVariables false
namespace Go.Proofs.Ytbmckmlekhkpeaa
open Go.RowKit

theorem load34c {w : World} {g i : Nat} {n : Nd} (h : n.Ok) (hi : i < 4) {t : TypeId} (hg : w.heap[g]? = some (.cells (ndA n) t (0, 0))) : (loadVar 34 ⟨g, 1 + i * 21, none⟩).run Try.prog w = .ok (.agg (chA (n.get i))) w := by
  have := loadVar_at (P := Try.prog) w g (1 + i * 21) t 34 (ndA n) (0, 0) _ 21 hg Try.underlying34 rfl info34s (by rw [ndA_size h]; omega)
  rw [this, nd_child h hi]
theorem load27c {w : World} {g i : Nat} {n : Nd} (h : n.Ok) (hi : i < 4) {t : TypeId} (hg : w.heap[g]? = some (.cells (ndA n) t (0, 0))) : (loadVar 27 ⟨g, 1 + i * 21, none⟩).run Try.prog w = .ok (.agg (chA (n.get i))) w := by
  have := loadVar_at (P := Try.prog) w g (1 + i * 21) t 27 (ndA n) (0, 0) _ 21 hg Try.underlying27 rfl info27s (by rw [ndA_size h]; omega)
  rw [this, nd_child h hi]

set_option maxHeartbeats 400000 in
theorem rempty_any (n : Nd) (w : World) (h : n.Ok) :
    Calls Try.prog 19 #[.agg (ndA n)] w fun e w' => e = .returned (.bool (emptyN n)) ∧ Below w.heap.size w w' := by
  have hg : (w.alloc (.cells (ndA n) 37)).heap[w.heap.size]? = some (.cells (ndA n) 37 (0, 0)) := heap_alloc_new w _
  have c0 := (cell_of_row _ _ _ _ _ _ hg).trans (nd_has h (i := 0) (by omega))
  have c1 := (cell_of_row _ _ _ _ _ _ hg).trans (nd_has h (i := 1) (by omega))
  have c2 := (cell_of_row _ _ _ _ _ _ hg).trans (nd_has h (i := 2) (by omega))
  have c3 := (cell_of_row _ _ _ _ _ _ hg).trans (nd_has h (i := 3) (by omega))
  have a0 := nd_has h (i := 0) (by omega)
  have a1 := nd_has h (i := 1) (by omega)
  have a2 := nd_has h (i := 2) (by omega)
  have a3 := nd_has h (i := 3) (by omega)
  have he : emptyN n = (!(n.get 0).has && (!(n.get 1).has && (!(n.get 2).has && !(n.get 3).has))) := by
    obtain ⟨a, b, c, d, e⟩ := list4 n.cs h.len
    simp [emptyN, Nd.get, e]
  rw [he]
  clear he hg h
  simp only [Nat.zero_mul, Nat.one_mul, Nat.reduceMul, Nat.reduceAdd] at *
  generalize ndA n = A at *
  generalize (n.get 0).has = b0 at *
  generalize (n.get 1).has = b1 at *
  generalize (n.get 2).has = b2 at *
  generalize (n.get 3).has = b3 at *
  cases b0
  · cases b1
    · cases b2
      · go_enter Try.func19, Try.ntmps19
        go_wp2
        go_ret
        exact ⟨rfl, (Below.refl _ _).alloc (Nat.le_refl _) _⟩
      · go_enter Try.func19, Try.ntmps19
        go_wp2
        go_ret
        exact ⟨rfl, (Below.refl _ _).alloc (Nat.le_refl _) _⟩
    · go_enter Try.func19, Try.ntmps19
      go_wp2
      go_ret
      exact ⟨rfl, (Below.refl _ _).alloc (Nat.le_refl _) _⟩
  · go_enter Try.func19, Try.ntmps19
    go_wp2
    go_ret
    exact ⟨rfl, (Below.refl _ _).alloc (Nat.le_refl _) _⟩

end Go.Proofs.Ytbmckmlekhkpeaa
