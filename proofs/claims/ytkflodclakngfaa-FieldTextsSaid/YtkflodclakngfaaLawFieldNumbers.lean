/-
  FieldNumbers: the walk of the law.
-/
import Derived.Test.YtkflodclakngfaaFn
import Derived.OpenShut
set_option linter.unusedVariables false
namespace Go.Proofs.Ytkflodclakngfaa
open Go.RowKit

theorem nmV_258 : nmV 258 2 = .tuple #[.string ⟨#[2, 1]⟩, .int .i64 0] := by
  rw [nmV_ok (by decide)]; rfl
theorem tkV_258 : tkV ⟨#[2, 1, 120]⟩ 2 = .tuple #[.int .u64 258, .string ⟨#[120]⟩, .int .i64 0] := by
  have h := tkV_ok (s := ⟨#[2, 1, 120]⟩) (width := 2) (by decide) (by decide)
  exact h

set_option maxHeartbeats 1000000 in
theorem shown_ok (w : World) : Calls Try.prog 10 #[] w fun e w' => e = .returned (.bool true) ∧ Below w.heap.size w w' := by
  have H1 : ∀ w, Calls Try.prog 11 #[.int .u64 258, .int .i64 2] w fun e w' => e = .returned (.tuple #[.string ⟨#[2, 1]⟩, .int .i64 0]) ∧ Below w.heap.size w w' := fun w =>
    (num_all 258 2 w (by omega)).mono fun e w' ⟨he, hw⟩ => ⟨by rw [he, nmV_258], hw⟩
  have H2 : ∀ w, Calls Try.prog 13 #[.string ⟨#[2, 1, 120]⟩, .int .i64 2] w fun e w' => e = .returned (.tuple #[.int .u64 258, .string ⟨#[120]⟩, .int .i64 0]) ∧ Below w.heap.size w w' := fun w =>
    (take_any ⟨#[2, 1, 120]⟩ 2 w (by decide)).mono fun e w' ⟨he, hw⟩ => ⟨by rw [he, tkV_258], hw⟩
  have K1 := Lib.hid H1
  have K2 := Lib.hid H2
  clear H1 H2
  go_enter Try.func10, Try.ntmps10
  go_wp2_with fail
  refine (K1.out _).mono ?_
  rintro e w1 ⟨rfl, h1⟩
  go_wp2_with fail
  refine (K2.out _).mono ?_
  rintro e w2 ⟨rfl, h2⟩
  go_wp2
  go_ret
  exact ⟨rfl, h1.trans (h2.mono h1.size)⟩

set_option maxHeartbeats 1000000 in
theorem fieldNumbers_nat (n : Nat) (width : Int) (s : ByteArray) (w : World) (hn : n ≤ 18446744073709551615) (hs : s.size ≤ 140737488351232) :
    Calls Try.prog 3 #[.int .u64 n, .int .i64 width, .string s] w fun e w' => e = .returned (.bool true) ∧ Below w.heap.size w w' := by
  by_cases h3 : 3000 < s.size
  · have hd : decide ((3000 : Int) < (s.size : Int)) = true := decide_eq_true (by omega)
    go_enter Try.func3, Try.ntmps3
    go_wp2_with fail
    refine (shown_ok _).mono ?_
    rintro e w1 ⟨rfl, h1⟩
    go_wp2
    go_ret
    exact ⟨rfl, h1⟩
  · go_enter Try.func3, Try.ntmps3
    go_wp2_with fail
    refine (shown_ok _).mono ?_
    rintro e w1 ⟨rfl, h1⟩
    go_wp2_with fail
    refine (num_all n width _ hn).mono ?_
    rintro e w2 ⟨rfl, h2⟩
    unfold nmV
    go_wp2_with fail
    refine (rnum_all n width _ hn).mono ?_
    rintro e w3 ⟨rfl, h3⟩
    unfold nmV
    go_wp2_with fail
    refine (take_any s width _ hs).mono ?_
    rintro e w4 ⟨rfl, h4⟩
    unfold tkV
    go_wp2_with fail
    refine (rtake_any s width _ hs).mono ?_
    rintro e w5 ⟨rfl, h5⟩
    unfold tkV
    go_wp2
    go_ret
    have a2 := h1.trans (h2.mono h1.size)
    have a3 := a2.trans (h3.mono a2.size)
    have a4 := a3.trans (h4.mono a3.size)
    exact ⟨rfl, a4.trans (h5.mono a4.size)⟩

theorem u64_nat {n : Int} (h : (Lit.int .u64 n).wf = true) : ∃ k : Nat, n = k ∧ k ≤ 18446744073709551615 := by
  have := bounds_u64 h
  exact ⟨n.toNat, by omega, by omega⟩

theorem fieldNumbers_walk (n : Int) (hn : (Lit.int .u64 n).wf = true) (width : Int) (hw : (Lit.int .i64 width).wf = true) (s : ByteArray) (hs : s.size ≤ 140737488351232) (w : World) :
    Calls Try.prog 3 #[.int .u64 n, .int .i64 width, .string s] w fun e w' => e = .returned (.bool true) ∧ Below w.heap.size w w' := by
  obtain ⟨k, rfl, hk⟩ := u64_nat hn
  exact fieldNumbers_nat k width s w hk hs
end Go.Proofs.Ytkflodclakngfaa
