/-
  Walks of Number and TakeNumber.
-/
import Derived.Test.YtbmckmlekhkpeaaBase
set_option linter.unusedVariables false
namespace Go.Proofs.Ytbmckmlekhkpeaa
open Go.RowKit

def leBytes (n : Nat) : Nat → List UInt8
  | 0 => []
  | k + 1 => leBytes n k ++ [UInt8.ofNat (n / 256 ^ k % 256)]
theorem leBytes_len (n k : Nat) : (leBytes n k).length = k := by
  induction k with
  | zero => rfl
  | succ k ih => simp [leBytes, ih]

theorem leCells (n k : Nat) : Lib.byteCells (leBytes n (k + 1)) = Lib.byteCells (leBytes n k) ++ [.int .u8 ((n : Int) / 2 ^ (8 * k) % 256)] := by
  have h : (256 : Nat) ^ k = 2 ^ (8 * k) := by rw [Nat.pow_mul]
  simp [Lib.byteCells, leBytes, h]

theorem fresh68 (w : World) : BW w.heap.size [] (w.alloc (.cells #[.pointer none, .slice none 0 0] 68)) := Lib.IsBuilderF.of (Lib.fresh_isBuilder 68 5 w)

theorem len64 (n : Nat) (w : World) (hn : n ≤ 18446744073709551615) :
    Calls Try.prog 43 #[.int .u64 n] w fun e w' => e = .returned (.int .i64 (Lib.bitLen n)) ∧ w = w' := by
  refine (Try.bits_Len64 n w (by omega) (by omega)).mono ?_
  rintro e w' ⟨rfl, h⟩
  exact ⟨by rw [Int.toNat_natCast], h.symm⟩

set_option maxHeartbeats 1000000 in
theorem num_ok (n width : Nat) (w : World) (hn : n ≤ 18446744073709551615) (h1 : 1 ≤ width) (h8 : width ≤ 8) (hb : Lib.bitLen n ≤ 8 * width) :
    Calls Try.prog 32 #[.int .u64 n, .int .i64 width] w fun e w' => e = .returned (.tuple #[.string ⟨(leBytes n width).toArray⟩, .int .i64 0]) ∧ Below w.heap.size w w' := by
  go_enter Try.func32, Try.ntmps32
  go_wp2_with (go_at_call 43; refine (len64 _ _ (by omega)).mono ?_; rintro e w' ⟨rfl, rfl⟩)
  go_loopw [22] (fun i wr => ∃ k : Nat, k ≤ width ∧ i = .int .i64 k ∧ BW w.heap.size (Lib.byteCells (leBytes n k)) wr ∧ Below w.heap.size w wr) (fun i _ => width - (intOf i).toNat)
  case atStart => exact ⟨0, Nat.zero_le _, rfl, fresh68 w, (Below.refl _ _).alloc (Nat.le_refl _) _⟩
  case round =>
    obtain ⟨k, hk, rfl, hB, hbel⟩ := hrel
    by_cases hlt : k < width
    · go_wp2_with (go_at_call 30; refine (writeByte _ _ _ _ hB (by rw [Lib.byteCells_length, leBytes_len]; omega)).mono ?_; rintro e w1 ⟨rfl, h1, h2, h3⟩)
      go_roundw
      case rel => exact ⟨k + 1, by omega, by go_num, by rw [leCells]; exact h1, hbel.trans h2⟩
      case measure => simp [intOf]; omega
    · obtain rfl : k = width := by omega
      go_wp2_with (go_at_call 34; refine (toStr _ _ _ hB).mono ?_; rintro e w1 ⟨rfl, h2⟩)
      go_ret2
      exact ⟨rfl, hbel.trans h2⟩

theorem num_bad (n : Nat) (width : Int) (w : World) (hn : n ≤ 18446744073709551615) (h : width < 1 ∨ 8 < width ∨ 8 * width < (Lib.bitLen n : Int)) :
    Calls Try.prog 32 #[.int .u64 n, .int .i64 width] w fun e w' => e = .returned (.tuple #[.string ⟨#[]⟩, .int .i64 1]) ∧ w = w' := by
  by_cases h1 : width < 1
  · go_enter Try.func32, Try.ntmps32
    go_wp2_with (go_at_call 43; refine (len64 _ _ (by omega)).mono ?_; rintro e w' ⟨rfl, rfl⟩)
    go_ret2
    exact ⟨rfl, rfl⟩
  · by_cases h2 : 8 < width
    · go_enter Try.func32, Try.ntmps32
      go_wp2_with (go_at_call 43; refine (len64 _ _ (by omega)).mono ?_; rintro e w' ⟨rfl, rfl⟩)
      go_ret2
      exact ⟨rfl, rfl⟩
    · have h3 : 8 * width < (Lib.bitLen n : Int) := by omega
      go_enter Try.func32, Try.ntmps32
      go_wp2_with (go_at_call 43; refine (len64 _ _ (by omega)).mono ?_; rintro e w' ⟨rfl, rfl⟩)
      go_ret2
      exact ⟨rfl, rfl⟩
end Go.Proofs.Ytbmckmlekhkpeaa
