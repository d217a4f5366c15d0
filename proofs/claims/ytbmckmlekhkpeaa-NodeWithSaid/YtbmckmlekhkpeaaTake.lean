/-
  Walks of TakeNumber.
-/
import Derived.Test.YtbmckmlekhkpeaaNum
import Derived.Deep.QuietTactic
import Derived.BigQuiet
set_option linter.unusedVariables false
namespace Go.Proofs.Ytbmckmlekhkpeaa
open Go.RowKit

def leNum : List UInt8 → Nat
  | [] => 0
  | c :: l => c.toNat + 256 * leNum l

theorem conv_bytes (s : ByteArray) (w : World) : ∃ c w', (convert 9 66 (.string s)).run Try.prog w = .ok (.slice (some ⟨w.heap.size, 0, none⟩) s.size c) w' ∧ Below w.heap.size w w' ∧
    Hid (∀ j, j < s.size → w'.cell? ⟨w.heap.size, j, none⟩ = some (.int .u8 (s.data.toList.getD j 0).toNat)) := by
  refine ⟨_, _, Lib.run_convert_string_bytes w 9 66 5 s Try.underlying9 Try.underlying66 Try.underlying5, ?_, fun j hj => Lib.bytesWorld_cell w 5 s j hj⟩
  exact ⟨rfl, rfl, rfl, by rw [Lib.bytesWorld_size]; omega, fun k hk => Lib.bytesWorld_at_old w 5 s k hk⟩

theorem leNum_take (l : List UInt8) : ∀ k, k < l.length → leNum (l.take (k + 1)) = leNum (l.take k) + (l.getD k 0).toNat * 2 ^ (8 * k) := by
  induction l with
  | nil => intro k h; simp at h
  | cons c l ih =>
    intro k h
    cases k with
    | zero => simp [leNum]
    | succ k =>
      have := ih k (by simpa using h)
      simp only [List.take_succ_cons, leNum, this, List.getD_cons_succ]
      rw [Nat.mul_add, Nat.mul_succ 8 k, Nat.pow_add]
      have e : (2 : Nat) ^ 8 = 256 := rfl
      rw [e]
      generalize 2 ^ (8 * k) = x
      generalize (l.getD k 0).toNat = y
      have : 256 * (y * x) = y * (x * 256) := by rw [Nat.mul_comm x 256, Nat.mul_left_comm]
      omega

theorem leNum_lt (l : List UInt8) : leNum l < 2 ^ (8 * l.length) := by
  induction l with
  | nil => simp [leNum]
  | cons c l ih =>
    simp only [leNum, List.length_cons]
    rw [Nat.mul_succ, Nat.pow_add]
    have := c.toNat_lt
    have e : (2 : Nat) ^ 8 = 256 := rfl
    rw [e]
    omega

theorem bdrewN {B : Nat} {a w : World} (h : Below B a w) (n : Nat) : Below B a (w.drewN n) := ⟨h.os, h.tape, h.output, h.size, h.block⟩

theorem leNum_lt_take (l : List UInt8) (k m : Nat) : leNum (l.take k) < 2 ^ (8 * k) :=
  Nat.lt_of_lt_of_le (leNum_lt _) (Nat.pow_le_pow_right (by omega) (by have := List.length_take_le k l; omega))

theorem or_step (a c k : Nat) (hk : k < 8) (ha : a < 2 ^ (8 * k)) (hc : c < 256) :
    bits .or .u64 (a : Int) (IntKind.u64.wrap (IntKind.u64.wrap (c : Int) * 2 ^ (8 * k))) = ((a + c * 2 ^ (8 * k) : Nat) : Int) := by
  have h64 : (2 : Nat) ^ 64 = 18446744073709551616 := rfl
  have hp : 2 ^ (8 * k) * 256 ≤ 2 ^ 64 := by
    rw [show (256 : Nat) = 2 ^ 8 from rfl, ← Nat.pow_add]
    exact Nat.pow_le_pow_right (by omega) (by omega)
  have hm : c * 2 ^ (8 * k) < 18446744073709551616 := by
    have : c * 2 ^ (8 * k) ≤ 255 * 2 ^ (8 * k) := Nat.mul_le_mul_right _ (by omega)
    have := Nat.two_pow_pos (8 * k)
    omega
  have e1 : IntKind.u64.wrap (c : Int) = (c : Int) := by rw [IntKind.wrap_u64]; omega
  have e2 : IntKind.u64.wrap ((c : Int) * 2 ^ (8 * k)) = ((c * 2 ^ (8 * k) : Nat) : Int) := by
    rw [IntKind.wrap_u64, show ((c : Int) * 2 ^ (8 * k)) = ((c * 2 ^ (8 * k) : Nat) : Int) by push_cast; rfl]
    omega
  rw [e1, e2, u64_or_nat a _ (by omega) hm]
  congr 1
  rw [Nat.mul_comm c, Nat.or_comm, ← Nat.two_pow_add_eq_or_of_lt ha c, Nat.add_comm]

set_option maxHeartbeats 1000000 in
theorem take_ok (s : ByteArray) (width : Nat) (w : World) (hs : s.size ≤ 140737488351232) (h1 : 1 ≤ width) (h8 : width ≤ 8) (hb : width ≤ s.size) :
    Calls Try.prog 44 #[.string s, .int .i64 width] w fun e w' => e = .returned (.tuple #[.int .u64 (leNum (s.data.toList.take width)), .string (s.extract width s.size), .int .i64 0]) ∧ Below w.heap.size w w' := by
  obtain ⟨c, w1, hconv, hb1, hcell⟩ := conv_bytes (s.extract 0 width) w
  have hsz : (s.extract 0 width).size = width := by simp; omega
  rw [hsz] at hconv hcell
  have HS := Lib.hid hsz
  clear hsz
  go_enter Try.func44, Try.ntmps44
  go_wp2_with fail
  go_loopw [7, 27] (fun n i wr => ∃ k : Nat, k ≤ width ∧ i = .int .i64 k ∧ n = .int .u64 (leNum (s.data.toList.take k)) ∧ w1 = wr) (fun _ i _ => width - (intOf i).toNat)
  case atStart => exact ⟨0, Nat.zero_le _, rfl, rfl, rfl⟩
  case round =>
    obtain ⟨k, hk, rfl, rfl, rfl⟩ := hrel
    by_cases hlt : k < width
    · have hc := hcell.out k hlt
      go_wp2_with fail
      have hds : k < s.data.size := by show k < s.size; omega
      go_roundw
      case rel => exact ⟨k + 1, by omega, by go_num, by rw [or_step _ _ _ (by omega) (leNum_lt_take s.data.toList k 8) (UInt8.toNat_lt _), leNum_take s.data.toList k (by simpa using hds)]; simp; rw [Array.getElem?_eq_getElem hds]; rfl, trivial⟩
      case measure => simp [intOf]; omega
    · obtain rfl : k = width := by omega
      go_wp2_with fail
      go_quiet (fail)
      go_wp2_with fail
      go_ret3
      exact ⟨rfl, bdrewN hb1 _⟩
end Go.Proofs.Ytbmckmlekhkpeaa
