/-
  The reference's byteOf.
-/
import Derived.Test.YtbmckmlekhkpeaaChi
set_option linter.unusedVariables false
namespace Go.Proofs.Ytbmckmlekhkpeaa
open Go.RowKit

theorem leNum1 (s : ByteArray) (h : 0 < s.size) : leNum (s.data.toList.take 1) = s[0].toNat := by
  have hl : 0 < s.data.toList.length := by simpa using h
  cases hq : s.data.toList with
  | nil => rw [hq] at hl; simp at hl
  | cons b l =>
    have : s[0] = b := by
      have e : s.data.toList[0]? = some b := by rw [hq]; rfl
      have e2 : s.data.toList[0]? = some (s[0]) := by
        rw [List.getElem?_eq_getElem hl]
        simp [ByteArray.getElem_eq_getElem_data]
      rw [e2] at e
      exact Option.some.inj e
    simp [leNum, this]
theorem rdB_at (m : Nat) (s : ByteArray) (h : 0 < s.size) : rdB m s = if m ≤ s[0].toNat then .error 1 else .ok (s[0].toNat, s.extract 1 s.size) := by
  have e0 : tkE s 1 = 0 := tkE_ok (by omega) (by omega)
  have e1 : tkN s 1 = s[0].toNat := by rw [tkN, if_pos e0]; exact leNum1 s h
  have e2 : tkR s 1 = s.extract 1 s.size := by rw [tkR, if_pos e0]; rfl
  unfold rdB
  rw [e0, e1, e2, if_neg (by simp)]
theorem rdB_none (m : Nat) (s : ByteArray) (h : s.size = 0) : rdB m s = .error 10 := by
  have e0 : tkE s 1 = 10 := tkE_short (by omega) (by omega)
  unfold rdB
  rw [e0]
  rfl
theorem rdB_err {m : Nat} {s : ByteArray} {x : Int} (h : rdB m s = .error x) : x ≠ 0 := by
  unfold rdB at h
  split at h
  · rename_i h0
    injection h with h
    subst h
    exact h0
  · split at h
    · injection h with h
      subst h
      decide
    · cases h
theorem rdK_err {s : ByteArray} {x : Int} (h : rdK s = .error x) : x ≠ 0 := by
  unfold rdK at h
  split at h
  · rename_i h0
    injection h with h
    subst h
    exact h0
  · cases h
theorem rdN_err {s : ByteArray} {x : Int} (h : rdN s = .error x) : x ≠ 0 := by
  unfold rdN at h
  split at h
  · rename_i h0
    injection h with h
    subst h
    exact h0
  · cases h
def boV (m : Nat) (s : ByteArray) : Value := match rdB m s with
  | .ok (n, s') => .tuple #[.int .i64 n, .string s', .int .i64 0]
  | .error x => .tuple #[.int .i64 0, .string ⟨#[]⟩, .int .i64 x]

set_option maxHeartbeats 1000000 in
theorem byteOf_any (m : Nat) (s : ByteArray) (w : World) (hs : s.size ≤ 140737488351232) (hm : m ≤ 255) :
    Calls Try.prog 27 #[.string s, .int .i64 m] w fun e w' => e = .returned (boV m s) ∧ Below w.heap.size w w' := by
  by_cases h0 : s.size = 0
  · have e : boV m s = .tuple #[.int .i64 0, .string ⟨#[]⟩, .int .i64 10] := by rw [boV, rdB_none m s h0]
    rw [e]
    clear e
    go_enter Try.func27, Try.ntmps27
    go_wp2
    go_ret3
    exact ⟨rfl, Below.refl _ _⟩
  · have hp : 0 < s.size := by omega
    have hd : ((s.size : Int) == 0) = false := by rw [beq_eq_false_iff_ne]; omega
    have hlt := UInt8.toNat_lt s[0]
    have hw : wrap64 (s[0].toNat : Int) = (s[0].toNat : Int) := by unfold wrap64; omega
    have hw2 : IntKind.i64.wrap (s[0].toNat : Int) = (s[0].toNat : Int) := by rw [IntKind.wrap_i64]; omega
    by_cases h1 : m ≤ s[0].toNat
    · have e : boV m s = .tuple #[.int .i64 0, .string ⟨#[]⟩, .int .i64 1] := by rw [boV, rdB_at m s hp, if_pos h1]
      rw [e]
      clear e h0
      have hb1 : decide (m ≤ s[0].toNat) = true := decide_eq_true h1
      go_enter Try.func27, Try.ntmps27
      go_wp2
      go_ret3
      exact ⟨rfl, Below.refl _ _⟩
    · have e : boV m s = .tuple #[.int .i64 (s[0].toNat : Nat), .string (s.extract 1 s.size), .int .i64 0] := by rw [boV, rdB_at m s hp, if_neg h1]
      rw [e]
      clear e h0
      have h1' : s[0].toNat < m := by omega
      have hp1 : (1 : Int) ≤ (s.size : Int) := by omega
      have hb1 : decide (m ≤ s[0].toNat) = false := decide_eq_false h1
      clear h1
      go_enter Try.func27, Try.ntmps27
      go_wp2_with fail
      go_quiet (fail)
      go_wp2_with fail
      go_ret3
      exact ⟨rfl, bdrewN (Below.refl _ _) _⟩
end Go.Proofs.Ytbmckmlekhkpeaa
