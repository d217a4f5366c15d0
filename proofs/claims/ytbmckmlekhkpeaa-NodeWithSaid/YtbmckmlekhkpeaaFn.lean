/-
  Number and TakeNumber, the program's and the reference's: the same answers, told by plain functions.
-/
import Derived.Test.YtbmckmlekhkpeaaRef
set_option linter.unusedVariables false
namespace Go.Proofs.Ytbmckmlekhkpeaa
open Go.RowKit

def nmOk (n : Nat) (width : Int) : Prop := 1 ≤ width ∧ width ≤ 8 ∧ n / 256 ^ width.toNat = 0
instance (n : Nat) (width : Int) : Decidable (nmOk n width) := by unfold nmOk; exact inferInstance
def nmS (n : Nat) (width : Int) : ByteArray := if nmOk n width then ⟨(leBytes n width.toNat).toArray⟩ else ⟨#[]⟩
def nmE (n : Nat) (width : Int) : Int := if nmOk n width then 0 else 1
def tkE (s : ByteArray) (width : Int) : Int := if width < 1 ∨ 8 < width then 1 else if (s.size : Int) < width then 10 else 0
def tkN (s : ByteArray) (width : Int) : Nat := if tkE s width = 0 then leNum (s.data.toList.take width.toNat) else 0
def tkR (s : ByteArray) (width : Int) : ByteArray := if tkE s width = 0 then s.extract width.toNat s.size else ⟨#[]⟩

theorem take_bad (s : ByteArray) (width : Int) (w : World) (hs : s.size ≤ 140737488351232) (h : width < 1 ∨ 8 < width) :
    Calls Try.prog 44 #[.string s, .int .i64 width] w fun e w' => e = .returned (.tuple #[.int .u64 0, .string ⟨#[]⟩, .int .i64 1]) ∧ w = w' := by
  by_cases h1 : width < 1
  · go_enter Try.func44, Try.ntmps44
    go_wp2
    go_ret3
    exact ⟨rfl, rfl⟩
  · have h2 : 8 < width := by omega
    go_enter Try.func44, Try.ntmps44
    go_wp2
    go_ret3
    exact ⟨rfl, rfl⟩

theorem take_short (s : ByteArray) (width : Int) (w : World) (hs : s.size ≤ 140737488351232) (h1 : 1 ≤ width) (h8 : width ≤ 8) (h : (s.size : Int) < width) :
    Calls Try.prog 44 #[.string s, .int .i64 width] w fun e w' => e = .returned (.tuple #[.int .u64 0, .string ⟨#[]⟩, .int .i64 10]) ∧ w = w' := by
  go_enter Try.func44, Try.ntmps44
  go_wp2
  go_ret3
  exact ⟨rfl, rfl⟩

theorem rtake_bad (s : ByteArray) (width : Int) (w : World) (hs : s.size ≤ 140737488351232) (h : width < 1 ∨ 8 < width) :
    Calls Try.prog 41 #[.string s, .int .i64 width] w fun e w' => e = .returned (.tuple #[.int .u64 0, .string ⟨#[]⟩, .int .i64 1]) ∧ w = w' := by
  by_cases h1 : width < 1
  · go_enter Try.func41, Try.ntmps41
    go_wp2
    go_ret3
    exact ⟨rfl, rfl⟩
  · have h2 : 8 < width := by omega
    go_enter Try.func41, Try.ntmps41
    go_wp2
    go_ret3
    exact ⟨rfl, rfl⟩

theorem rtake_short (s : ByteArray) (width : Int) (w : World) (hs : s.size ≤ 140737488351232) (h1 : 1 ≤ width) (h8 : width ≤ 8) (h : (s.size : Int) < width) :
    Calls Try.prog 41 #[.string s, .int .i64 width] w fun e w' => e = .returned (.tuple #[.int .u64 0, .string ⟨#[]⟩, .int .i64 10]) ∧ w = w' := by
  go_enter Try.func41, Try.ntmps41
  go_wp2
  go_ret3
  exact ⟨rfl, rfl⟩

theorem leNum_drop (l : List UInt8) (k : Nat) (h : k < l.length) : leNum (l.drop k) = l[k].toNat + 256 * leNum (l.drop (k + 1)) := by
  rw [List.drop_eq_getElem_cons h]; rfl

theorem leNum_small (l : List UInt8) (k : Nat) (h : l.length ≤ k) (hk : k ≤ 7) : leNum l < 72057594037927936 := by
  have := leNum_lt l
  have h2 : 2 ^ (8 * l.length) ≤ 2 ^ 56 := Nat.pow_le_pow_right (by omega) (by omega)
  have h3 : (2 : Nat) ^ 56 = 72057594037927936 := rfl
  omega

set_option maxHeartbeats 1000000 in
theorem rtake_ok (s : ByteArray) (width : Nat) (w : World) (hs : s.size ≤ 140737488351232) (h1 : 1 ≤ width) (h8 : width ≤ 8) (hb : width ≤ s.size) :
    Calls Try.prog 41 #[.string s, .int .i64 width] w fun e w' => e = .returned (.tuple #[.int .u64 (leNum (s.data.toList.take width)), .string (s.extract width s.size), .int .i64 0]) ∧ Below w.heap.size w w' := by
  have hd : decide (s.size < width) = false := decide_eq_false (by omega)
  go_enter Try.func41, Try.ntmps41
  go_wp2_with fail
  go_loopw [7, 8] (fun n i wr => ∃ k q : Nat, k ≤ width ∧ i = .int .i64 ((k : Int) - 1) ∧ n = .int .u64 q ∧ Hid (q = leNum ((s.data.toList.take width).drop k)) ∧ w = wr) (fun _ i _ => (intOf i + 1).toNat)
  case atStart => exact ⟨width, 0, Nat.le_refl _, rfl, rfl, by unfold Hid; rw [List.drop_of_length_le (by simp; omega)]; simp [leNum], rfl⟩
  case round =>
    obtain ⟨k, q, hk, rfl, rfl, hq, rfl⟩ := hrel
    have hlen : (s.data.toList.take width).length = width := by
      have : s.data.toList.length = s.size := by simp
      simp [this, hb]
    have HL := Lib.hid hlen
    clear hlen
    by_cases hlt : 0 < k
    · obtain ⟨j, rfl⟩ : ∃ j, k = j + 1 := ⟨k - 1, by omega⟩
      have hds : j < s.data.size := by show j < s.size; omega
      have hj0 : (0 : Int) ≤ (j : Int) + 1 - 1 := by omega
      have hq7 : q < 72057594037927936 := by rw [hq.out]; exact leNum_small _ 7 (by rw [List.length_drop, HL.out]; omega) (by omega)
      have e : ((j + 1 : Nat) : Int) - 1 = (j : Int) := by omega
      rw [e]
      clear e
      go_wp2_with fail
      go_roundw
      case rel =>
        have hjl : j < ((s.data.toList.take width)).length := by rw [HL.out]; omega
        have e1 : ((s.data.toList.take width))[j] = s[j] := by simp [ByteArray.getElem_eq_getElem_data]
        have hc := UInt8.toNat_lt s[j]
        refine ⟨j, leNum ((s.data.toList.take width).drop j), by omega, rfl, ?_, rfl, trivial⟩
        rw [leNum_drop _ j hjl, e1, ← hq.out]
        simp only [IntKind.wrap_u64]
        congr 1
        try omega
      case measure => simp [intOf]
    · obtain rfl : k = 0 := by omega
      go_wp2_with fail
      go_quiet (fail)
      go_wp2_with fail
      go_ret3
      exact ⟨by rw [hq.out]; rfl, bdrewN (Below.refl _ _) _⟩

theorem tkE_bad {s : ByteArray} {width : Int} (h : width < 1 ∨ 8 < width) : tkE s width = 1 := if_pos h
theorem tkE_short {s : ByteArray} {width : Int} (h : ¬ (width < 1 ∨ 8 < width)) (h2 : (s.size : Int) < width) : tkE s width = 10 := by rw [tkE, if_neg h, if_pos h2]
theorem tkE_ok {s : ByteArray} {width : Int} (h : ¬ (width < 1 ∨ 8 < width)) (h2 : ¬ (s.size : Int) < width) : tkE s width = 0 := by rw [tkE, if_neg h, if_neg h2]

/-- The answer of TakeNumber. -/
def tkV (s : ByteArray) (width : Int) : Value := .tuple #[.int .u64 (tkN s width), .string (tkR s width), .int .i64 (tkE s width)]

theorem tkV_bad {s : ByteArray} {width : Int} (h : width < 1 ∨ 8 < width) : tkV s width = .tuple #[.int .u64 0, .string ⟨#[]⟩, .int .i64 1] := by
  have e := tkE_bad (s := s) h
  rw [tkV, tkN, tkR, e]; rfl
theorem tkV_short {s : ByteArray} {width : Int} (h : ¬ (width < 1 ∨ 8 < width)) (h2 : (s.size : Int) < width) : tkV s width = .tuple #[.int .u64 0, .string ⟨#[]⟩, .int .i64 10] := by
  have e := tkE_short (s := s) h h2
  rw [tkV, tkN, tkR, e]; rfl
theorem tkV_ok {s : ByteArray} {width : Nat} (h : ¬ ((width : Int) < 1 ∨ 8 < (width : Int))) (h2 : ¬ (s.size : Int) < (width : Int)) :
    tkV s width = .tuple #[.int .u64 (leNum (s.data.toList.take width)), .string (s.extract width s.size), .int .i64 0] := by
  have e := tkE_ok (s := s) h h2
  rw [tkV, tkN, tkR, e, Int.toNat_natCast]; rfl

theorem belowOfEq {B : Nat} {w w' : World} (h : w = w') : Below B w w' := by subst h; exact Below.refl _ _

theorem take_any (s : ByteArray) (width : Int) (w : World) (hs : s.size ≤ 140737488351232) :
    Calls Try.prog 44 #[.string s, .int .i64 width] w fun e w' => e = .returned (tkV s width) ∧ Below w.heap.size w w' := by
  by_cases h : width < 1 ∨ 8 < width
  · exact (take_bad s width w hs h).mono fun e w' ⟨he, hw⟩ => ⟨by rw [he, tkV_bad h], belowOfEq hw⟩
  · by_cases h2 : (s.size : Int) < width
    · exact (take_short s width w hs (by omega) (by omega) h2).mono fun e w' ⟨he, hw⟩ => ⟨by rw [he, tkV_short h h2], belowOfEq hw⟩
    · obtain ⟨n, rfl⟩ : ∃ n : Nat, width = n := ⟨width.toNat, by omega⟩
      exact (take_ok s n w hs (by omega) (by omega) (by omega)).mono fun e w' ⟨he, hw⟩ => ⟨by rw [he, tkV_ok h h2], hw⟩

theorem rtake_any (s : ByteArray) (width : Int) (w : World) (hs : s.size ≤ 140737488351232) :
    Calls Try.prog 41 #[.string s, .int .i64 width] w fun e w' => e = .returned (tkV s width) ∧ Below w.heap.size w w' := by
  by_cases h : width < 1 ∨ 8 < width
  · exact (rtake_bad s width w hs h).mono fun e w' ⟨he, hw⟩ => ⟨by rw [he, tkV_bad h], belowOfEq hw⟩
  · by_cases h2 : (s.size : Int) < width
    · exact (rtake_short s width w hs (by omega) (by omega) h2).mono fun e w' ⟨he, hw⟩ => ⟨by rw [he, tkV_short h h2], belowOfEq hw⟩
    · obtain ⟨n, rfl⟩ : ∃ n : Nat, width = n := ⟨width.toNat, by omega⟩
      exact (rtake_ok s n w hs (by omega) (by omega) (by omega)).mono fun e w' ⟨he, hw⟩ => ⟨by rw [he, tkV_ok h h2], hw⟩

/-- The answer of Number. -/
def nmV (n : Nat) (width : Int) : Value := .tuple #[.string (nmS n width), .int .i64 (nmE n width)]
theorem nmV_ok {n : Nat} {width : Int} (h : nmOk n width) : nmV n width = .tuple #[.string ⟨(leBytes n width.toNat).toArray⟩, .int .i64 0] := by
  rw [nmV, nmS, nmE, if_pos h, if_pos h]
theorem nmV_bad {n : Nat} {width : Int} (h : ¬ nmOk n width) : nmV n width = .tuple #[.string ⟨#[]⟩, .int .i64 1] := by
  rw [nmV, nmS, nmE, if_neg h, if_neg h]

theorem rnum_bad (n : Nat) (width : Int) (w : World) (hn : n ≤ 18446744073709551615) (h : width < 1 ∨ 8 < width) :
    Calls Try.prog 37 #[.int .u64 n, .int .i64 width] w fun e w' => e = .returned (.tuple #[.string ⟨#[]⟩, .int .i64 1]) ∧ w = w' := by
  by_cases h1 : width < 1
  · go_enter Try.func37, Try.ntmps37
    go_wp2
    go_ret2
    exact ⟨rfl, rfl⟩
  · have h2 : 8 < width := by omega
    go_enter Try.func37, Try.ntmps37
    go_wp2
    go_ret2
    exact ⟨rfl, rfl⟩

theorem num_all (n : Nat) (width : Int) (w : World) (hn : n ≤ 18446744073709551615) :
    Calls Try.prog 32 #[.int .u64 n, .int .i64 width] w fun e w' => e = .returned (nmV n width) ∧ Below w.heap.size w w' := by
  by_cases h : width < 1 ∨ 8 < width
  · exact (num_bad n width w hn (by omega)).mono fun e w' ⟨he, hw⟩ => ⟨by rw [he, nmV_bad (by unfold nmOk; omega)], belowOfEq hw⟩
  · obtain ⟨k, rfl⟩ : ∃ n : Nat, width = n := ⟨width.toNat, by omega⟩
    by_cases h2 : n / 256 ^ k = 0
    · have hok : nmOk n k := ⟨by omega, by omega, by rw [Int.toNat_natCast]; exact h2⟩
      exact (num_ok n k w hn (by omega) (by omega) ((bitLen_iff n k hn (by omega)).2 h2)).mono fun e w' ⟨he, hw⟩ => ⟨by rw [he, nmV_ok hok, Int.toNat_natCast], hw⟩
    · have hno : ¬ nmOk n k := fun h => h2 (by have := h.2.2; rwa [Int.toNat_natCast] at this)
      have hb : ¬ Lib.bitLen n ≤ 8 * k := fun h => h2 ((bitLen_iff n k hn (by omega)).1 h)
      exact (num_bad n k w hn (by omega)).mono fun e w' ⟨he, hw⟩ => ⟨by rw [he, nmV_bad hno], belowOfEq hw⟩

theorem rnum_all (n : Nat) (width : Int) (w : World) (hn : n ≤ 18446744073709551615) :
    Calls Try.prog 37 #[.int .u64 n, .int .i64 width] w fun e w' => e = .returned (nmV n width) ∧ Below w.heap.size w w' := by
  by_cases h : width < 1 ∨ 8 < width
  · exact (rnum_bad n width w hn h).mono fun e w' ⟨he, hw⟩ => ⟨by rw [he, nmV_bad (by unfold nmOk; omega)], belowOfEq hw⟩
  · obtain ⟨k, rfl⟩ : ∃ n : Nat, width = n := ⟨width.toNat, by omega⟩
    refine (rnum_any n k w hn (by omega) (by omega)).mono fun e w' ⟨he, hw⟩ => ⟨?_, hw⟩
    by_cases h2 : n / 256 ^ k = 0
    · rw [he, numV_ok h2, nmV_ok ⟨by omega, by omega, by rw [Int.toNat_natCast]; exact h2⟩, Int.toNat_natCast]
    · rw [he, numV_bad h2, nmV_bad fun h => h2 (by have := h.2.2; rwa [Int.toNat_natCast] at this)]

end Go.Proofs.Ytbmckmlekhkpeaa
