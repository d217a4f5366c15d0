/-
  Text, TakeText, the program's and the reference's: the same answers, told by plain functions.
-/
import Derived.Test.YtkflodclakngfaaFn
set_option linter.unusedVariables false
namespace Go.Proofs.Ytkflodclakngfaa
open Go.RowKit

/-- Three results, two strings and an error. -/
def v3 (a b : ByteArray) (e : Int) : Value := .tuple #[.string a, .string b, .int .i64 e]
def v2 (a : ByteArray) (e : Int) : Value := .tuple #[.string a, .int .i64 e]

/-- The two bytes of a length, and the text. -/
def txS (s : ByteArray) : ByteArray := if 1000 < s.size then ⟨#[]⟩ else ⟨(leBytes s.size 2).toArray⟩ ++ s
def txE (s : ByteArray) : Int := if 1000 < s.size then 11 else 0
theorem tx_wide {s : ByteArray} (h : 1000 < s.size) : v2 (txS s) (txE s) = .tuple #[.string ⟨#[]⟩, .int .i64 11] := by rw [v2, txS, txE, if_pos h, if_pos h]
theorem tx_ok {s : ByteArray} (h : ¬ 1000 < s.size) : v2 (txS s) (txE s) = .tuple #[.string (⟨(leBytes s.size 2).toArray⟩ ++ s), .int .i64 0] := by rw [v2, txS, txE, if_neg h, if_neg h]

theorem below2 {w a b : World} (h1 : Below w.heap.size w a) (h2 : Below a.heap.size a b) : Below w.heap.size w b := h1.trans (h2.mono h1.size)

set_option maxHeartbeats 1000000 in
theorem text_any (s : ByteArray) (w : World) (hs : s.size ≤ 9223372036854775807) :
    Calls Try.prog 15 #[.string s] w fun e w' => e = .returned (v2 (txS s) (txE s)) ∧ Below w.heap.size w w' := by
  by_cases h : 1000 < s.size
  · rw [tx_wide h]
    have hd : decide ((1000 : Int) < (s.size : Int)) = true := decide_eq_true (by omega)
    go_enter Try.func15, Try.ntmps15
    go_wp2
    go_ret2
    exact ⟨rfl, Below.refl _ _⟩
  · rw [tx_ok h]
    have hok : nmOk s.size 2 := ⟨by omega, by omega, by simp; omega⟩
    have hnum : ∀ w, Calls Try.prog 11 #[.int .u64 s.size, .int .i64 2] w fun e w' => e = .returned (.tuple #[.string ⟨(leBytes s.size 2).toArray⟩, .int .i64 0]) ∧ Below w.heap.size w w' := fun w =>
      (num_all s.size 2 w (by omega)).mono fun e w' ⟨he, hw⟩ => ⟨by rw [he, nmV_ok hok]; rfl, hw⟩
    have H := Lib.hid hnum
    clear hnum hok
    go_enter Try.func15, Try.ntmps15
    go_wp2_with fail
    have hlen : (leBytes s.size 2).length ≤ 2 := by rw [leBytes_len]; omega
    refine (H.out _).mono ?_
    rintro e w1 ⟨rfl, h1⟩
    go_wp2_with fail
    go_ret2
    exact ⟨rfl, h1⟩

theorem take2 (s : ByteArray) (h : 2 ≤ s.size) : leNum (s.data.toList.take 2) = s[0].toNat + 256 * s[1].toNat := by
  obtain ⟨⟨l⟩⟩ := s
  match l, h with
  | a :: b :: l, h => simp [leNum, ByteArray.getElem_eq_getElem_data]

theorem leBytes2 (n : Nat) (h : n ≤ 1000) : leBytes n 2 = [UInt8.ofNat (n % 256), UInt8.ofNat (n / 256)] := by
  simp [leBytes]
  have : n / 256 % 256 = n / 256 := by omega
  rw [this]

theorem two_str (w : World) (a b : Nat) :
    (convert 31 9 (.slice (some ⟨w.heap.size, 0, none⟩) 2 2)).run Try.prog (w.alloc (.cells #[.int .u8 a, .int .u8 b] 5)) = .ok (.string ⟨#[UInt8.ofNat a, UInt8.ofNat b]⟩) (w.alloc (.cells #[.int .u8 a, .int .u8 b] 5)) := by
  have h := run_convert_bytes_arg (P := Try.prog) (w.alloc (.cells #[.int .u8 a, .int .u8 b] 5)) 31 5 Try.underlying31 Try.underlying5 w.heap.size 0 2 2 [(a : Int), (b : Int)] rfl ?_ 9 Try.underlying9
  · rw [h]; simp [strOfNums]
  · intro i hi
    match i, hi with
    | 0, _ => simp
    | 1, _ => simp

set_option maxHeartbeats 1000000 in
theorem rtext_any (s : ByteArray) (w : World) (hs : s.size ≤ 9223372036854775807) :
    Calls Try.prog 17 #[.string s] w fun e w' => e = .returned (v2 (txS s) (txE s)) ∧ Below w.heap.size w w' := by
  by_cases h : 1000 < s.size
  · rw [tx_wide h]
    have hd : decide ((1000 : Int) < (s.size : Int)) = true := decide_eq_true (by omega)
    go_enter Try.func17, Try.ntmps17
    go_wp2
    go_ret2
    exact ⟨rfl, Below.refl _ _⟩
  · rw [tx_ok h, leBytes2 _ (by omega)]
    have hconv := two_str w (s.size % 256) (s.size / 256)
    rw [show ((s.size % 256 : Nat) : Int) = (s.size : Int) % 256 by omega, show ((s.size / 256 : Nat) : Int) = (s.size : Int) / 256 by omega] at hconv
    go_enter Try.func17, Try.ntmps17
    go_wp2_with fail
    go_ret2
    exact ⟨rfl, below_alloc (Below.refl _ _) (Nat.le_refl _) _⟩

/-- What the closure of TakeText answers. -/
def tcE (n : Nat) (r : ByteArray) : Int := if 1000 < n then 11 else if r.size < n then 10 else 0
def tcX (n : Nat) (r : ByteArray) : ByteArray := if tcE n r = 0 then r.extract 0 n else ⟨#[]⟩
def tcR (n : Nat) (r : ByteArray) : ByteArray := if tcE n r = 0 then r.extract n r.size else ⟨#[]⟩
theorem tc_wide {n : Nat} {r : ByteArray} (h : 1000 < n) : v3 (tcX n r) (tcR n r) (tcE n r) = .tuple #[.string ⟨#[]⟩, .string ⟨#[]⟩, .int .i64 11] := by
  have e : tcE n r = 11 := if_pos h
  rw [v3, tcX, tcR, e]; rfl
theorem tc_short {n : Nat} {r : ByteArray} (h : ¬ 1000 < n) (h2 : r.size < n) : v3 (tcX n r) (tcR n r) (tcE n r) = .tuple #[.string ⟨#[]⟩, .string ⟨#[]⟩, .int .i64 10] := by
  have e : tcE n r = 10 := by rw [tcE, if_neg h, if_pos h2]
  rw [v3, tcX, tcR, e]; rfl
theorem tc_ok {n : Nat} {r : ByteArray} (h : ¬ 1000 < n) (h2 : ¬ r.size < n) : v3 (tcX n r) (tcR n r) (tcE n r) = .tuple #[.string (r.extract 0 n), .string (r.extract n r.size), .int .i64 0] := by
  have e : tcE n r = 0 := by rw [tcE, if_neg h, if_neg h2]
  rw [v3, tcX, tcR, e]; rfl

set_option maxHeartbeats 1000000 in
theorem ttclo_any (n : Nat) (r : ByteArray) (w : World) (hn : n ≤ 65535) (hs : r.size ≤ 9223372036854775807) :
    Calls Try.prog 31 #[.int .i64 n, .string r] w fun e w' => e = .returned (v3 (tcX n r) (tcR n r) (tcE n r)) ∧ Below w.heap.size w w' := by
  by_cases h : 1000 < n
  · rw [tc_wide h]
    go_enter Try.func31, Try.ntmps31
    go_wp2
    go_ret3
    exact ⟨rfl, Below.refl _ _⟩
  · by_cases h2 : r.size < n
    · rw [tc_short h h2]
      go_enter Try.func31, Try.ntmps31
      go_wp2
      go_ret3
      exact ⟨rfl, Below.refl _ _⟩
    · rw [tc_ok h h2]
      go_enter Try.func31, Try.ntmps31
      go_wp2_with fail
      go_quiet (fail)
      go_wp2_with fail
      go_ret3
      exact ⟨rfl, bdrewN (Below.refl _ _) _⟩

/-- What TakeText answers. -/
def ttN (s : ByteArray) : Nat := leNum (s.data.toList.take 2)
def ttE (s : ByteArray) : Int := if s.size < 2 then 10 else tcE (ttN s) (s.extract 2 s.size)
def ttX (s : ByteArray) : ByteArray := if s.size < 2 then ⟨#[]⟩ else tcX (ttN s) (s.extract 2 s.size)
def ttR (s : ByteArray) : ByteArray := if s.size < 2 then ⟨#[]⟩ else tcR (ttN s) (s.extract 2 s.size)
theorem tt_short {s : ByteArray} (h : s.size < 2) : v3 (ttX s) (ttR s) (ttE s) = .tuple #[.string ⟨#[]⟩, .string ⟨#[]⟩, .int .i64 10] := by
  rw [v3, ttX, ttR, ttE, if_pos h, if_pos h, if_pos h]
theorem tt_more {s : ByteArray} (h : ¬ s.size < 2) : v3 (ttX s) (ttR s) (ttE s) = v3 (tcX (ttN s) (s.extract 2 s.size)) (tcR (ttN s) (s.extract 2 s.size)) (tcE (ttN s) (s.extract 2 s.size)) := by
  rw [ttX, ttR, ttE, if_neg h, if_neg h, if_neg h]

set_option maxHeartbeats 1000000 in
theorem taken_text (s : ByteArray) (w : World) (hs : s.size ≤ 140737488351232) :
    Calls Try.prog 30 #[.string s, .int .i64 2, .func (.func 31) #[] #[]] w fun e w' => e = .returned (v3 (ttX s) (ttR s) (ttE s)) ∧ Below w.heap.size w w' := by
  have htk := take_any s 2
  by_cases h : s.size < 2
  · rw [tt_short h]
    have e1 : tkV s 2 = .tuple #[.int .u64 0, .string ⟨#[]⟩, .int .i64 10] := tkV_short (by omega) (by omega)
    have H : Hid (∀ w, Calls Try.prog 13 #[.string s, .int .i64 2] w fun e w' => e = .returned (.tuple #[.int .u64 0, .string ⟨#[]⟩, .int .i64 10]) ∧ Below w.heap.size w w') := by
      rw [← e1]; exact fun w => htk w hs
    clear e1 htk
    go_enter Try.func30, Try.ntmps30
    go_wp2_with fail
    refine (H.out _).mono ?_
    rintro e w1 ⟨rfl, h1⟩
    go_wp2_with fail
    go_ret3
    exact ⟨rfl, h1⟩
  · rw [tt_more h]
    have e1 : tkV s 2 = .tuple #[.int .u64 (ttN s), .string (s.extract 2 s.size), .int .i64 0] := tkV_ok (width := 2) (by omega) (by omega)
    have H : Hid (∀ w, Calls Try.prog 13 #[.string s, .int .i64 2] w fun e w' => e = .returned (.tuple #[.int .u64 (ttN s), .string (s.extract 2 s.size), .int .i64 0]) ∧ Below w.heap.size w w') := by
      rw [← e1]; exact fun w => htk w hs
    have hn : ttN s ≤ 65535 := by have := leNum_lt_take s.data.toList 2 0; unfold ttN; omega
    clear e1 htk
    go_enter Try.func30, Try.ntmps30
    go_wp2_with fail
    refine (H.out _).mono ?_
    rintro e w1 ⟨rfl, h1⟩
    go_wp2_with fail
    refine (ttclo_any (ttN s) _ _ hn (by rw [ByteArray.size_extract]; omega)).mono ?_
    rintro e w2 ⟨rfl, h2⟩
    unfold v3
    go_wp2_with fail
    go_ret3
    exact ⟨rfl, below2 h1 h2⟩

set_option maxHeartbeats 1000000 in
theorem taketext_any (s : ByteArray) (w : World) (hs : s.size ≤ 140737488351232) :
    Calls Try.prog 18 #[.string s] w fun e w' => e = .returned (v3 (ttX s) (ttR s) (ttE s)) ∧ Below w.heap.size w w' := by
  go_enter Try.func18, Try.ntmps18
  go_wp2_with fail
  refine (taken_text s _ hs).mono ?_
  rintro e w2 ⟨rfl, h2⟩
  unfold v3
  go_wp2_with fail
  go_ret3
  exact ⟨rfl, h2⟩

theorem rt_wide {s : ByteArray} (h : ¬ s.size < 2) (h2 : 1000 < ttN s) : v3 (ttX s) (ttR s) (ttE s) = .tuple #[.string ⟨#[]⟩, .string ⟨#[]⟩, .int .i64 11] := by
  rw [tt_more h, tc_wide h2]
theorem rt_short {s : ByteArray} (h : ¬ s.size < 2) (h2 : ¬ 1000 < ttN s) (h3 : s.size < 2 + ttN s) : v3 (ttX s) (ttR s) (ttE s) = .tuple #[.string ⟨#[]⟩, .string ⟨#[]⟩, .int .i64 10] := by
  rw [tt_more h, tc_short h2 (by rw [ByteArray.size_extract]; omega)]
theorem rt_ok {s : ByteArray} (h : ¬ s.size < 2) (h2 : ¬ 1000 < ttN s) (h3 : ¬ s.size < 2 + ttN s) :
    v3 (ttX s) (ttR s) (ttE s) = .tuple #[.string (s.extract 2 (2 + ttN s)), .string (s.extract (2 + ttN s) s.size), .int .i64 0] := by
  rw [tt_more h, tc_ok h2 (by rw [ByteArray.size_extract]; omega), ByteArray.extract_extract, ByteArray.extract_extract, ByteArray.size_extract]
  rw [show min (2 + ttN s) s.size = 2 + ttN s by omega, show min (2 + (min s.size s.size - 2)) s.size = s.size by omega]

set_option maxHeartbeats 1000000 in
theorem rtaketext_any (s : ByteArray) (w : World) (hs : s.size ≤ 140737488351232) :
    Calls Try.prog 19 #[.string s] w fun e w' => e = .returned (v3 (ttX s) (ttR s) (ttE s)) ∧ Below w.heap.size w w' := by
  by_cases h : s.size < 2
  · rw [tt_short h]
    go_enter Try.func19, Try.ntmps19
    go_wp2
    go_ret3
    exact ⟨rfl, Below.refl _ _⟩
  · have hN := take2 s (by omega)
    have hN' : ttN s = s[0].toNat + 256 * s[1].toNat := hN
    clear hN
    have b0 : s[0].toNat ≤ 255 := by have := UInt8.toNat_lt s[0]; omega
    have b1 : s[1].toNat ≤ 255 := by have := UInt8.toNat_lt s[1]; omega
    have h0 : 0 < s.size := by omega
    have h0' : (0 : Int) < (s.size : Int) := by omega
    have h1 : (1 : Int) < (s.size : Int) := by omega
    by_cases c1 : 1000 < ttN s
    · rw [rt_wide h c1]
      have c1' : 1000 < s[0].toNat + 256 * s[1].toNat := by omega
      clear hN' c1
      go_enter Try.func19, Try.ntmps19
      go_wp2_with fail
      go_quiet (fail)
      go_wp2_with fail
      go_ret3
      exact ⟨rfl, bdrewN (Below.refl _ _) _⟩
    · by_cases c2 : s.size < 2 + ttN s
      · rw [rt_short h c1 c2]
        have c1' : s[0].toNat + 256 * s[1].toNat ≤ 1000 := by omega
        have c2' : s.size < 2 + (s[0].toNat + 256 * s[1].toNat) := by omega
        clear hN' c1 c2
        go_enter Try.func19, Try.ntmps19
        go_wp2_with fail
        go_quiet (fail)
        go_wp2_with fail
        go_ret3
        exact ⟨rfl, bdrewN (Below.refl _ _) _⟩
      · rw [rt_ok h c1 c2]
        have H : Hid (((s[0].toNat : Int) + (256 : Int) * (s[1].toNat : Int)) = ((ttN s : Nat) : Int)) := by unfold Hid; omega
        have c3 : ttN s ≤ 1000 := by omega
        have c4 : 2 + ttN s ≤ s.size := by omega
        have c1' : s[0].toNat + 256 * s[1].toNat ≤ 1000 := by omega
        have c2' : 2 + (s[0].toNat + 256 * s[1].toNat) ≤ s.size := by omega
        clear hN' c1 c2
        go_enter Try.func19, Try.ntmps19
        go_wp2_with fail
        go_quiet (fail)
        go_wp2_with fail
        rw [H.out]
        have q1 : (2 : Int) ≤ 2 + (ttN s : Int) := by omega
        have q2 : 2 + (ttN s : Int) ≤ (s.size : Int) := by omega
        have q3 : (2 + (ttN s : Int)).toNat = 2 + ttN s := by omega
        go_quiet (fail)
        go_wp2_with fail
        go_ret3
        exact ⟨rfl, bdrewN (bdrewN (Below.refl _ _) _) _⟩
end Go.Proofs.Ytkflodclakngfaa
