/-
  FieldLists: the walk of the law.
-/
import Derived.Test.YtkflodclakngfaaSame
import Derived.Test.YtkflodclakngfaaLawFieldNumbers
set_option linter.unusedVariables false
namespace Go.Proofs.Ytkflodclakngfaa
open Go.RowKit

/-- A slice of strings as an argument has it: nil, or a row of cells up to its capacity. -/
def StrRow (w : World) (a : Option Addr) (len cap : Nat) (ss : List ByteArray) : Prop :=
  (a = none ∧ len = 0 ∧ cap = 0 ∧ ss = []) ∨
  ∃ x, a = some x ∧ len ≤ cap ∧ cap ≤ maxLen ∧ ss.length = cap ∧ (∀ i, i < ss.length → w.cell? (x.add i) = some (.string (ss.getD i ByteArray.empty))) ∧ ∀ s ∈ ss, s.size ≤ maxLen

theorem plain_of_cell {w : World} {x : Addr} {v : Value} (h : w.cell? (x.add 0) = some v) : ∃ b o, x = ⟨b, o, none⟩ := by
  obtain ⟨b, o, sp⟩ := x
  cases sp with
  | none => exact ⟨b, o, rfl⟩
  | some z =>
    exfalso
    simp [Addr.add, World.cell?] at h
    split at h <;> cases h

theorem add_plain (b o i : Nat) : (⟨b, o, none⟩ : Addr).add i = ⟨b, o + i, none⟩ := by unfold Addr.add; split <;> simp_all

theorem StrRow.srow {w : World} {a : Option Addr} {len cap : Nat} {ss : List ByteArray} (h : StrRow w a len cap ss) : ∃ l : List ByteArray, l.length = len ∧ len ≤ 9223372036854775807 ∧ SRow w (.slice a len cap) l := by
  rcases h with ⟨rfl, rfl, rfl, rfl⟩ | ⟨x, rfl, h1, h2, h3, h4, h5⟩
  · exact ⟨[], rfl, by omega, none, 0, rfl, by simp, by simp⟩
  · unfold maxLen at h2 h5
    have hl : (ss.take len).length = len := by simp; omega
    refine ⟨ss.take len, hl, by omega, some x, cap, by rw [hl], fun s hs => h5 s (List.mem_of_mem_take hs), fun i s hi => ?_⟩
    have hi' : ss[i]? = some s := by
      rw [List.getElem?_take] at hi
      split at hi
      · exact hi
      · cases hi
    obtain ⟨hlt, hs⟩ := List.getElem?_eq_some_iff.1 hi'
    have hc := h4 i hlt
    have e : ss.getD i ByteArray.empty = s := by simp [List.getD, hi']
    rw [e] at hc
    obtain ⟨b, o, rfl⟩ := plain_of_cell (h4 0 (by omega))
    rw [add_plain] at hc
    exact ⟨b, o, rfl, block_lt_of_cell hc, hc⟩

theorem tlGo_len (n : Nat) : ∀ (r : ByteArray) (acc : List ByteArray), (tlGo n r acc).l.length ≤ acc.length + n := by
  induction n with
  | zero => intro r acc; simp [tlGo]
  | succ n ih =>
    intro r acc
    rw [tlGo]
    split
    · have := ih (ttR r) (acc ++ [ttX r])
      simp at this; omega
    · simp

theorem tl_len (s : ByteArray) : (tl s).l.length ≤ 255 := by
  by_cases h : s.size < 1
  · rw [tl_short h]; simp
  · rw [tl_more h]
    have := tlGo_len (leNum (s.data.toList.take 1)) (s.extract 1 s.size) []
    have := leNum_lt_take s.data.toList 1 0
    simp at *; omega

set_option maxHeartbeats 2000000 in
theorem fieldLists_row (v : Value) (l : List ByteArray) (s : ByteArray) (w : World) (hv : SRow w v l) (hl : l.length ≤ 9223372036854775807) (hs : s.size ≤ 140737488351232) :
    Calls Try.prog 6 #[v, .string s] w fun e w' => e = .returned (.bool true) ∧ Below w.heap.size w w' := by
  have hv0 := Lib.hid hv
  obtain ⟨a, c, rfl, hss, hcell⟩ := hv
  have HC := Lib.hid hcell
  have HS := Lib.hid hss
  clear hcell hss
  by_cases h1 : 300 < l.length
  · have hd : decide ((300 : Int) < (l.length : Int)) = true := decide_eq_true (by omega)
    go_enter Try.func6, Try.ntmps6
    go_wp2_with fail
    refine (shown_ok _).mono ?_
    rintro e w3 ⟨rfl, h3⟩
    go_wp2_with fail
    go_ret
    exact ⟨rfl, h3⟩
  by_cases h2 : 3000 < s.size
  · have hd : decide ((300 : Int) < (l.length : Int)) = false := decide_eq_false (by omega)
    have hd2 : decide ((3000 : Int) < (s.size : Int)) = true := decide_eq_true (by omega)
    go_enter Try.func6, Try.ntmps6
    go_wp2_with fail
    refine (shown_ok _).mono ?_
    rintro e w3 ⟨rfl, h3⟩
    go_wp2_with fail
    go_ret
    exact ⟨rfl, h3⟩
  have hd : decide ((300 : Int) < (l.length : Int)) = false := decide_eq_false (by omega)
  have hd2 : decide ((3000 : Int) < (s.size : Int)) = false := decide_eq_false (by omega)
  go_enter Try.func6, Try.ntmps6
  go_wp2_with fail
  refine (shown_ok _).mono ?_
  rintro e w3 ⟨rfl, h3⟩
  go_wp2_with fail
  go_loopw [5] (fun i wr => ∃ k : Nat, k ≤ l.length ∧ i = .int .i64 k ∧ w3 = wr) (fun i _ => l.length - (intOf i).toNat)
  case atStart => exact ⟨0, Nat.zero_le _, rfl, rfl⟩
  case round =>
    obtain ⟨k, hk, rfl, rfl⟩ := hrel
    by_cases hlt : k < l.length
    · obtain ⟨t, ht⟩ : ∃ t, l[k]? = some t := ⟨_, List.getElem?_eq_getElem hlt⟩
      obtain ⟨b, off, rfl, hb, hc⟩ := HC.out k t ht
      have hc' := (h3.cell (p := ⟨b, off + k, none⟩) hb).trans hc
      have hsz := HS.out t (List.mem_of_getElem? ht)
      clear hc ht
      by_cases h15 : 1500 < t.size
      · go_wp2_with fail
        refine (shown_ok _).mono ?_
        rintro e w4 ⟨rfl, h4⟩
        go_wp2_with fail
        go_ret
        exact ⟨rfl, below2 h3 h4⟩
      · go_wp2_with fail
        go_roundw
        case rel => exact ⟨k + 1, by omega, by go_num, trivial⟩
        case measure => simp [intOf]; omega
    · obtain rfl : k = l.length := by omega
      go_wp2_with fail
      refine (list_any _ l _ (hv0.out.below h3) hl).mono ?_
      rintro e w4 ⟨rfl, h4⟩
      have b4 := below2 h3 h4
      unfold v2
      go_wp2_with fail
      refine (rlist_any _ l _ (hv0.out.below b4) hl).mono ?_
      rintro e w5 ⟨rfl, h5⟩
      have b5 := below2 b4 h5
      unfold v2
      go_wp2_with fail
      refine (takelist_any s _ hs).mono ?_
      rintro e w6 ⟨x, rfl, hx, h6⟩
      have b6 := below2 b5 h6
      have HX := Lib.hid hx
      clear hx
      go_wp2_with fail
      refine (rtakelist_any s _ hs).mono ?_
      rintro e w7 ⟨y, rfl, hy, h7⟩
      have b7 := below2 b6 h7
      have HX7 := Lib.hid (HX.out.below h7)
      have HY := Lib.hid hy
      clear hy HX
      go_wp2_with fail
      refine (same_true x y _ _ HX7.out HY.out ?_).mono ?_
      · have := tl_len s; omega
      rintro e w8 ⟨rfl, h8⟩
      go_wp2_with fail
      go_ret
      exact ⟨rfl, below2 b7 h8⟩

theorem fieldLists_walk (w : World) (a : Option Addr) (len cap : Nat) (ss : List ByteArray) (h : StrRow w a len cap ss) (s : ByteArray) (hs : s.size ≤ 140737488351232) :
    Calls Try.prog 6 #[.slice a len cap, .string s] w fun e w' => e = .returned (.bool true) ∧ Below w.heap.size w w' := by
  obtain ⟨l, hl, hm, hr⟩ := h.srow
  exact fieldLists_row _ l s w hr (by omega) hs
end Go.Proofs.Ytkflodclakngfaa
