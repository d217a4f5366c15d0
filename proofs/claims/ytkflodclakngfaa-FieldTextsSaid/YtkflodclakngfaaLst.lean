/-
  List, the program's and the reference's: the same answers, told by a plain function.
-/
import Derived.Test.YtkflodclakngfaaTxt
set_option linter.unusedVariables false
namespace Go.Proofs.Ytkflodclakngfaa
open Go.RowKit

/-- A slice of strings that reads as a list. -/
def SRow (w : World) (v : Value) (ss : List ByteArray) : Prop :=
  ∃ a c, v = .slice a ss.length c ∧ (∀ s ∈ ss, s.size ≤ 9223372036854775807) ∧ ∀ i s, ss[i]? = some s → ∃ b off, a = some ⟨b, off, none⟩ ∧ b < w.heap.size ∧ w.cell? ⟨b, off + i, none⟩ = some (.string s)

theorem SRow.below {w w' : World} {v : Value} {ss : List ByteArray} (h : SRow w v ss) (hb : Below w.heap.size w w') : SRow w' v ss := by
  obtain ⟨a, c, rfl, hs, hc⟩ := h
  refine ⟨a, c, rfl, hs, fun i s hi => ?_⟩
  obtain ⟨b, off, ha, hlt, hcell⟩ := hc i s hi
  exact ⟨b, off, ha, Nat.lt_of_lt_of_le hlt hb.size, (hb.cell (p := ⟨b, off + i, none⟩) hlt).trans hcell⟩

/-- The bytes of a list's texts behind what stands already, or the error. -/
def lsGo : List ByteArray → ByteArray → ByteArray × Int
  | [], acc => (acc, 0)
  | s :: l, acc => if 1000 < s.size then (⟨#[]⟩, 11) else lsGo l (acc ++ (⟨(leBytes s.size 2).toArray⟩ ++ s))
def ls (l : List ByteArray) : ByteArray × Int := if 255 < l.length then (⟨#[]⟩, 11) else lsGo l ⟨#[UInt8.ofNat l.length]⟩
theorem ls_wide {l : List ByteArray} (h : 255 < l.length) : v2 (ls l).1 (ls l).2 = .tuple #[.string ⟨#[]⟩, .int .i64 11] := by rw [ls, if_pos h]; rfl
theorem ls_go {l : List ByteArray} (h : ¬ 255 < l.length) : ls l = lsGo l ⟨#[UInt8.ofNat l.length]⟩ := if_neg h
theorem lsGo_wide {l : List ByteArray} {k : Nat} {s acc : ByteArray} (h : l[k]? = some s) (hs : 1000 < s.size) : lsGo (l.drop k) acc = (⟨#[]⟩, 11) := by
  obtain ⟨hk, rfl⟩ := List.getElem?_eq_some_iff.1 h
  rw [List.drop_eq_getElem_cons hk, lsGo, if_pos hs]
theorem lsGo_next {l : List ByteArray} {k : Nat} {s acc : ByteArray} (h : l[k]? = some s) (hs : ¬ 1000 < s.size) : lsGo (l.drop k) acc = lsGo (l.drop (k + 1)) (acc ++ (⟨(leBytes s.size 2).toArray⟩ ++ s)) := by
  obtain ⟨hk, rfl⟩ := List.getElem?_eq_some_iff.1 h
  rw [List.drop_eq_getElem_cons hk, lsGo, if_neg hs]

theorem text_wide (s : ByteArray) (w : World) (hs : s.size ≤ 9223372036854775807) (h : 1000 < s.size) :
    Calls Try.prog 15 #[.string s] w fun e w' => e = .returned (.tuple #[.string ⟨#[]⟩, .int .i64 11]) ∧ Below w.heap.size w w' :=
  (text_any s w hs).mono fun e w' ⟨he, hb⟩ => ⟨by rw [he, tx_wide h], hb⟩
theorem text_ok (s : ByteArray) (w : World) (hs : s.size ≤ 9223372036854775807) (h : ¬ 1000 < s.size) :
    Calls Try.prog 15 #[.string s] w fun e w' => e = .returned (.tuple #[.string (⟨(leBytes s.size 2).toArray⟩ ++ s), .int .i64 0]) ∧ Below w.heap.size w w' :=
  (text_any s w hs).mono fun e w' ⟨he, hb⟩ => ⟨by rw [he, tx_ok h], hb⟩
theorem rtext_wide (s : ByteArray) (w : World) (hs : s.size ≤ 9223372036854775807) (h : 1000 < s.size) :
    Calls Try.prog 17 #[.string s] w fun e w' => e = .returned (.tuple #[.string ⟨#[]⟩, .int .i64 11]) ∧ Below w.heap.size w w' :=
  (rtext_any s w hs).mono fun e w' ⟨he, hb⟩ => ⟨by rw [he, tx_wide h], hb⟩
theorem rtext_ok (s : ByteArray) (w : World) (hs : s.size ≤ 9223372036854775807) (h : ¬ 1000 < s.size) :
    Calls Try.prog 17 #[.string s] w fun e w' => e = .returned (.tuple #[.string (⟨(leBytes s.size 2).toArray⟩ ++ s), .int .i64 0]) ∧ Below w.heap.size w w' :=
  (rtext_any s w hs).mono fun e w' ⟨he, hb⟩ => ⟨by rw [he, tx_ok h], hb⟩

theorem BW_low {b : Nat} {bs : List Value} {w w' : World} (h : BW b bs w) (hb : Below w.heap.size w w') : BW b bs w' := by
  have at_ : ∀ p, Lib.BuilderAtF 53 5 b b p bs w → Lib.BuilderAtF 53 5 b b p bs w' := by
    rintro p ⟨hB, v, hbk, hown, hne⟩
    refine ⟨hB, v, (hb.block b (lt_of_heap hbk)).trans hbk, ⟨hown.1, ?_⟩, hne⟩
    rcases hown.2 with h0 | ⟨g, cap, cur, fz, hv, hg, hh, r⟩
    · exact .inl h0
    · exact .inr ⟨g, cap, cur, fz, hv, hg, (hb.block g (lt_of_heap hh)).trans hh, r⟩
  rcases h with h | h
  · exact .inl (at_ _ h)
  · exact .inr (at_ _ h)

theorem BW_one (b n : Nat) (w : World) (h : BW b ([] ++ [.int .u8 n]) w) : BW b (Lib.byteCells [UInt8.ofNat n]) w ∨ 255 < n := by
  by_cases hn : 255 < n
  · exact .inr hn
  · have e : Lib.byteCells [UInt8.ofNat n] = [] ++ [.int .u8 n] := by simp [Lib.byteCells]; omega
    rw [e]; exact .inl h

theorem byteCells_app (a b : ByteArray) : Lib.byteCells (a ++ b).data.toList = Lib.byteCells a.data.toList ++ Lib.strCells b := by
  simp [Lib.byteCells, Lib.strCells, ByteArray.data_append]

set_option maxHeartbeats 1000000 in
theorem list_any (v : Value) (ss : List ByteArray) (w : World) (hr : SRow w v ss) (hl : ss.length ≤ 9223372036854775807) :
    Calls Try.prog 16 #[v] w fun e w' => e = .returned (v2 (ls ss).1 (ls ss).2) ∧ Below w.heap.size w w' := by
  obtain ⟨a, c, rfl, hss, hcell⟩ := hr
  by_cases h : 255 < ss.length
  · rw [ls_wide h]
    have hd : decide ((255 : Int) < (ss.length : Int)) = true := decide_eq_true (by omega)
    have HC := Lib.hid hcell
    have HS := Lib.hid hss
    clear hcell hss
    go_enter Try.func16, Try.ntmps16
    go_wp2
    go_ret2
    exact ⟨rfl, Below.refl _ _⟩
  · rw [ls_go h]
    have HC := Lib.hid hcell
    have HS := Lib.hid hss
    clear hcell hss
    have f0 := fresh53 w
    have F0 := Lib.hid f0
    clear f0
    go_enter Try.func16, Try.ntmps16
    go_wp2_with fail
    refine (writeByte _ _ _ _ F0.out (by simp)).mono ?_
    rintro e w1 ⟨rfl, h1, h2, h3⟩
    go_wp2_with fail
    have h1' : BW w.heap.size (Lib.byteCells (⟨#[UInt8.ofNat ss.length]⟩ : ByteArray).data.toList) w1 := by
      rcases BW_one _ _ _ h1 with h1 | h1
      · exact h1
      · omega
    clear h1
    go_loopw [18] (fun i wr => ∃ (k : Nat) (acc : ByteArray), k ≤ ss.length ∧ i = .int .i64 k ∧ Hid (lsGo ss ⟨#[UInt8.ofNat ss.length]⟩ = lsGo (ss.drop k) acc) ∧ acc.size ≤ 1 + 1002 * k ∧ BW w.heap.size (Lib.byteCells acc.data.toList) wr ∧ Below w.heap.size w wr) (fun i _ => ss.length - (intOf i).toNat)
    case atStart => exact ⟨0, ⟨#[UInt8.ofNat ss.length]⟩, Nat.zero_le _, rfl, rfl, by show 1 ≤ _; omega, h1', (below_alloc (Below.refl _ _) (Nat.le_refl _) _).trans h2⟩
    case round =>
      obtain ⟨k, acc, hk, rfl, hgo, hacc, hB, hbel⟩ := hrel
      by_cases hlt : k < ss.length
      · obtain ⟨s, hs⟩ : ∃ s, ss[k]? = some s := ⟨_, List.getElem?_eq_getElem hlt⟩
        obtain ⟨b, off, rfl, hb, hc⟩ := HC.out k s hs
        have hc' := (hbel.cell (p := ⟨b, off + k, none⟩) hb).trans hc
        have hsz := HS.out s (List.mem_of_getElem? hs)
        have HSK := Lib.hid hs
        clear hc hs
        by_cases h1000 : 1000 < s.size
        · have HG := Lib.hid (hgo.out.trans (lsGo_wide HSK.out h1000))
          go_wp2_with fail
          refine (text_wide s _ hsz h1000).mono ?_
          rintro e w3 ⟨rfl, h3⟩
          go_wp2_with fail
          go_ret2
          exact ⟨by rw [HG.out]; rfl, hbel.trans (h3.mono hbel.size)⟩
        · have HG := Lib.hid (hgo.out.trans (lsGo_next (acc := acc) HSK.out h1000))
          go_wp2_with fail
          refine (text_ok s _ hsz h1000).mono ?_
          rintro e w3 ⟨rfl, h3⟩
          have hB3 := BW_low hB h3
          have hlen : (Lib.byteCells acc.data.toList).length + ((⟨(leBytes s.size 2).toArray⟩ : ByteArray) ++ s).size ≤ 140737488355328 := by
            have e1 : acc.data.toList.length = acc.size := by simp
            have e2 : (⟨(leBytes s.size 2).toArray⟩ : ByteArray).size = 2 := by show (leBytes s.size 2).toArray.size = 2; simp [leBytes_len]
            rw [Lib.byteCells_length, e1, ByteArray.size_append, e2]
            omega
          have HL := Lib.hid hlen
          clear hlen
          go_wp2_with fail
          refine (writeString _ _ _ _ hB3 HL.out).mono ?_
          rintro e w4 ⟨rfl, h4, h5, h6⟩
          go_wp2_with fail
          go_roundw
          case rel =>
            refine ⟨k + 1, _, by omega, by go_num, HG, ?_, ?_, hbel.trans ((h3.mono hbel.size).trans h5)⟩
            · have e2 : (⟨(leBytes s.size 2).toArray⟩ : ByteArray).size = 2 := by show (leBytes s.size 2).toArray.size = 2; simp [leBytes_len]
              rw [ByteArray.size_append, ByteArray.size_append, e2]; omega
            · rw [byteCells_app]; exact h4
          case measure => simp [intOf]; omega
      · obtain rfl : k = ss.length := by omega
        have HG := Lib.hid (hgo.out.trans (show lsGo (ss.drop ss.length) acc = (acc, 0) by rw [List.drop_length]; rfl))
        go_wp2_with fail
        refine (toStr _ _ _ hB).mono ?_
        rintro e w3 ⟨rfl, h3⟩
        go_wp2_with fail
        go_ret2
        exact ⟨by rw [HG.out]; rfl, hbel.trans h3⟩

theorem one_str (w : World) (a : Nat) :
    (convert 31 9 (.slice (some ⟨w.heap.size, 0, none⟩) 1 1)).run Try.prog (w.alloc (.cells #[.int .u8 a] 5)) = .ok (.string ⟨#[UInt8.ofNat a]⟩) (w.alloc (.cells #[.int .u8 a] 5)) := by
  have h := run_convert_bytes_arg (P := Try.prog) (w.alloc (.cells #[.int .u8 a] 5)) 31 5 Try.underlying31 Try.underlying5 w.heap.size 0 1 1 [(a : Int)] rfl ?_ 9 Try.underlying9
  · rw [h]; simp [strOfNums]
  · intro i hi
    match i, hi with
    | 0, _ => simp

theorem pre_size (n : Nat) : (⟨(leBytes n 2).toArray⟩ : ByteArray).size = 2 := by show (leBytes n 2).toArray.size = 2; simp [leBytes_len]

set_option maxHeartbeats 1000000 in
theorem rlist_any (v : Value) (ss : List ByteArray) (w : World) (hr : SRow w v ss) (hl : ss.length ≤ 9223372036854775807) :
    Calls Try.prog 22 #[v] w fun e w' => e = .returned (v2 (ls ss).1 (ls ss).2) ∧ Below w.heap.size w w' := by
  obtain ⟨a, c, rfl, hss, hcell⟩ := hr
  have HC := Lib.hid hcell
  have HS := Lib.hid hss
  clear hcell hss
  by_cases h : 255 < ss.length
  · rw [ls_wide h]
    have hd : decide ((255 : Int) < (ss.length : Int)) = true := decide_eq_true (by omega)
    go_enter Try.func22, Try.ntmps22
    go_wp2
    go_ret2
    exact ⟨rfl, Below.refl _ _⟩
  · rw [ls_go h]
    have hcv := one_str w ss.length
    have hle : ss.length ≤ 255 := by omega
    go_enter Try.func22, Try.ntmps22
    go_wp2_with fail
    go_loopw [4, 5, 6, 7] (fun o i t f wr => ∃ (k : Nat) (acc : ByteArray), k ≤ ss.length ∧ i = .int .i64 k ∧ o = .string acc ∧ Hid (lsGo ss ⟨#[UInt8.ofNat ss.length]⟩ = lsGo (ss.drop k) acc) ∧ acc.size ≤ 1 + 1002 * k ∧ Below w.heap.size w wr) (fun _ i _ _ _ => ss.length - (intOf i).toNat)
    case atStart => exact ⟨0, ⟨#[UInt8.ofNat ss.length]⟩, Nat.zero_le _, rfl, rfl, rfl, by show 1 ≤ _; omega, below_alloc (Below.refl _ _) (Nat.le_refl _) _⟩
    case round =>
      obtain ⟨k, acc, hk, rfl, rfl, hgo, hacc, hbel⟩ := hrel
      by_cases hlt : k < ss.length
      · obtain ⟨s, hs⟩ : ∃ s, ss[k]? = some s := ⟨_, List.getElem?_eq_getElem hlt⟩
        obtain ⟨b, off, rfl, hb, hc⟩ := HC.out k s hs
        have hc' := (hbel.cell (p := ⟨b, off + k, none⟩) hb).trans hc
        have hsz := HS.out s (List.mem_of_getElem? hs)
        have HSK := Lib.hid hs
        clear hc hs
        by_cases h1000 : 1000 < s.size
        · have HG := Lib.hid (hgo.out.trans (lsGo_wide HSK.out h1000))
          go_wp2_with fail
          refine (rtext_wide s _ hsz h1000).mono ?_
          rintro e w3 ⟨rfl, h3⟩
          go_wp2_with fail
          go_ret2
          exact ⟨by rw [HG.out]; rfl, hbel.trans (h3.mono hbel.size)⟩
        · have HG := Lib.hid (hgo.out.trans (lsGo_next (acc := acc) HSK.out h1000))
          go_wp2_with fail
          refine (rtext_ok s _ hsz h1000).mono ?_
          rintro e w3 ⟨rfl, h3⟩
          have hsum : acc.size + (2 + s.size) ≤ 9223372036854775807 := by omega
          have hp2 := leBytes_len s.size 2
          have HP := Lib.hid hp2
          clear hp2
          generalize hT : (⟨(leBytes s.size 2).toArray⟩ ++ s : ByteArray) = T
          have hTs : T.size ≤ 2 + s.size := by rw [← hT, ByteArray.size_append, pre_size]; omega
          have HT := Lib.hid hT
          clear hT
          go_wp2_with fail
          go_roundw
          case rel =>
            refine ⟨k + 1, acc ++ T, by omega, by go_num, rfl, ?_, ?_, hbel.trans (h3.mono hbel.size)⟩
            · rw [← HT.out]; exact HG
            · rw [ByteArray.size_append]; omega
          case measure => simp [intOf]; omega
      · obtain rfl : k = ss.length := by omega
        have HG := Lib.hid (hgo.out.trans (show lsGo (ss.drop ss.length) acc = (acc, 0) by rw [List.drop_length]; rfl))
        go_wp2_with fail
        go_ret2
        exact ⟨by rw [HG.out]; rfl, hbel⟩
end Go.Proofs.Ytkflodclakngfaa
