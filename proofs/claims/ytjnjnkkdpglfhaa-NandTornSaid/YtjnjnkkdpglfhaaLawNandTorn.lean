/-
  NandTorn: the walk.
-/
import Derived.Test.YtjnjnkkdpglfhaaLawNandFills
import Derived.Deep.QuietTactic
import Derived.BigQuiet
set_option linter.unusedVariables false
namespace Go.Proofs.Ytjnjnkkdpglfhaa
open Go.RowKit

theorem torn_head (F : ByteArray) (M : Nat) (x : UInt8) (hF : F.size = 256) (hM : M ≤ 256) : (tornT F M x).extract 0 M = F.extract 0 M := by
  rw [tornT]
  exact ByteArray.extract_append_eq_left (by simp; omega)
theorem torn_tail (F : ByteArray) (M : Nat) (x : UInt8) (hF : F.size = 256) (hM : M ≤ 256) (i : Nat) (h1 : M ≤ i) (h2 : i < (tornT F M x).size) : (tornT F M x)[i] = x := by
  have e : Lib.repeatL [x] (256 - M) = List.replicate (256 - M) x := by
    have := Lib.repeatL_replicate x 1 (256 - M)
    simpa using this
  have hs : (F.extract 0 M).size = M := by simp; omega
  have : (tornT F M x).data = (F.extract 0 M).data ++ (List.replicate (256 - M) x).toArray := by
    rw [tornT, e]
    simp
  show (tornT F M x).data[i] = x
  simp only [this]
  rw [Array.getElem_append_right (by show (F.extract 0 M).size ≤ i; omega)]
  simp

def sX : ByteArray := ⟨#[120]⟩
/-- The power, i acts behind the fuse. -/
def qT (A : Nat) (K J : Int) (i : Nat) : Pw := ⟨false, (A : Int) + 1 - i, K, J⟩
structure Tn (st : Cp) (i : Nat) : Prop where
  segs : st.segs = 2
  pages : st.pages = 16
  past : st.past.length = i
  programs : st.programs = i
  zero : ∀ j, i ≤ j → st.page 0 j = none
  one : ∀ j, st.page 1 j = none
structure Td (st : Cp) (T : ByteArray) : Prop where
  segs : st.segs = 2
  pages : st.pages = 16
  past : st.past.length ≤ 16
  programs : 0 ≤ st.programs ∧ st.programs ≤ 16
  is : st.page 1 3 = some T
  no : st.page 1 4 = none
theorem tn_new : Tn (newCp 2 16 5 (fun _ => false)) 0 := ⟨rfl, rfl, rfl, rfl, fun _ _ => rfl, fun _ => rfl⟩
theorem qT_in {A i : Nat} {K J : Int} (hA : A < 16) (hi : i ≤ A) (hK : 0 ≤ K ∧ K ≤ 9223372036854775807) (hJ : 0 ≤ J ∧ J ≤ 255) : (qT A K J i).In := by
  refine ⟨⟨?_, ?_⟩, hK.1, hK.2, hJ.1, hJ.2⟩
  · show 0 ≤ (A : Int) + 1 - i
    omega
  · show (A : Int) + 1 - i ≤ 9223372036854775807
    omega
section
variable {B gc gl gp : Nat} {pg : Nat → Nat} {st : Cp} {a w : World} {A i : Nat} {K J : Int}
theorem torn_step (h : On [] a B gc gl gp pg st (qT A K J i) w) (g : Tn st i) (hi : i < A) (hA : A < 16) (hK : 0 ≤ K ∧ K ≤ 9223372036854775807) (hJ : 0 ≤ J ∧ J ≤ 255) :
    Calls Try.prog 15 #[.pointer (some ⟨gc, 0, none⟩), .int .i64 0, .int .i64 i, .string ⟨#[120]⟩] w fun e w' => e = .returned (.int .i64 0) ∧ ∃ st, Tn st (i + 1) ∧ On [] a B gc gl gp pg st (qT A K J (i + 1)) w' := by
  refine (program_on h 0 i sX (qT_in hA (by omega) hK hJ) (by rw [g.past]; omega) (by rw [g.programs]; omega)).mono ?_
  rintro e w' ⟨rfl, h1⟩
  have hh : hasB st.segs st.pages 0 (i : Int) = true := by rw [g.segs, g.pages]; simp [hasB]; omega
  have hp : st.page (0 : Int).toNat (i : Int).toNat = none := g.zero i (Nat.le_refl _)
  have hl : ¬ (qT A K J i).left = 0 := by show ¬ (A : Int) + 1 - i = 0; omega
  have hl1 : ((qT A K J i).left - 1 == 0) = false := by
    rw [beq_eq_false_iff_ne]
    show ¬ (A : Int) + 1 - i - 1 = 0
    omega
  have hw : (qT A K J i).whole = true := by
    rw [Pw.whole, if_neg (by simp [qT]), if_neg hl, hl1]
    rfl
  have hn : (qT A K J i).next = qT A K J (i + 1) := by
    rw [Pw.next, if_neg (by simp [qT]), if_neg hl, hl1]
    show (⟨false, (A : Int) + 1 - i - 1, K, J⟩ : Pw) = ⟨false, (A : Int) + 1 - (i + 1 : Nat), K, J⟩
    congr 1
    omega
  have e1 : st.prE (qT A K J i) 0 i sX = 0 := by
    rw [Cp.prE, if_neg (by simp [qT]), if_neg (by rw [hh]; simp; decide), hp, if_neg (by simp), Pw.err, hw]
    rfl
  have e2 : st.fits (qT A K J i) 0 i sX = true := by
    unfold Cp.fits
    rw [hh, hp]
    rfl
  rw [Cp.prS, Cp.prP, e2, hn] at h1
  rw [e1]
  refine ⟨rfl, _, ?_, h1⟩
  rw [if_pos rfl]
  refine ⟨g.segs, g.pages, ?_, ?_, ?_, ?_⟩
  · show (st.past ++ [_]).length = i + 1
    rw [List.length_append, g.past]
    rfl
  · show st.programs + 1 = ((i + 1 : Nat) : Int)
    rw [g.programs]
    omega
  · intro j hj
    show (if 0 = (0 : Int).toNat ∧ j = (i : Int).toNat then some (doneT (qT A K J (i + 1)) (qT A K J i).whole (fillT sX)) else st.page 0 j) = none
    rw [if_neg (by simp; omega)]
    exact g.zero j (by omega)
  · intro j
    show (if 1 = (0 : Int).toNat ∧ j = (i : Int).toNat then some (doneT (qT A K J (i + 1)) (qT A K J i).whole (fillT sX)) else st.page 1 j) = none
    rw [if_neg (by simp)]
    exact g.one j
theorem torn_last (h : On [] a B gc gl gp pg st (qT A K J A) w) (g : Tn st A) (hA : A < 16) (hK : 0 ≤ K ∧ K ≤ 9223372036854775807) (hJ : 0 ≤ J ∧ J ≤ 255) (s : ByteArray) (hs : s.size ≤ 256) :
    Calls Try.prog 15 #[.pointer (some ⟨gc, 0, none⟩), .int .i64 1, .int .i64 3, .string s] w fun e w' => e = .returned (.int .i64 4) ∧ ∃ st, Td st (tornT (fillT s) (min K.toNat 256) (UInt8.ofNat J.toNat)) ∧ On [] a B gc gl gp pg st ⟨true, 0, K, J⟩ w' := by
  refine (program_on h 1 3 s (qT_in hA (Nat.le_refl _) hK hJ) (by rw [g.past]; omega) (by rw [g.programs]; omega)).mono ?_
  rintro e w' ⟨rfl, h1⟩
  have hh : hasB st.segs st.pages 1 3 = true := by rw [g.segs, g.pages]; rfl
  have hp : st.page (1 : Int).toNat (3 : Int).toNat = none := g.one 3
  have hl : ¬ (qT A K J A).left = 0 := by show ¬ (A : Int) + 1 - A = 0; omega
  have hl1 : ((qT A K J A).left - 1 == 0) = true := by
    rw [beq_iff_eq]
    show (A : Int) + 1 - A - 1 = 0
    omega
  have hw : (qT A K J A).whole = false := by
    rw [Pw.whole, if_neg (by simp [qT]), if_neg hl, hl1]
    rfl
  have hn : (qT A K J A).next = ⟨true, 0, K, J⟩ := by
    rw [Pw.next, if_neg (by simp [qT]), if_neg hl, hl1]
    show (⟨true, (A : Int) + 1 - A - 1, K, J⟩ : Pw) = ⟨true, 0, K, J⟩
    congr 1
    omega
  have e1 : st.prE (qT A K J A) 1 3 s = 4 := by
    rw [Cp.prE, if_neg (by simp [qT]), if_neg (by rw [hh]; simp; omega), hp, if_neg (by simp), Pw.err, hw]
    rfl
  have e2 : st.fits (qT A K J A) 1 3 s = true := by
    unfold Cp.fits
    rw [hh, hp, decide_eq_true hs]
    rfl
  rw [Cp.prS, Cp.prP, e2, hn, hw] at h1
  rw [e1]
  refine ⟨rfl, _, ?_, h1⟩
  rw [if_pos rfl]
  refine ⟨g.segs, g.pages, ?_, ?_, ?_, ?_⟩
  · show (st.past ++ [_]).length ≤ 16
    rw [List.length_append, g.past]
    show A + 1 ≤ 16
    omega
  · show 0 ≤ st.programs + 1 ∧ st.programs + 1 ≤ 16
    rw [g.programs]
    omega
  · rfl
  · show (if 1 = (1 : Int).toNat ∧ 4 = (3 : Int).toNat then some (doneT ⟨true, 0, K, J⟩ false (fillT s)) else st.page 1 4) = none
    rw [if_neg (by decide)]
    exact g.one 4
theorem torn_gone {T : ByteArray} (h : On [] a B gc gl gp pg st ⟨true, 0, K, J⟩ w) (g : Td st T) (hK : 0 ≤ K ∧ K ≤ 9223372036854775807) (hJ : 0 ≤ J ∧ J ≤ 255) (s : ByteArray) :
    Calls Try.prog 15 #[.pointer (some ⟨gc, 0, none⟩), .int .i64 1, .int .i64 4, .string s] w fun e w' => e = .returned (.int .i64 4) ∧ On [] a B gc gl gp pg st ⟨true, 0, K, J⟩ w' :=
  program_on h 1 4 s ⟨⟨Int.le_refl _, (by decide : (0 : Int) ≤ 9223372036854775807)⟩, hK.1, hK.2, hJ.1, hJ.2⟩ (by have := g.past; omega) (by have := g.programs; omega)
theorem torn_dark (h : On [] a B gc gl gp pg st ⟨true, 0, K, J⟩ w) :
    Calls Try.prog 19 #[.pointer (some ⟨gc, 0, none⟩), .int .i64 1, .int .i64 3] w fun e w' => e = .returned (.tuple #[.string ⟨#[]⟩, .bool false, .int .i64 4]) ∧ On [] a B gc gl gp pg st ⟨true, 0, K, J⟩ w' := read_on h 1 3
theorem torn_light (h : On [] a B gc gl gp pg st ⟨true, 0, K, J⟩ w) :
    Calls Try.prog 20 #[.pointer (some ⟨gp, 0, none⟩)] w fun e w' => e = .returned (.tuple #[]) ∧ On [] a B gc gl gp pg st ⟨false, 0, K, J⟩ w' := on_on h
theorem torn_read {T : ByteArray} (h : On [] a B gc gl gp pg st ⟨false, 0, K, J⟩ w) (g : Td st T) :
    Calls Try.prog 19 #[.pointer (some ⟨gc, 0, none⟩), .int .i64 1, .int .i64 3] w fun e w' => e = .returned (.tuple #[.string T, .bool true, .int .i64 0]) ∧ On [] a B gc gl gp pg st ⟨false, 0, K, J⟩ w' := by
  have hh : hasB st.segs st.pages 1 3 = true := by rw [g.segs, g.pages]; rfl
  have e1 : st.rdE ⟨false, 0, K, J⟩ 1 3 = 0 := by rw [Cp.rdE, if_neg (by simp)]; exact if_pos hh
  have e2 : st.rdO ⟨false, 0, K, J⟩ 1 3 = some T := by rw [Cp.rdO, if_neg (by simp)]; exact (if_pos hh).trans g.is
  have := read_on h 1 3
  rw [e1, e2] at this
  exact this
theorem torn_none {T : ByteArray} (h : On [] a B gc gl gp pg st ⟨false, 0, K, J⟩ w) (g : Td st T) :
    Calls Try.prog 19 #[.pointer (some ⟨gc, 0, none⟩), .int .i64 1, .int .i64 4] w fun e w' => e = .returned (.tuple #[.string ⟨#[]⟩, .bool false, .int .i64 0]) ∧ On [] a B gc gl gp pg st ⟨false, 0, K, J⟩ w' := by
  have hh : hasB st.segs st.pages 1 4 = true := by rw [g.segs, g.pages]; rfl
  have e1 : st.rdE ⟨false, 0, K, J⟩ 1 4 = 0 := by rw [Cp.rdE, if_neg (by simp)]; exact if_pos hh
  have e2 : st.rdO ⟨false, 0, K, J⟩ 1 4 = none := by rw [Cp.rdO, if_neg (by simp)]; exact (if_pos hh).trans g.no
  have := read_on h 1 4
  rw [e1, e2] at this
  exact this
end
theorem torn_index (T : ByteArray) (k : Nat) (J : Int) (hk : k < T.size) (h : ((T[k].toNat : Nat) : Int) = J) (W : World) : (Instr.index 9 (.string T) (.int .i64 k)).run Try.prog W = .ok (.int .u8 J) W := by
  rw [run_index_string W 9 T .i64 k Try.underlying9, dif_pos ⟨by omega, by omega⟩]
  simp only [Int.toNat_natCast]
  rw [h]

set_option maxHeartbeats 16000000 in
theorem torn_nat (w : World) (n : Nat) (keep J : Int) (s : ByteArray) (hn : n ≤ 255) (hkp : keep ≤ 9223372036854775807) (hJ : 0 ≤ J ∧ J ≤ 255) :
    Calls Try.prog 5 #[.int .u8 n, .int .i64 keep, .int .u8 J, .string s] w fun e w' => e = .returned (.bool true) ∧ Below w.heap.size w w' := by
  by_cases hs : s.size ≤ 256
  · have hs1 : ¬ (256 : Int) < (s.size : Int) := by omega
    have hwn : wrap64 (n : Int) = n := by unfold wrap64; omega
    have hwz : wrap64 (256 - (s.size : Int)) = 256 - (s.size : Int) := by unfold wrap64; omega
    obtain ⟨A, hA⟩ : ∃ A, A = n % 16 := ⟨_, rfl⟩
    have hA16 : A < 16 := by omega
    have hma : (n : Int) % 16 = (A : Int) := by omega
    have hwa : wrap64 ((A : Int) + 1) = (A : Int) + 1 := by unfold wrap64; omega
    have hxa : max ((A : Int) + 1) 0 = (A : Int) + 1 := by omega
    clear hA
    have HM := Lib.hid (fun W => run_make_row' (P := Try.prog) 35 5 (.int .u8 0) 1 Try.underlying35 info5 rfl .i64 .i64 (256 - s.size) (by omega) (by omega) W)
    rw [show ((256 - s.size : Nat) : Int) = 256 - (s.size : Int) by omega] at HM
    have HC := Lib.hid (fun W => zero_str W (256 - s.size))
    have HFZ := Lib.hid (fill_zero s)
    have HFS := Lib.hid (fillT_size hs)
    generalize strOfNums (List.replicate (256 - s.size) 0) = Z at *
    obtain ⟨K, hK⟩ : ∃ K : Nat, max keep 0 = (K : Int) := ⟨(max keep 0).toNat, by omega⟩
    have hKb : (0 : Int) ≤ (K : Int) ∧ (K : Int) ≤ 9223372036854775807 := by omega
    obtain ⟨M, hMd⟩ : ∃ M, M = min K 256 := ⟨_, rfl⟩
    have hM : min (K : Int) 256 = (M : Int) := by omega
    have hM6 : M ≤ 256 := by omega
    obtain ⟨T, hT⟩ : ∃ T, T = tornT (fillT s) M (UInt8.ofNat J.toNat) := ⟨_, rfl⟩
    have HTd : Hid (T = tornT (fillT s) (min (K : Int).toNat 256) (UInt8.ofNat J.toNat)) := by rw [hT, hMd]; rfl
    have HTS : Hid (T.size = 256) := by rw [hT]; exact tornT_size HFS.out hM6
    have HTX : Hid (T.extract 0 M = (s ++ Z).extract 0 M) := by rw [hT, ← HFZ.out]; exact torn_head _ _ _ HFS.out hM6
    have HIX : Hid (∀ k : Nat, M ≤ k → k < 256 → ∀ W : World, (Instr.index 9 (.string T) (.int .i64 k)).run Try.prog W = .ok (.int .u8 J) W) := by
      intro k h1 h2 W
      have hk : k < T.size := by rw [HTS.out]; exact h2
      refine torn_index T k J hk ?_ W
      subst hT
      rw [torn_tail _ _ _ HFS.out hM6 k h1 hk]
      show ((UInt8.ofNat J.toNat).toNat : Int) = J
      rw [UInt8.toNat_ofNat']
      omega
    have HSZ : Hid ((s ++ Z).size = 256) := by rw [← HFZ.out]; exact HFS.out
    clear hT hMd
    have HKB := Lib.hid hKb
    go_enter Try.func5, Try.ntmps5
    go_wp2_with fail
    refine (shown_any _).mono ?_
    rintro e w1 ⟨rfl, k1⟩
    have HO1 : Hid (Only (fun _ => False) w w1) := Only.of_below k1
    have HP := Lib.hid (newPower_wp w1)
    have HN := Lib.hid (new_on w w1 HO1.out 2 16 5 (.slice none 0 0) (fun _ => false) (by omega) (by omega) (by omega) (fun W _ k _ => contains_nil k W))
    generalize WP w1 = W0 at *
    go_wp2_with fail
    refine HP.out.mono ?_
    rintro e w2 ⟨rfl, rfl⟩
    go_wp2_with fail
    refine HN.out.mono ?_
    rintro e w3 ⟨gc, gl, pg, rfl, h0⟩
    have k3 := fuse_on h0 ((A : Int) + 1) keep J
    rw [hxa, hK] at k3
    have K3 := Lib.hid k3
    clear h0 k3 HN HP k1 HO1
    go_wp2_with fail
    refine K3.out.mono ?_
    rintro e w4 ⟨rfl, h4⟩
    have HS0 : Hid (∃ st, Tn st 0 ∧ On [] w w1.heap.size gc gl w1.heap.size pg st (qT A K J 0) w4) := by
      refine ⟨_, tn_new, ?_⟩
      have : (⟨p0.off, (A : Int) + 1, (K : Int), J⟩ : Pw) = qT A K J 0 := by
        show (⟨false, (A : Int) + 1, (K : Int), J⟩ : Pw) = ⟨false, (A : Int) + 1 - (0 : Nat), K, J⟩
        congr 1
      rw [← this]
      exact h4
    clear h4 K3
    go_wp2_with fail
    go_loopw [12] (fun i wr => ∃ k : Nat, k ≤ A ∧ i = .int .i64 k ∧ Hid (∃ st, Tn st k ∧ On [] w w1.heap.size gc gl w1.heap.size pg st (qT A K J k) wr)) (fun i _ => A - (intOf i).toNat)
    case atStart => exact ⟨0, by omega, rfl, HS0.out⟩
    case round =>
      obtain ⟨k, hk, rfl, hS⟩ := hrel
      clear HS0
      obtain ⟨st, g, hO⟩ := hS.out
      by_cases hlt : k < A
      · have hlt' : (k : Int) < (A : Int) := by omega
        have K5 := Lib.hid (torn_step hO g hlt hA16 HKB.out hJ)
        clear g hO
        go_wp2_with fail
        refine K5.out.mono ?_
        rintro e w5 ⟨rfl, h5⟩
        have H5 := Lib.hid h5
        clear h5
        go_wp2_with fail
        go_roundw
        case rel => exact ⟨k + 1, by omega, by go_num, H5.out⟩
        case measure => simp [intOf]; omega
      · obtain rfl : k = A := by omega
        have K5 := torn_last hO g hA16 HKB.out hJ s hs
        rw [← HTd.out] at K5
        have K5 := Lib.hid K5
        clear g hO
        go_wp2_with fail
        refine K5.out.mono ?_
        rintro e w5 ⟨rfl, st2, g, h5⟩
        have HG := Lib.hid g
        have K6 := Lib.hid (up_on h5)
        clear g h5 K5
        go_wp2_with fail
        refine K6.out.mono ?_
        rintro e w6 ⟨rfl, h6⟩
        have K7 := Lib.hid (torn_gone h6 HG.out HKB.out hJ s)
        clear h6 K6
        go_wp2_with fail
        refine K7.out.mono ?_
        rintro e w7 ⟨rfl, h7⟩
        have K8 := Lib.hid (torn_dark h7)
        clear h7 K7
        go_wp2_with fail
        refine K8.out.mono ?_
        rintro e w8 ⟨rfl, h8⟩
        have K9 := Lib.hid (torn_light h8)
        clear h8 K8
        go_wp2_with fail
        refine K9.out.mono ?_
        rintro e w9 ⟨rfl, h9⟩
        have K10 := Lib.hid (torn_read h9 HG.out)
        clear h9 K9
        go_wp2_with fail
        refine K10.out.mono ?_
        rintro e w10 ⟨rfl, h10⟩
        have K11 := Lib.hid (torn_none h10 HG.out)
        clear h10 K10
        go_wp2_with fail
        refine K11.out.mono ?_
        rintro e w11 ⟨rfl, h11⟩
        have HB : Hid (Only (fun _ => False) w w11) := Only.of_below h11.below
        clear h11 K11
        have hmk := HM.out
        have hcv := HC.out
        have hzl : s.size + Z.size ≤ 256 := by have := HSZ.out; rw [ByteArray.size_append] at this; omega
        go_wp2_with fail
        have hts := HTS.out
        have htx := HTX.out
        have hsz := HSZ.out
        have hm1 : (0 : Int) ≤ (M : Int) ∧ (M : Int) ≤ 256 := by omega
        go_quiet (fail)
        go_wp2_with fail
        go_loopw [24] (fun i wr => ∃ j : Nat, M ≤ j ∧ j ≤ 256 ∧ i = .int .i64 j ∧ Hid (Only (fun _ => False) w wr)) (fun i _ => 256 - (intOf i).toNat)
        case atStart => exact ⟨M, by omega, by omega, rfl, (HB.out.alloc _).drewN _⟩
        case round =>
          obtain ⟨j, hj1, hj2, rfl, ho⟩ := hrel
          by_cases hlt2 : j < 256
          · have hix := HIX.out j hj1 hlt2
            have hlt2' : (j : Int) < 256 := by omega
            go_wp2_with fail
            go_roundw
            case rel => exact ⟨j + 1, by omega, by omega, by go_num, ho.out⟩
            case measure => simp [intOf]; omega
          · obtain rfl : j = 256 := by omega
            go_wp2_with fail
            go_ret
            exact ⟨rfl, ho.out.below (fun _ h => h.elim)⟩
  · have hs1 : (256 : Int) < (s.size : Int) := by omega
    go_enter Try.func5, Try.ntmps5
    go_wp2_with fail
    refine (shown_any _).mono ?_
    rintro e w1 ⟨rfl, k1⟩
    have HF := Lib.hid k1
    clear k1
    go_wp2_with fail
    go_ret
    exact ⟨rfl, HF.out⟩

theorem nandTorn_walk (w : World) (n : Int) (hn : (Lit.int .u8 n).wf = true) (k : Int) (hk : (Lit.int .i64 k).wf = true) (J : Int) (hJ : (Lit.int .u8 J).wf = true) (s : ByteArray) (hs : s.size ≤ 140737488351232) :
    Calls Try.prog 5 #[.int .u8 n, .int .i64 k, .int .u8 J, .string s] w fun e w' => e = .returned (.bool true) ∧ Below w.heap.size w w' := by
  have h1 : 0 ≤ n ∧ n ≤ 255 := by
    simp [Lit.wf, IntKind.min, IntKind.max, IntKind.signed, IntKind.bits] at hn
    omega
  have h2 : 0 ≤ J ∧ J ≤ 255 := by
    simp [Lit.wf, IntKind.min, IntKind.max, IntKind.signed, IntKind.bits] at hJ
    omega
  have h3 : k ≤ 9223372036854775807 := by
    simp [Lit.wf, IntKind.min, IntKind.max, IntKind.signed, IntKind.bits] at hk
    omega
  obtain ⟨n, rfl⟩ := Int.eq_ofNat_of_zero_le h1.1
  exact torn_nat w n k J s (by omega) h3 h2
end Go.Proofs.Ytjnjnkkdpglfhaa
