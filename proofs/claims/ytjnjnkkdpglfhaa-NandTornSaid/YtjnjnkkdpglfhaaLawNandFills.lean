/-
  NandFills: the walk.
-/
import Derived.Test.YtjnjnkkdpglfhaaLawNandArgs
set_option linter.unusedVariables false
namespace Go.Proofs.Ytjnjnkkdpglfhaa
open Go.RowKit

theorem fill_zero (s : ByteArray) : fillT s = s ++ strOfNums (List.replicate (256 - s.size) 0) := by
  rw [fillT]
  congr 1
  apply ByteArray.ext
  show (Lib.repeatL [0] (256 - s.size)).toArray = (strOfNums (List.replicate (256 - s.size) 0)).data
  have h : ∀ n, (Lib.repeatL [(0 : UInt8)] n).toArray = (strOfNums (List.replicate n 0)).data := by
    intro n
    have h1 : Lib.repeatL [(0 : UInt8)] n = List.replicate n 0 := by
      have := Lib.repeatL_replicate 0 1 n
      simpa using this
    rw [h1]
    simp [strOfNums]
  exact h _

/-- A chip, all is empty, and programmed once. -/
def fl0 : Cp := newCp 3 5 1 (fun _ => false)
theorem fl_ok (a b : Nat) (s : ByteArray) (ha : a < 3) (hb : b < 5) (hs : s.size ≤ 256) : fl0.prE p0 a b s = 0 ∧ fl0.prS p0 a b s = fl0.prg a b (fillT s) ∧ fl0.prP p0 a b s = p0 := by
  have hh : hasB 3 5 (a : Int) (b : Int) = true := by simp [hasB]; omega
  have hf : fl0.fits p0 a b s = true := by
    unfold Cp.fits
    rw [show hasB fl0.segs fl0.pages (a : Int) (b : Int) = true from hh, decide_eq_true hs]
    rfl
  refine ⟨?_, ?_, ?_⟩
  · rw [Cp.prE, if_neg (by decide), if_neg (by rw [show hasB fl0.segs fl0.pages (a : Int) (b : Int) = true from hh]; simp; omega)]
    rfl
  · rw [Cp.prS, hf, if_pos rfl]
    rfl
  · rw [Cp.prP, hf, if_pos rfl]
    rfl
theorem fl_read (a b i j : Nat) (s : ByteArray) (hi : i < 3) (hj : j < 5) : (fl0.prg a b s).rdE p0 i j = 0 ∧ (fl0.prg a b s).rdO p0 i j = if i = a ∧ j = b then some s else none := by
  have hh : hasB 3 5 (i : Int) (j : Int) = true := by simp [hasB]; omega
  refine ⟨?_, ?_⟩
  · rw [Cp.rdE, if_neg (by decide)]
    exact if_pos hh
  · rw [Cp.rdO, if_neg (by decide)]
    exact (if_pos hh).trans rfl

set_option maxHeartbeats 16000000 in
theorem fills_nat (w : World) (sg pz : Nat) (s : ByteArray) (h1 : sg ≤ 255) (h2 : pz ≤ 255) :
    Calls Try.prog 6 #[.int .u8 sg, .int .u8 pz, .string s] w fun e w' => e = .returned (.bool true) ∧ Below w.heap.size w w' := by
  by_cases hs : s.size ≤ 256
  · have hs1 : ¬ (256 : Int) < (s.size : Int) := by omega
    have hwg : wrap64 (sg : Int) = sg := by unfold wrap64; omega
    have hwp : wrap64 (pz : Int) = pz := by unfold wrap64; omega
    have hwz : wrap64 (256 - (s.size : Int)) = 256 - (s.size : Int) := by unfold wrap64; omega
    obtain ⟨a, ha⟩ : ∃ a, a = sg % 3 := ⟨_, rfl⟩
    obtain ⟨b, hb⟩ : ∃ b, b = pz % 5 := ⟨_, rfl⟩
    have ha3 : a < 3 := by omega
    have hb5 : b < 5 := by omega
    have hma : (sg : Int) % 3 = (a : Int) := by omega
    have hmb : (pz : Int) % 5 = (b : Int) := by omega
    clear ha hb
    have HM := Lib.hid (fun W => run_make_row' (P := Try.prog) 35 5 (.int .u8 0) 1 Try.underlying35 info5 rfl .i64 .i64 (256 - s.size) (by omega) (by omega) W)
    rw [show ((256 - s.size : Nat) : Int) = 256 - (s.size : Int) by omega] at HM
    have HC := Lib.hid (fun W => zero_str W (256 - s.size))
    have HF := Lib.hid (fill_zero s)
    have HZ : Hid ((s ++ strOfNums (List.replicate (256 - s.size) 0)).size = 256) := by
      rw [← fill_zero]; exact fillT_size hs
    generalize strOfNums (List.replicate (256 - s.size) 0) = Z at *
    have HOK := fl_ok a b s ha3 hb5 hs
    rw [HF.out] at HOK
    have HRD := fun i j hi hj => fl_read a b i j (s ++ Z) hi hj
    have HR := Lib.hid HRD
    have HK := Lib.hid HOK
    have HL : Hid ((fl0.prg a b (s ++ Z)).past = [s ++ Z]) := rfl
    clear HRD HOK HF
    generalize fl0.prg a b (s ++ Z) = st1 at *
    go_enter Try.func6, Try.ntmps6
    go_wp2_with fail
    refine (shown_any _).mono ?_
    rintro e w1 ⟨rfl, k1⟩
    have HO1 : Hid (Only (fun _ => False) w w1) := Only.of_below k1
    have HP := Lib.hid (newPower_wp w1)
    have HN := Lib.hid (new_on w w1 HO1.out 3 5 1 (.slice none 0 0) (fun _ => false) (by omega) (by omega) (by omega) (fun W _ k _ => contains_nil k W))
    generalize WP w1 = W0 at *
    go_wp2_with fail
    refine HP.out.mono ?_
    rintro e w2 ⟨rfl, rfl⟩
    go_wp2_with fail
    refine HN.out.mono ?_
    rintro e w3 ⟨gc, gl, pg, rfl, h0⟩
    have k3 := program_on h0 a b s p0_in (by decide) ⟨by decide, by decide⟩
    rw [show newCp 3 5 1 (fun _ => false) = fl0 from rfl, HK.out.1, HK.out.2.1, HK.out.2.2] at k3
    have K3 := Lib.hid k3
    clear h0 k3 HN HP k1 HO1
    go_wp2_with fail
    refine K3.out.mono ?_
    rintro e w4 ⟨rfl, h4⟩
    have HS0 := Lib.hid h4
    clear h4 K3 HK
    go_wp2_with fail
    go_loopw [10] (fun i wr => ∃ k : Nat, k ≤ 3 ∧ i = .int .i64 k ∧ Hid (On [] w w1.heap.size gc gl w1.heap.size pg st1 p0 wr)) (fun i _ => 3 - (intOf i).toNat)
    case atStart => exact ⟨0, by omega, rfl, HS0.out⟩
    case round =>
      obtain ⟨k, hk, rfl, hS⟩ := hrel
      clear HS0
      by_cases hlt : k < 3
      · have hlt' : (k : Int) < 3 := by omega
        go_wp2_with fail
        go_loopw [11] (fun i wr => ∃ j : Nat, j ≤ 5 ∧ i = .int .i64 j ∧ Hid (On [] w w1.heap.size gc gl w1.heap.size pg st1 p0 wr)) (fun i _ => 5 - (intOf i).toNat)
        case atStart => exact ⟨0, by omega, rfl, hS.out⟩
        case round =>
          obtain ⟨j, hj, rfl, hT⟩ := hrel
          clear hS
          by_cases hlt2 : j < 5
          · have hlt2' : (j : Int) < 5 := by omega
            have k5 := read_on hT.out k j
            rw [(HR.out k j hlt hlt2).1, (HR.out k j hlt hlt2).2] at k5
            have hmk := HM.out
            have hcv := HC.out
            by_cases e1 : k = a
            · by_cases e2 : j = b
              · rw [if_pos ⟨e1, e2⟩] at k5
                have K5 := Lib.hid k5
                have hzl : s.size + Z.size ≤ 256 := by have := HZ.out; rw [ByteArray.size_append] at this; omega
                have d1 : ((k : Int) == (a : Int)) = true := by rw [beq_iff_eq]; omega
                have d2 : ((j : Int) == (b : Int)) = true := by rw [beq_iff_eq]; omega
                clear k5 e1 e2
                go_wp2_with fail
                refine K5.out.mono ?_
                rintro e w5 ⟨rfl, h5⟩
                have H5 := Lib.hid h5
                clear h5
                go_wp2_with fail
                go_roundw
                case rel => exact ⟨j + 1, by omega, by go_num, H5.out.on ((Only.refl _ _).alloc _)⟩
                case measure => simp [intOf]; omega
              · rw [if_neg (fun h => e2 h.2)] at k5
                have K5 := Lib.hid k5
                have d1 : ((k : Int) == (a : Int)) = true := by rw [beq_iff_eq]; omega
                have d2 : ((j : Int) == (b : Int)) = false := by rw [beq_eq_false_iff_ne]; omega
                clear k5 e1 e2
                go_wp2_with fail
                refine K5.out.mono ?_
                rintro e w5 ⟨rfl, h5⟩
                have H5 := Lib.hid h5
                clear h5
                go_wp2_with fail
                go_roundw
                case rel => exact ⟨j + 1, by omega, by go_num, H5.out⟩
                case measure => simp [intOf]; omega
            · rw [if_neg (fun h => e1 h.1)] at k5
              have K5 := Lib.hid k5
              have d1 : ((k : Int) == (a : Int)) = false := by rw [beq_eq_false_iff_ne]; omega
              clear k5 e1
              go_wp2_with fail
              refine K5.out.mono ?_
              rintro e w5 ⟨rfl, h5⟩
              have H5 := Lib.hid h5
              clear h5
              go_wp2_with fail
              go_roundw
              case rel => exact ⟨j + 1, by omega, by go_num, H5.out⟩
              case measure => simp [intOf]; omega
          · obtain rfl : j = 5 := by omega
            go_wp2_with fail
            go_roundw
            case rel => exact ⟨k + 1, by omega, by go_num, hT.out⟩
            case measure => simp [intOf]; omega
      · obtain rfl : k = 3 := by omega
        have K6 := Lib.hid (history_on hS.out (by rw [HL.out]; exact (by decide : (1 : Nat) ≤ 1000000)))
        go_wp2_with fail
        refine K6.out.mono ?_
        rintro e w6 ⟨v, rfl, h6, h7⟩
        rw [HL.out] at h6
        have HB := Lib.hid h7.below
        have hsz := HZ.out
        obtain ⟨_, ⟨_, h0⟩ | ⟨g, cap, cur, rfl, _, hg, _, _, _, ht⟩⟩ := h6
        · cases h0
        · have hcell : w6.cell? ⟨g, 0, none⟩ = some (.string (s ++ Z)) := by
            rw [cell_of_row w6 g _ _ _ _ hg]
            have e1 : (([s ++ Z] : List ByteArray).map Value.string)[0]? = some (.string (s ++ Z)) := rfl
            rw [← ht, List.getElem?_take] at e1
            simpa using e1
          clear hg ht h7 K6
          go_wp2_with fail
          go_ret
          exact ⟨rfl, HB.out⟩
  · have hs1 : (256 : Int) < (s.size : Int) := by omega
    go_enter Try.func6, Try.ntmps6
    go_wp2_with fail
    refine (shown_any _).mono ?_
    rintro e w1 ⟨rfl, k1⟩
    have HF := Lib.hid k1
    clear k1
    go_wp2_with fail
    go_ret
    exact ⟨rfl, HF.out⟩

theorem nandFills_walk (w : World) (a : Int) (ha : (Lit.int .u8 a).wf = true) (b : Int) (hb : (Lit.int .u8 b).wf = true) (s : ByteArray) (hs : s.size ≤ 140737488351232) :
    Calls Try.prog 6 #[.int .u8 a, .int .u8 b, .string s] w fun e w' => e = .returned (.bool true) ∧ Below w.heap.size w w' := by
  have h1 : 0 ≤ a ∧ a ≤ 255 := by
    simp [Lit.wf, IntKind.min, IntKind.max, IntKind.signed, IntKind.bits] at ha
    omega
  have h2 : 0 ≤ b ∧ b ≤ 255 := by
    simp [Lit.wf, IntKind.min, IntKind.max, IntKind.signed, IntKind.bits] at hb
    omega
  obtain ⟨a, rfl⟩ := Int.eq_ofNat_of_zero_le h1.1
  obtain ⟨b, rfl⟩ := Int.eq_ofNat_of_zero_le h2.1
  exact fills_nat w a b s (by omega) (by omega)
end Go.Proofs.Ytjnjnkkdpglfhaa
