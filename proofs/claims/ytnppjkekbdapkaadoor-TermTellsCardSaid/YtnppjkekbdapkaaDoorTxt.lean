/-
  Text; shown.
-/
import Derived.Test.YtnppjkekbdapkaaDoorWri
set_option linter.unusedVariables false
namespace Go.Proofs.YtnppjkekbdapkaaDoor
open Go.RowKit

theorem conv_OB {w : World} {B : Nat} {v : Value} {l : List UInt8} (h : OB w B v l) : (convert 46 9 v).run Tryd.prog w = .ok (.string ⟨l.toArray⟩) w := by
  have hcast : strOfNums (l.map fun c : UInt8 => (c.toNat : Int)) = ⟨l.toArray⟩ := by
    have e : ((fun n : Int => UInt8.ofNat n.toNat) ∘ fun c : UInt8 => (c.toNat : Int)) = id := by funext c; simp
    simp [strOfNums, e]
  rcases h.2 with ⟨rfl, h0⟩ | ⟨g, cap, cur, rfl, _⟩
  · obtain rfl : l = [] := List.eq_nil_of_length_eq_zero h0
    exact run_convert_bytes_nil w 46 5 Tryd.underlying46 Tryd.underlying5 0 0 9 Tryd.underlying9
  · rw [← hcast]
    refine run_convert_bytes_arg w 46 5 Tryd.underlying46 Tryd.underlying5 g 0 l.length cap _ (by simp) (fun i hi => ?_) 9 Tryd.underlying9
    have := h.cells (g := g) rfl i (.int .u8 l[i].toNat) (by simp [Lib.byteCells, hi])
    have ea : (⟨g, 0, none⟩ : Addr).add i = ⟨g, 0 + i, none⟩ := by unfold Addr.add; split <;> simp_all
    rw [ea] at this
    simpa [hi] using this
/-- What Text is. -/
def textB (l : List Nd) (i : Int) : List UInt8 := if sizeB l i = 0 ∨ 2000 < sizeB l i then [] else txN l i.toNat
theorem sizeB_no {l : List Nd} {i : Int} (h : placeB l i = false) : sizeB l i = 0 := by
  unfold sizeB
  rw [h]
  rfl
theorem sizeB_yes {l : List Nd} {i : Int} (h : placeB l i = true) : sizeB l i = szN l i.toNat := by
  unfold sizeB
  rw [h]
  rfl
theorem sizeB_pos {l : List Nd} {i : Int} (h : sizeB l i ≠ 0) : placeB l i = true := by
  cases hp : placeB l i
  · exact absurd (sizeB_no hp) h
  · rfl
set_option maxHeartbeats 4000000 in
theorem text_any (l : List Nd) (i : Int) (v : Value) (w : World) (hl : NL w v l) (hlen : l.length ≤ 1000000) (hi : wf64 i) (htab : Pow10 w) :
    Calls Tryd.prog 10 #[v, .int .i64 i] w fun e w' => e = .returned (.string ⟨(textB l i).toArray⟩) ∧ Only (fun _ => False) w w' := by
  have HL := Lib.hid hl
  have HT := Lib.hid htab
  have HS := Lib.hid (size_any l i v w hl hlen hi htab)
  obtain ⟨ad, cap, rfl, hrow⟩ := hl
  clear hrow htab
  rw [wf64_iff] at hi
  by_cases h0 : sizeB l i = 0
  · have HE : Hid (textB l i = []) := show _ = _ from if_pos (.inl h0)
    rw [HE.out]
    rw [h0] at HS
    clear h0
    go_enter Tryd.func10, Tryd.ntmps10
    go_wp2_with (go_at_call 9; refine HS.out.mono ?_; rintro e w1 ⟨rfl, k1⟩)
    go_ret
    exact ⟨rfl, k1⟩
  · have hp := sizeB_pos h0
    obtain ⟨i0, i1, hm⟩ := placeB_yes hp
    obtain ⟨I, rfl⟩ := Int.eq_ofNat_of_zero_le i0
    have hI : I < l.length := by omega
    have hsz := sizeB_yes hp
    rw [Int.toNat_natCast] at hsz
    obtain ⟨hst, hst2⟩ := sz_tx hm I hI
    by_cases h1 : 2000 < sizeB l (I : Int)
    · have HE : Hid (textB l (I : Int) = []) := show _ = _ from if_pos (.inr h1)
      rw [HE.out]
      obtain ⟨n, hn⟩ : ∃ n, sizeB l (I : Int) = n := ⟨_, rfl⟩
      rw [hn] at HS h0 h1
      clear hsz hst hst2 hm hn HE hp
      have hb : (n == 0) = false := by rw [beq_eq_false_iff_ne]; exact h0
      go_enter Tryd.func10, Tryd.ntmps10
      go_wp2_with (go_at_call 9; refine HS.out.mono ?_; rintro e w1 ⟨rfl, k1⟩)
      go_ret
      exact ⟨rfl, k1⟩
    · have HE : Hid (textB l (I : Int) = txN l I) := show _ = _ from if_neg (fun h => h.elim h0 h1)
      rw [HE.out]
      obtain ⟨n, hn⟩ : ∃ n, sizeB l (I : Int) = n := ⟨_, rfl⟩
      have HTL : Hid ((txN l I).length ≤ 2000) := by
        show _ ≤ _
        omega
      rw [hn] at HS h0 h1
      have HMB := Lib.hid hm
      have hI' : (I : Int) < (l.length : Int) := i1
      clear hsz hst hst2 hm hn HE hp i1
      have hb : (n == 0) = false := by rw [beq_eq_false_iff_ne]; exact h0
      go_enter Tryd.func10, Tryd.ntmps10
      go_wp2_with (first | (go_at_call 9; (with_reducible refine HS.out.mono ?_); rintro e w1 ⟨rfl, k1⟩; have HWR := Lib.hid (written_any l _ w1 (HL.out.keep k1) HMB.out (HT.out.keep k1) I hI w1 (.slice none 0 0) [] (Below.refl _ _) (World.ownsRow_nil _ _ _ _) (by have := HTL.out; simp; omega))) | (go_at_call 25; (with_reducible refine HWR.out.mono ?_); rintro e w2 ⟨v2, rfl, k2, k3, k4⟩; have hcv := conv_OB k2; rw [List.nil_append] at hcv))
      go_ret
      exact ⟨rfl, k1.trans (Only.of_below k3)⟩

def shL : List Nd := [⟨1, 1, 0⟩, ⟨0, 2, 0⟩, ⟨3, 0, 1⟩]
theorem sh_may : mayB shL = true := by decide
theorem sh_tx : txN shL 2 = [123, 97, 50, 125, 107, 49] := by
  have h1 : Lib.itoa 1 = [49] := by rw [itoa_dec (by omega)]; exact Lib.decDigits_one (by decide)
  have h2 : Lib.itoa 2 = [50] := by rw [itoa_dec (by omega)]; exact Lib.decDigits_one (by decide)
  simp [txN, valN, foldN, shL, gtx, h1, h2]
theorem sh_text : textB shL 2 = [123, 97, 50, 125, 107, 49] := by
  have hp : placeB shL 2 = true := by decide
  have hs := sizeB_yes hp
  have hst := (sz_tx sh_may 2 (by decide)).1
  rw [sh_tx] at hst
  have h6 : sizeB shL 2 = 6 := by
    rw [hs]
    exact hst
  unfold textB
  rw [h6, if_neg (by omega)]
  exact sh_tx
theorem build_n3 (x y z : Nd) (w : World) : (Instr.buildSlice 22 3 #[(0, .agg (ndA x)), (1, .agg (ndA y)), (2, .agg (ndA z))]).run Tryd.prog w = .ok (.slice (some ⟨w.heap.size, 0, none⟩) 3 3) (w.alloc (.cells (flat [x, y, z]).toArray 27)) := by
  obtain ⟨ie, hie, hz, hs, hb⟩ := info_parts (show (Tryd.prog.info? 27).map (fun i => (i.zero, i.size, i.bytes)) = some (some (.agg #[.int .i64 0, .int .i64 0, .int .i64 0]), 3, 24) by kernel_rfl)
  refine run_buildSlice w 22 27 3 _ _ ie _ Tryd.underlying22 hie hz (by omega) (by omega) ?_
  rw [hs]
  kernel_rfl
theorem b34a (x y : Int) (w : World) : (Instr.build 27 #[(0, .int .i64 x), (1, .int .i64 y)]).run Tryd.prog w = .ok (.agg #[.int .i64 x, .int .i64 y, .int .i64 0]) w := run_build w 27 _ _ (by kernel_rfl)
theorem b34b (x y z : Int) (w : World) : (Instr.build 27 #[(0, .int .i64 x), (1, .int .i64 y), (2, .int .i64 z)]).run Tryd.prog w = .ok (.agg #[.int .i64 x, .int .i64 y, .int .i64 z]) w := run_build w 27 _ _ (by kernel_rfl)
set_option maxHeartbeats 4000000 in
theorem shown_any (w : World) (htab : Pow10 w) : Calls Tryd.prog 8 #[] w fun e w' => e = .returned (.bool true) ∧ Only (fun _ => False) w w' := by
  have HT := Lib.hid htab
  clear htab
  have HB : Hid ((Instr.buildSlice 22 3 #[(0, .agg #[.int .i64 1, .int .i64 1, .int .i64 0]), (1, .agg #[.int .i64 0, .int .i64 2, .int .i64 0]), (2, .agg #[.int .i64 3, .int .i64 0, .int .i64 1])]).run Tryd.prog w = .ok (.slice (some ⟨w.heap.size, 0, none⟩) 3 3) (w.alloc (.cells #[.int .i64 1, .int .i64 1, .int .i64 0, .int .i64 0, .int .i64 2, .int .i64 0, .int .i64 3, .int .i64 0, .int .i64 1] 27))) := build_n3 ⟨1, 1, 0⟩ ⟨0, 2, 0⟩ ⟨3, 0, 1⟩ w
  obtain ⟨V, hV⟩ : ∃ V, V = w.alloc (.cells #[.int .i64 1, .int .i64 1, .int .i64 0, .int .i64 0, .int .i64 2, .int .i64 0, .int .i64 3, .int .i64 0, .int .i64 1] 27) := ⟨_, rfl⟩
  have HVO : Hid (Only (fun _ => False) w V) := by rw [hV]; exact (Only.refl _ _).alloc _
  have HNL : Hid (NL V (.slice (some ⟨w.heap.size, 0, none⟩) 3 3) shL) := by
    rw [hV]
    exact NL.of_row (l := shL) (cap := 3) (heap_alloc_new _ _) (by decide) (by unfold maxLen; omega) (fun i u h => by rw [← h]; simp [flat, shL, ndL])
  have HMY : Hid (Calls Tryd.prog 7 #[.slice (some ⟨w.heap.size, 0, none⟩) 3 3] V fun e w' => e = .returned (.bool true) ∧ Below V.heap.size V w') := by
    have := may_any shL _ V HNL.out (by decide)
    rw [sh_may] at this
    exact this
  have HTX : Hid (∀ W, Only (fun _ => False) V W → Calls Tryd.prog 10 #[.slice (some ⟨w.heap.size, 0, none⟩) 3 3, .int .i64 2] W fun e w' => e = .returned (.string ⟨#[123, 97, 50, 125, 107, 49]⟩) ∧ Only (fun _ => False) W w') := fun W o => by
    have := text_any shL 2 _ W (HNL.out.keep o) (by decide) (by rw [wf64_iff]; omega) (HT.out.keep (HVO.out.trans o))
    rw [sh_text] at this
    exact this
  have HD1 := Lib.hid (b34a 1 1 w)
  have HD2 := Lib.hid (b34a 0 2 w)
  have HD3 := Lib.hid (b34b 3 0 1 w)
  go_enter Tryd.func8, Tryd.ntmps8
  have HV := Lib.hid hV
  clear hV
  go_upto_region 1 with fail
  go_step
  refine wpList_build_at rfl 27 _ rfl [(0, .int .i64 1), (1, .int .i64 1)] rfl _ HD1.out ?_
  refine wpList_build_at rfl 27 _ rfl [(0, .int .i64 0), (1, .int .i64 2)] rfl _ HD2.out ?_
  refine wpList_build_at rfl 27 _ rfl [(0, .int .i64 3), (1, .int .i64 0), (2, .int .i64 1)] rfl _ HD3.out ?_
  refine wpList_bs_at rfl 22 3 _ rfl [(0, .agg #[.int .i64 1, .int .i64 1, .int .i64 0]), (1, .agg #[.int .i64 0, .int .i64 2, .int .i64 0]), (2, .agg #[.int .i64 3, .int .i64 0, .int .i64 1])] rfl _ HB.out ?_
  rw [← HV.out]
  go_wp2_with (first | (go_at_call 7; (with_reducible refine HMY.out.mono ?_); rintro e w1 ⟨rfl, h1⟩; have HTX' := Lib.hid (HTX.out w1 (Only.of_below h1))) | (go_at_call 10; (with_reducible refine HTX'.out.mono ?_); rintro e w2 ⟨rfl, h2⟩))
  go_ret
  exact ⟨rfl, HVO.out.trans ((Only.of_below h1 : Only (fun _ => False) V w1).trans h2)⟩
end Go.Proofs.YtnppjkekbdapkaaDoor
