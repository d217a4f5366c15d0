/-
  The reference's May.
-/
import Derived.Test.YtbmckmlekhkpeaaRem
set_option linter.unusedVariables false
namespace Go.Proofs.Ytbmckmlekhkpeaa
open Go.RowKit

set_option maxRecDepth 100000 in
set_option maxHeartbeats 8000000 in
theorem rmay_any (n : Nd) (w : World) (h : n.Ok) :
    Calls Try.prog 17 #[.agg (ndA n)] w fun e w' => e = .returned (.bool (mayN n)) ∧ Below w.heap.size w w' := by
  have hg : (w.alloc (.cells (ndA n) 37)).heap[w.heap.size]? = some (.cells (ndA n) 37 (0, 0)) := heap_alloc_new w _
  have HG := Lib.hid hg
  have HB : Hid (Only (fun _ => False) w (w.alloc (.cells (ndA n) 37))) := (Only.refl _ w).alloc _
  have HLF := Lib.hid (nd_leaf n)
  have HOK := Lib.hid h
  have HLD := Lib.hid (fun (i : Nat) (hi : i < 4) (W : World) (hW : W.heap[w.heap.size]? = some (.cells (ndA n) 37 (0, 0))) => load34c h hi hW)
  have HMT := Lib.hid (fun hp => all_of h (mayC n.leaf) hp)
  have HMF := Lib.hid (fun j hj hp => all_not h (mayC n.leaf) j hj hp)
  have HR : Hid (n.cs.all (mayC n.leaf) = mayN n) := rfl
  generalize mayN n = R at *
  clear hg h
  generalize ndA n = A at *
  go_enter Try.func17, Try.ntmps17
  go_wp2_with fail
  go_loopw [3] (fun i wr => ∃ k : Nat, k ≤ 4 ∧ i = .int .i64 k ∧ Hid (wr.heap[w.heap.size]? = some (.cells A 37 (0, 0))) ∧ Hid (Only (fun _ => False) w wr) ∧ Hid (∀ j, j < k → mayC n.leaf (n.get j) = true)) (fun i _ => 4 - (intOf i).toNat)
  case atStart => exact ⟨0, by omega, rfl, HG.out, HB.out, fun j hj => by omega⟩
  case round =>
    obtain ⟨k, hk, rfl, hg, ho, hm⟩ := hrel
    by_cases hlt : k < 4
    · have HX := Lib.hid (HLD.out k hlt wr hg.out)
      obtain ⟨W2, hst, hw2, o2, hs2⟩ := fresh_at wr 34 21 (chA chZ) (chA (n.get k)) info34s rfl (chA_size (HOK.out.get_ok k)) (chA_one _)
      rw [chZ_is] at hst
      have hok := HOK.out.get_ok k
      have HST := Lib.hid hst
      have HLC := Lib.hid (load34 (chA_size hok) hw2)
      have g2 := o2.row hg.out (fun x => x)
      have c0 := (cell_of_row _ _ 0 _ _ _ g2).trans HLF.out
      have d0 := (cell_of_row _ _ 0 _ _ _ hw2).trans (ch_has _)
      have d1 := (cell_of_row _ _ 1 _ _ _ hw2).trans (ch_seg _)
      have d2 := (cell_of_row _ _ 2 _ _ _ hw2).trans (ch_page _)
      have d3 := (cell_of_row _ _ 19 _ _ _ hw2).trans (ch_ex hok)
      have d4 := (cell_of_row _ _ 20 _ _ _ hw2).trans (ch_ver hok)
      have hq := ch_eq34 9996 hok chZ_ok W2
      rw [chZ_is] at hq
      have HQ := Lib.hid hq
      have G2 := Lib.hid g2
      have O2 := Lib.hid (ho.out.trans o2)
      have HBF := Lib.hid (HMF.out k hlt)
      have HMC : Hid (mayC n.leaf (n.get k) = if (n.get k).has = false then (n.get k).eqv chZ else decide (0 ≤ (n.get k).seg ∧ (n.get k).seg < 64 ∧ 0 ≤ (n.get k).page ∧ (n.get k).page < 16) && (n.leaf || ((n.get k).ex == 0 && (n.get k).ver == 0))) := rfl
      clear hst hw2 o2 hs2 g2 hq hok
      have HNX : Hid (mayC n.leaf (n.get k) = true → ∀ j, j < k + 1 → mayC n.leaf (n.get j) = true) := fun h j hj => by
        by_cases hjk : j = k
        · subst hjk; exact h
        · exact hm.out j (by omega)
      have HZ : Hid ((n.get k).eqv chZ = true → (n.get k).seg = 0 ∧ (n.get k).page = 0 ∧ (n.get k).ex = 0 ∧ (n.get k).ver = 0) := fun h => by rw [Ch.eqv_iff.1 h]; exact ⟨rfl, rfl, rfl, rfl⟩
      generalize mayC n.leaf (n.get k) = m at HMC HBF HNX
      generalize n.leaf = leaf at *
      generalize chA (n.get k) = K at *
      generalize (n.get k).eqv chZ = q at *
      generalize (n.get k).has = has at *
      generalize (n.get k).seg = sg at *
      generalize (n.get k).page = pg at *
      generalize (n.get k).ex = ex at *
      generalize (n.get k).ver = ver at *
      cases has
      · cases q
        · have HF := Lib.hid (HBF.out (HMC.out.trans (if_pos rfl)))
          go_wp2_with (first | ((with_reducible refine wpList_load_at ?_ 34 (.tmp 11) ?_ _ ?_ _ HX.out ?_); rfl; rfl; rfl) | ((with_reducible refine wpList_store_at ?_ 34 (.tmp 4) (.tmp 12) ?_ _ ?_ _ ?_ HST.out ?_); rfl; rfl; rfl; rfl) | ((with_reducible refine wpList_load_w ?_ 34 (.tmp 4) ?_ _ ?_ _ HLC.out ?_); rfl; rfl; rfl) | ((with_reducible refine wpList_neq_w ?_ 34 (.tmp 17) (.tmp 18) 34 _ _ _ ?_ ?_ ?_ ?_ HQ.out ?_); rfl; rfl; rfl; rfl; kernel_rfl))
          go_ret
          exact ⟨by rw [← HR.out, HF.out]; rfl, O2.out.below0⟩
        · obtain ⟨rfl, rfl, rfl, rfl⟩ := HZ.out rfl
          cases leaf
          · have HN := Lib.hid (HNX.out (HMC.out.trans (if_pos rfl)))
            go_wp2_with (first | ((with_reducible refine wpList_load_at ?_ 34 (.tmp 11) ?_ _ ?_ _ HX.out ?_); rfl; rfl; rfl) | ((with_reducible refine wpList_store_at ?_ 34 (.tmp 4) (.tmp 12) ?_ _ ?_ _ ?_ HST.out ?_); rfl; rfl; rfl; rfl) | ((with_reducible refine wpList_load_w ?_ 34 (.tmp 4) ?_ _ ?_ _ HLC.out ?_); rfl; rfl; rfl) | ((with_reducible refine wpList_neq_w ?_ 34 (.tmp 17) (.tmp 18) 34 _ _ _ ?_ ?_ ?_ ?_ HQ.out ?_); rfl; rfl; rfl; rfl; kernel_rfl))
            go_roundw
            case rel => exact ⟨k + 1, by omega, by go_num, G2.out, O2.out, HN.out⟩
            case measure => simp [intOf]; omega
          · have HN := Lib.hid (HNX.out (HMC.out.trans (if_pos rfl)))
            go_wp2_with (first | ((with_reducible refine wpList_load_at ?_ 34 (.tmp 11) ?_ _ ?_ _ HX.out ?_); rfl; rfl; rfl) | ((with_reducible refine wpList_store_at ?_ 34 (.tmp 4) (.tmp 12) ?_ _ ?_ _ ?_ HST.out ?_); rfl; rfl; rfl; rfl) | ((with_reducible refine wpList_load_w ?_ 34 (.tmp 4) ?_ _ ?_ _ HLC.out ?_); rfl; rfl; rfl) | ((with_reducible refine wpList_neq_w ?_ 34 (.tmp 17) (.tmp 18) 34 _ _ _ ?_ ?_ ?_ ?_ HQ.out ?_); rfl; rfl; rfl; rfl; kernel_rfl))
            go_roundw
            case rel => exact ⟨k + 1, by omega, by go_num, G2.out, O2.out, HN.out⟩
            case measure => simp [intOf]; omega
      · have HM2 : Hid (m = (decide (0 ≤ sg ∧ sg < 64 ∧ 0 ≤ pg ∧ pg < 16) && (leaf || (ex == 0 && ver == 0)))) := HMC.out.trans (if_neg (by simp))
        by_cases s1 : sg < 0
        · have b0 : decide (sg < 0) = true := decide_eq_true s1
          have HV := Lib.hid (show (decide (0 ≤ sg ∧ sg < 64 ∧ 0 ≤ pg ∧ pg < 16) && (leaf || (ex == 0 && ver == 0))) = false by rw [decide_eq_false (by omega)]; rfl)
          have HF := Lib.hid (HBF.out (HM2.out.trans HV.out))
          go_wp2_with (first | ((with_reducible refine wpList_load_at ?_ 34 (.tmp 11) ?_ _ ?_ _ HX.out ?_); rfl; rfl; rfl) | ((with_reducible refine wpList_store_at ?_ 34 (.tmp 4) (.tmp 12) ?_ _ ?_ _ ?_ HST.out ?_); rfl; rfl; rfl; rfl) | ((with_reducible refine wpList_load_w ?_ 34 (.tmp 4) ?_ _ ?_ _ HLC.out ?_); rfl; rfl; rfl) | ((with_reducible refine wpList_neq_w ?_ 34 (.tmp 17) (.tmp 18) 34 _ _ _ ?_ ?_ ?_ ?_ HQ.out ?_); rfl; rfl; rfl; rfl; kernel_rfl))
          go_ret
          exact ⟨by rw [← HR.out, HF.out]; rfl, O2.out.below0⟩
        · have b0 : decide (sg < 0) = false := decide_eq_false s1
          by_cases s2 : 63 < sg
          · have b1 : decide (63 < sg) = true := decide_eq_true s2
            have HV := Lib.hid (show (decide (0 ≤ sg ∧ sg < 64 ∧ 0 ≤ pg ∧ pg < 16) && (leaf || (ex == 0 && ver == 0))) = false by rw [decide_eq_false (by omega)]; rfl)
            have HF := Lib.hid (HBF.out (HM2.out.trans HV.out))
            go_wp2_with (first | ((with_reducible refine wpList_load_at ?_ 34 (.tmp 11) ?_ _ ?_ _ HX.out ?_); rfl; rfl; rfl) | ((with_reducible refine wpList_store_at ?_ 34 (.tmp 4) (.tmp 12) ?_ _ ?_ _ ?_ HST.out ?_); rfl; rfl; rfl; rfl) | ((with_reducible refine wpList_load_w ?_ 34 (.tmp 4) ?_ _ ?_ _ HLC.out ?_); rfl; rfl; rfl) | ((with_reducible refine wpList_neq_w ?_ 34 (.tmp 17) (.tmp 18) 34 _ _ _ ?_ ?_ ?_ ?_ HQ.out ?_); rfl; rfl; rfl; rfl; kernel_rfl))
            go_ret
            exact ⟨by rw [← HR.out, HF.out]; rfl, O2.out.below0⟩
          · have b1 : decide (63 < sg) = false := decide_eq_false s2
            by_cases s3 : pg < 0
            · have b2 : decide (pg < 0) = true := decide_eq_true s3
              have HV := Lib.hid (show (decide (0 ≤ sg ∧ sg < 64 ∧ 0 ≤ pg ∧ pg < 16) && (leaf || (ex == 0 && ver == 0))) = false by rw [decide_eq_false (by omega)]; rfl)
              have HF := Lib.hid (HBF.out (HM2.out.trans HV.out))
              go_wp2_with (first | ((with_reducible refine wpList_load_at ?_ 34 (.tmp 11) ?_ _ ?_ _ HX.out ?_); rfl; rfl; rfl) | ((with_reducible refine wpList_store_at ?_ 34 (.tmp 4) (.tmp 12) ?_ _ ?_ _ ?_ HST.out ?_); rfl; rfl; rfl; rfl) | ((with_reducible refine wpList_load_w ?_ 34 (.tmp 4) ?_ _ ?_ _ HLC.out ?_); rfl; rfl; rfl) | ((with_reducible refine wpList_neq_w ?_ 34 (.tmp 17) (.tmp 18) 34 _ _ _ ?_ ?_ ?_ ?_ HQ.out ?_); rfl; rfl; rfl; rfl; kernel_rfl))
              go_ret
              exact ⟨by rw [← HR.out, HF.out]; rfl, O2.out.below0⟩
            · have b2 : decide (pg < 0) = false := decide_eq_false s3
              by_cases s4 : 15 < pg
              · have b3 : decide (15 < pg) = true := decide_eq_true s4
                have HV := Lib.hid (show (decide (0 ≤ sg ∧ sg < 64 ∧ 0 ≤ pg ∧ pg < 16) && (leaf || (ex == 0 && ver == 0))) = false by rw [decide_eq_false (by omega)]; rfl)
                have HF := Lib.hid (HBF.out (HM2.out.trans HV.out))
                go_wp2_with (first | ((with_reducible refine wpList_load_at ?_ 34 (.tmp 11) ?_ _ ?_ _ HX.out ?_); rfl; rfl; rfl) | ((with_reducible refine wpList_store_at ?_ 34 (.tmp 4) (.tmp 12) ?_ _ ?_ _ ?_ HST.out ?_); rfl; rfl; rfl; rfl) | ((with_reducible refine wpList_load_w ?_ 34 (.tmp 4) ?_ _ ?_ _ HLC.out ?_); rfl; rfl; rfl) | ((with_reducible refine wpList_neq_w ?_ 34 (.tmp 17) (.tmp 18) 34 _ _ _ ?_ ?_ ?_ ?_ HQ.out ?_); rfl; rfl; rfl; rfl; kernel_rfl))
                go_ret
                exact ⟨by rw [← HR.out, HF.out]; rfl, O2.out.below0⟩
              · have b3 : decide (15 < pg) = false := decide_eq_false s4
                have HT : Hid (0 ≤ sg ∧ sg < 64 ∧ 0 ≤ pg ∧ pg < 16) := ⟨by omega, by omega, by omega, by omega⟩
                cases leaf
                · by_cases e0 : ex = 0
                  · subst e0
                    by_cases v0 : ver = 0
                    · subst v0
                      have HN := Lib.hid (HNX.out (HM2.out.trans (by simp [HT.out])))
                      go_wp2_with (first | ((with_reducible refine wpList_load_at ?_ 34 (.tmp 11) ?_ _ ?_ _ HX.out ?_); rfl; rfl; rfl) | ((with_reducible refine wpList_store_at ?_ 34 (.tmp 4) (.tmp 12) ?_ _ ?_ _ ?_ HST.out ?_); rfl; rfl; rfl; rfl) | ((with_reducible refine wpList_load_w ?_ 34 (.tmp 4) ?_ _ ?_ _ HLC.out ?_); rfl; rfl; rfl) | ((with_reducible refine wpList_neq_w ?_ 34 (.tmp 17) (.tmp 18) 34 _ _ _ ?_ ?_ ?_ ?_ HQ.out ?_); rfl; rfl; rfl; rfl; kernel_rfl))
                      go_roundw
                      case rel => exact ⟨k + 1, by omega, by go_num, G2.out, O2.out, HN.out⟩
                      case measure => simp [intOf]; omega
                    · have HV := Lib.hid (show (decide (0 ≤ sg ∧ sg < 64 ∧ 0 ≤ pg ∧ pg < 16) && (false || ((0 : Int) == 0 && ver == 0))) = false by simp [v0])
                      have hv0 : (ver == 0) = false := by rw [beq_eq_false_iff_ne]; exact v0
                      have hv1 : (ver != 0) = true := by simp [v0]
                      clear v0
                      have HF := Lib.hid (HBF.out (HM2.out.trans HV.out))
                      go_wp2_with (first | ((with_reducible refine wpList_load_at ?_ 34 (.tmp 11) ?_ _ ?_ _ HX.out ?_); rfl; rfl; rfl) | ((with_reducible refine wpList_store_at ?_ 34 (.tmp 4) (.tmp 12) ?_ _ ?_ _ ?_ HST.out ?_); rfl; rfl; rfl; rfl) | ((with_reducible refine wpList_load_w ?_ 34 (.tmp 4) ?_ _ ?_ _ HLC.out ?_); rfl; rfl; rfl) | ((with_reducible refine wpList_neq_w ?_ 34 (.tmp 17) (.tmp 18) 34 _ _ _ ?_ ?_ ?_ ?_ HQ.out ?_); rfl; rfl; rfl; rfl; kernel_rfl))
                      go_ret
                      exact ⟨by rw [← HR.out, HF.out]; rfl, O2.out.below0⟩
                  · have HV := Lib.hid (show (decide (0 ≤ sg ∧ sg < 64 ∧ 0 ≤ pg ∧ pg < 16) && (false || (ex == 0 && ver == 0))) = false by simp [e0])
                    have hv0 : (ex == 0) = false := by rw [beq_eq_false_iff_ne]; exact e0
                    have hv1 : (ex != 0) = true := by simp [e0]
                    clear e0
                    have HF := Lib.hid (HBF.out (HM2.out.trans HV.out))
                    go_wp2_with (first | ((with_reducible refine wpList_load_at ?_ 34 (.tmp 11) ?_ _ ?_ _ HX.out ?_); rfl; rfl; rfl) | ((with_reducible refine wpList_store_at ?_ 34 (.tmp 4) (.tmp 12) ?_ _ ?_ _ ?_ HST.out ?_); rfl; rfl; rfl; rfl) | ((with_reducible refine wpList_load_w ?_ 34 (.tmp 4) ?_ _ ?_ _ HLC.out ?_); rfl; rfl; rfl) | ((with_reducible refine wpList_neq_w ?_ 34 (.tmp 17) (.tmp 18) 34 _ _ _ ?_ ?_ ?_ ?_ HQ.out ?_); rfl; rfl; rfl; rfl; kernel_rfl))
                    go_ret
                    exact ⟨by rw [← HR.out, HF.out]; rfl, O2.out.below0⟩
                · have HN := Lib.hid (HNX.out (HM2.out.trans (by simp [HT.out])))
                  go_wp2_with (first | ((with_reducible refine wpList_load_at ?_ 34 (.tmp 11) ?_ _ ?_ _ HX.out ?_); rfl; rfl; rfl) | ((with_reducible refine wpList_store_at ?_ 34 (.tmp 4) (.tmp 12) ?_ _ ?_ _ ?_ HST.out ?_); rfl; rfl; rfl; rfl) | ((with_reducible refine wpList_load_w ?_ 34 (.tmp 4) ?_ _ ?_ _ HLC.out ?_); rfl; rfl; rfl) | ((with_reducible refine wpList_neq_w ?_ 34 (.tmp 17) (.tmp 18) 34 _ _ _ ?_ ?_ ?_ ?_ HQ.out ?_); rfl; rfl; rfl; rfl; kernel_rfl))
                  go_roundw
                  case rel => exact ⟨k + 1, by omega, by go_num, G2.out, O2.out, HN.out⟩
                  case measure => simp [intOf]; omega
    · obtain rfl : k = 4 := by omega
      have hall := Lib.hid (HMT.out hm.out)
      go_wp2_with fail
      go_ret
      exact ⟨by rw [← HR.out, hall.out]; rfl, ho.out.below0⟩
end Go.Proofs.Ytbmckmlekhkpeaa
