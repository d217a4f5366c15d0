/-
  its: the reference's node of a node.
-/
import Derived.Test.YtbmckmlekhkpeaaDec
import Derived.Test.YtbmckmlekhkpeaaRem
set_option linter.unusedVariables false
namespace Go.Proofs.Ytbmckmlekhkpeaa
open Go.RowKit

theorem build37l (leaf : Bool) (w : World) : (Instr.build 37 #[(0, .bool leaf)]).run Try.prog w = .ok (.agg (ndA (pN leaf []))) w := run_build w 37 _ _ (by kernel_rfl)
theorem build37 (w : World) : (Instr.build 37 #[]).run Try.prog w = .ok (.agg (ndA ndZ)) w := run_build w 37 _ _ (by kernel_rfl)
theorem zero37 (w : World) : (zeroValue 37).run Try.prog w = .ok (.agg (ndA ndZ)) w := by kernel_rfl
theorem zero30 (w : World) : (zeroValue 30).run Try.prog w = .ok (.agg (ndA ndZ)) w := by kernel_rfl
theorem pN_full (n : Nd) (h : n.Ok) : pN n.leaf (n.cs.take 4) = n := by
  rw [List.take_of_length_le (by rw [h.len]; omega), pN_all h.len]

set_option maxHeartbeats 4000000 in
theorem its_any (n : Nd) (w : World) (h : n.Ok) :
    Calls Try.prog 13 #[.agg (ndA n)] w fun e w' => e = .returned (.agg (ndA n)) ∧ Below w.heap.size w w' := by
  have hz := zero37
  have hg : (w.alloc (.cells (ndA n) 30)).heap[w.heap.size]? = some (.cells (ndA n) 30 (0, 0)) := heap_alloc_new w _
  have c0 := (cell_of_row _ _ 0 _ _ _ hg).trans (nd_leaf n)
  have hg2 : ((w.alloc (.cells (ndA n) 30)).alloc (.cells (ndA ndZ) 37)).heap[w.heap.size + 1]? = some (.cells (ndA ndZ) 37 (0, 0)) := by
    have := heap_alloc_new (w.alloc (.cells (ndA n) 30)) (.cells (ndA ndZ) 37)
    rw [show (w.alloc (.cells (ndA n) 30)).heap.size = w.heap.size + 1 by simp] at this
    exact this
  have ha1 : Only (fun _ => False) w (w.alloc (.cells (ndA n) 30)) := (Only.refl _ w).alloc _
  have ha2 : Only (fun _ => False) (w.alloc (.cells (ndA n) 30)) ((w.alloc (.cells (ndA n) 30)).alloc (.cells (ndA ndZ) 37)) := (Only.refl _ _).alloc _
  have hg1 := ha2.row hg (fun x => x)
  have d0 := (cell_of_row _ _ 0 _ _ _ hg1).trans (nd_leaf n)
  obtain ⟨W3, hst, g3, o3, s3⟩ := fresh_at ((w.alloc (.cells (ndA n) 30)).alloc (.cells (ndA ndZ) 37)) 37 85 (ndA ndZ) (ndA (pN n.leaf [])) info37s (ndA_size ndZ_ok) (ndA_size (pN_ok (by intro c hc; cases hc) (by decide))) (ndA_one _)
  rw [show ((w.alloc (.cells (ndA n) 30)).alloc (.cells (ndA ndZ) 37)).heap.size = w.heap.size + 1 + 1 by simp] at hst g3
  have HST := Lib.hid hst
  have G1 := Lib.hid (o3.row hg1 (fun x => x))
  have G2 := Lib.hid (o3.row hg2 (fun x => x))
  have G3 := Lib.hid g3
  have O3 := Lib.hid ((ha1.trans ha2).trans o3)
  have HB := Lib.hid (build37l n.leaf)
  have HOK := Lib.hid h
  have HFULL := Lib.hid (pN_full n h)
  have HLC := Lib.hid (fun (k : Nat) (hk : k < 4) (W : World) (hW : W.heap[w.heap.size]? = some (.cells (ndA n) 30 (0, 0))) => load27c h hk hW)
  have HZ85 := Lib.hid (ndA_size ndZ_ok)
  have HN85 := Lib.hid (ndA_size h)
  have HN1 := Lib.hid (ndA_one n)
  have HEQ : Hid (ndA (pN n.leaf (n.cs.take 4)) = ndA n) := by unfold Hid; rw [pN_full n h]
  clear hst g3 o3 s3 hg hg1 hg2 ha1 ha2 h
  generalize ndA ndZ = Z at *
  generalize ndA n = A at *
  go_enter Try.func13, Try.ntmps13
  go_wp2_with (first | ((with_reducible refine wpList_build_at ?_ 37 #[(0, .tmp 6)] ?_ [(0, .bool n.leaf)] ?_ _ (HB.out _) ?_); rfl; rfl; rfl) | ((with_reducible refine wpList_store_at ?_ 37 (.tmp 3) (.tmp 7) ?_ _ ?_ _ ?_ HST.out ?_); rfl; rfl; rfl; rfl))
  go_loopw [4] (fun i wr => ∃ k : Nat, k ≤ 4 ∧ i = .int .i64 k ∧ Hid (wr.heap[w.heap.size]? = some (.cells A 30 (0, 0))) ∧ Hid (wr.heap[w.heap.size + 1]? = some (.cells Z 37 (0, 0))) ∧ Hid (wr.heap[w.heap.size + 1 + 1]? = some (.cells (ndA (pN n.leaf (n.cs.take k))) 37 (0, 0))) ∧ Hid (Only (fun _ => False) w wr)) (fun i _ => 4 - (intOf i).toNat)
  case atStart => exact ⟨0, by omega, rfl, G1.out, G2.out, G3.out, O3.out⟩
  case round =>
    obtain ⟨k, hk, rfl, h1, h2, h3, ho⟩ := hrel
    by_cases hlt : k < 4
    · have HL := Lib.hid (HLC.out k hlt wr h1.out)
      have hpo : (pN n.leaf (n.cs.take k)).Ok := pN_ok (fun c hc => HOK.out.ok c (List.mem_of_mem_take hc)) (Nat.le_trans (List.length_take_le _ _) (by omega))
      obtain ⟨W4, hst4, g4, o4, _⟩ := put_at wr (o := 1 + k * 21) (B := chA (n.get k)) h3.out info34s (chA_size (HOK.out.get_ok k)) (by rw [ndA_size hpo]; omega) (chA_one _)
      rw [nd_put hpo hlt (HOK.out.get_ok k)] at g4
      have hl : k < n.cs.length := by rw [HOK.out.len]; exact hlt
      have e4 : (pN n.leaf (n.cs.take k)).put k (n.get k) = pN n.leaf (n.cs.take (k + 1)) := by
        have := pN_put (leaf := n.leaf) (l := n.cs.take k) (by rw [List.length_take]; omega) (n.get k)
        rw [List.length_take, Nat.min_eq_left (by omega)] at this
        rw [this, ← List.take_append_getElem hl]
        unfold Nd.get
        rw [List.getD_eq_getElem?_getD, List.getElem?_eq_getElem hl]
        rfl
      rw [e4] at g4
      have HST4 := Lib.hid hst4
      have G4 := Lib.hid g4
      have H1 := Lib.hid (o4.row h1.out (by omega))
      have H2 := Lib.hid (o4.row h2.out (by omega))
      have HO := Lib.hid (ho.out.fresh o4 (by intro j hj; omega))
      clear hst4 g4 o4 e4 hpo hl
      go_wp2_with (first | ((with_reducible refine wpList_load_at ?_ 27 (.tmp 15) ?_ _ ?_ _ HL.out ?_); rfl; rfl; rfl) | ((with_reducible refine wpList_store_at ?_ 34 (.tmp 18) (.tmp 16) ?_ _ ?_ _ ?_ HST4.out ?_); rfl; rfl; rfl; rfl))
      go_roundw
      case rel => exact ⟨k + 1, by omega, by go_num, H1.out, H2.out, G4.out, HO.out⟩
      case measure => simp [intOf]; omega
    · obtain rfl : k = 4 := by omega
      have h3' := h3.out
      rw [HEQ.out] at h3'
      have HL := Lib.hid (load37 HN85.out h3')
      obtain ⟨W4, hst4, g4, o4, _⟩ := store_row wr h2.out info37s HN85.out HZ85.out HN1.out
      have HST4 := Lib.hid hst4
      have HL4 := Lib.hid (load37 HN85.out g4)
      have HO := Lib.hid (ho.out.fresh o4 (by intro j hj; omega))
      clear hst4 g4 o4 h3'
      go_wp2_with (first | ((with_reducible refine wpList_load_at ?_ 37 (.tmp 3) ?_ _ ?_ _ HL.out ?_); rfl; rfl; rfl) | ((with_reducible refine wpList_store_at ?_ 37 (.tmp 2) (.tmp 19) ?_ _ ?_ _ ?_ HST4.out ?_); rfl; rfl; rfl; rfl))
      refine bodyPost_ret (v := .agg A) ?_ rfl ⟨rfl, HO.out.below0⟩
      have := HL4.out
      simp [results, Try.results13, asAddr, Act.put, this]
end Go.Proofs.Ytbmckmlekhkpeaa
