/-
  The reference's child.
-/
import Derived.Test.YtbmckmlekhkpeaaByt
set_option linter.unusedVariables false
namespace Go.Proofs.Ytbmckmlekhkpeaa
open Go.RowKit

def rcV (leaf : Bool) (s : ByteArray) : Value := match rdC leaf s with
  | .ok (c, s') => .tuple #[.agg (chA c), .string s', .int .i64 0]
  | .error x => .tuple #[.agg (chA chZ), .string ⟨#[]⟩, .int .i64 x]
def RPost (w : World) (x : Except Int (Ch × ByteArray)) (e : Ending) (w' : World) : Prop :=
  match x with
  | .ok (c, s') => e = .returned (.tuple #[.agg (chA c), .string s', .int .i64 0]) ∧ Below w.heap.size w w'
  | .error x => e = .returned (.tuple #[.agg (chA chZ), .string ⟨#[]⟩, .int .i64 x]) ∧ Below w.heap.size w w'
theorem build34t (w : World) : (Instr.build 34 #[(0, .bool true)]).run Try.prog w = .ok (.agg (chA ⟨true, 0, 0, kz, 0, 0⟩)) w := run_build w 34 _ _ (by kernel_rfl)
theorem rkey_sp (s : ByteArray) (w : World) (hs : s.size ≤ 140737488351232) : Calls Try.prog 40 #[.string s] w fun e w' => (match rdK s with
    | .ok (k, s') => e = .returned (.tuple #[.agg (kyC k), .string s', .int .i64 0])
    | .error x => e = .returned (.tuple #[.agg (kyC (tyK s)), .string (tyR s), .int .i64 x])) ∧ Below w.heap.size w w' := by
  refine (rkey_any s w hs).mono ?_
  rintro e w' ⟨rfl, h⟩
  refine ⟨?_, h⟩
  unfold rdK tyV
  by_cases he : tyE s = 0
  · rw [if_neg (by simpa using he), he]
  · rw [if_pos he]
theorem rnum_sp (s : ByteArray) (w : World) (hs : s.size ≤ 140737488351232) : Calls Try.prog 41 #[.string s, .int .i64 8] w fun e w' => (match rdN s with
    | .ok (n, s') => e = .returned (.tuple #[.int .u64 n, .string s', .int .i64 0])
    | .error x => e = .returned (.tuple #[.int .u64 (tkN s 8), .string (tkR s 8), .int .i64 x])) ∧ Below w.heap.size w w' := by
  refine (rtake_any s 8 w hs).mono ?_
  rintro e w' ⟨rfl, h⟩
  refine ⟨?_, h⟩
  unfold rdN tkV
  by_cases he : tkE s 8 = 0
  · rw [if_neg (by simpa using he), he]
  · rw [if_pos he]

set_option maxRecDepth 100000 in
set_option maxHeartbeats 16000000 in
theorem rchild_any (leaf : Bool) (s : ByteArray) (w : World) (hs : s.size ≤ 140737488351232) :
    Calls Try.prog 28 #[.bool leaf, .string s] w (RPost w (rdC leaf s)) := by
  have hg0 : (w.alloc (.cells (chA chZ) 34)).heap[w.heap.size]? = some (.cells (chA chZ) 34 (0, 0)) := heap_alloc_new w _
  have OW : Hid (Only (fun _ => False) w (w.alloc (.cells (chA chZ) 34))) := (Only.refl _ w).alloc _
  have hc := byteOf_any 2 s (w.alloc (.cells (chA chZ) 34)) hs (by omega)
  have HG0 := Lib.hid hg0
  have HPOST : Hid (∀ x, rdC leaf s = x → ∀ e W, RPost w x e W → RPost w (rdC leaf s) e W) := fun x hx e W h => by rw [hx]; exact h
  have HRD : Hid (rdC leaf s = rdC leaf s) := rfl
  conv at HRD => arg 1; rhs; unfold rdC
  have HBZ := Lib.hid build34
  have HBT := Lib.hid build34t
  clear hg0
  rw [chZ_is] at hc
  generalize rdC leaf s = RES at *
  cases hb1 : rdB 2 s with
  | error x =>
    have HX := Lib.hid (rdB_err hb1)
    unfold boV at hc
    rw [hb1] at hc
    simp only [hb1] at HRD
    have HC := Lib.hid hc
    clear hc hb1
    go_enter Try.func28, Try.ntmps28
    go_wp2_with fail
    refine HC.out.mono ?_
    rintro e w1 ⟨rfl, h1⟩
    have g1 := (Only.of_below (S := fun _ => False) h1).row HG0.out (fun x => x)
    have O1 := Lib.hid (OW.out.trans (Only.of_below (S := fun _ => False) h1))
    clear h1
    have HSZ := Lib.hid (same_row _ (ty := 34) g1 info34s (chA_size' (c := chZ) rfl) (chA_one chZ))
    have HLZ := Lib.hid (load34 (chA_size' (c := chZ) rfl) g1)
    have hx0 : (x == 0) = false := by rw [beq_eq_false_iff_ne]; exact HX.out
    have hx1 : (x != 0) = true := by simp [HX.out]
    clear g1
    go_wp2_with (first | ((with_reducible refine wpList_build_at ?_ 34 #[] ?_ [] ?_ _ (HBZ.out _) ?_); rfl; rfl; rfl) | ((with_reducible refine wpList_store_at ?_ 34 (.tmp 4) (.tmp 22) ?_ _ ?_ _ ?_ HSZ.out ?_); rfl; rfl; rfl; rfl))
    refine bodyPost_ret (v := .tuple #[.agg (chA chZ), .string ⟨#[]⟩, .int .i64 x]) ?_ rfl (HPOST.out _ HRD.out _ _ ⟨rfl, O1.out.below0⟩)
    have := HLZ.out
    simp [results, Try.results28, asAddr, this]
  | ok p =>
    obtain ⟨h, s1⟩ := p
    obtain ⟨hh2, hs1⟩ := rdB_ok hb1
    unfold boV at hc
    rw [hb1] at hc
    simp only [hb1] at HRD
    have HC := Lib.hid hc
    have HS := Lib.hid hs
    have HS1 := Lib.hid hs1
    obtain rfl | rfl : h = 0 ∨ h = 1 := by omega
    · rw [if_pos rfl] at HRD
      clear hc hb1 hh2 hs hs1
      go_enter Try.func28, Try.ntmps28
      go_wp2_with fail
      refine HC.out.mono ?_
      rintro e w1 ⟨rfl, h1⟩
      have g1 := (Only.of_below (S := fun _ => False) h1).row HG0.out (fun x => x)
      have O1 := Lib.hid (OW.out.trans (Only.of_below (S := fun _ => False) h1))
      have HSZ := Lib.hid (same_row _ (ty := 34) g1 info34s (chA_size' (c := chZ) rfl) (chA_one chZ))
      have HLZ := Lib.hid (load34 (chA_size' (c := chZ) rfl) g1)
      clear h1 g1
      go_wp2_with (first | ((with_reducible refine wpList_build_at ?_ 34 #[] ?_ [] ?_ _ (HBZ.out _) ?_); rfl; rfl; rfl) | ((with_reducible refine wpList_store_at ?_ 34 (.tmp 4) (.tmp 22) ?_ _ ?_ _ ?_ HSZ.out ?_); rfl; rfl; rfl; rfl))
      refine bodyPost_ret (v := .tuple #[.agg (chA chZ), .string s1, .int .i64 0]) ?_ rfl (HPOST.out _ HRD.out _ _ ⟨rfl, O1.out.below0⟩)
      have := HLZ.out
      simp [results, Try.results28, asAddr, this]
    · simp only [Nat.one_ne_zero, if_false] at HRD
      clear hc hb1 hh2 hs hs1
      go_enter Try.func28, Try.ntmps28
      go_wp2_with fail
      refine HC.out.mono ?_
      rintro e w1 ⟨rfl, h1⟩
      have g1 := (Only.of_below (S := fun _ => False) h1).row HG0.out (fun x => x)
      have hlt := lt_of_heap g1
      obtain ⟨W2, hst2, c2, o2, _⟩ := fresh_at w1 34 21 (chA chZ) (chA ⟨true, 0, 0, kz, 0, 0⟩) info34s rfl (chA_size' rfl) (chA_one _)
      rw [chZ_is] at hst2
      have HST2 := Lib.hid hst2
      have HC2 := Lib.hid c2
      have HG2 := Lib.hid (o2.row g1 (fun x => x))
      have O2 := Lib.hid ((OW.out.trans (Only.of_below (S := fun _ => False) h1)).trans o2)
      have HNE : Hid (w.heap.size ≠ w1.heap.size) := by unfold Hid; omega
      have HLE : Hid (w.heap.size ≤ w1.heap.size) := by unfold Hid; omega
      have hc2 := fun W => byteOf_any 64 s1 W (by have := HS.out; have := HS1.out; omega) (by omega)
      clear h1 g1 hst2 c2 o2 hlt
      cases hb2 : rdB 64 s1 with
      | error x =>
        have HX := Lib.hid (rdB_err hb2)
        unfold boV at hc2
        rw [hb2] at hc2
        simp only [hb2] at HRD
        have HCC := Lib.hid hc2
        clear hc2 hb2
        go_wp2_with (first | ((with_reducible refine wpList_build_at ?_ 34 #[(0, (.const (.bool true)))] ?_ [(0, .bool true)] ?_ _ (HBT.out _) ?_); rfl; rfl; rfl) | ((with_reducible refine wpList_store_at ?_ 34 (.tmp 9) (.tmp 25) ?_ _ ?_ _ ?_ HST2.out ?_); rfl; rfl; rfl; rfl))
        refine (HCC.out _).mono ?_
        rintro e v1 ⟨rfl, k1⟩
        have cc := (Only.of_below (S := fun _ => False) k1).row HC2.out (fun x => x)
        have gg := (Only.of_below (S := fun _ => False) k1).row HG2.out (fun x => x)
        have ff := frozen_of_row v1 w1.heap.size 1 _ _ cc
        have c0 := (cell_of_row v1 w1.heap.size 1 _ _ _ cc).trans (ch_seg _)
        have gz := (set_only (w := v1) (g := w1.heap.size) (j := 1) (.int .i64 0)).row gg HNE.out
        have OZ := Lib.hid ((O2.out.trans (Only.of_below (S := fun _ => False) k1)).fresh (set_only (w := v1) (g := w1.heap.size) (j := 1) (.int .i64 0)) (by intro j hj; have := HLE.out; omega))
        clear k1
        have HSZ := Lib.hid (same_row _ (ty := 34) gz info34s (chA_size' (c := chZ) rfl) (chA_one chZ))
        have HLZ := Lib.hid (load34 (chA_size' (c := chZ) rfl) gz)
        have hx0 : (x == 0) = false := by rw [beq_eq_false_iff_ne]; exact HX.out
        have hx1 : (x != 0) = true := by simp [HX.out]
        have HKC := Lib.hid cc
        clear gz gg
        go_wp2_with (first | ((with_reducible refine wpList_build_at ?_ 34 #[] ?_ [] ?_ _ (HBZ.out _) ?_); rfl; rfl; rfl) | ((with_reducible refine wpList_store_at ?_ 34 (.tmp 4) (.tmp 35) ?_ _ ?_ _ ?_ HSZ.out ?_); rfl; rfl; rfl; rfl))
        refine bodyPost_ret (v := .tuple #[.agg (chA chZ), .string ⟨#[]⟩, .int .i64 x]) ?_ rfl (HPOST.out _ HRD.out _ _ ⟨rfl, OZ.out.below0⟩)
        have := HLZ.out
        simp [results, Try.results28, asAddr, this]
      | ok p =>
        obtain ⟨sg, s2⟩ := p
        have hs2 := rdB_ok hb2
        unfold boV at hc2
        rw [hb2] at hc2
        simp only [hb2] at HRD
        have HCC := Lib.hid hc2
        have HS2 := Lib.hid hs2
        clear hc2 hb2 hs2
        go_wp2_with (first | ((with_reducible refine wpList_build_at ?_ 34 #[(0, (.const (.bool true)))] ?_ [(0, .bool true)] ?_ _ (HBT.out _) ?_); rfl; rfl; rfl) | ((with_reducible refine wpList_store_at ?_ 34 (.tmp 9) (.tmp 25) ?_ _ ?_ _ ?_ HST2.out ?_); rfl; rfl; rfl; rfl))
        refine (HCC.out _).mono ?_
        rintro e v2 ⟨rfl, k1⟩
        have cc := (Only.of_below (S := fun _ => False) k1).row HC2.out (fun x => x)
        have gg := (Only.of_below (S := fun _ => False) k1).row HG2.out (fun x => x)
        have ff := frozen_of_row v2 w1.heap.size 1 _ _ cc
        have c0 := (cell_of_row v2 w1.heap.size 1 _ _ _ cc).trans (ch_seg _)
        have cn := set_row (j := 1) cc (.int .i64 (sg : Int))
        rw [ch_set1] at cn
        have HC3 := Lib.hid cn
        have HG3 := Lib.hid ((set_only (w := v2) (g := w1.heap.size) (j := 1) (.int .i64 (sg : Int))).row gg HNE.out)
        have O3 := Lib.hid ((O2.out.trans (Only.of_below (S := fun _ => False) k1)).fresh (set_only (w := v2) (g := w1.heap.size) (j := 1) (.int .i64 (sg : Int))) (by intro j hj; have := HLE.out; omega))
        have HKC := Lib.hid cc
        clear k1 cn gg
        have hc3 := fun W => byteOf_any 16 s2 W (by have := HS.out; have := HS1.out; have := HS2.out.2; omega) (by omega)
        cases hb3 : rdB 16 s2 with
        | error x =>
          have HX := Lib.hid (rdB_err hb3)
          unfold boV at hc3
          rw [hb3] at hc3
          simp only [hb3] at HRD
          have HCC := Lib.hid hc3
          clear hc3 hb3
          go_wp2_with fail
          refine (HCC.out _).mono ?_
          rintro e v1 ⟨rfl, k1⟩
          have cc := (Only.of_below (S := fun _ => False) k1).row HC3.out (fun x => x)
          have gg := (Only.of_below (S := fun _ => False) k1).row HG3.out (fun x => x)
          have ff := frozen_of_row v1 w1.heap.size 2 _ _ cc
          have c0 := (cell_of_row v1 w1.heap.size 2 _ _ _ cc).trans (ch_page _)
          have gz := (set_only (w := v1) (g := w1.heap.size) (j := 2) (.int .i64 0)).row gg HNE.out
          have OZ := Lib.hid ((O3.out.trans (Only.of_below (S := fun _ => False) k1)).fresh (set_only (w := v1) (g := w1.heap.size) (j := 2) (.int .i64 0)) (by intro j hj; have := HLE.out; omega))
          clear k1
          have HSZ := Lib.hid (same_row _ (ty := 34) gz info34s (chA_size' (c := chZ) rfl) (chA_one chZ))
          have HLZ := Lib.hid (load34 (chA_size' (c := chZ) rfl) gz)
          have hx0 : (x == 0) = false := by rw [beq_eq_false_iff_ne]; exact HX.out
          have hx1 : (x != 0) = true := by simp [HX.out]
          have HKC := Lib.hid cc
          clear gz gg
          go_wp2_with (first | ((with_reducible refine wpList_build_at ?_ 34 #[] ?_ [] ?_ _ (HBZ.out _) ?_); rfl; rfl; rfl) | ((with_reducible refine wpList_store_at ?_ 34 (.tmp 4) (.tmp 46) ?_ _ ?_ _ ?_ HSZ.out ?_); rfl; rfl; rfl; rfl))
          refine bodyPost_ret (v := .tuple #[.agg (chA chZ), .string ⟨#[]⟩, .int .i64 x]) ?_ rfl (HPOST.out _ HRD.out _ _ ⟨rfl, OZ.out.below0⟩)
          have := HLZ.out
          simp [results, Try.results28, asAddr, this]
        | ok p =>
          obtain ⟨pg, s3⟩ := p
          have hs3 := rdB_ok hb3
          unfold boV at hc3
          rw [hb3] at hc3
          simp only [hb3] at HRD
          have HCC := Lib.hid hc3
          have HS3 := Lib.hid hs3
          clear hc3 hb3 hs3
          go_wp2_with fail
          refine (HCC.out _).mono ?_
          rintro e v3 ⟨rfl, k1⟩
          have cc := (Only.of_below (S := fun _ => False) k1).row HC3.out (fun x => x)
          have gg := (Only.of_below (S := fun _ => False) k1).row HG3.out (fun x => x)
          have ff := frozen_of_row v3 w1.heap.size 2 _ _ cc
          have c0 := (cell_of_row v3 w1.heap.size 2 _ _ _ cc).trans (ch_page _)
          have cn := set_row (j := 2) cc (.int .i64 (pg : Int))
          rw [ch_set2] at cn
          have HC4 := Lib.hid cn
          have HG4 := Lib.hid ((set_only (w := v3) (g := w1.heap.size) (j := 2) (.int .i64 (pg : Int))).row gg HNE.out)
          have O4 := Lib.hid ((O3.out.trans (Only.of_below (S := fun _ => False) k1)).fresh (set_only (w := v3) (g := w1.heap.size) (j := 2) (.int .i64 (pg : Int))) (by intro j hj; have := HLE.out; omega))
          have HKC := Lib.hid cc
          clear k1 cn gg
          have hc4 := fun W => rkey_sp s3 W (by have := HS.out; have := HS1.out; have := HS2.out.2; have := HS3.out.2; omega)
          cases hb4 : rdK s3 with
          | error x =>
            have HX := Lib.hid (rdK_err hb4)
            have hkl := tyK_len s3
            rw [hb4] at hc4
            simp only [hb4] at HRD
            have HCC := Lib.hid hc4
            clear hc4 hb4
            go_wp2_with fail
            refine (HCC.out _).mono ?_
            rintro e v1 ⟨rfl, k1⟩
            have cc := (Only.of_below (S := fun _ => False) k1).row HC4.out (fun x => x)
            have gg := (Only.of_below (S := fun _ => False) k1).row HG4.out (fun x => x)
            obtain ⟨WK, hstk, ck, ok, _⟩ := put_at v1 (o := 3) (B := kyC (tyK s3)) cc info24s (kyC_size hkl) (by rw [chA_size' (by rfl)]; omega) (kyC_one _)
            have gz := ok.row gg HNE.out
            have HSTK := Lib.hid hstk
            have OZ := Lib.hid ((O4.out.trans (Only.of_below (S := fun _ => False) k1)).fresh ok (by intro j hj; have := HLE.out; omega))
            clear k1 hstk ck ok hkl cc gg
            have HSZ := Lib.hid (same_row _ (ty := 34) gz info34s (chA_size' (c := chZ) rfl) (chA_one chZ))
            have HLZ := Lib.hid (load34 (chA_size' (c := chZ) rfl) gz)
            have hx0 : (x == 0) = false := by rw [beq_eq_false_iff_ne]; exact HX.out
            have hx1 : (x != 0) = true := by simp [HX.out]
            clear gz
            go_wp2_with (first | ((with_reducible refine wpList_store_at ?_ 24 (.tmp 54) (.tmp 51) ?_ _ ?_ _ ?_ HSTK.out ?_); rfl; rfl; rfl; rfl) | ((with_reducible refine wpList_build_at ?_ 34 #[] ?_ [] ?_ _ (HBZ.out _) ?_); rfl; rfl; rfl) | ((with_reducible refine wpList_store_at ?_ 34 (.tmp 4) (.tmp 78) ?_ _ ?_ _ ?_ HSZ.out ?_); rfl; rfl; rfl; rfl))
            refine bodyPost_ret (v := .tuple #[.agg (chA chZ), .string ⟨#[]⟩, .int .i64 x]) ?_ rfl (HPOST.out _ HRD.out _ _ ⟨rfl, OZ.out.below0⟩)
            have := HLZ.out
            simp [results, Try.results28, asAddr, this]
          | ok p =>
            obtain ⟨k, s4⟩ := p
            have hs4 := rdK_ok hb4
            rw [hb4] at hc4
            simp only [hb4] at HRD
            have HCC := Lib.hid hc4
            have HS4 := Lib.hid hs4
            clear hc4 hb4 hs4
            go_wp2_with fail
            refine (HCC.out _).mono ?_
            rintro e v4 ⟨rfl, k1⟩
            have cc := (Only.of_below (S := fun _ => False) k1).row HC4.out (fun x => x)
            have gg := (Only.of_below (S := fun _ => False) k1).row HG4.out (fun x => x)
            obtain ⟨WK, hstk, ck, ok, _⟩ := put_at v4 (o := 3) (B := kyC k) cc info24s (kyC_size HS4.out.1) (by rw [chA_size' (by rfl)]; omega) (kyC_one _)
            rw [ch_put (by rfl) HS4.out.1] at ck
            have HSTK := Lib.hid hstk
            have HC5 : Hid (WK.heap[w1.heap.size]? = some (.cells (chA ⟨true, (sg : Int), (pg : Int), k, 0, 0⟩) 34 (0, 0))) := ck
            have HG5 := Lib.hid (ok.row gg HNE.out)
            have O5 := Lib.hid ((O4.out.trans (Only.of_below (S := fun _ => False) k1)).fresh ok (by intro j hj; have := HLE.out; omega))
            clear k1 hstk ck ok cc gg
            cases leaf
            · rw [if_pos rfl] at HRD
              have HLF := Lib.hid (load34 (chA_size' (c := ⟨true, (sg : Int), (pg : Int), k, 0, 0⟩) HS4.out.1) HC5.out)
              obtain ⟨WL, hstl, gl, ol, _⟩ := store_row _ (B := chA ⟨true, (sg : Int), (pg : Int), k, 0, 0⟩) HG5.out info34s (chA_size' (c := ⟨true, (sg : Int), (pg : Int), k, 0, 0⟩) HS4.out.1) (chA_size' (c := chZ) rfl) (chA_one _)
              have HSTL := Lib.hid hstl
              have HLL := Lib.hid (load34 (chA_size' (c := ⟨true, (sg : Int), (pg : Int), k, 0, 0⟩) HS4.out.1) gl)
              have OL := Lib.hid (O5.out.fresh ol (by intro j hj; omega))
              clear hstl gl ol
              go_wp2_with (first | ((with_reducible refine wpList_store_at ?_ 24 (.tmp 54) (.tmp 51) ?_ _ ?_ _ ?_ HSTK.out ?_); rfl; rfl; rfl; rfl) | ((with_reducible refine wpList_load_at ?_ 34 (.tmp 9) ?_ _ ?_ _ HLF.out ?_); rfl; rfl; rfl) | ((with_reducible refine wpList_store_at ?_ 34 (.tmp 4) (.tmp 80) ?_ _ ?_ _ ?_ HSTL.out ?_); rfl; rfl; rfl; rfl))
              refine bodyPost_ret (v := .tuple #[.agg (chA ⟨true, (sg : Int), (pg : Int), k, 0, 0⟩), .string s4, .int .i64 0]) ?_ rfl (HPOST.out _ HRD.out _ _ ⟨rfl, OL.out.below0⟩)
              have := HLL.out
              simp [results, Try.results28, asAddr, this]
            · simp only [Bool.true_eq_false, if_false] at HRD
              have hc5 := fun W => rnum_sp s4 W (by have := HS.out; have := HS1.out; have := HS2.out.2; have := HS3.out.2; have := HS4.out.2; omega)
              cases hb5 : rdN s4 with
              | error x =>
                have HX := Lib.hid (rdN_err hb5)
                rw [hb5] at hc5
                simp only [hb5] at HRD
                have HCC := Lib.hid hc5
                clear hc5 hb5
                go_wp2_with (((with_reducible refine wpList_store_at ?_ 24 (.tmp 54) (.tmp 51) ?_ _ ?_ _ ?_ HSTK.out ?_); rfl; rfl; rfl; rfl))
                refine (HCC.out _).mono ?_
                rintro e v1 ⟨rfl, k1⟩
                have cc := (Only.of_below (S := fun _ => False) k1).row HC5.out (fun x => x)
                have gg := (Only.of_below (S := fun _ => False) k1).row HG5.out (fun x => x)
                generalize tkN s4 8 = zn at *
                have ff := frozen_of_row v1 w1.heap.size 19 _ _ cc
                have c0 := (cell_of_row v1 w1.heap.size 19 _ _ _ cc).trans (by simp [chA, chL, kyL_len HS4.out.1] : (chA ⟨true, (sg : Int), (pg : Int), k, 0, 0⟩)[19]? = some (.int .u64 0))
                have gz := (set_only (w := v1) (g := w1.heap.size) (j := 19) (.int .u64 (zn : Int))).row gg HNE.out
                have OZ := Lib.hid ((O5.out.trans (Only.of_below (S := fun _ => False) k1)).fresh (set_only (w := v1) (g := w1.heap.size) (j := 19) (.int .u64 (zn : Int))) (by intro j hj; have := HLE.out; omega))
                clear k1
                have HSZ := Lib.hid (same_row _ (ty := 34) gz info34s (chA_size' (c := chZ) rfl) (chA_one chZ))
                have HLZ := Lib.hid (load34 (chA_size' (c := chZ) rfl) gz)
                have hx0 : (x == 0) = false := by rw [beq_eq_false_iff_ne]; exact HX.out
                have hx1 : (x != 0) = true := by simp [HX.out]
                have HKC := Lib.hid cc
                clear gz gg
                go_wp2_with (first | ((with_reducible refine wpList_build_at ?_ 34 #[] ?_ [] ?_ _ (HBZ.out _) ?_); rfl; rfl; rfl) | ((with_reducible refine wpList_store_at ?_ 34 (.tmp 4) (.tmp 78) ?_ _ ?_ _ ?_ HSZ.out ?_); rfl; rfl; rfl; rfl))
                refine bodyPost_ret (v := .tuple #[.agg (chA chZ), .string ⟨#[]⟩, .int .i64 x]) ?_ rfl (HPOST.out _ HRD.out _ _ ⟨rfl, OZ.out.below0⟩)
                have := HLZ.out
                simp [results, Try.results28, asAddr, this]
              | ok p =>
                obtain ⟨ex, s5⟩ := p
                have hs5 := rdN_ok hb5
                rw [hb5] at hc5
                simp only [hb5] at HRD
                have HCC := Lib.hid hc5
                have HS5 := Lib.hid hs5
                clear hc5 hb5 hs5
                go_wp2_with (((with_reducible refine wpList_store_at ?_ 24 (.tmp 54) (.tmp 51) ?_ _ ?_ _ ?_ HSTK.out ?_); rfl; rfl; rfl; rfl))
                refine (HCC.out _).mono ?_
                rintro e v5 ⟨rfl, k1⟩
                have cc := (Only.of_below (S := fun _ => False) k1).row HC5.out (fun x => x)
                have gg := (Only.of_below (S := fun _ => False) k1).row HG5.out (fun x => x)
                have ff := frozen_of_row v5 w1.heap.size 19 _ _ cc
                have c0 := (cell_of_row v5 w1.heap.size 19 _ _ _ cc).trans (by simp [chA, chL, kyL_len HS4.out.1] : (chA ⟨true, (sg : Int), (pg : Int), k, 0, 0⟩)[19]? = some (.int .u64 0))
                have cn := set_row (j := 19) cc (.int .u64 (ex : Int))
                rw [ch_set19 (by exact HS4.out.1)] at cn
                have HC6 := Lib.hid cn
                have HG6 := Lib.hid ((set_only (w := v5) (g := w1.heap.size) (j := 19) (.int .u64 (ex : Int))).row gg HNE.out)
                have O6 := Lib.hid ((O5.out.trans (Only.of_below (S := fun _ => False) k1)).fresh (set_only (w := v5) (g := w1.heap.size) (j := 19) (.int .u64 (ex : Int))) (by intro j hj; have := HLE.out; omega))
                have HKC := Lib.hid cc
                clear k1 cn gg
                have hc6 := fun W => rnum_sp s5 W (by have := HS.out; have := HS1.out; have := HS2.out.2; have := HS3.out.2; have := HS4.out.2; have := HS5.out.2; omega)
                cases hb6 : rdN s5 with
                | error x =>
                  have HX := Lib.hid (rdN_err hb6)
                  rw [hb6] at hc6
                  simp only [hb6] at HRD
                  have HCC := Lib.hid hc6
                  clear hc6 hb6
                  go_wp2_with fail
                  refine (HCC.out _).mono ?_
                  rintro e v1 ⟨rfl, k1⟩
                  have cc := (Only.of_below (S := fun _ => False) k1).row HC6.out (fun x => x)
                  have gg := (Only.of_below (S := fun _ => False) k1).row HG6.out (fun x => x)
                  generalize tkN s5 8 = zn at *
                  have ff := frozen_of_row v1 w1.heap.size 20 _ _ cc
                  have c0 := (cell_of_row v1 w1.heap.size 20 _ _ _ cc).trans (by simp [chA, chL, kyL_len HS4.out.1] : (chA ⟨true, (sg : Int), (pg : Int), k, (ex : Int), 0⟩)[20]? = some (.int .u64 0))
                  have gz := (set_only (w := v1) (g := w1.heap.size) (j := 20) (.int .u64 (zn : Int))).row gg HNE.out
                  have OZ := Lib.hid ((O6.out.trans (Only.of_below (S := fun _ => False) k1)).fresh (set_only (w := v1) (g := w1.heap.size) (j := 20) (.int .u64 (zn : Int))) (by intro j hj; have := HLE.out; omega))
                  clear k1
                  have HSZ := Lib.hid (same_row _ (ty := 34) gz info34s (chA_size' (c := chZ) rfl) (chA_one chZ))
                  have HLZ := Lib.hid (load34 (chA_size' (c := chZ) rfl) gz)
                  have hx0 : (x == 0) = false := by rw [beq_eq_false_iff_ne]; exact HX.out
                  have hx1 : (x != 0) = true := by simp [HX.out]
                  have HKC := Lib.hid cc
                  clear gz gg
                  go_wp2_with (first | ((with_reducible refine wpList_build_at ?_ 34 #[] ?_ [] ?_ _ (HBZ.out _) ?_); rfl; rfl; rfl) | ((with_reducible refine wpList_store_at ?_ 34 (.tmp 4) (.tmp 78) ?_ _ ?_ _ ?_ HSZ.out ?_); rfl; rfl; rfl; rfl))
                  refine bodyPost_ret (v := .tuple #[.agg (chA chZ), .string ⟨#[]⟩, .int .i64 x]) ?_ rfl (HPOST.out _ HRD.out _ _ ⟨rfl, OZ.out.below0⟩)
                  have := HLZ.out
                  simp [results, Try.results28, asAddr, this]
                | ok p =>
                  obtain ⟨ver, s6⟩ := p
                  have hs6 := rdN_ok hb6
                  rw [hb6] at hc6
                  simp only [hb6] at HRD
                  have HCC := Lib.hid hc6
                  have HS6 := Lib.hid hs6
                  clear hc6 hb6 hs6
                  go_wp2_with fail
                  refine (HCC.out _).mono ?_
                  rintro e v6 ⟨rfl, k1⟩
                  have cc := (Only.of_below (S := fun _ => False) k1).row HC6.out (fun x => x)
                  have gg := (Only.of_below (S := fun _ => False) k1).row HG6.out (fun x => x)
                  have ff := frozen_of_row v6 w1.heap.size 20 _ _ cc
                  have c0 := (cell_of_row v6 w1.heap.size 20 _ _ _ cc).trans (by simp [chA, chL, kyL_len HS4.out.1] : (chA ⟨true, (sg : Int), (pg : Int), k, (ex : Int), 0⟩)[20]? = some (.int .u64 0))
                  have cn := set_row (j := 20) cc (.int .u64 (ver : Int))
                  rw [ch_set20 (by exact HS4.out.1)] at cn
                  have HC7 := Lib.hid cn
                  have HG7 := Lib.hid ((set_only (w := v6) (g := w1.heap.size) (j := 20) (.int .u64 (ver : Int))).row gg HNE.out)
                  have O7 := Lib.hid ((O6.out.trans (Only.of_below (S := fun _ => False) k1)).fresh (set_only (w := v6) (g := w1.heap.size) (j := 20) (.int .u64 (ver : Int))) (by intro j hj; have := HLE.out; omega))
                  have HKC := Lib.hid cc
                  clear k1 cn gg
                  have HLF := Lib.hid (load34 (chA_size' (c := ⟨true, (sg : Int), (pg : Int), k, (ex : Int), (ver : Int)⟩) HS4.out.1) HC7.out)
                  obtain ⟨WL, hstl, gl, ol, _⟩ := store_row _ (B := chA ⟨true, (sg : Int), (pg : Int), k, (ex : Int), (ver : Int)⟩) HG7.out info34s (chA_size' (c := ⟨true, (sg : Int), (pg : Int), k, (ex : Int), (ver : Int)⟩) HS4.out.1) (chA_size' (c := chZ) rfl) (chA_one _)
                  have HSTL := Lib.hid hstl
                  have HLL := Lib.hid (load34 (chA_size' (c := ⟨true, (sg : Int), (pg : Int), k, (ex : Int), (ver : Int)⟩) HS4.out.1) gl)
                  have OL := Lib.hid (O7.out.fresh ol (by intro j hj; omega))
                  clear hstl gl ol
                  go_wp2_with (first | ((with_reducible refine wpList_load_at ?_ 34 (.tmp 9) ?_ _ ?_ _ HLF.out ?_); rfl; rfl; rfl) | ((with_reducible refine wpList_store_at ?_ 34 (.tmp 4) (.tmp 80) ?_ _ ?_ _ ?_ HSTL.out ?_); rfl; rfl; rfl; rfl))
                  refine bodyPost_ret (v := .tuple #[.agg (chA ⟨true, (sg : Int), (pg : Int), k, (ex : Int), (ver : Int)⟩), .string s6, .int .i64 0]) ?_ rfl (HPOST.out _ HRD.out _ _ ⟨rfl, OL.out.below0⟩)
                  have := HLL.out
                  simp [results, Try.results28, asAddr, this]
end Go.Proofs.Ytbmckmlekhkpeaa
