/-
  NodeEncodes: the walk.
-/
import Derived.Test.YtbmckmlekhkpeaaPla
import Derived.Test.YtbmckmlekhkpeaaOpn
import Derived.Test.YtbmckmlekhkpeaaRde
import Derived.Test.YtbmckmlekhkpeaaRen
import Derived.Test.YtbmckmlekhkpeaaShn
import Derived.Test.YtbmckmlekhkpeaaHlc
import Derived.Test.YtbmckmlekhkpeaaWit
set_option linter.unusedVariables false
namespace Go.Proofs.Ytbmckmlekhkpeaa
open Go.RowKit

set_option maxRecDepth 100000 in
set_option maxHeartbeats 16000000 in
theorem nodeEncodes_walk (w : World) (n : Nd) (h : n.Ok) :
    Calls Try.prog 6 #[.agg (ndA n)] w fun e w' => e = .returned (.bool true) ∧ Below w.heap.size w w' := by
  have hz30 := zero30
  have hg : (w.alloc (.cells (ndA n) 30)).heap[w.heap.size]? = some (.cells (ndA n) 30 (0, 0)) := heap_alloc_new w _
  have HL := Lib.hid (load30 (ndA_size h) hg)
  have HG := Lib.hid hg
  have HB : Hid (Only (fun _ => False) w (w.alloc (.cells (ndA n) 30))) := (Only.refl _ w).alloc _
  have HSZ := Lib.hid (ndA_size h)
  have HEN := Lib.hid (fun W => encode_any n W h)
  have HRN := Lib.hid (fun W => rencode_any n W h)
  have HITS := Lib.hid (fun W => its_any n W h)
  have HMY := Lib.hid (fun W => may_any n W h)
  have HRM := Lib.hid (fun W => rmay_any n W h)
  have HEM := Lib.hid (fun W => empty_any n W h)
  have HRE := Lib.hid (fun W => rempty_any n W h)
  have HQ := Lib.hid (fun W => nd_eq30 h h W)
  rw [(Nd.eqv_iff h h).2 rfl] at HQ
  have HF := Lib.hid (fun W => fresh_at W 30 85 (ndA ndZ) (ndA n) info30s (ndA_size ndZ_ok) (ndA_size h) (ndA_one _))
  have HCASE : Hid ((encE n = 0 ∧ (encS n).size ≤ 141 ∧ dcV (rdNd (encS n)) = .tuple #[.agg (ndA n), .int .i64 0]) ∨ (encE n = 1 ∧ encS n = ⟨#[]⟩)) := by
    unfold encE encS
    cases hm : mayN n with
    | true =>
      refine .inl ⟨rfl, ?_, ?_⟩
      · have := encP_len h 4 (by omega)
        show (SB (encP n 4)).size ≤ 141
        rw [sb_size]; omega
      · show dcV (rdNd (SB (encN n))) = _
        rw [rdNd_enc n h hm]
        rfl
    | false => exact .inr ⟨rfl, rfl⟩
  unfold encV at HEN HRN
  have HDC := Lib.hid (fun W hs => decode_any (encS n) W hs)
  clear hg h
  generalize ndA ndZ = Z at *
  generalize ndA n = A at *
  generalize encE n = ee at *
  generalize encS n = ES at *
  generalize mayN n = my at *
  generalize emptyN n = em at *
  generalize dcV (rdNd ES) = DV at *
  go_enter Try.func6, Try.ntmps6
  go_wp2_with (((with_reducible refine wpList_load_at ?_ 30 (.tmp 1) ?_ _ ?_ _ HL.out ?_); rfl; rfl; rfl))
  refine (HEN.out _).mono ?_
  rintro e w1 ⟨rfl, h1⟩
  have O1 := Lib.hid (HB.out.trans (Only.of_below (S := fun _ => False) h1))
  have G1 := Lib.hid ((Only.of_below (S := fun _ => False) h1).row HG.out (fun x => x))
  have HL1 := Lib.hid (load30 HSZ.out G1.out)
  clear h1
  go_wp2_with (((with_reducible refine wpList_load_at ?_ 30 (.tmp 1) ?_ _ ?_ _ HL1.out ?_); rfl; rfl; rfl))
  refine (HITS.out _).mono ?_
  rintro e w2 ⟨rfl, h2⟩
  have O2 := Lib.hid (O1.out.trans (Only.of_below (S := fun _ => False) h2))
  have G2 := Lib.hid ((Only.of_below (S := fun _ => False) h2).row G1.out (fun x => x))
  clear h2
  go_wp2_with fail
  refine (HRN.out _).mono ?_
  rintro e w3 ⟨rfl, h3⟩
  have P0 := Lib.hid ((O2.out.trans (Only.of_below (S := fun _ => False) h3)).drew)
  have G3 := Lib.hid ((Only.of_below (S := fun _ => False) h3).row G2.out (fun x => x))
  clear h3
  go_wp2_with fail
  refine wp_region_held (S := fun W => W.heap[w.heap.size]? = some (.cells A 30 (0, 0))) (by kernel_rfl) ?_
  change wpAnyH _ _ _ _ _ _ _ _ (World.drew _)
  have HS0 : (World.drew w3).heap[w.heap.size]? = some (.cells A 30 (0, 0)) := G3.out
  have HLd : Hid (∀ W : World, W.heap[w.heap.size]? = some (.cells A 30 (0, 0)) → (loadVar 30 ⟨w.heap.size, 0, none⟩).run Try.prog W = .ok (.agg A) W) := fun W h => load30 HSZ.out h
  refine held_take (i := 0) (v := .agg A) rfl rfl (by kernel_rfl) (by kernel_rfl) (by kernel_rfl) (fun _ _ _ h => h) (yields_load_w (by rfl) 30 (.tmp 1) rfl _ rfl _ HLd.out) HS0 ?_
  simp only [List.setIfInBounds_toArray, List.set]
  refine held_take (i := 2) (v := .agg A) rfl rfl (by kernel_rfl) (by kernel_rfl) (by kernel_rfl) (fun _ _ _ h => h) (yields_load_w (by rfl) 30 (.tmp 1) rfl _ rfl _ HLd.out) HS0 ?_
  simp only [List.setIfInBounds_toArray, List.set]
  refine held_call (j := 1) (by kernel_rfl) rfl rfl (by rfl) Try.func15 (by kernel_rfl) rfl rfl [.agg A] rfl (HMY.out _) ?_
  intro x1 k1
  have o1 : Only (fun _ => False) (World.drew w3) x1 := Only.of_below k1
  have HS1 : x1.heap[w.heap.size]? = some (.cells A 30 (0, 0)) := o1.row HS0 (fun x => x)
  have P1 := Lib.hid (P0.out.trans o1)
  refine ⟨HS1, ?_⟩
  simp only [List.setIfInBounds_toArray, List.set]
  refine held_call (j := 3) (by kernel_rfl) rfl rfl (by rfl) Try.func13 (by kernel_rfl) rfl rfl [.agg A] rfl (HITS.out _) ?_
  intro x2 k2
  have o2 : Only (fun _ => False) x1 x2 := Only.of_below k2
  have HS2 : x2.heap[w.heap.size]? = some (.cells A 30 (0, 0)) := o2.row HS1 (fun x => x)
  have P2 := Lib.hid (P1.out.trans o2)
  refine ⟨HS2, ?_⟩
  simp only [List.setIfInBounds_toArray, List.set]
  refine held_call (j := 4) (by kernel_rfl) rfl rfl (by rfl) Try.func17 (by kernel_rfl) rfl rfl [.agg A] rfl (HRM.out _) ?_
  intro x3 k3
  have o3 : Only (fun _ => False) x2 x3 := Only.of_below k3
  have HS3 : x3.heap[w.heap.size]? = some (.cells A 30 (0, 0)) := o3.row HS2 (fun x => x)
  have P3 := Lib.hid (P2.out.trans o3)
  refine ⟨HS3, ?_⟩
  simp only [List.setIfInBounds_toArray, List.set]
  refine held_pure (i := 5) (v := .bool false) rfl rfl (by kernel_rfl) (by kernel_rfl) (by kernel_rfl) (fun _ _ _ h => h) (Or.inl ⟨by rfl, fun w => by go_simp⟩) HS3 ?_
  simp only [List.setIfInBounds_toArray, List.set]
  refine held_pure (i := 6) (v := .bool false) rfl rfl (by kernel_rfl) (by kernel_rfl) (by kernel_rfl) (fun _ _ _ h => h) (Or.inl ⟨by rfl, fun w => by go_simp⟩) HS3 ?_
  simp only [List.setIfInBounds_toArray, List.set]
  refine held_take (i := 7) (v := .agg A) rfl rfl (by kernel_rfl) (by kernel_rfl) (by kernel_rfl) (fun _ _ _ h => h) (yields_load_w (by rfl) 30 (.tmp 1) rfl _ rfl _ HLd.out) HS3 ?_
  simp only [List.setIfInBounds_toArray, List.set]
  refine held_take (i := 9) (v := .agg A) rfl rfl (by kernel_rfl) (by kernel_rfl) (by kernel_rfl) (fun _ _ _ h => h) (yields_load_w (by rfl) 30 (.tmp 1) rfl _ rfl _ HLd.out) HS3 ?_
  simp only [List.setIfInBounds_toArray, List.set]
  refine held_call (j := 8) (by kernel_rfl) rfl rfl (by rfl) Try.func18 (by kernel_rfl) rfl rfl [.agg A] rfl (HEM.out _) ?_
  intro x4 k4
  have o4 : Only (fun _ => False) x3 x4 := Only.of_below k4
  have HS4 : x4.heap[w.heap.size]? = some (.cells A 30 (0, 0)) := o4.row HS3 (fun x => x)
  have P4 := Lib.hid (P3.out.trans o4)
  refine ⟨HS4, ?_⟩
  simp only [List.setIfInBounds_toArray, List.set]
  refine held_call (j := 10) (by kernel_rfl) rfl rfl (by rfl) Try.func13 (by kernel_rfl) rfl rfl [.agg A] rfl (HITS.out _) ?_
  intro x5 k5
  have o5 : Only (fun _ => False) x4 x5 := Only.of_below k5
  have HS5 : x5.heap[w.heap.size]? = some (.cells A 30 (0, 0)) := o5.row HS4 (fun x => x)
  have P5 := Lib.hid (P4.out.trans o5)
  refine ⟨HS5, ?_⟩
  simp only [List.setIfInBounds_toArray, List.set]
  refine held_call (j := 11) (by kernel_rfl) rfl rfl (by rfl) Try.func19 (by kernel_rfl) rfl rfl [.agg A] rfl (HRE.out _) ?_
  intro x6 k6
  have o6 : Only (fun _ => False) x5 x6 := Only.of_below k6
  have HS6 : x6.heap[w.heap.size]? = some (.cells A 30 (0, 0)) := o6.row HS5 (fun x => x)
  have P6 := Lib.hid (P5.out.trans o6)
  refine ⟨HS6, ?_⟩
  simp only [List.setIfInBounds_toArray, List.set]
  refine held_pure (i := 12) (v := .bool false) rfl rfl (by kernel_rfl) (by kernel_rfl) (by kernel_rfl) (fun _ _ _ h => h) (Or.inl ⟨by rfl, fun w => by go_simp⟩) HS6 ?_
  simp only [List.setIfInBounds_toArray, List.set]
  refine held_pure (i := 13) (v := .bool false) rfl rfl (by kernel_rfl) (by kernel_rfl) (by kernel_rfl) (fun _ _ _ h => h) (Or.inl ⟨by rfl, fun w => by go_simp⟩) HS6 ?_
  simp only [List.setIfInBounds_toArray, List.set]
  refine held_pure (i := 14) (v := .bool false) rfl rfl (by kernel_rfl) (by kernel_rfl) (by kernel_rfl) (fun _ _ _ h => h) (Or.inl ⟨by rfl, fun w => by go_simp⟩) HS6 ?_
  simp only [List.setIfInBounds_toArray, List.set]
  refine held_pure (i := 15) (v := .string ES) rfl rfl (by kernel_rfl) (by kernel_rfl) (by kernel_rfl) (fun _ _ _ h => h) (Or.inl ⟨by rfl, fun w => by go_simp⟩) HS6 ?_
  simp only [List.setIfInBounds_toArray, List.set]
  refine held_pure (i := 16) (v := .string ES) rfl rfl (by kernel_rfl) (by kernel_rfl) (by kernel_rfl) (fun _ _ _ h => h) (Or.inl ⟨by rfl, fun w => by go_simp⟩) HS6 ?_
  simp only [List.setIfInBounds_toArray, List.set]
  refine held_pure (i := 17) (v := .bool false) rfl rfl (by kernel_rfl) (by kernel_rfl) (by kernel_rfl) (fun _ _ _ h => h) (Or.inl ⟨by rfl, fun w => by go_simp⟩) HS6 ?_
  simp only [List.setIfInBounds_toArray, List.set]
  refine held_pure (i := 18) (v := .bool false) rfl rfl (by kernel_rfl) (by kernel_rfl) (by kernel_rfl) (fun _ _ _ h => h) (Or.inl ⟨by rfl, fun w => by go_simp⟩) HS6 ?_
  simp only [List.setIfInBounds_toArray, List.set]
  refine held_pure (i := 19) (v := .bool false) rfl rfl (by kernel_rfl) (by kernel_rfl) (by kernel_rfl) (fun _ _ _ h => h) (Or.inl ⟨by rfl, fun w => by go_simp⟩) HS6 ?_
  simp only [List.setIfInBounds_toArray, List.set]
  refine held_pure (i := 20) (v := .int .i64 ee) rfl rfl (by kernel_rfl) (by kernel_rfl) (by kernel_rfl) (fun _ _ _ h => h) (Or.inl ⟨by rfl, fun w => by go_simp⟩) HS6 ?_
  simp only [List.setIfInBounds_toArray, List.set]
  refine held_pure (i := 21) (v := .int .i64 ee) rfl rfl (by kernel_rfl) (by kernel_rfl) (by kernel_rfl) (fun _ _ _ h => h) (Or.inl ⟨by rfl, fun w => by go_simp⟩) HS6 ?_
  simp only [List.setIfInBounds_toArray, List.set]
  refine held_pure (i := 22) (v := .bool false) rfl rfl (by kernel_rfl) (by kernel_rfl) (by kernel_rfl) (fun _ _ _ h => h) (Or.inl ⟨by rfl, fun w => by go_simp⟩) HS6 ?_
  simp only [List.setIfInBounds_toArray, List.set]
  refine held_pure (i := 23) (v := .bool false) rfl rfl (by kernel_rfl) (by kernel_rfl) (by kernel_rfl) (fun _ _ _ h => h) (Or.inl ⟨by rfl, fun w => by go_simp⟩) HS6 ?_
  simp only [List.setIfInBounds_toArray, List.set]
  refine held_pure (i := 24) (v := .bool false) rfl rfl (by kernel_rfl) (by kernel_rfl) (by kernel_rfl) (fun _ _ _ h => h) (Or.inl ⟨by rfl, fun w => by go_simp⟩) HS6 ?_
  simp only [List.setIfInBounds_toArray, List.set]
  refine held_call (j := 25) (by kernel_rfl) rfl rfl (by rfl) Try.func10 (by kernel_rfl) rfl rfl [] rfl (shown_any _) ?_
  intro x7 k7
  have o7 : Only (fun _ => False) x6 x7 := Only.of_below k7
  have HS7 : x7.heap[w.heap.size]? = some (.cells A 30 (0, 0)) := o7.row HS6 (fun x => x)
  have P7 := Lib.hid (P6.out.trans o7)
  refine ⟨HS7, ?_⟩
  simp only [List.setIfInBounds_toArray, List.set]
  refine held_pure (i := 26) (v := .bool false) rfl rfl (by kernel_rfl) (by kernel_rfl) (by kernel_rfl) (fun _ _ _ h => h) (Or.inl ⟨by rfl, fun w => by go_simp⟩) HS7 ?_
  simp only [List.setIfInBounds_toArray, List.set]
  refine held_pure (i := 27) (v := .bool false) rfl rfl (by kernel_rfl) (by kernel_rfl) (by kernel_rfl) (fun _ _ _ h => h) (Or.inl ⟨by rfl, fun w => by go_simp⟩) HS7 ?_
  simp only [List.setIfInBounds_toArray, List.set]
  refine wpAnyH_done (by kernel_rfl) ?_ _
  have G8 := Lib.hid HS7
  clear HS0 HS1 HS2 HS3 HS4 HS5 HS6 HS7 k1 k2 k3 k4 k5 k6 k7 o1 o2 o3 o4 o5 o6 o7
  rcases HCASE.out with ⟨he, hsz, hdv⟩ | ⟨he, hes⟩
  · subst he
    have HDV := Lib.hid hdv
    have HSS := Lib.hid hsz
    clear hdv hsz
    go_wp2_with fail
    refine (HDC.out _ (by have := HSS.out; omega)).mono ?_
    rintro e w8 ⟨rfl, h8⟩
    rw [HDV.out]
    obtain ⟨W9, hst9, g9, o9, _⟩ := HF.out w8
    have HST9 := Lib.hid hst9
    have HL9 := Lib.hid (load30 HSZ.out g9)
    have HL10 := Lib.hid (load30 HSZ.out (o9.row ((Only.of_below (S := fun _ => False) h8).row G8.out (fun x => x)) (fun x => x)))
    have HQ9 := Lib.hid (HQ.out W9)
    have O9 := Lib.hid ((P7.out.trans (Only.of_below (S := fun _ => False) h8)).trans o9)
    clear h8 hst9 g9 o9
    go_wp2_with (first | ((with_reducible refine wpList_store_at ?_ 30 (.tmp 7) (.tmp 55) ?_ _ ?_ _ ?_ HST9.out ?_); rfl; rfl; rfl; rfl) | ((with_reducible refine wpList_load_w ?_ 30 (.tmp 7) ?_ _ ?_ _ HL9.out ?_); rfl; rfl; rfl) | ((with_reducible refine wpList_load_w ?_ 30 (.tmp 1) ?_ _ ?_ _ HL10.out ?_); rfl; rfl; rfl) | ((with_reducible refine wpList_eql_w ?_ 30 (.tmp 60) (.tmp 61) 30 _ _ _ ?_ ?_ ?_ ?_ HQ9.out ?_); rfl; rfl; rfl; rfl; kernel_rfl))
    go_ret
    exact ⟨rfl, O9.out.below0⟩
  · subst he
    subst hes
    go_wp2_with fail
    go_ret
    exact ⟨rfl, P7.out.below0⟩
end Go.Proofs.Ytbmckmlekhkpeaa
