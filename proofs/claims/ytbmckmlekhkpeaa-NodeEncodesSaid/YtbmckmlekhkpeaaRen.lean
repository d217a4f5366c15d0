/-
  The reference's Encode.
-/
import Derived.Test.YtbmckmlekhkpeaaHld
import Derived.Test.YtbmckmlekhkpeaaPla
import Derived.Test.YtbmckmlekhkpeaaRmy
import Derived.Test.YtbmckmlekhkpeaaShn
set_option linter.unusedVariables false
namespace Go.Proofs.Ytbmckmlekhkpeaa
open Go.RowKit

theorem sb_app (a b : List UInt8) : SB a ++ SB b = SB (a ++ b) := by
  apply ByteArray.ext
  simp [ByteArray.data_append]
theorem rflag_any (x : Bool) (w : World) : Calls Try.prog 36 #[.bool x] w fun e w' => e = .returned (.string (SB (flagB x))) ∧ w = w' := by
  cases x
  all_goals
    go_enter Try.func36, Try.ntmps36
    go_wp2
    go_ret
    exact ⟨rfl, rfl⟩

set_option maxHeartbeats 1000000 in
theorem renc_bad (n : Nd) (w : World) (h : n.Ok) (hm : mayN n = false) :
    Calls Try.prog 16 #[.agg (ndA n)] w fun e w' => e = .returned (.tuple #[.string ⟨#[]⟩, .int .i64 1]) ∧ Below w.heap.size w w' := by
  have hg := heap_alloc_new w (.cells (ndA n) 37)
  have HL := Lib.hid (load37 (ndA_size h) hg)
  have hc := rmay_any n (w.alloc (.cells (ndA n) 37)) h
  rw [hm] at hc
  have HC := Lib.hid hc
  have HB : Hid (Only (fun _ => False) w (w.alloc (.cells (ndA n) 37))) := (Only.refl _ w).alloc _
  clear hc hg h hm
  generalize ndA n = A at *
  go_enter Try.func16, Try.ntmps16
  go_wp2_with (((with_reducible refine wpList_load_at ?_ 37 (.tmp 1) ?_ _ ?_ _ HL.out ?_); rfl; rfl; rfl))
  refine HC.out.mono ?_
  rintro e w1 ⟨rfl, h1⟩
  go_wp2_with fail
  go_ret2
  exact ⟨rfl, (HB.out.trans (Only.of_below h1)).below0⟩

set_option maxRecDepth 100000 in
set_option maxHeartbeats 8000000 in
theorem renc_ok (n : Nd) (w : World) (h : n.Ok) (hm : mayN n = true) :
    Calls Try.prog 16 #[.agg (ndA n)] w fun e w' => e = .returned (.tuple #[.string (SB (encN n)), .int .i64 0]) ∧ Below w.heap.size w w' := by
  have hg := heap_alloc_new w (.cells (ndA n) 37)
  have HL := Lib.hid (load37 (ndA_size h) hg)
  have hc := rmay_any n (w.alloc (.cells (ndA n) 37)) h
  rw [hm] at hc
  have HC := Lib.hid hc
  have HG := Lib.hid hg
  have HB : Hid (Only (fun _ => False) w (w.alloc (.cells (ndA n) 37))) := (Only.refl _ w).alloc _
  have HLF := Lib.hid (nd_leaf n)
  have HOK := Lib.hid h
  have HLD := Lib.hid (fun (i : Nat) (hi : i < 4) (W : World) (hW : W.heap[w.heap.size]? = some (.cells (ndA n) 37 (0, 0))) => load34c h hi hW)
  have HMY := Lib.hid (fun k (hk : k < 4) => mayN_get h hm hk)
  have HSU := Lib.hid (fun k (hk : k < 4) => encP_succ h hk)
  have HLE := Lib.hid (fun k (hk : k ≤ 4) => encP_len h k hk)
  have HE0 : Hid (SB (encP n 0) = SB (flagB n.leaf)) := by unfold Hid encP; simp
  have HEN : Hid (SB (encN n) = SB (encP n 4)) := rfl
  generalize SB (encN n) = RS at *
  clear hc hg h hm
  generalize ndA n = A at *
  generalize hleaf : n.leaf = leaf at *
  have HLQ := Lib.hid hleaf
  clear hleaf
  go_enter Try.func16, Try.ntmps16
  go_wp2_with (((with_reducible refine wpList_load_at ?_ 37 (.tmp 1) ?_ _ ?_ _ HL.out ?_); rfl; rfl; rfl))
  refine HC.out.mono ?_
  rintro e w1 ⟨rfl, h1⟩
  have O1 := Lib.hid (HB.out.trans (Only.of_below (S := fun _ => False) h1))
  have G1 := Lib.hid ((Only.of_below (S := fun _ => False) h1).row HG.out (fun x => x))
  have c0 := (cell_of_row _ _ 0 _ _ _ G1.out).trans HLF.out
  clear h1
  go_wp2_with fail
  refine (rflag_any leaf _).mono ?_
  rintro e w2 ⟨rfl, rfl⟩
  rw [← HE0.out]
  clear c0
  go_wp2_with fail
  go_loopw [4, 5] (fun t i wr => ∃ k : Nat, k ≤ 4 ∧ i = .int .i64 k ∧ t = .string (SB (encP n k)) ∧ Hid (wr.heap[w.heap.size]? = some (.cells A 37 (0, 0))) ∧ Hid (Only (fun _ => False) w wr)) (fun _ i _ => 4 - (intOf i).toNat)
  case atStart => exact ⟨0, by omega, rfl, rfl, G1.out, O1.out⟩
  case round =>
    obtain ⟨k, hk, rfl, rfl, hG, hO⟩ := hrel
    by_cases hlt : k < 4
    · have HX := Lib.hid (HLD.out k hlt wr hG.out)
      have hok := HOK.out.get_ok k
      obtain ⟨W2, hst, hw2, o2, hs2⟩ := fresh_at wr 34 21 (chA chZ) (chA (n.get k)) info34s rfl (chA_size hok) (chA_one _)
      rw [chZ_is] at hst
      have HST := Lib.hid hst
      have c0 := (cell_of_row _ _ 0 _ _ _ hw2).trans (ch_has _)
      have HC2 := Lib.hid hw2
      have HG2 := Lib.hid (o2.row hG.out (fun x => x))
      have HO2 := Lib.hid (hO.out.trans o2)
      have HSU1 := Lib.hid (HSU.out k hlt)
      have hlen := HLE.out k hk
      have hsz0 : (SB (encP n k)).size ≤ 200 := by rw [sb_size]; omega
      have hszf : (SB (flagB false)).size ≤ 1 := by rw [sb_size]; simp [flagB]
      have hszg : (SB (flagB true)).size ≤ 1 := by rw [sb_size]; simp [flagB]
      clear hst hw2 o2 hs2
      cases hb : (n.get k).has
      · rw [hb] at c0
        have hnx : SB (encP n (k + 1)) = SB (encP n k) ++ SB (flagB false) := by
          rw [HSU1.out, encC, hb, sb_app]; simp
        have HNX := Lib.hid hnx
        clear hb hnx
        go_wp2_with (first | ((with_reducible refine wpList_load_at ?_ 34 (.tmp 23) ?_ _ ?_ _ HX.out ?_); rfl; rfl; rfl) | ((with_reducible refine wpList_store_at ?_ 34 (.tmp 6) (.tmp 24) ?_ _ ?_ _ ?_ HST.out ?_); rfl; rfl; rfl; rfl))
        refine (rflag_any false _).mono ?_
        rintro e w3 ⟨rfl, rfl⟩
        go_wp2_with fail
        go_roundw
        case rel => exact ⟨k + 1, by omega, by go_num, by rw [HNX.out], HG2.out, HO2.out⟩
        case measure => simp [intOf]; omega
      · rw [hb] at c0
        obtain ⟨m1, m2, m3, m4⟩ := mayC_has (HMY.out k hlt) hb
        have hkl := hok.len
        have HA1 := Lib.hid (ch_seg (n.get k))
        have HA2 := Lib.hid (ch_page (n.get k))
        have HA3 := Lib.hid (ch_ex hok)
        have HA4 := Lib.hid (ch_ver hok)
        have HAK := Lib.hid (ch_key hok)
        have x0 := hok.ex
        have v0 := hok.ver
        have hnx : encP n (k + 1) = encP n k ++ flagB true ++ [UInt8.ofNat (n.get k).seg.toNat, UInt8.ofNat (n.get k).page.toNat] ++ (n.get k).key ++ (if leaf = true then leBytes (n.get k).ex.toNat 8 ++ leBytes (n.get k).ver.toNat 8 else []) := by
          rw [HSU1.out, encC, hb]; simp
        have HNX := Lib.hid hnx
        clear hb hnx hok
        generalize chA (n.get k) = C at *
        generalize (n.get k).seg = sg at *
        generalize (n.get k).page = pg at *
        generalize (n.get k).key = key at *
        generalize (n.get k).ex = ex at *
        generalize (n.get k).ver = ver at *
        have hP1 : SB (encP n k) ++ SB (flagB true) = SB (encP n k ++ flagB true) := sb_app _ _
        have hsz1 : (SB (encP n k ++ flagB true)).size ≤ 201 := by rw [sb_size, List.length_append]; simp [flagB]; omega
        go_wp2_with (first | ((with_reducible refine wpList_load_at ?_ 34 (.tmp 23) ?_ _ ?_ _ HX.out ?_); rfl; rfl; rfl) | ((with_reducible refine wpList_store_at ?_ 34 (.tmp 6) (.tmp 24) ?_ _ ?_ _ ?_ HST.out ?_); rfl; rfl; rfl; rfl))
        refine (rflag_any true _).mono ?_
        rintro e w3 ⟨rfl, rfl⟩
        generalize hg6 : wr.heap.size = g at *
        have hgl : g < W2.heap.size := lt_of_heap HC2.out
        clear hg6
        have HKC : Hid (∀ W, W.heap[g]? = some (.cells C 34 (0, 0)) → (convert 66 9 (.slice (some ⟨g, 3, none⟩) 16 16)).run Try.prog W = .ok (.string (SB key)) W) := fun W hW => bytes_conv hkl (fun i hi => by
          rw [cell_of_row W g (3 + i) C 34 (0, 0) hW]
          have e1 : (kyC key)[i]? = some (.int .u8 key[i].toNat) := by simp [kyC, hi]
          rw [← HAK.out, Array.getElem?_extract] at e1
          split at e1
          · exact e1
          · cases e1)
        have HBS : Hid ((Instr.buildSlice 66 2 [(0, .int .u8 sg), (1, .int .u8 pg)].toArray).run Try.prog (World.drew W2) = .ok (.slice (some ⟨W2.heap.size, 0, none⟩) 2 2) ((World.drew W2).alloc (.cells #[.int .u8 sg, .int .u8 pg] 5))) := by
          simp [Hid, go_sem]
        have HS1 : Hid (((World.drew W2).alloc (.cells #[.int .u8 sg, .int .u8 pg] 5)).heap[g]? = some (.cells C 34 (0, 0))) := (Below.heap_alloc _ _ _ hgl).trans HC2.out
        have hnw := heap_alloc_new (World.drew W2) (.cells #[.int .u8 sg, .int .u8 pg] 5)
        have HTC : Hid ((convert 66 9 (.slice (some ⟨W2.heap.size, 0, none⟩) 2 2)).run Try.prog ((World.drew W2).alloc (.cells #[.int .u8 sg, .int .u8 pg] 5)) = .ok (.string (SB [UInt8.ofNat sg.toNat, UInt8.ofNat pg.toNat])) ((World.drew W2).alloc (.cells #[.int .u8 sg, .int .u8 pg] 5))) := bytes_conv rfl (fun i hi => by
          have e := cell_of_row _ _ (0 + i) _ _ _ hnw
          change World.cell? _ ⟨W2.heap.size, 0 + i, none⟩ = _ at e
          rw [e]
          have e1 : (((UInt8.ofNat sg.toNat).toNat : Nat) : Int) = sg := by rw [UInt8.toNat_ofNat']; omega
          have e2 : (((UInt8.ofNat pg.toNat).toNat : Nat) : Int) = pg := by rw [UInt8.toNat_ofNat']; omega
          obtain rfl | rfl : i = 0 ∨ i = 1 := by simp at hi; omega
          · simp only [Nat.zero_add, List.getElem_cons_zero, e1]; rfl
          · simp only [Nat.zero_add, List.getElem_cons_succ, List.getElem_cons_zero, e2]; rfl)
        have hP2 : SB (encP n k ++ flagB true) ++ SB [UInt8.ofNat sg.toNat, UInt8.ofNat pg.toNat] = SB (encP n k ++ flagB true ++ [UInt8.ofNat sg.toNat, UInt8.ofNat pg.toNat]) := sb_app _ _
        have hP3 : SB (encP n k ++ flagB true ++ [UInt8.ofNat sg.toNat, UInt8.ofNat pg.toNat]) ++ SB key = SB (encP n k ++ flagB true ++ [UInt8.ofNat sg.toNat, UInt8.ofNat pg.toNat] ++ key) := sb_app _ _
        have hsz2 : (SB (encP n k ++ flagB true ++ [UInt8.ofNat sg.toNat, UInt8.ofNat pg.toNat])).size ≤ 203 := by rw [sb_size, List.length_append, List.length_append]; simp [flagB]; omega
        have hsz3 : (SB (encP n k ++ flagB true ++ [UInt8.ofNat sg.toNat, UInt8.ofNat pg.toNat] ++ key)).size ≤ 219 := by rw [sb_size, List.length_append, List.length_append, List.length_append]; simp [flagB, hkl]; omega
        have hszk : (SB key).size ≤ 16 := by rw [sb_size, hkl]; omega
        have hszt : (SB [UInt8.ofNat sg.toNat, UInt8.ofNat pg.toNat]).size ≤ 2 := by rw [sb_size]; simp
        generalize hL3 : encP n k ++ flagB true ++ [UInt8.ofNat sg.toNat, UInt8.ofNat pg.toNat] ++ key = L3 at *
        generalize SB (encP n k ++ flagB true ++ [UInt8.ofNat sg.toNat, UInt8.ofNat pg.toNat]) = P2 at *
        generalize SB (encP n k ++ flagB true) = P1 at *
        generalize SB [UInt8.ofNat sg.toNat, UInt8.ofNat pg.toNat] = T2 at *
        generalize SB key = KS at *
        have HL3 := Lib.hid hL3
        generalize hPP : SB L3 = P3 at *
        have HPP := Lib.hid hPP
        have hwsg : IntKind.u8.wrap sg = sg := by rw [IntKind.wrap_u8]; omega
        have hwpg : IntKind.u8.wrap pg = pg := by rw [IntKind.wrap_u8]; omega
        have hs12 : P1.size + T2.size ≤ 9223372036854775807 := by omega
        have hs23 : P2.size + KS.size ≤ 9223372036854775807 := by omega
        clear hL3 hnw hPP
        go_wp2_with fail
        have HAL : Hid (Only (fun _ => False) w ((World.drew W2).alloc (.cells #[.int .u8 sg, .int .u8 pg] 5))) := (HO2.out.drew).alloc _
        have HG3 : Hid (((World.drew W2).alloc (.cells #[.int .u8 sg, .int .u8 pg] 5)).heap[w.heap.size]? = some (.cells A 37 (0, 0))) := (Below.heap_alloc _ _ _ (lt_of_heap HG2.out)).trans HG2.out
        refine wp_region_held (S := fun W => W.heap[g]? = some (.cells C 34 (0, 0))) (by kernel_rfl) ?_
        change wpAnyH _ _ _ _ _ _ _ _ (World.drew _)
        have HS0 : (World.drew W2).heap[g]? = some (.cells C 34 (0, 0)) := HC2.out
        refine held_pure (i := 0) (v := .string P1) rfl rfl (by kernel_rfl) (by kernel_rfl) (by kernel_rfl) (fun _ _ _ h => h) (Or.inl ⟨by rfl, fun w => by go_simp⟩) HS0 ?_
        simp only [List.setIfInBounds_toArray, List.set]
        refine held_pure (i := 1) (v := .pointer (some ⟨g, 1, none⟩)) rfl rfl (by kernel_rfl) (by kernel_rfl) (by kernel_rfl) (fun _ _ _ h => h) (Or.inl ⟨by rfl, fun w => by go_simp⟩) HS0 ?_
        simp only [List.setIfInBounds_toArray, List.set]
        refine held_take (i := 2) (v := .int .i64 sg) rfl rfl (by kernel_rfl) (by kernel_rfl) (by kernel_rfl) (fun _ _ _ h => h) (Or.inl ⟨by rfl, fun w hS => by have hc := (cell_of_row w g 1 _ _ _ hS).trans HA1.out; go_simp⟩) HS0 ?_
        simp only [List.setIfInBounds_toArray, List.set]
        refine held_pure (i := 3) (v := .int .u8 sg) rfl rfl (by kernel_rfl) (by kernel_rfl) (by kernel_rfl) (fun _ _ _ h => h) (Or.inl ⟨by rfl, fun w => by go_simp⟩) HS0 ?_
        simp only [List.setIfInBounds_toArray, List.set]
        refine held_pure (i := 4) (v := .pointer (some ⟨g, 2, none⟩)) rfl rfl (by kernel_rfl) (by kernel_rfl) (by kernel_rfl) (fun _ _ _ h => h) (Or.inl ⟨by rfl, fun w => by go_simp⟩) HS0 ?_
        simp only [List.setIfInBounds_toArray, List.set]
        refine held_take (i := 5) (v := .int .i64 pg) rfl rfl (by kernel_rfl) (by kernel_rfl) (by kernel_rfl) (fun _ _ _ h => h) (Or.inl ⟨by rfl, fun w hS => by have hc := (cell_of_row w g 2 _ _ _ hS).trans HA2.out; go_simp⟩) HS0 ?_
        simp only [List.setIfInBounds_toArray, List.set]
        refine held_pure (i := 6) (v := .int .u8 pg) rfl rfl (by kernel_rfl) (by kernel_rfl) (by kernel_rfl) (fun _ _ _ h => h) (Or.inl ⟨by rfl, fun w => by go_simp⟩) HS0 ?_
        simp only [List.setIfInBounds_toArray, List.set]
        refine held_pure (i := 10) (v := .pointer (some ⟨g, 3, none⟩)) rfl rfl (by kernel_rfl) (by kernel_rfl) (by kernel_rfl) (fun _ _ _ h => h) (Or.inl ⟨by rfl, fun w => by go_simp⟩) HS0 ?_
        simp only [List.setIfInBounds_toArray, List.set]
        refine held_pure (i := 11) (v := .slice (some ⟨g, 3, none⟩) 16 16) rfl rfl (by kernel_rfl) (by kernel_rfl) (by kernel_rfl) (fun _ _ _ h => h) (Or.inl ⟨by rfl, fun w => by go_simp⟩) HS0 ?_
        simp only [List.setIfInBounds_toArray, List.set]
        refine held_take (i := 12) (v := .string KS) rfl rfl (by kernel_rfl) (by kernel_rfl) (by kernel_rfl) (fun _ _ _ h => h) (yields_conv rfl 66 9 (.tmp 44) rfl _ rfl _ HKC.out) HS0 ?_
        simp only [List.setIfInBounds_toArray, List.set]
        refine held_bs (j := 7) (by kernel_rfl) rfl rfl rfl 66 2 _ rfl [(0, .int .u8 sg), (1, .int .u8 pg)] rfl _ HBS.out HS1.out ?_
        simp only [List.setIfInBounds_toArray, List.set]
        refine held_conv (j := 8) (by kernel_rfl) rfl rfl rfl 66 9 (.tmp 40) rfl _ rfl _ HTC.out HS1.out ?_
        simp only [List.setIfInBounds_toArray, List.set]
        refine held_pure (i := 9) (v := .string P2) rfl rfl (by kernel_rfl) (by kernel_rfl) (by kernel_rfl) (fun _ _ _ h => h) (Or.inl ⟨by rfl, fun w => by go_simp⟩) HS1.out ?_
        simp only [List.setIfInBounds_toArray, List.set]
        refine held_pure (i := 13) (v := .string P3) rfl rfl (by kernel_rfl) (by kernel_rfl) (by kernel_rfl) (fun _ _ _ h => h) (Or.inl ⟨by rfl, fun w => by go_simp⟩) HS1.out ?_
        simp only [List.setIfInBounds_toArray, List.set]
        refine held_pure (i := 14) (v := .string P3) rfl rfl (by kernel_rfl) (by kernel_rfl) (by kernel_rfl) (fun _ _ _ h => h) (Or.inl ⟨by rfl, fun w => by go_simp⟩) HS1.out ?_
        simp only [List.setIfInBounds_toArray, List.set]
        refine wpAnyH_done (by kernel_rfl) ?_ _
        generalize (World.drew W2).alloc (.cells #[.int .u8 sg, .int .u8 pg] 5) = W3 at *
        have c9 := (cell_of_row _ _ 0 _ _ _ HG3.out).trans HLF.out
        have d3 := (cell_of_row _ _ 19 _ _ _ HS1.out).trans HA3.out
        have d4 := (cell_of_row _ _ 20 _ _ _ HS1.out).trans HA4.out
        cases leaf
        · have hpe : P3 = SB (encP n (k + 1)) := by rw [← HPP.out, HNX.out, ← HL3.out]; simp
          have HPE := Lib.hid hpe
          clear hpe
          go_wp2_with fail
          go_roundw
          case rel => exact ⟨k + 1, by omega, by go_num, by rw [HPE.out], HG3.out, HAL.out⟩
          case measure => simp [intOf]; omega
        · obtain ⟨ex, rfl⟩ := Int.eq_ofNat_of_zero_le x0.1
          obtain ⟨ver, rfl⟩ := Int.eq_ofNat_of_zero_le v0.1
          have hpe : P3 ++ SB (leBytes ex 8) ++ SB (leBytes ver 8) = SB (encP n (k + 1)) := by rw [← HPP.out, HNX.out, ← HL3.out, sb_app, sb_app]; simp
          have hn8 : ∀ x : Nat, x ≤ 18446744073709551615 → nmV x 8 = .tuple #[.string (SB (leBytes x 8)), .int .i64 0] := fun x hx => nmV_ok (n := x) (width := 8) ⟨by omega, by omega, by
              show x / 256 ^ 8 = 0
              exact Nat.div_eq_of_lt (by omega)⟩
          have hr1 := fun W => rnum_all ex 8 W (by omega)
          rw [hn8 ex (by omega)] at hr1
          have hr2 := fun W => rnum_all ver 8 W (by omega)
          rw [hn8 ver (by omega)] at hr2
          have HR1 := Lib.hid hr1
          have HR2 := Lib.hid hr2
          have hzx : (SB (leBytes ex 8)).size ≤ 8 := by rw [sb_size, leBytes_len]; omega
          have hzv : (SB (leBytes ver 8)).size ≤ 8 := by rw [sb_size, leBytes_len]; omega
          clear hr1 hr2 hn8
          generalize SB (leBytes ex 8) = XS at *
          generalize SB (leBytes ver 8) = VS at *
          have hs4 : P3.size + XS.size ≤ 9223372036854775807 := by omega
          have hq4 : (P3 ++ XS).size ≤ 300 := by rw [ByteArray.size_append]; omega
          generalize hP4 : P3 ++ XS = P4 at *
          have hs5 : P4.size + VS.size ≤ 9223372036854775807 := by omega
          have HPE := Lib.hid hpe
          clear hpe
          go_wp2_with fail
          refine (HR1.out _).mono ?_
          rintro e v1 ⟨rfl, k1⟩
          have HS2 := Lib.hid ((Only.of_below (S := fun _ => False) k1).row HS1.out (fun x => x))
          have HG4 := Lib.hid ((Only.of_below (S := fun _ => False) k1).row HG3.out (fun x => x))
          have HA5 := Lib.hid (HAL.out.trans (Only.of_below (S := fun _ => False) k1))
          have d5 := (cell_of_row _ _ 20 _ _ _ HS2.out).trans HA4.out
          clear k1
          go_wp2_with fail
          refine (HR2.out _).mono ?_
          rintro e v2 ⟨rfl, k2⟩
          have HG5 := Lib.hid ((Only.of_below (S := fun _ => False) k2).row HG4.out (fun x => x))
          have HA6 := Lib.hid (HA5.out.trans (Only.of_below (S := fun _ => False) k2))
          clear k2
          go_wp2_with fail
          go_roundw
          case rel => exact ⟨k + 1, by omega, by go_num, by rw [← HPE.out], HG5.out, HA6.out⟩
          case measure => simp [intOf]; omega
    · obtain rfl : k = 4 := by omega
      go_wp2_with fail
      go_ret2
      exact ⟨by rw [HEN.out]; rfl, hO.out.below0⟩
theorem rencode_any (n : Nd) (w : World) (h : n.Ok) : Calls Try.prog 16 #[.agg (ndA n)] w fun e w' => e = .returned (encV n) ∧ Below w.heap.size w w' := by
  unfold encV encS encE
  cases hm : mayN n
  · exact renc_bad n w h hm
  · exact renc_ok n w h hm
end Go.Proofs.Ytbmckmlekhkpeaa
