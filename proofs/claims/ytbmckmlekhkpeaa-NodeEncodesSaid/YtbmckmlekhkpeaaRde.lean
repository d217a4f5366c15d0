/-
  The reference's Decode.
-/
import Derived.Test.YtbmckmlekhkpeaaRch
import Derived.Test.YtbmckmlekhkpeaaIts
set_option linter.unusedVariables false
namespace Go.Proofs.Ytbmckmlekhkpeaa
open Go.RowKit

theorem rdC_err {leaf : Bool} {s : ByteArray} {x : Int} (h : rdC leaf s = .error x) : x ≠ 0 := by
  unfold rdC at h
  split at h
  · rename_i e1
    injection h with h
    subst h
    exact rdB_err e1
  · split at h
    · cases h
    · split at h
      · rename_i e1
        injection h with h
        subst h
        exact rdB_err e1
      · split at h
        · rename_i e1
          injection h with h
          subst h
          exact rdB_err e1
        · split at h
          · rename_i e1
            injection h with h
            subst h
            exact rdK_err e1
          · split at h
            · cases h
            · split at h
              · rename_i e1
                injection h with h
                subst h
                exact rdN_err e1
              · split at h
                · rename_i e1
                  injection h with h
                  subst h
                  exact rdN_err e1
                · cases h

set_option maxRecDepth 100000 in
set_option maxHeartbeats 16000000 in
theorem rdecode_any (s : ByteArray) (w : World) (hs : s.size ≤ 140737488351232) :
    Calls Try.prog 12 #[.string s] w fun e w' => e = .returned (dcV (rdNd s)) ∧ Below w.heap.size w w' := by
  have hz := zero37
  have hg0 := heap_alloc_new w (.cells (ndA ndZ) 37)
  have HG0 := Lib.hid hg0
  have OW : Hid (Only (fun _ => False) w (w.alloc (.cells (ndA ndZ) 37))) := (Only.refl _ w).alloc _
  have hc := byteOf_any 2 s (w.alloc (.cells (ndA ndZ) 37)) hs (by omega)
  have HDC : Hid (rdNd s = match rdB 2 s with
      | .error x => .error x
      | .ok (h, s1) => match rdP (h == 1) s1 4 with
        | .error x => .error x
        | .ok (l, s') => if s'.size = 0 then .ok ⟨h == 1, l⟩ else .error 12) := rfl
  have HBZ := Lib.hid build37
  have HZ := Lib.hid (ndA_size ndZ_ok)
  have HZ1 := Lib.hid (ndA_one ndZ)
  have HZD : Hid (∀ x, dcV (.error x) = .tuple #[.agg (ndA ndZ), .int .i64 x]) := fun x => rfl
  clear hg0
  generalize rdNd s = RES at *
  cases hb : rdB 2 s with
  | error x =>
    have HX := Lib.hid (rdB_err hb)
    unfold boV at hc
    rw [hb] at hc
    simp only [hb] at HDC
    have HC := Lib.hid hc
    have hx0 : (x == 0) = false := by rw [beq_eq_false_iff_ne]; exact HX.out
    have hx1 : (x != 0) = true := by simp [HX.out]
    clear hc hb
    have HDV := Lib.hid (HZD.out x)
    generalize ndA ndZ = Z at *
    go_enter Try.func12, Try.ntmps12
    go_wp2_with fail
    refine HC.out.mono ?_
    rintro e w1 ⟨rfl, h1⟩
    have g1 := (Only.of_below (S := fun _ => False) h1).row HG0.out (fun x => x)
    have O1 := Lib.hid (OW.out.trans (Only.of_below (S := fun _ => False) h1))
    clear h1
    have HSZ := Lib.hid (same_row _ (ty := 37) g1 info37s HZ.out HZ1.out)
    have HLZ := Lib.hid (load37 HZ.out g1)
    go_wp2_with (first | ((with_reducible refine wpList_build_at ?_ 37 #[] ?_ [] ?_ _ (HBZ.out _) ?_); rfl; rfl; rfl) | ((with_reducible refine wpList_store_at ?_ 37 (.tmp 2) (.tmp 19) ?_ _ ?_ _ ?_ HSZ.out ?_); rfl; rfl; rfl; rfl))
    refine bodyPost_ret (v := .tuple #[.agg Z, .int .i64 x]) ?_ rfl ⟨by rw [HDC.out, HDV.out], O1.out.below0⟩
    have := HLZ.out
    simp [results, Try.results12, asAddr, this]
  | ok p =>
    obtain ⟨h, s1⟩ := p
    obtain ⟨hh2, hs1⟩ := rdB_ok hb
    unfold boV at hc
    rw [hb] at hc
    simp only [hb] at HDC
    have HC := Lib.hid hc
    have HS := Lib.hid hs
    have HS1 := Lib.hid hs1
    have hcmp : ((h : Int) == 1) = (h == 1) := by
      obtain rfl | rfl : h = 0 ∨ h = 1 := by omega
      · rfl
      · rfl
    clear hc hb hh2 hs hs1
    generalize (h == 1) = leaf at *
    have HBL := Lib.hid (build37l leaf)
    generalize ndA ndZ = Z at *
    go_enter Try.func12, Try.ntmps12
    go_wp2_with fail
    refine HC.out.mono ?_
    rintro e w1 ⟨rfl, h1⟩
    have g1 := (Only.of_below (S := fun _ => False) h1).row HG0.out (fun x => x)
    have hlt := lt_of_heap g1
    obtain ⟨W2, hst2, c2, o2, _⟩ := fresh_at w1 37 85 Z (ndA (pN leaf [])) info37s HZ.out (ndA_size (pN_ok (by intro c hc; cases hc) (by decide))) (ndA_one _)
    have HST2 := Lib.hid hst2
    have HC2 := Lib.hid c2
    have HG2 := Lib.hid (o2.row g1 (fun x => x))
    have O2 := Lib.hid ((OW.out.trans (Only.of_below (S := fun _ => False) h1)).trans o2)
    have HNE : Hid (w.heap.size ≠ w1.heap.size) := by unfold Hid; omega
    have HLE : Hid (w.heap.size ≤ w1.heap.size) := by unfold Hid; omega
    have HLF : Hid (∀ l, (ndA (pN leaf l))[0]? = some (.bool leaf)) := fun l => nd_leaf _
    clear h1 g1 hst2 c2 o2 hlt
    go_wp2_with (first | ((with_reducible refine wpList_build_at ?_ 37 #[(0, .tmp 22)] ?_ [(0, .bool leaf)] ?_ _ (HBL.out _) ?_); rfl; rfl; rfl) | ((with_reducible refine wpList_store_at ?_ 37 (.tmp 6) (.tmp 23) ?_ _ ?_ _ ?_ HST2.out ?_); rfl; rfl; rfl; rfl))
    clear hcmp
    go_loopw [0, 7] (fun sv i wr => ∃ (k : Nat) (l : List Ch) (s' : ByteArray), k ≤ 4 ∧ i = .int .i64 k ∧ sv = .string s' ∧ Hid (rdP leaf s1 k = .ok (l, s')) ∧ Hid (wr.heap[w.heap.size]? = some (.cells Z 37 (0, 0))) ∧ Hid (wr.heap[w1.heap.size]? = some (.cells (ndA (pN leaf l)) 37 (0, 0))) ∧ Hid (Only (fun _ => False) w wr)) (fun _ i _ => 4 - (intOf i).toNat)
    case atStart => exact ⟨0, [], s1, by omega, rfl, rfl, rfl, HG2.out, HC2.out, O2.out⟩
    case round =>
      obtain ⟨k, l, s', hk, rfl, rfl, hP, hG, hN, hO⟩ := hrel
      have hpo := rdP_ok hP.out
      by_cases hlt : k < 4
      · have HPS : Hid (rdP leaf s1 (k + 1) = match rdC leaf s' with
          | .error x => .error x
          | .ok (c, s'') => .ok (l ++ [c], s'')) := by
          show rdP leaf s1 (k + 1) = _
          rw [rdP, hP.out]
          rfl
        have hcc := rchild_any leaf s' wr (by have := HS.out; have := HS1.out; omega)
        have c0 := (cell_of_row wr w1.heap.size 0 _ _ _ hN.out).trans (HLF.out l)
        have HPO := Lib.hid hpo
        clear hpo
        cases hb2 : rdC leaf s' with
        | error x =>
          have HX := Lib.hid (rdC_err hb2)
          rw [hb2] at hcc
          simp only [hb2] at HPS
          have HCC := Lib.hid hcc
          have herr : rdP leaf s1 4 = .error x := by
            have : ∀ j, rdP leaf s1 (k + 1 + j) = .error x := fun j => by
              induction j with
              | zero => exact HPS.out
              | succ j ih =>
                show rdP leaf s1 ((k + 1 + j) + 1) = _
                rw [rdP, ih]
            have h4 := this (4 - (k + 1))
            rw [show k + 1 + (4 - (k + 1)) = 4 by omega] at h4
            exact h4
          simp only [herr] at HDC
          have hx0 : (x == 0) = false := by rw [beq_eq_false_iff_ne]; exact HX.out
          have hx1 : (x != 0) = true := by simp [HX.out]
          have HDV := Lib.hid (HZD.out x)
          clear hcc hb2 herr
          go_wp2_with fail
          refine HCC.out.mono ?_
          rintro e w2 ⟨rfl, h2⟩
          obtain ⟨W3, hst3, c3, o3, _⟩ := fresh_at w2 34 21 (chA chZ) (chA chZ) info34s rfl rfl (chA_one _)
          have HST3 : Hid ((storeVar 34 ⟨w2.heap.size, 0, none⟩ (.agg (chA chZ))).run Try.prog (w2.alloc (.cells #[.bool false, .int .i64 0, .int .i64 0, .int .u8 0, .int .u8 0, .int .u8 0, .int .u8 0, .int .u8 0, .int .u8 0, .int .u8 0, .int .u8 0, .int .u8 0, .int .u8 0, .int .u8 0, .int .u8 0, .int .u8 0, .int .u8 0, .int .u8 0, .int .u8 0, .int .u64 0, .int .u64 0] 34)) = .ok () W3) := hst3
          have g3 := o3.row ((Only.of_below (S := fun _ => False) h2).row hG.out (fun x => x)) (fun x => x)
          have O3 := Lib.hid ((hO.out.trans (Only.of_below (S := fun _ => False) h2)).trans o3)
          clear h2 hst3 c3 o3
          have HSZ := Lib.hid (same_row _ (ty := 37) g3 info37s HZ.out HZ1.out)
          have HLZ := Lib.hid (load37 HZ.out g3)
          go_wp2_with (first | ((with_reducible refine wpList_store_at ?_ 34 (.tmp 8) (.tmp 33) ?_ _ ?_ _ ?_ HST3.out ?_); rfl; rfl; rfl; rfl) | ((with_reducible refine wpList_build_at ?_ 37 #[] ?_ [] ?_ _ (HBZ.out _) ?_); rfl; rfl; rfl) | ((with_reducible refine wpList_store_at ?_ 37 (.tmp 2) (.tmp 38) ?_ _ ?_ _ ?_ HSZ.out ?_); rfl; rfl; rfl; rfl))
          refine bodyPost_ret (v := .tuple #[.agg Z, .int .i64 x]) ?_ rfl ⟨by rw [HDC.out, HDV.out], O3.out.below0⟩
          have := HLZ.out
          simp [results, Try.results12, asAddr, this]
        | ok p =>
          obtain ⟨c, s''⟩ := p
          have hco := rdC_ok hb2
          rw [hb2] at hcc
          simp only [hb2] at HPS
          have HCC := Lib.hid hcc
          have HCO := Lib.hid hco
          clear hcc hb2 hco
          go_wp2_with fail
          refine HCC.out.mono ?_
          rintro e w2 ⟨rfl, h2⟩
          obtain ⟨W3, hst3, c3, o3, _⟩ := fresh_at w2 34 21 (chA chZ) (chA c) info34s rfl (chA_size HCO.out.1) (chA_one _)
          rw [chZ_is] at hst3
          have HST3 := Lib.hid hst3
          have HL3 := Lib.hid (load34 (chA_size HCO.out.1) c3)
          have g3 := o3.row ((Only.of_below (S := fun _ => False) h2).row hG.out (fun x => x)) (fun x => x)
          have n3 := o3.row ((Only.of_below (S := fun _ => False) h2).row hN.out (fun x => x)) (fun x => x)
          have hok := pN_ok (leaf := leaf) HPO.out.2.1 (by have := HPO.out.1; omega)
          obtain ⟨W4, hst, n4, o4, _⟩ := put_at W3 (o := 1 + k * 21) (B := chA c) n3 info34s (chA_size HCO.out.1) (by rw [ndA_size hok]; omega) (chA_one c)
          rw [nd_put hok hlt HCO.out.1] at n4
          have e4 : (pN leaf l).put k c = pN leaf (l ++ [c]) := by
            have := pN_put (leaf := leaf) (l := l) (by rw [HPO.out.1]; exact hlt) c
            rw [HPO.out.1] at this
            exact this
          rw [e4] at n4
          have HST := Lib.hid hst
          have HN4 := Lib.hid n4
          have HG4 := Lib.hid (o4.row g3 HNE.out)
          have O4 := Lib.hid (((hO.out.trans (Only.of_below (S := fun _ => False) h2)).trans o3).fresh o4 (by intro j hj; have := HLE.out; omega))
          clear h2 hst3 c3 o3 g3 n3 hok hst n4 o4 e4
          go_wp2_with (first | ((with_reducible refine wpList_store_at ?_ 34 (.tmp 8) (.tmp 33) ?_ _ ?_ _ ?_ HST3.out ?_); rfl; rfl; rfl; rfl) | ((with_reducible refine wpList_load_at ?_ 34 (.tmp 8) ?_ _ ?_ _ HL3.out ?_); rfl; rfl; rfl) | ((with_reducible refine wpList_store_at ?_ 34 (.tmp 43) (.tmp 41) ?_ _ ?_ _ ?_ HST.out ?_); rfl; rfl; rfl; rfl))
          go_roundw
          case rel => exact ⟨k + 1, l ++ [c], s'', by omega, by go_num, rfl, HPS.out, HG4.out, HN4.out, O4.out⟩
          case measure => simp [intOf]; omega
      · obtain rfl : k = 4 := by omega
        simp only [hP.out] at HDC
        have hpn : pN leaf l = ⟨leaf, l⟩ := pN_all hpo.1
        have hok : Nd.Ok ⟨leaf, l⟩ := ⟨hpo.1, hpo.2.1⟩
        rw [hpn] at hN
        by_cases hzz : s'.size = 0
        · rw [if_pos hzz] at HDC
          have HL := Lib.hid (load37 (ndA_size hok) hN.out)
          obtain ⟨W4, hst, g4, o4, _⟩ := store_row wr hG.out info37s (ndA_size hok) HZ.out (ndA_one _)
          have HST := Lib.hid hst
          have HL4 := Lib.hid (load37 (ndA_size hok) g4)
          have O4 := Lib.hid (hO.out.fresh o4 (by intro j hj; omega))
          have hd : decide ((0 : Int) < (s'.size : Int)) = false := decide_eq_false (by omega)
          clear hst g4 o4 hok hpn hpo
          go_wp2_with (first | ((with_reducible refine wpList_load_at ?_ 37 (.tmp 6) ?_ _ ?_ _ HL.out ?_); rfl; rfl; rfl) | ((with_reducible refine wpList_store_at ?_ 37 (.tmp 2) (.tmp 49) ?_ _ ?_ _ ?_ HST.out ?_); rfl; rfl; rfl; rfl))
          refine bodyPost_ret (v := .tuple #[.agg (ndA ⟨leaf, l⟩), .int .i64 0]) ?_ rfl ⟨by rw [HDC.out]; rfl, O4.out.below0⟩
          have := HL4.out
          simp [results, Try.results12, asAddr, this]
        · rw [if_neg hzz] at HDC
          have hd : decide ((0 : Int) < (s'.size : Int)) = true := decide_eq_true (by omega)
          have hd2 : 0 < s'.size := by omega
          have HDV := Lib.hid (HZD.out 12)
          have g4 := hG.out
          clear hok hpn hpo hzz
          have HSZ := Lib.hid (same_row _ (ty := 37) g4 info37s HZ.out HZ1.out)
          have HLZ := Lib.hid (load37 HZ.out g4)
          go_wp2_with (first | ((with_reducible refine wpList_build_at ?_ 37 #[] ?_ [] ?_ _ (HBZ.out _) ?_); rfl; rfl; rfl) | ((with_reducible refine wpList_store_at ?_ 37 (.tmp 2) (.tmp 48) ?_ _ ?_ _ ?_ HSZ.out ?_); rfl; rfl; rfl; rfl))
          refine bodyPost_ret (v := .tuple #[.agg Z, .int .i64 12]) ?_ rfl ⟨by rw [HDC.out, HDV.out], hO.out.below0⟩
          have := HLZ.out
          simp [results, Try.results12, asAddr, this]
end Go.Proofs.Ytbmckmlekhkpeaa
