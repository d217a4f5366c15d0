/-
  The reference: Can, Atoms, Needs.
-/
import Derived.Test.YtnppjkekbdapkaaRkn
import Derived.Test.YtnppjkekbdapkaaRpt
set_option linter.unusedVariables false
namespace Go.Proofs.Ytnppjkekbdapkaa
open Go.RowKit

theorem FL.lower {w : World} {b b' : Nat} {v : Value} {xs : List Int} (h : FL w b v xs) (hb : b' ≤ b) : FL w b' v xs := by
  obtain ⟨h1, h | ⟨g, cap, cur, rfl, hg, rest⟩⟩ := h
  · exact ⟨h1, .inl h⟩
  · exact ⟨h1, .inr ⟨g, cap, cur, rfl, by omega, rest⟩⟩
set_option maxHeartbeats 4000000 in
theorem rcan_any (l : List Nd) (kn : List Int) (goal : Int) (v kv : Value) (w : World) (hl : NL w v l) (hkn : IL w kv kn) (hkl : kn.length ≤ 100000) (hg : wf64 goal) :
    Calls Try.prog 17 #[v, kv, .int .i64 goal] w fun e w' => e = .returned (.bool (canB l kn goal)) ∧ Only (fun _ => False) w w' := by
  have HC := Lib.hid (rknows_any l kn v kv w hl hkn hkl)
  rw [wf64_iff] at hg
  obtain ⟨r, hr⟩ : ∃ r, canB l kn goal = r := ⟨_, rfl⟩
  rw [hr]
  unfold canB at hr
  generalize knows l kn = bs at *
  have HR := Lib.hid hr
  clear hr hl hkn
  go_enter Try.func17, Try.ntmps17
  go_upto_region 2 with (go_at_call 16; refine HC.out.mono ?_; rintro e w1 ⟨bv, rfl, hb, h1⟩)
  have HB := Lib.hid hb
  have HO := Lib.hid h1
  obtain ⟨a, cap, rfl, hcap, hmx⟩ := hb.val
  clear hb h1
  by_cases h0 : 0 ≤ goal
  · by_cases h2 : goal < (bs.length : Int)
    · obtain ⟨i, rfl⟩ := Int.eq_ofNat_of_zero_le h0
      have hi : i < bs.length := by omega
      obtain ⟨b, o, c, he, _, _, hc⟩ := HB.out.at hi
      cases he
      have e : r = bs[i] := by
        rw [← HR.out, if_pos h0, List.getD_eq_getElem?_getD, Int.toNat_natCast, List.getElem?_eq_getElem hi]
        rfl
      rw [← e] at hc
      clear e
      go_wp2_with fail
      go_ret
      exact ⟨rfl, HO.out⟩
    · go_wp2_with fail
      go_ret
      refine ⟨?_, HO.out⟩
      rw [← HR.out, if_pos h0, List.getD_eq_getElem?_getD, List.getElem?_eq_none (by omega)]
      rfl
  · go_wp2_with fail
    go_ret
    refine ⟨?_, HO.out⟩
    rw [← HR.out, if_neg (by omega)]
    rfl

theorem rise_nil : rise [] = [] := by simp [rise, Lib.compact, Lib.compactUpTo]
set_option maxHeartbeats 4000000 in
theorem ratoms_any (l : List Nd) (kn : List Int) (v kv : Value) (w : World) (hl : NL w v l) (hkn : IL w kv kn) (hll : l.length ≤ 1000) (hkl : kn.length ≤ 100000) :
    Calls Try.prog 20 #[v, kv] w fun e w' => ∃ v', e = .returned v' ∧ IL w' v' (atoms l kn) ∧ Only (fun _ => False) w w' := by
  have HL := Lib.hid hl
  have HC := Lib.hid (rknows_any l kn v kv w hl hkn hkl)
  have hbl := knows_le l kn
  unfold atoms
  generalize knows l kn = bs at *
  obtain ⟨ad, cap, rfl, hrow⟩ := hl
  clear hrow hkn
  go_enter Try.func20, Try.ntmps20
  go_upto_region 2 with (go_at_call 16; refine HC.out.mono ?_; rintro e w1 ⟨bv, rfl, hb, h1⟩)
  have HB := Lib.hid hb
  obtain ⟨ab, cb, rfl, hcb, hmb⟩ := hb.val
  have HO1 := Lib.hid h1
  clear hb h1
  have hb0 := build_0 w1
  have HF0 : Hid (FL (w1.alloc (.cells #[] 3)) w1.heap.size (.slice (some ⟨w1.heap.size, 0, none⟩) 0 0) (rise (atomsU l bs 0))) := by
    rw [show atomsU l bs 0 = [] from rfl, rise_nil]
    exact FL.new w1 _ (Nat.le_refl _)
  have HRF : Hid (Only (fun _ => False) w1 (w1.alloc (.cells #[] 3))) := (Only.refl _ _).alloc _
  generalize w1.alloc (.cells #[] 3) = V1 at *
  have HB0 := Lib.hid hb0
  clear hb0
  go_wp2_with ((with_reducible refine wpList_bs_g ?_ 23 0 #[] ?_ [] ?_ _ HB0.out ?_); rfl; rfl; rfl)
  go_loopg [6, 7] bs.length (fun gg av i wr => ∃ k : Nat, k ≤ bs.length ∧ gg = bs.length - k ∧ i = .int .i64 k ∧ Hid (FL wr w1.heap.size av (rise (atomsU l bs k))) ∧ Hid (Only (fun _ => False) w1 wr))
  case atStart => exact ⟨0, by omega, by omega, rfl, HF0.out, HRF.out⟩
  case round =>
    clear HF0 HRF HB0
    revert wr
    intro wa hrel
    obtain ⟨k, hk, hgk, rfl, hS, hO⟩ := hrel
    by_cases hlt : k < bs.length
    · have hlt' : (k : Int) < (bs.length : Int) := by omega
      have hltl : k < l.length := by omega
      have hltl' : (k : Int) < (l.length : Int) := by omega
      obtain ⟨ba, oa, c1, he1, _, _, hc1⟩ := (HB.out.keep hO.out).at hlt
      cases he1
      obtain ⟨gb, go, gc, he2, _, _, d0, d1, _, _⟩ := (HL.out.keep (HO1.out.trans hO.out)).at hltl
      cases he2
      have HX : Hid (bs[k]? = some bs[k]) := List.getElem?_eq_getElem hlt
      have HY : Hid (l[k]? = some l[k]) := List.getElem?_eq_getElem hltl
      generalize bs[k] = b at *
      generalize l[k] = x at *
      by_cases hbx : b = true ∧ x.op = 0
      · obtain ⟨rfl, hx⟩ := hbx
        obtain ⟨op, xa, xb⟩ := x
        dsimp only at hx d0 d1
        subst hx
        have HPU := Lib.hid (put_any (rise (atomsU l bs k)) xa _ wa hS.out.il (by have := rise_len (atomsU l bs k); have := atomsU_len l bs k; omega))
        rw [put_rise] at HPU
        have HEQ : Hid (atomsU l bs (k + 1) = atomsU l bs k ++ [xa]) := by
          rw [atomsU_next HX.out HY.out, if_pos ⟨rfl, rfl⟩]
          exact rfl
        rw [← HEQ.out] at HPU
        go_wp2_with (go_at_call 32; refine HPU.out.mono ?_; rintro e w3 ⟨pv, rfl, hp3, h3⟩)
        have HP3 : Hid (FL w3 w1.heap.size pv (rise (atomsU l bs (k + 1)))) := FL.lower hp3 hO.out.size
        have HO3 := Lib.hid (hO.out.trans h3)
        clear hp3 h3
        go_roundg (bs.length - (k + 1))
        case measure => omega
        case rel => exact ⟨k + 1, by omega, by omega, by go_num, HP3.out, HO3.out⟩
      · have HF8 : Hid (FL wa w1.heap.size u6 (rise (atomsU l bs (k + 1)))) := by
          rw [atomsU_next HX.out HY.out, if_neg hbx, List.append_nil]
          exact hS.out
        cases b
        · go_wp2_with fail
          go_roundg (bs.length - (k + 1))
          case measure => omega
          case rel => exact ⟨k + 1, by omega, by omega, by go_num, HF8.out, hO.out⟩
        · have hx : (x.op == 0) = false := by
            rw [beq_eq_false_iff_ne]
            exact fun h => hbx ⟨rfl, h⟩
          clear hbx
          go_wp2_with fail
          go_roundg (bs.length - (k + 1))
          case measure => omega
          case rel => exact ⟨k + 1, by omega, by omega, by go_num, HF8.out, hO.out⟩
    · obtain rfl : k = bs.length := by omega
      go_wp2_with fail
      go_ret
      exact ⟨_, rfl, hS.out.il, HO1.out.trans hO.out⟩
set_option maxHeartbeats 8000000 in
theorem rneeds_any (l : List Nd) (kn : List Int) (goal : Int) (v kv : Value) (w : World) (hl : NL w v l) (hkn : IL w kv kn) (hll : l.length ≤ 1000) (hkl : kn.length ≤ 10000) (hg : wf64 goal) :
    Calls Try.prog 21 #[v, kv, .int .i64 goal] w fun e w' => ∃ v', e = .returned v' ∧ IL w' v' (needs l kn goal) ∧ Only (fun _ => False) w w' := by
  have HL := Lib.hid hl
  have HK := Lib.hid hkn
  have HG := Lib.hid hg
  have hb0 := build_0 w
  have HF0 := Lib.hid (FL.new w w.heap.size (Nat.le_refl _))
  have HV0 : Hid (Only (fun _ => False) w (w.alloc (.cells #[] 3))) := (Only.refl _ _).alloc _
  generalize w.alloc (.cells #[] 3) = V0 at *
  have HB0 := Lib.hid hb0
  clear hb0
  have HM0 := Lib.hid (rmay_any l v V0 (hl.keep HV0.out))
  have HCN := Lib.hid (fun W (o : Only (fun _ => False) w W) => rcan_any l kn goal v kv W (hl.keep o) (hkn.keep o) (by omega) hg)
  obtain ⟨ad, cap, rfl, hrow⟩ := hl
  obtain ⟨ka, kcap, rfl, _, _⟩ := hkn.val
  clear hrow hkn
  rw [wf64_iff] at hg
  obtain ⟨rs, hrs⟩ : ∃ rs, needs l kn goal = rs := ⟨_, rfl⟩
  rw [hrs]
  unfold needs at hrs
  cases hm : mayB l
  · rw [if_pos (.inr (.inr (.inl hm)))] at hrs
    subst hrs
    rw [hm] at HM0
    clear hm
    go_enter Try.func21, Try.ntmps21
    go_wp2_with (first | ((with_reducible refine wpList_bs_g ?_ 23 0 #[] ?_ [] ?_ _ HB0.out ?_); rfl; rfl; rfl) | (go_at_call 30; refine HM0.out.mono ?_; rintro e w1 ⟨rfl, h1⟩; have HF1 := Lib.hid (HF0.out.keep h1 (fun _ _ x => x)); have HO1 := Lib.hid (HV0.out.trans h1); clear h1))
    go_ret
    exact ⟨_, rfl, HF1.out.il, HO1.out⟩
  have HMB := Lib.hid hm
  rw [hm] at HM0
  by_cases g1 : goal < 0
  · rw [if_pos (.inl g1)] at hrs
    subst hrs
    clear hm
    go_enter Try.func21, Try.ntmps21
    go_wp2_with (first | ((with_reducible refine wpList_bs_g ?_ 23 0 #[] ?_ [] ?_ _ HB0.out ?_); rfl; rfl; rfl) | (go_at_call 30; refine HM0.out.mono ?_; rintro e w1 ⟨rfl, h1⟩; have HF1 := Lib.hid (HF0.out.keep h1 (fun _ _ x => x)); have HO1 := Lib.hid (HV0.out.trans h1); clear h1))
    go_ret
    exact ⟨_, rfl, HF1.out.il, HO1.out⟩
  by_cases g2 : (l.length : Int) ≤ goal
  · rw [if_pos (.inr (.inl g2))] at hrs
    subst hrs
    clear hm
    go_enter Try.func21, Try.ntmps21
    go_wp2_with (first | ((with_reducible refine wpList_bs_g ?_ 23 0 #[] ?_ [] ?_ _ HB0.out ?_); rfl; rfl; rfl) | (go_at_call 30; refine HM0.out.mono ?_; rintro e w1 ⟨rfl, h1⟩; have HF1 := Lib.hid (HF0.out.keep h1 (fun _ _ x => x)); have HO1 := Lib.hid (HV0.out.trans h1); clear h1))
    go_ret
    exact ⟨_, rfl, HF1.out.il, HO1.out⟩
  cases hc : canB l kn goal
  · rw [if_neg (by rintro (h | h | h | h); exact g1 h; exact g2 h; (rw [hm] at h; cases h); (rw [hc] at h; cases h))] at hrs
    have HRS := Lib.hid hrs
    rw [hc] at HCN
    clear hc hm hrs
    go_enter Try.func21, Try.ntmps21
    go_upto_region 4 with (first | ((with_reducible refine wpList_bs_g ?_ 23 0 #[] ?_ [] ?_ _ HB0.out ?_); rfl; rfl; rfl) | (go_at_call 30; refine HM0.out.mono ?_; rintro e w1 ⟨rfl, h1⟩; have HCN' := Lib.hid (HCN.out _ (HV0.out.trans h1))) | (go_at_call 17; refine HCN'.out.mono ?_; rintro e w2 ⟨rfl, h2⟩))
    have HF2 : Hid (FL w2 w.heap.size (.slice (some ⟨w.heap.size, 0, none⟩) 0 0) (rise (needsU l kn goal 0))) := by
      rw [show needsU l kn goal 0 = [] by simp [needsU], rise_nil]
      exact HF0.out.keep (h1.trans h2) (fun _ _ x => x)
    have HO2 := Lib.hid (HV0.out.trans (h1.trans h2))
    clear h1 h2 HCN' HCN HM0 HB0 HF0
    go_wp2_with fail
    go_loopg [7, 8] l.length (fun gg av i wr => ∃ k : Nat, k ≤ l.length ∧ gg = l.length - k ∧ i = .int .i64 k ∧ Hid (FL wr w.heap.size av (rise (needsU l kn goal k))) ∧ Hid (Only (fun _ => False) w wr))
    case atStart => exact ⟨0, by omega, by omega, rfl, HF2.out, HO2.out⟩
    case round =>
      clear HF2 HO2 HV0
      revert wr
      intro wa hrel
      obtain ⟨k, hk, hgk, rfl, hS, hO⟩ := hrel
      by_cases hlt : k < l.length
      · have hlt' : (k : Int) < (l.length : Int) := by omega
        have HY : Hid (l[k]? = some l[k]) := List.getElem?_eq_getElem hlt
        obtain ⟨gb, go, gc, he, _, _, d0, _, _, _⟩ := (HL.out.keep hO.out).at hlt
        cases he
        have HC1 : Hid (∀ W, Only (fun _ => False) w W → W.cell? ⟨gb, go + k * 3 + 1, none⟩ = some (.int .i64 l[k].a)) := fun W o => by
          obtain ⟨_, _, _, he, _, _, _, d1, _, _⟩ := (HL.out.keep o).at hlt
          cases he
          exact d1
        generalize l[k] = x at *
        obtain ⟨op, xa, xb⟩ := x
        dsimp only at d0
        by_cases ho : op = 1
        · subst ho
          have hb2 := build_0 wa
          have HF2 := Lib.hid (FL.new wa wa.heap.size (Nat.le_refl _))
          have HV2 : Hid (Only (fun _ => False) wa (wa.alloc (.cells #[] 3))) := (Only.refl _ _).alloc _
          generalize wa.alloc (.cells #[] 3) = V2 at *
          have HB2 := Lib.hid hb2
          obtain ⟨v3, V3, hr3, hf3, hg3, _⟩ := app_ints HF2.out (HK.out.keep (hO.out.trans HV2.out)) HV2.out.size (by simp; omega)
          have HO3 := Lib.hid (fresh_only HV2.out (grown_only hg3) (fun q hq => HF2.out.base_le hq))
          have HR3 := Lib.hid hr3
          obtain ⟨v5, W5, V5, hb5, hr5, hf5, ho5⟩ := snoc_int hf3 HO3.out.size (k : Int) (by simp; omega)
          have HO5 := Lib.hid (fresh_only HO3.out ho5 (fun q hq => hq))
          have HB5 := Lib.hid hb5
          have HR5 := Lib.hid hr5
          have HC6 := Lib.hid (rcan_any l (kn ++ [(k : Int)]) goal _ _ V5 (HL.out.keep (hO.out.trans HO5.out)) hf5.il (by simp; omega) HG.out)
          clear hb2 hr3 hf3 hg3 hb5 hr5 hf5 ho5
          cases hcr : canB l (kn ++ [(k : Int)]) goal
          · have HCR := Lib.hid hcr
            rw [hcr] at HC6
            clear hcr
            have HF8 : Hid (∀ W, Only (fun _ => False) wa W → FL W w.heap.size u7 (rise (needsU l kn goal (k + 1)))) := fun W o => by
              rw [needsU_next HY.out, if_neg (fun h => by rw [HCR.out] at h; cases h.2), List.append_nil]
              exact hS.out.keep o (fun _ _ x => x)
            go_wp2_with (first | ((with_reducible refine wpList_bs_g ?_ 23 0 #[] ?_ [] ?_ _ HB2.out ?_); rfl; rfl; rfl) | (at_builtin; ((with_reducible refine wpList_app_g ?_ (.tmp 44) (.tmp 45) 23 ?_ _ _ _ ?_ ?_ HR3.out ?_); rfl; rfl; rfl; rfl)) | ((with_reducible refine wpList_bs_g ?_ 23 1 #[(0, .tmp 47)] ?_ [(0, .int .i64 (k : Int))] ?_ _ HB5.out ?_); rfl; rfl; rfl) | (at_builtin; ((with_reducible refine wpList_app_g ?_ (.tmp 46) (.tmp 48) 23 ?_ _ _ _ ?_ ?_ HR5.out ?_); rfl; rfl; rfl; rfl)) | (go_at_call 17; refine HC6.out.mono ?_; rintro e w6 ⟨rfl, h6⟩))
            have HO6 := Lib.hid (HO5.out.trans h6)
            go_roundg (l.length - (k + 1))
            case measure => omega
            case rel => exact ⟨k + 1, by omega, by omega, by go_num, HF8.out _ HO6.out, hO.out.trans HO6.out⟩
          · have HCR := Lib.hid hcr
            rw [hcr] at HC6
            clear hcr
            have HEQ : Hid (needsU l kn goal (k + 1) = needsU l kn goal k ++ [xa]) := by
              rw [needsU_next HY.out, if_pos ⟨rfl, HCR.out⟩]
              exact rfl
            have HPU : Hid (∀ W, Only (fun _ => False) wa W → Calls Try.prog 32 #[u7, .int .i64 xa] W fun e w' => ∃ v', e = .returned v' ∧ FL w' W.heap.size v' (rise (needsU l kn goal (k + 1))) ∧ Only (fun _ => False) W w') := fun W o => by
              have := put_any (rise (needsU l kn goal k)) xa u7 W (hS.out.keep o (fun _ _ x => x)).il (by have := rise_len (needsU l kn goal k); have := needsU_len l kn goal k; omega)
              rwa [put_rise, ← HEQ.out] at this
            go_wp2_with (first | ((with_reducible refine wpList_bs_g ?_ 23 0 #[] ?_ [] ?_ _ HB2.out ?_); rfl; rfl; rfl) | (at_builtin; ((with_reducible refine wpList_app_g ?_ (.tmp 44) (.tmp 45) 23 ?_ _ _ _ ?_ ?_ HR3.out ?_); rfl; rfl; rfl; rfl)) | ((with_reducible refine wpList_bs_g ?_ 23 1 #[(0, .tmp 47)] ?_ [(0, .int .i64 (k : Int))] ?_ _ HB5.out ?_); rfl; rfl; rfl) | (at_builtin; ((with_reducible refine wpList_app_g ?_ (.tmp 46) (.tmp 48) 23 ?_ _ _ _ ?_ ?_ HR5.out ?_); rfl; rfl; rfl; rfl)) | (go_at_call 17; refine HC6.out.mono ?_; rintro e w6 ⟨rfl, h6⟩; have HO6 := Lib.hid (HO5.out.trans h6); have q1 := HC1.out _ (hO.out.trans HO6.out); have HPU' := Lib.hid (HPU.out _ HO6.out)) | (go_at_call 32; refine HPU'.out.mono ?_; rintro e w7 ⟨pv, rfl, hp7, h7⟩))
            have HP7 : Hid (FL w7 w.heap.size pv (rise (needsU l kn goal (k + 1)))) := FL.lower hp7 (hO.out.trans HO6.out).size
            have HO7 := Lib.hid ((hO.out.trans HO6.out).trans h7)
            clear hp7 h7 q1
            go_roundg (l.length - (k + 1))
            case measure => omega
            case rel => exact ⟨k + 1, by omega, by omega, by go_num, HP7.out, HO7.out⟩
        · have ho' : ((op : Int) == 1) = false := by rw [beq_eq_false_iff_ne]; exact ho
          have HF8 : Hid (FL wa w.heap.size u7 (rise (needsU l kn goal (k + 1)))) := by
            rw [needsU_next HY.out, if_neg (fun h => ho h.1), List.append_nil]
            exact hS.out
          clear ho
          go_wp2_with fail
          go_roundg (l.length - (k + 1))
          case measure => omega
          case rel => exact ⟨k + 1, by omega, by omega, by go_num, HF8.out, hO.out⟩
      · obtain rfl : k = l.length := by omega
        go_wp2_with fail
        go_ret
        exact ⟨_, rfl, by rw [← HRS.out]; exact hS.out.il, hO.out⟩
  · rw [if_pos (.inr (.inr (.inr hc)))] at hrs
    subst hrs
    rw [hc] at HCN
    clear hc hm
    go_enter Try.func21, Try.ntmps21
    go_wp2_with (first | ((with_reducible refine wpList_bs_g ?_ 23 0 #[] ?_ [] ?_ _ HB0.out ?_); rfl; rfl; rfl) | (go_at_call 30; refine HM0.out.mono ?_; rintro e w1 ⟨rfl, h1⟩; have HCN' := Lib.hid (HCN.out _ (HV0.out.trans h1))) | (go_at_call 17; refine HCN'.out.mono ?_; rintro e w2 ⟨rfl, h2⟩; have HF1 := Lib.hid (HF0.out.keep (h1.trans h2) (fun _ _ x => x)); have HO1 := Lib.hid (HV0.out.trans (h1.trans h2)); clear h1 h2))
    go_ret
    exact ⟨_, rfl, HF1.out.il, HO1.out⟩
end Go.Proofs.Ytnppjkekbdapkaa
