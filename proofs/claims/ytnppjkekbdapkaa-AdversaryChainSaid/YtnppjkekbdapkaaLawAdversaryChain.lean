/-
  Through a chain of locks one key at the beginning opens all, and none but that one does so alone: for every input.
-/
import Derived.Test.YtnppjkekbdapkaaChn
import Derived.Test.YtnppjkekbdapkaaApp
set_option linter.unusedVariables false
namespace Go.Proofs.Ytnppjkekbdapkaa
open Go.RowKit

set_option maxHeartbeats 8000000 in
theorem adversaryChain_walk (w : World) (n : Int) (hn : (Lit.int .u8 n).wf = true) (t : Int) (ht : (Lit.int .u8 t).wf = true) :
    Calls Try.prog 8 #[.int .u8 n, .int .u8 t] w fun e w' => e = .returned (.bool true) ∧ Below w.heap.size w w' := by
  have h1 : 0 ≤ n ∧ n ≤ 255 := by
    simp [Lit.wf, IntKind.min, IntKind.max, IntKind.signed, IntKind.bits] at hn
    omega
  have h2 : 0 ≤ t ∧ t ≤ 255 := by
    simp [Lit.wf, IntKind.min, IntKind.max, IntKind.signed, IntKind.bits] at ht
    omega
  clear hn ht
  obtain ⟨N, rfl⟩ := Int.eq_ofNat_of_zero_le h1.1
  obtain ⟨T, rfl⟩ := Int.eq_ofNat_of_zero_le h2.1
  have e1 : IntKind.i64.wrap (N : Int) = N := IntWalk.i64_in _ (by omega)
  have e2 : IntKind.i64.wrap (T : Int) = T := IntWalk.i64_in _ (by omega)
  obtain ⟨m, hm⟩ : ∃ m : Nat, (m : Int) = 1 + (N : Int) % 20 := ⟨1 + N % 20, by omega⟩
  obtain ⟨k, hk⟩ : ∃ k : Nat, (k : Int) = (T : Int) % ((m : Int) + 1) := ⟨T % (m + 1), by simp⟩
  have hm1 : 1 ≤ m ∧ m ≤ 20 := by omega
  have hk1 : k ≤ m := by
    have := Int.emod_lt_of_pos (T : Int) (show (0 : Int) < (m : Int) + 1 by omega)
    omega
  have HM := Lib.hid hm
  have HK := Lib.hid hk
  have HSH := Lib.hid shown_any
  clear hk
  have HG0 : Hid (GL (w.alloc (.cells #[.int .i64 0, .int .i64 7, .int .i64 0] 34)) w.heap.size (.slice (some ⟨w.heap.size, 0, none⟩) 1 1) (chA 0)) := GL.new w _ (Nat.le_refl _) (chA 0) (by decide)
  have HV0 : Hid (Only (fun _ => False) w (w.alloc (.cells #[.int .i64 0, .int .i64 7, .int .i64 0] 34))) := (Only.refl _ _).alloc _
  go_enter Try.func8, Try.ntmps8
  go_upto_region 3 with fail
  rw [← HM.out]
  clear hm
  generalize w.alloc (.cells #[.int .i64 0, .int .i64 7, .int .i64 0] 34) = V0 at *
  go_wp2_with fail
  go_loopg [6, 7] (m + 1) (fun gg lv i wr => ∃ j : Nat, j ≤ m + 1 ∧ gg = m + 1 - j ∧ i = .int .i64 j ∧ Hid (GL wr w.heap.size lv (chA j)) ∧ Hid (Only (fun _ => False) w wr))
  case atStart => exact ⟨0, by omega, by omega, rfl, HG0.out, HV0.out⟩
  case round =>
    clear HG0 HV0
    revert wr
    intro wa hrel
    obtain ⟨j, hj, hgj, rfl, hG, hO⟩ := hrel
    by_cases hlt : j ≤ m
    · have hlt' : (j : Int) ≤ (m : Int) := by omega
      have hAl := chA_len j
      obtain ⟨v2, V2, hr2, hg2, ho2⟩ := snoc_nodes hG.out hO.out.size [⟨1, (j : Int), 0⟩] (by simp; omega)
      rw [← chA_next] at hg2
      have HG2 := Lib.hid hg2
      have HR2 := Lib.hid hr2
      have HO2 := Lib.hid (fresh_only hO.out ho2 (fun q hq => hG.out.base_le hq))
      clear hr2 hg2 ho2 hAl
      go_wp2_with (at_builtin; refine wpList_app_g rfl (.tmp 24) (.tmp 27) 22 (by with_reducible rfl) _ _ _ rfl rfl HR2.out ?_)
      go_roundg (m + 1 - (j + 1))
      case measure => omega
      case rel => exact ⟨j + 1, by omega, by omega, by go_num, HG2.out, HO2.out⟩
    · obtain rfl : j = m + 1 := by omega
      have hb0 := build_0 wa
      have HF0 := Lib.hid (FL.new wa w.heap.size hO.out.size)
      have HV0 : Hid (Only (fun _ => False) wa (wa.alloc (.cells #[] 3))) := (Only.refl _ _).alloc _
      generalize wa.alloc (.cells #[] 3) = V0 at *
      have HB0 := Lib.hid hb0
      have HG0 : Hid (GL V0 w.heap.size u6 (chB m 0)) := by
        have := hG.out.keep HV0.out
        rw [show chB m 0 = chA (m + 1) by simp [chB]]
        exact this
      have HO0 := Lib.hid (hO.out.trans HV0.out)
      clear hb0
      go_wp2_with (refine wpList_bs_g rfl 23 0 #[] (by with_reducible rfl) [] rfl _ HB0.out ?_)
      go_loopg [6, 8, 9] m (fun gg lv kv i wr => ∃ j : Nat, j ≤ m ∧ gg = m - j ∧ i = .int .i64 j ∧ Hid (GL wr w.heap.size lv (chB m j)) ∧ Hid (FL wr w.heap.size kv (chJ m j)) ∧ Hid (Only (fun _ => False) w wr))
      case atStart => exact ⟨0, by omega, by omega, rfl, HG0.out, HF0.out, HO0.out⟩
      case round =>
        clear HG0 HF0 HO0 HB0 HV0 hG hO
        revert wr
        intro wb hrel
        obtain ⟨j, hj, hgj, rfl, hG, hF, hO⟩ := hrel
        have hBl := chB_len m j
        have hJl := chJ_len m j
        by_cases hlt : j < m
        · have hlt' : (j : Int) < (m : Int) := by omega
          obtain ⟨la, lc, rfl⟩ := hG.out.val
          obtain ⟨v2, V2, hr2, hf2, ho2⟩ := snoc_ints hF.out hO.out.size [((chB m j).length : Int)] (by simp; omega)
          have hg2 := hG.out.keepS ho2 (gl_fl hG.out hF.out)
          have ho2' := fresh_only hO.out ho2 (fun q hq => hF.out.base_le hq)
          obtain ⟨v4, V4, hr4, hg4, ho4⟩ := snoc_nodes hg2 ho2'.size [⟨3, 1 + (j : Int), 2 + (j : Int)⟩] (by simp; omega)
          have HF4 : Hid (FL V4 w.heap.size v2 (chJ m (j + 1))) := by
            rw [chJ_next]
            have := hf2.keep ho4 (fun q hq hq' => gl_fl hg2 hf2 q hq' hq)
            rw [hBl] at this
            rw [show (m : Int) + 2 + (j : Int) = ((m + 2 + j : Nat) : Int) by omega]
            exact this
          have HG4 : Hid (GL V4 w.heap.size v4 (chB m (j + 1))) := by
            rw [chB_next]
            exact hg4
          have HO4 := Lib.hid (fresh_only ho2' ho4 (fun q hq => hg2.base_le hq))
          have HB2 := Lib.hid (build_f ((chB m j).length : Int) wb)
          have HR2 := Lib.hid hr2
          have HR4 := Lib.hid hr4
          clear hr2 hr4 hg2 hf2 hg4 ho2 ho4 ho2' hBl hJl
          go_wp2_with (first | (refine wpList_bs_g rfl 23 1 #[(0, .tmp 37)] (by with_reducible rfl) [(0, .int .i64 ((chB m j).length : Int))] rfl _ HB2.out ?_) | (at_builtin; refine wpList_app_g rfl (.tmp 35) (.tmp 38) 23 (by with_reducible rfl) _ _ _ rfl rfl HR2.out ?_) | (at_builtin; refine wpList_app_g rfl (.tmp 40) (.tmp 46) 22 (by with_reducible rfl) _ _ _ rfl rfl HR4.out ?_))
          go_roundg (m - (j + 1))
          case measure => omega
          case rel => exact ⟨j + 1, by omega, by omega, by go_num, HG4.out, HF4.out, HO4.out⟩
        · obtain rfl : j = m := by omega
          obtain ⟨la, lc, rfl⟩ := hG.out.val
          obtain ⟨v2, V2, hr2, hf2, ho2⟩ := snoc_ints hF.out hO.out.size [((chB j j).length : Int)] (by simp; omega)
          have hg2 := hG.out.keepS ho2 (gl_fl hG.out hF.out)
          have ho2' := fresh_only hO.out ho2 (fun q hq => hF.out.base_le hq)
          obtain ⟨v4, V4, hr4, hg4, ho4⟩ := snoc_nodes hg2 ho2'.size [⟨3, 1 + (j : Int), 0⟩] (by simp; omega)
          have HF4 : Hid (FL V4 w.heap.size v2 (chK j)) := by
            rw [chK, chJ_next]
            have := hf2.keep ho4 (fun q hq hq' => gl_fl hg2 hf2 q hq' hq)
            rw [hBl] at this
            rw [show (j : Int) + 2 + (j : Int) = ((j + 2 + j : Nat) : Int) by omega]
            exact this
          have HG4 : Hid (GL V4 w.heap.size v4 (chL j)) := hg4
          have HO4 := Lib.hid (fresh_only ho2' ho4 (fun q hq => hg2.base_le hq))
          have HB2 := Lib.hid (build_f ((chB j j).length : Int) wb)
          have HR2 := Lib.hid hr2
          have HR4 := Lib.hid hr4
          clear hr2 hr4 hg2 hf2 hg4 ho2 ho4 ho2' hBl hJl
          go_upto_region 15 with (first | (refine wpList_bs_g rfl 23 1 #[(0, .tmp 50)] (by with_reducible rfl) [(0, .int .i64 ((chB j j).length : Int))] rfl _ HB2.out ?_) | (at_builtin; refine wpList_app_g rfl (.tmp 48) (.tmp 51) 23 (by with_reducible rfl) _ _ _ rfl rfl HR2.out ?_) | (at_builtin; refine wpList_app_g rfl (.tmp 53) (.tmp 57) 22 (by with_reducible rfl) _ _ _ rfl rfl HR4.out ?_))
          clear HB2 HR2 HR4 hG hF hO
          go_upto_region 16 with fail
          rw [← HK.out]
          have hb5 := build_0 V4
          have HF5 := Lib.hid (FL.new V4 V4.heap.size (Nat.le_refl _))
          have HV5 : Hid (Only (fun _ => False) V4 (V4.alloc (.cells #[] 3))) := (Only.refl _ _).alloc _
          generalize V4.alloc (.cells #[] 3) = V5 at *
          have HB5 := Lib.hid hb5
          clear hb5
          have hKl := chJ_len j (j + 1)
          obtain ⟨v6, V6, hr6, hf6, hg6, _⟩ := app_ints HF5.out (HF4.out.keep HV5.out (fun _ _ x => x)).il HV5.out.size (by simp [chK]; omega)
          have HO6 := Lib.hid (fresh_only HV5.out (grown_only hg6) (fun q hq => HF5.out.base_le hq))
          have HR6 := Lib.hid hr6
          obtain ⟨v7, W7, V7, hb7, hr7, hf7, ho7⟩ := snoc_int hf6 HO6.out.size (1 + (k : Int)) (by simp [chK]; omega)
          have HO7 := Lib.hid (fresh_only HO6.out ho7 (fun q hq => hq))
          have HB7 := Lib.hid hb7
          have HR7 := Lib.hid hr7
          have HWF : Hid (∀ x ∈ chL j, x.Wf) := by
            intro x hx
            obtain ⟨i, hi, rfl⟩ := List.getElem_of_mem hx
            have hx' : (chL j)[i]? = some (chL j)[i] := List.getElem?_eq_getElem hi
            generalize (chL j)[i] = x at *
            have wf : ∀ p q r : Int, 0 ≤ p ∧ p ≤ 100000 → 0 ≤ q ∧ q ≤ 100000 → 0 ≤ r ∧ r ≤ 100000 → (⟨p, q, r⟩ : Nd).Wf := fun p q r h1 h2 h3 => ⟨by rw [wf64_iff]; dsimp only; omega, by rw [wf64_iff]; dsimp only; omega, by rw [wf64_iff]; dsimp only; omega⟩
            rcases ch_at hx' with ⟨rfl, rfl⟩ | ⟨i', hi', rfl, rfl⟩ | ⟨i', hi', rfl, rfl⟩ | ⟨rfl, rfl⟩
            · exact wf _ _ _ (by omega) (by omega) (by omega)
            · exact wf _ _ _ (by omega) (by omega) (by omega)
            · exact wf _ _ _ (by omega) (by omega) (by omega)
            · exact wf _ _ _ (by omega) (by omega) (by omega)
          have hLl := chL_len j
          have HC := Lib.hid (knows_any (chL j) (chK j ++ [1 + (k : Int)]) v4 v7 V7 (HG4.out.keep HO7.out).nl hf7.il HWF.out (by omega) (by simp [chK]; omega))
          have HKL : Hid ((knows (chL j) (chK j ++ [1 + (k : Int)])).length = (chL j).length) := knows_len (ch_may hm1.2)
          have HK1 : Hid (∀ i, i ≤ j → (knows (chL j) (chK j ++ [1 + (k : Int)]))[1 + i]? = some (decide ((k : Int) ≤ (i : Int)))) := fun i hi => ch_key hm1.2 hk1 hi
          have HK0 := Lib.hid (ch_atom hm1.2 hk1)
          have w0 : wf64 0 := by unfold wf64; decide
          have HCA : Hid (∀ W, Only (fun _ => False) V4 W → Calls Try.prog 14 #[v4, v2, .int .i64 0] W fun e w' => e = .returned (.bool false) ∧ Only (fun _ => False) W w') := fun W o => by
            have := can_any (chL j) (chK j) 0 v4 v2 W (HG4.out.keep o).nl (HF4.out.keep o (fun _ _ x => x)).il HWF.out (by omega) (by simp [chK]; omega) w0
            rwa [ch_can0 hm1.2] at this
          have HNE : Hid (∀ W, Only (fun _ => False) V4 W → Calls Try.prog 13 #[v4, v2, .int .i64 0] W fun e w' => ∃ aa ac, e = .returned (.slice aa (j + 1) ac) ∧ Only (fun _ => False) W w') := fun W o => by
            refine (needs_any (chL j) (chK j) 0 v4 v2 W (HG4.out.keep o).nl (HF4.out.keep o (fun _ _ x => x)).il HWF.out (by omega) (by simp [chK]; omega) w0).mono ?_
            rintro e w' ⟨v', rfl, hi, ho⟩
            obtain ⟨aa, ac, rfl, _, _⟩ := hi.val
            rw [ch_needs hm1.2]
            exact ⟨aa, ac, rfl, ho⟩
          generalize knows (chL j) (chK j ++ [1 + (k : Int)]) = ks at *
          have HG7 := Lib.hid (HG4.out.keep HO7.out)
          have HLL := Lib.hid hLl
          clear hr6 hf6 hg6 hb7 hr7 hf7 ho7 hKl hLl
          obtain ⟨la, lc, rfl⟩ := HG4.out.val
          go_upto_region 17 with (first | ((with_reducible refine wpList_bs_g ?_ 23 0 #[] ?_ [] ?_ _ HB5.out ?_); rfl; rfl; rfl) | (at_builtin; ((with_reducible refine wpList_app_g ?_ (.tmp 65) (.tmp 66) 23 ?_ _ _ _ ?_ ?_ HR6.out ?_); rfl; rfl; rfl; rfl)) | ((with_reducible refine wpList_bs_g ?_ 23 1 #[(0, .tmp 69)] ?_ [(0, .int .i64 (1 + (k : Int)))] ?_ _ HB7.out ?_); rfl; rfl; rfl) | (at_builtin; ((with_reducible refine wpList_app_g ?_ (.tmp 67) (.tmp 70) 23 ?_ _ _ _ ?_ ?_ HR7.out ?_); rfl; rfl; rfl; rfl)) | (go_at_call 10; (with_reducible refine HC.out.mono ?_); rintro e w8 ⟨bv, rfl, hb8, h8⟩))
          have HB8 := Lib.hid hb8
          have HO8 := Lib.hid (HO7.out.trans h8)
          obtain ⟨ba, bc, rfl, hbc, hbm⟩ := hb8.val
          have hkl := HKL.out
          have hq : ((ks.length : Int) != ((chL j).length : Int)) = false := by rw [hkl]; simp
          have hLl := HLL.out
          have hkn : (ks.length : Int) = 2 * (j : Int) + 3 := by omega
          have HKN := Lib.hid hkn
          clear hb8 h8 hkn hkl hLl
          go_wp2_with fail
          have HRF := Lib.hid (Only.refl (fun _ => False) w8)
          go_loopg [12] (j + 1) (fun gg i wr => ∃ q : Nat, q ≤ j + 1 ∧ gg = j + 1 - q ∧ i = .int .i64 q ∧ Hid (Only (fun _ => False) w8 wr))
          case atStart => exact ⟨0, by omega, by omega, rfl, HRF.out⟩
          case round =>
            clear HRF
            revert wr
            intro wc hrel
            obtain ⟨q, hq1, hgq, rfl, hO⟩ := hrel
            by_cases hlt2 : q ≤ j
            · have hlt2' : (q : Int) ≤ (j : Int) := by omega
              have hkn := HKN.out
              have hql : 1 + q < ks.length := by omega
              obtain ⟨bb, ob, c1, he, _, _, hc⟩ := (HB8.out.keep hO.out).at hql
              cases he
              have hval : ks[1 + q] = decide ((k : Int) ≤ (q : Int)) := by
                have := HK1.out q hlt2
                rw [List.getElem?_eq_getElem hql] at this
                exact Option.some.inj this
              rw [hval] at hc
              have hx : (1 + (q : Int)).toNat = 1 + q := by omega
              have hql' : 1 + (q : Int) < (ks.length : Int) := by omega
              have hq0 : 0 ≤ 1 + (q : Int) := by omega
              clear hval hkn
              by_cases hkq : (k : Int) ≤ (q : Int)
              · rw [decide_eq_true hkq] at hc
                go_wp2_with fail
                go_roundg (j + 1 - (q + 1))
                case measure => omega
                case rel => exact ⟨q + 1, by omega, by omega, by go_num, hO.out⟩
              · rw [decide_eq_false hkq] at hc
                go_wp2_with fail
                go_roundg (j + 1 - (q + 1))
                case measure => omega
                case rel => exact ⟨q + 1, by omega, by omega, by go_num, hO.out⟩
            · obtain rfl : q = j + 1 := by omega
              have hkn := HKN.out
              have hk0 : 0 < ks.length := by omega
              obtain ⟨bb, ob, c1, he, _, _, hc⟩ := (HB8.out.keep hO.out).at hk0
              cases he
              have hval : ks[0] = true := by
                have := HK0.out
                rw [List.getElem?_eq_getElem hk0] at this
                exact Option.some.inj this
              rw [hval, Nat.add_zero] at hc
              clear hval hkn
              have HOc := Lib.hid (HO8.out.trans hO.out)
              have HCA' := Lib.hid (HCA.out _ HOc.out)
              go_wp2_with (first | (go_at_call 14; refine HCA'.out.mono ?_; rintro e w9 ⟨rfl, h9⟩; have HO9 := Lib.hid (HOc.out.trans h9); have HNE' := Lib.hid (HNE.out _ HO9.out)) | (go_at_call 13; refine HNE'.out.mono ?_; rintro e w10 ⟨aa, ac, rfl, h10⟩) | (go_at_call 9; refine (HSH.out _).mono ?_; rintro e w11 ⟨rfl, h11⟩))
              go_ret
              exact ⟨by first | rfl | simp, (((HO4.out.trans HO9.out).trans h10).trans h11).below (fun _ h => h.elim)⟩
end Go.Proofs.Ytnppjkekbdapkaa
