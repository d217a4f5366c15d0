/-
  Who has more knows no less; what is known, handed in again, changes nothing: for every input.
-/
import Derived.Test.YtnppjkekbdapkaaOpn
set_option linter.unusedVariables false
namespace Go.Proofs.Ytnppjkekbdapkaa
open Go.RowKit

/-- The places below k that are known. -/
def sel (bs : List Bool) (k : Nat) : List Int := ((List.range k).filter fun i => bs.getD i false).map fun i : Nat => (i : Int)
theorem sel_next {bs : List Bool} {k : Nat} {b : Bool} (h : bs[k]? = some b) : sel bs (k + 1) = sel bs k ++ (if b = true then [(k : Int)] else []) := by
  unfold sel
  rw [List.range_succ, List.filter_append, List.map_append]
  congr 1
  cases b <;> simp [h]
theorem sel_len (bs : List Bool) (k : Nat) : (sel bs k).length ≤ k := by
  unfold sel
  rw [List.length_map]
  have := List.length_filter_le (fun i => bs.getD i false) (List.range k)
  rwa [List.length_range] at this
theorem seed_append {l : List Nd} {a b : List Int} {c : Int} (h : Seed l a c) : Seed l (a ++ b) c := by
  obtain ⟨x, hx, h1⟩ := h
  exact ⟨x, by simp [hx], h1⟩
theorem knows_len_eq (l : List Nd) (a b : List Int) : (knows l a).length = (knows l b).length := by
  unfold knows
  split <;> simp
theorem knows_le (l : List Nd) (a : List Int) : (knows l a).length ≤ l.length := by
  unfold knows
  split <;> simp
theorem knows_more {l : List Nd} {a b : List Int} {i : Nat} (h : (knows l a)[i]? = some true) : (knows l (a ++ b))[i]? = some true := by
  unfold knows at *
  split at h
  · rename_i hm
    rw [if_pos hm]
    rw [List.getElem?_map] at *
    obtain ⟨j, hj, hd⟩ := Option.map_eq_some_iff.1 h
    rw [hj]
    simp only [Option.map_some, Option.some.injEq, decide_eq_true_eq] at *
    exact hd.mono fun c hc => seed_append hc
  · cases h
theorem knows_again (l : List Nd) (a : List Int) : knows l (a ++ sel (knows l a) (knows l a).length) = knows l a := by
  by_cases hm : mayB l = true
  · have key : ∀ i, DerK l (a ++ sel (knows l a) (knows l a).length) i ↔ DerK l a i := by
      intro i
      refine ⟨fun h => h.sub ?_, fun h => h.mono fun c hc => seed_append hc⟩
      rintro c ⟨x, hx, h0, h1, rfl⟩
      rcases List.mem_append.1 hx with hx | hx
      · exact Der.of ⟨x, hx, h0, h1, rfl⟩
      · unfold sel at hx
        obtain ⟨j, hj, rfl⟩ := List.mem_map.1 hx
        have hj2 := (List.mem_filter.1 hj).2
        have hjl : j < l.length := by omega
        unfold knows at hj2
        rw [if_pos hm, List.getD_eq_getElem?_getD, List.getElem?_map, List.getElem?_range hjl] at hj2
        simp at hj2
        exact hj2
    generalize a ++ sel (knows l a) (knows l a).length = b at key ⊢
    unfold knows
    rw [if_pos hm, if_pos hm]
    refine List.map_congr_left fun i _ => ?_
    rw [decide_eq_decide]
    exact key i
  · unfold knows
    rw [if_neg hm, if_neg hm]

set_option maxHeartbeats 8000000 in
theorem adversaryMore_walk (w : World) (a0 : Option Addr) (len0 cap0 : Nat) (l : List Nd) (hl : NdRow w a0 len0 cap0 l) (a1 : Option Addr) (len1 cap1 : Nat) (kn : List Int) (hk : NumRow w a1 len1 cap1 kn) (a2 : Option Addr) (len2 cap2 : Nat) (more : List Int) (hm : NumRow w a2 len2 cap2 more) :
    Calls Try.prog 3 #[.slice a0 len0 cap0, .slice a1 len1 cap1, .slice a2 len2 cap2] w fun e w' => e = .returned (.bool true) ∧ Below w.heap.size w w' := by
  obtain ⟨hl1, rfl, hwf⟩ := hl
  obtain ⟨hk1, rfl, _⟩ := hk
  obtain ⟨hm1, rfl, _⟩ := hm
  have HL := Lib.hid hl1
  have HK := Lib.hid hk1
  have HM := Lib.hid hm1
  have HWF := Lib.hid hwf
  clear hl1 hk1 hm1 hwf
  have HSH := Lib.hid shown_any
  by_cases hg : 80 < l.length ∨ 60 < kn.length ∨ 60 < more.length
  · by_cases g1 : 80 < l.length
    · have g1' : (80 : Int) < (l.length : Int) := by omega
      go_enter Try.func3, Try.ntmps3
      go_wp2_with (go_at_call 9; refine (HSH.out _).mono ?_; rintro e w1 ⟨rfl, h1⟩)
      go_ret
      exact ⟨rfl, h1.below (fun _ h => h.elim)⟩
    · have g1' : ¬ (80 : Int) < (l.length : Int) := by omega
      by_cases g2 : 60 < kn.length
      · have g2' : (60 : Int) < (kn.length : Int) := by omega
        go_enter Try.func3, Try.ntmps3
        go_wp2_with (go_at_call 9; refine (HSH.out _).mono ?_; rintro e w1 ⟨rfl, h1⟩)
        go_ret
        exact ⟨rfl, h1.below (fun _ h => h.elim)⟩
      · have g2' : ¬ (60 : Int) < (kn.length : Int) := by omega
        have g3' : (60 : Int) < (more.length : Int) := by omega
        go_enter Try.func3, Try.ntmps3
        go_wp2_with (go_at_call 9; refine (HSH.out _).mono ?_; rintro e w1 ⟨rfl, h1⟩)
        go_ret
        exact ⟨rfl, h1.below (fun _ h => h.elim)⟩
  · have b1 : l.length ≤ 80 := by omega
    have b2 : kn.length ≤ 60 := by omega
    have b3 : more.length ≤ 60 := by omega
    clear hg
    have g1' : ¬ (80 : Int) < (l.length : Int) := by omega
    have g2' : ¬ (60 : Int) < (kn.length : Int) := by omega
    have g3' : ¬ (60 : Int) < (more.length : Int) := by omega
    go_enter Try.func3, Try.ntmps3
    go_upto_region 3 with (go_at_call 9; refine (HSH.out _).mono ?_; rintro e w1 ⟨rfl, h1⟩)
    have HO1 := Lib.hid h1
    clear h1
    have HC3 := Lib.hid (knows_any l kn _ _ w1 (HL.out.keep HO1.out) (HK.out.keep HO1.out) HWF.out (by omega) (by omega))
    go_upto_region 4 with (go_at_call 10; refine HC3.out.mono ?_; rintro e w3 ⟨av, rfl, hb3, h3⟩)
    have HA := Lib.hid hb3
    have HO3 := Lib.hid (HO1.out.trans h3)
    clear hb3 h3 HC3
    -- region 4
    have hb0 := build_0 w3
    have HF0 := Lib.hid (FL.new w3 w3.heap.size (Nat.le_refl _))
    have HV0 : Hid (Only (fun _ => False) w3 (w3.alloc (.cells #[] 3))) := (Only.refl _ _).alloc _
    obtain ⟨V0, hV0⟩ : ∃ V0, V0 = w3.alloc (.cells #[] 3) := ⟨_, rfl⟩
    rw [← hV0] at HF0 HV0 hb0
    clear hV0
    have HB0 := Lib.hid hb0
    clear hb0
    obtain ⟨v1, V1, hr1, hf1, hg1, _⟩ := app_ints HF0.out (HK.out.keep (HO3.out.trans HV0.out)) HV0.out.size (by simp; omega)
    have HO4 := Lib.hid (fresh_only HV0.out (grown_only hg1) (fun k hk => HF0.out.base_le hk))
    have HF1 := Lib.hid hf1
    have HR1 := Lib.hid hr1
    clear hr1 hf1 hg1
    obtain ⟨v2, V2, hr2, hf2, hg2, _⟩ := app_ints HF1.out (HM.out.keep (HO3.out.trans HO4.out)) HO4.out.size (by simp; omega)
    have HO5 := Lib.hid (fresh_only HO4.out (grown_only hg2) (fun k hk => HF1.out.base_le hk))
    have HF2 := Lib.hid hf2
    have HR2 := Lib.hid hr2
    clear hr2 hf2 hg2
    have HC4 := Lib.hid (knows_any l (kn ++ more) _ _ V2 (HL.out.keep (HO3.out.trans HO5.out)) HF2.out.il HWF.out (by omega) (by simp; omega))
    go_upto_region 5 with (first | ((with_reducible refine wpList_bs_at ?_ 23 0 #[] ?_ [] ?_ _ HB0.out ?_); rfl; rfl; rfl) | (at_builtin; (with_reducible refine wpList_append_run ?_ (.tmp 33) (.tmp 34) 23 ?_ _ _ _ ?_ ?_ HR1.out ?_); rfl; rfl; rfl; rfl) | (at_builtin; (with_reducible refine wpList_append_run ?_ (.tmp 35) (.tmp 36) 23 ?_ _ _ _ ?_ ?_ HR2.out ?_); rfl; rfl; rfl; rfl) | (go_at_call 10; refine HC4.out.mono ?_; rintro e w4 ⟨bv, rfl, hb4, h4⟩))
    have HB := Lib.hid hb4
    have HO6 := Lib.hid (HO5.out.trans h4)
    clear hb4 h4 HC4
    have HO7 := Lib.hid (HO3.out.trans HO6.out)
    -- region 5
    have hb5 := build_0 w4
    have HF5 := Lib.hid (FL.new w4 w4.heap.size (Nat.le_refl _))
    have HV5 : Hid (Only (fun _ => False) w4 (w4.alloc (.cells #[] 3))) := (Only.refl _ _).alloc _
    obtain ⟨V5, hV5⟩ : ∃ V5, V5 = w4.alloc (.cells #[] 3) := ⟨_, rfl⟩
    rw [← hV5] at HF5 HV5 hb5
    clear hV5
    have HB5 := Lib.hid hb5
    clear hb5
    obtain ⟨v6, V6, hr6, hf6, hg6, _⟩ := app_ints HF5.out (HK.out.keep (HO7.out.trans HV5.out)) HV5.out.size (by simp; omega)
    have HV6 := Lib.hid (fresh_only HV5.out (grown_only hg6) (fun k hk => HF5.out.base_le hk))
    have HF6 := Lib.hid hf6
    have HR6 := Lib.hid hr6
    clear hr6 hf6 hg6
    go_wp2_with (first | ((with_reducible refine wpList_bs_at ?_ 23 0 #[] ?_ [] ?_ _ HB5.out ?_); rfl; rfl; rfl) | (at_builtin; (with_reducible refine wpList_append_run ?_ (.tmp 39) (.tmp 40) 23 ?_ _ _ _ ?_ ?_ HR6.out ?_); rfl; rfl; rfl; rfl))
    have HAw := Lib.hid (HA.out.keep HO6.out)
    obtain ⟨bs, hbs⟩ : ∃ bs, knows l kn = bs := ⟨_, rfl⟩
    obtain ⟨cs, hcs⟩ : ∃ cs, knows l (kn ++ more) = cs := ⟨_, rfl⟩
    have HLE : Hid (bs.length ≤ 80) := by
      rw [← hbs]
      exact Nat.le_trans (knows_le _ _) b1
    have HEQ : Hid (cs.length = bs.length) := by
      rw [← hbs, ← hcs]
      exact knows_len_eq _ _ _
    have HMO : Hid (∀ i, bs[i]? = some true → cs[i]? = some true) := fun i hi => by
      rw [← hbs] at hi
      rw [← hcs]
      exact knows_more hi
    have HAG : Hid (knows l (kn ++ sel bs bs.length) = bs) := by
      have := knows_again l kn
      rwa [hbs] at this
    rw [hbs] at HAw
    rw [hcs] at HB
    clear hbs hcs HA
    obtain ⟨aa, ca, rfl, hca, hma⟩ := HAw.out.val
    obtain ⟨ab, cb, rfl, hcb, hmb⟩ := HB.out.val
    have hle : bs.length ≤ 80 := HLE.out
    have hne : ((cs.length : Int) != (bs.length : Int)) = false := by rw [HEQ.out]; simp
    have HF60 : Hid (FL V6 w4.heap.size v6 (kn ++ sel bs 0)) := by
      have := HF6.out
      rw [List.nil_append] at this
      rw [show sel bs 0 = [] from rfl, List.append_nil]
      exact this
    go_loopg [9, 10] bs.length (fun gg av i wr => ∃ k : Nat, k ≤ bs.length ∧ gg = bs.length - k ∧ i = .int .i64 k ∧ Hid (FL wr w4.heap.size av (kn ++ sel bs k)) ∧ Hid (Only (fun _ => False) w4 wr))
    case atStart => exact ⟨0, by omega, by omega, rfl, HF60.out, HV6.out⟩
    case round =>
      clear HF60 HF6 HV6 HR6 HB5 HF5 HV5
      revert wr
      intro wa hrel
      obtain ⟨k, hk, hgk, rfl, hS, hO⟩ := hrel
      by_cases hlt : k < bs.length
      · have hlt' : (k : Int) < (bs.length : Int) := by omega
        obtain ⟨ba, oa, c1, he1, _, _, hc1⟩ := (HAw.out.keep hO.out).at hlt
        have hltc : k < cs.length := by have := HEQ.out; omega
        obtain ⟨bb, ob, c2, he2, _, _, hc2⟩ := (HB.out.keep hO.out).at hltc
        cases he1
        cases he2
        have HX : Hid (bs[k]? = some bs[k]) := List.getElem?_eq_getElem hlt
        have HY : Hid (cs[k]? = some cs[k]) := List.getElem?_eq_getElem hltc
        have hltc' : (k : Int) < (cs.length : Int) := by omega
        generalize bs[k] = x at *
        generalize cs[k] = y at *
        cases x
        · go_wp2_with fail
          have HS' : Hid (FL wa w4.heap.size u9 (kn ++ sel bs (k + 1))) := by
            have := hS.out
            rw [sel_next HX.out, if_neg (by decide), List.append_nil]
            exact this
          go_roundg (bs.length - (k + 1))
          case measure => omega
          case rel => exact ⟨k + 1, by omega, by omega, by go_num, HS'.out, hO.out⟩
        · have hy : y = true := by
            have := HMO.out k HX.out
            rw [HY.out] at this
            exact Option.some.inj this
          subst hy
          have hb7 := build_f (k : Int) wa
          have hi7 : IL (wa.alloc (.cells #[.int .i64 (k : Int)] 3)) (.slice (some ⟨wa.heap.size, 0, none⟩) 1 1) [(k : Int)] := IL.of_row (l := [(k : Int)]) (cap := 1) (heap_alloc_new _ _) (Nat.le_refl _) (by unfold maxLen; omega) (fun i u h => by simpa using h)
          have o7 : Only (fun _ => False) wa (wa.alloc (.cells #[.int .i64 (k : Int)] 3)) := (Only.refl _ _).alloc _
          generalize wa.alloc (.cells #[.int .i64 (k : Int)] 3) = V7 at *
          have HB7 := Lib.hid hb7
          clear hb7
          obtain ⟨v8, V8, hr8, hf8, hg8, _⟩ := app_ints (hS.out.keep o7 (fun _ _ x => x)) hi7 (hO.out.trans o7).size (by have := sel_len bs k; simp; omega)
          have HO8 := Lib.hid (fresh_only (hO.out.trans o7) (grown_only hg8) (fun k hk => hS.out.base_le hk))
          have HF8 : Hid (FL V8 w4.heap.size v8 (kn ++ sel bs (k + 1))) := by
            rw [sel_next HX.out, if_pos rfl, ← List.append_assoc]
            exact hf8
          have HR8 := Lib.hid hr8
          clear hr8 hf8 hg8 hi7 o7
          go_wp2_with (first | ((with_reducible refine wpList_bs_at ?_ 23 1 #[(0, .tmp 71)] ?_ [(0, .int .i64 (k : Int))] ?_ _ HB7.out ?_); rfl; rfl; rfl) | (at_builtin; (with_reducible refine wpList_append_run ?_ (.tmp 70) (.tmp 72) 23 ?_ _ _ _ ?_ ?_ HR8.out ?_); rfl; rfl; rfl; rfl))
          go_roundg (bs.length - (k + 1))
          case measure => omega
          case rel => exact ⟨k + 1, by omega, by omega, by go_num, HF8.out, HO8.out⟩
      · obtain rfl : k = bs.length := by omega
        have HC9 := Lib.hid (knows_any l (kn ++ sel bs bs.length) _ _ wa (HL.out.keep (HO7.out.trans hO.out)) hS.out.il HWF.out (by omega) (by have := sel_len bs bs.length; simp; omega))
        rw [HAG.out] at HC9
        go_wp2_with (first | (go_at_call 10; refine HC9.out.mono ?_; rintro e w9 ⟨fv, rfl, hb9, h9⟩; have HSB := Lib.hid (sb_any bs bs _ _ w9 hb9 ((HAw.out.keep hO.out).keep h9)); have HO9 := Lib.hid h9; clear hb9 h9) | (go_at_call 11; refine HSB.out.mono ?_; rintro e w10 ⟨rfl, h10⟩))
        go_ret
        exact ⟨by first | rfl | simp, (((HO7.out.trans hO.out).trans HO9.out).trans h10).below (fun _ h => h.elim)⟩
end Go.Proofs.Ytnppjkekbdapkaa
