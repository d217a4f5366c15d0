/-
  Each key that is told to be needed lets the goal be known, alone; no other key does: for every input.
-/
import Derived.Test.YtnppjkekbdapkaaNed
import Derived.Test.YtnppjkekbdapkaaApp
set_option linter.unusedVariables false
namespace Go.Proofs.Ytnppjkekbdapkaa
open Go.RowKit

section
variable {P : Program} {o : Oper} {a : Act} {w w' : World}
theorem exec_app (s x : Operand) (t : TypeId) (ho : o.op = .call { callee := .builtin .append, args := #[s, x], argTypes := #[t, t] }) (v u v' : Value) (hs : a.eval s = v) (hx : a.eval x = u)
    (hrun : ∀ ty, (Builtin.append_ #[t, t] ty #[v, u]).run P w = .ok v' w') : (execOp a.eval o).run P w = .ok (.value v') w' := by
  unfold execOp
  simp only [ho, resolve, invoke, builtin, Sem.run_bind, Sem.run_pure, Result.andThen_ok, List.map_toArray, List.map_cons, List.map_nil, hs, hx, hrun]
end
theorem build_only {x : Int} {w w' : World} {v : Value} (h : (Instr.buildSlice 23 1 #[(0, .int .i64 x)]).run Try.prog w = .ok v w') : Only (fun _ => False) w w' := by
  rw [build_f] at h
  injection h with _ h
  rw [← h]
  exact (Only.refl _ _).alloc _
/-- append(append([]int{}, kn...), q): both slices are written out already. -/
theorem two_apps {D : World} {base bq : Nat} {v8 kv : Value} {kn : List Int} {q : Int} (h8 : FL D base v8 []) (hg : D.heap[bq]? = some (.cells #[.int .i64 q] 3 (0, 0))) (hne : ¬ v8.ownBlock = some bq) (hk : IL D kv kn) (hb : base ≤ D.heap.size) (hn : kn.length ≤ 1000) :
    ∃ v10 D10 v13 D13, (∀ ty, (Builtin.append_ #[23, 23] ty #[v8, kv]).run Try.prog D = .ok v10 D10) ∧ (∀ ty, (Builtin.append_ #[23, 23] ty #[v10, .slice (some ⟨bq, 0, none⟩) 1 1]).run Try.prog D10 = .ok v13 D13) ∧ FL D13 base v13 (kn ++ [q]) ∧ Only (fun k => base ≤ k) D D10 ∧ Only (fun k => base ≤ k) D10 D13 := by
  obtain ⟨v10, D10, hr10, hf10, hg10, _⟩ := app_ints h8 hk hb (by simp; omega)
  have o10 := grown_only hg10
  have hrow := keepRow o10 hg hne
  have hi : IL D10 (.slice (some ⟨bq, 0, none⟩) 1 1) [q] := IL.of_row (l := [q]) (cap := 1) hrow (Nat.le_refl _) (by unfold maxLen; omega) (fun i u h => by simpa using h)
  obtain ⟨v13, D13, hr13, hf13, hg13, _⟩ := app_ints hf10 hi (Nat.le_trans hb o10.size) (by simp; omega)
  exact ⟨v10, D10, v13, D13, hr10, hr13, hf13, o10.mono (fun k hk => h8.base_le hk), (grown_only hg13).mono (fun k hk => hf10.base_le hk)⟩
set_option maxHeartbeats 8000000 in
theorem adversaryNeeds_walk (w : World) (a0 : Option Addr) (len0 cap0 : Nat) (l : List Nd) (hl : NdRow w a0 len0 cap0 l) (a1 : Option Addr) (len1 cap1 : Nat) (kn : List Int) (hk : NumRow w a1 len1 cap1 kn) (n : Int) (hn : (Lit.int .u8 n).wf = true) :
    Calls Try.prog 4 #[.slice a0 len0 cap0, .slice a1 len1 cap1, .int .u8 n] w fun e w' => e = .returned (.bool true) ∧ Below w.heap.size w w' := by
  obtain ⟨hl1, rfl, hwf⟩ := hl
  obtain ⟨hk1, rfl, _⟩ := hk
  have h1 : 0 ≤ n ∧ n ≤ 255 := by
    simp [Lit.wf, IntKind.min, IntKind.max, IntKind.signed, IntKind.bits] at hn
    omega
  clear hn
  have HL := Lib.hid hl1
  have HK := Lib.hid hk1
  have HWF := Lib.hid hwf
  clear hl1 hk1 hwf
  have HSH := Lib.hid shown_any
  have e1 : IntKind.i64.wrap n = n := IntWalk.i64_in _ (by omega)
  by_cases g1 : 40 < l.length
  · have g1' : (40 : Int) < (l.length : Int) := by omega
    go_enter Try.func4, Try.ntmps4
    go_wp2_with (go_at_call 9; refine (HSH.out _).mono ?_; rintro e w1 ⟨rfl, h1⟩)
    go_ret
    exact ⟨rfl, h1.below (fun _ h => h.elim)⟩
  have g1' : ¬ (40 : Int) < (l.length : Int) := by omega
  by_cases g2 : 40 < kn.length
  · have g2' : (40 : Int) < (kn.length : Int) := by omega
    go_enter Try.func4, Try.ntmps4
    go_wp2_with (go_at_call 9; refine (HSH.out _).mono ?_; rintro e w1 ⟨rfl, h1⟩)
    go_ret
    exact ⟨rfl, h1.below (fun _ h => h.elim)⟩
  have g2' : ¬ (40 : Int) < (kn.length : Int) := by omega
  have HM0 := Lib.hid (may_any l _ w HL.out (by omega))
  cases hm : mayB l
  · rw [hm] at HM0
    clear hm
    go_enter Try.func4, Try.ntmps4
    go_wp2_with (first | (go_at_call 12; refine HM0.out.mono ?_; rintro e w1 ⟨rfl, h1⟩) | (go_at_call 9; refine (HSH.out _).mono ?_; rintro e w2 ⟨rfl, h2⟩))
    go_ret
    exact ⟨rfl, ((Only.of_below (S := fun _ => False) h1).trans h2).below (fun _ h => h.elim)⟩
  have HMB := Lib.hid hm
  rw [hm] at HM0
  clear hm
  by_cases g3 : l.length = 0
  · have g3' : ((l.length : Int) == 0) = true := by simp [g3]
    clear g3
    go_enter Try.func4, Try.ntmps4
    go_wp2_with (first | (go_at_call 12; refine HM0.out.mono ?_; rintro e w1 ⟨rfl, h1⟩) | (go_at_call 9; refine (HSH.out _).mono ?_; rintro e w2 ⟨rfl, h2⟩))
    go_ret
    exact ⟨rfl, ((Only.of_below (S := fun _ => False) h1).trans h2).below (fun _ h => h.elim)⟩
  have g3' : ((l.length : Int) == 0) = false := by rw [beq_eq_false_iff_ne]; omega
  have g4 : ¬ (l.length : Int) = 0 := by omega
  obtain ⟨g, hgd⟩ : ∃ g : Nat, (g : Int) = n % (l.length : Int) := by
    obtain ⟨N, rfl⟩ := Int.eq_ofNat_of_zero_le h1.1
    exact ⟨N % l.length, by simp⟩
  have hg1 : g < l.length := by
    have := Int.emod_lt_of_pos n (show (0 : Int) < (l.length : Int) by omega)
    omega
  have HGD := Lib.hid hgd
  clear hgd
  go_enter Try.func4, Try.ntmps4
  go_upto_region 4 with (first | (go_at_call 12; refine HM0.out.mono ?_; rintro e w1 ⟨rfl, h1⟩) | (go_at_call 9; refine (HSH.out _).mono ?_; rintro e w2 ⟨rfl, h2⟩))
  have HO2 := Lib.hid ((Only.of_below (S := fun _ => False) h1).trans h2)
  clear h1 h2 HM0
  rw [← HGD.out]
  have hwg : wf64 (g : Int) := by rw [wf64_iff]; omega
  have HC4 := Lib.hid (needs_any l kn (g : Int) _ _ w2 (HL.out.keep HO2.out) (HK.out.keep HO2.out) HWF.out (by omega) (by omega) hwg)
  go_upto_region 5 with (go_at_call 13; (with_reducible refine HC4.out.mono ?_); rintro e w3 ⟨nv, rfl, hi3, h3⟩)
  have HI3 := Lib.hid hi3
  have HO3 := Lib.hid (HO2.out.trans h3)
  obtain ⟨na, nc, rfl, hnc, hnm⟩ := hi3.val
  clear hi3 h3 HC4
  have HNL := Lib.hid (needs_len l kn (g : Int))
  have HLT := Lib.hid (needs_lt l kn (g : Int))
  have HNW := Lib.hid (needs_wf (l := l) (kn := kn) (g := (g : Int)) HWF.out)
  have HKEY : Hid (canB l kn (g : Int) = false → ∀ (i : Nat) (x : Nd), l[i]? = some x → x.op = 1 → canB l (kn ++ [(i : Int)]) (g : Int) = decide (0 < cnt (needs l kn (g : Int)) (needs l kn (g : Int)).length x.a)) := fun hc i x hx ho => needs_key (by omega) (by omega) HMB.out hc hx ho
  have HCAN : Hid (canB l kn (g : Int) = true → needs l kn (g : Int) = []) := needs_can
  generalize needs l kn (g : Int) = ns at *
  have hnl := HNL.out
  have HIM := Lib.hid (IM.new w3)
  have HV3 : Hid (Only (fun _ => False) w3 (w3.alloc (.map #[] 0))) := (Only.refl _ _).alloc _
  have hmm := make_map 31 w3
  have HMM := Lib.hid hmm
  clear HMM
  go_wp2_with fail
  generalize w3.alloc (.map #[] 0) = V3 at *
  go_loopg [10] ns.length (fun gg i wr => ∃ j : Nat, j ≤ ns.length ∧ gg = ns.length - j ∧ i = .int .i64 j ∧ Hid (IM wr w3.heap.size j (cnt ns j)) ∧ Hid (Only (fun _ => False) w3 wr))
  case atStart => exact ⟨0, by omega, by omega, rfl, HIM.out, HV3.out⟩
  case round =>
    clear HIM HV3 hmm
    revert wr
    intro wa hrel
    obtain ⟨j, hj, hgj, rfl, hM, hO⟩ := hrel
    by_cases hlt : j < ns.length
    · have hlt' : (j : Int) < (ns.length : Int) := by omega
      have hI := HI3.out.keep hO.out
      obtain ⟨nb, no, nc', he, _, _, hc0⟩ := hI.at hlt
      cases he
      have HX : Hid (ns[j]? = some ns[j]) := List.getElem?_eq_getElem hlt
      have HWX : Hid (wf64 ns[j]) := HNW.out _ (List.getElem_mem hlt)
      have HPREV : Hid (∀ (h0 : 0 < j), ns[j - 1]'(by omega) < ns[j]) := fun h0 => List.pairwise_iff_getElem.1 HLT.out (j - 1) j (by omega) hlt (by omega)
      have hnx := cnt_next HX.out
      have hcl := cnt_le ns j ns[j]
      obtain ⟨n0, hn0⟩ : ∃ n0, ns[j] = n0 := ⟨_, rfl⟩
      rw [hn0] at hc0 HX HWX hnx hcl
      have hlk := (hM.out.look HWX.out).1
      have hwr : IntKind.i64.wrap (cnt ns j n0 + 1) = cnt ns j n0 + 1 := IntWalk.i64_in _ (by omega)
      obtain ⟨W2, hrun, hM2, ho2⟩ := hM.out.put (by unfold maxLen; omega) HWX.out (v := cnt ns j n0 + 1) (by rw [wf64_iff]; omega)
      have HM2 : Hid (IM W2 w3.heap.size (j + 1) (cnt ns (j + 1))) := by rw [hnx]; exact hM2
      have HO2b := Lib.hid (fresh_only hO.out ho2 (fun k hk => by omega))
      obtain ⟨ct, hct⟩ : ∃ ct, cnt ns j n0 = ct := ⟨_, rfl⟩
      rw [hct] at hlk hrun hwr
      have HI2 := Lib.hid (HI3.out.keep HO2b.out)
      clear hM2 ho2 hnx hI hcl
      by_cases hj0 : j = 0
      · subst hj0
        rw [Nat.add_zero] at hc0
        clear hct hn0
        go_wp2_with fail
        go_quiet (fail)
        go_wp2_with fail
        go_roundg (ns.length - 1)
        case measure => omega
        case rel => exact ⟨1, by omega, by omega, by go_num, HM2.out, HO2b.out.drewN _⟩
      · have hjp : (0 : Int) < (j : Int) := by omega
        have hj1 : j - 1 < ns.length := by omega
        obtain ⟨nb1, no1, nc1, he1, _, _, hc1⟩ := HI2.out.at hlt
        cases he1
        obtain ⟨nb2, no2, nc2, he2, _, _, hc2⟩ := HI2.out.at hj1
        cases he2
        have hlt3 := HPREV.out (by omega)
        rw [hn0] at hc1 hlt3
        obtain ⟨n1, hn1⟩ : ∃ n1, ns[j - 1] = n1 := ⟨_, rfl⟩
        rw [hn1] at hc2 hlt3
        obtain ⟨i, rfl⟩ : ∃ i, j = i + 1 := ⟨j - 1, by omega⟩
        have hi1 : i + 1 - 1 = i := by omega
        rw [hi1] at hc2
        have hnle : ¬ n0 ≤ n1 := by omega
        clear hct hn0 hn1 hi1 hj1
        go_wp2_with fail
        go_quiet (fail)
        go_wp2_with fail
        go_roundg (ns.length - (i + 1 + 1))
        case measure => omega
        case rel => exact ⟨i + 1 + 1, by omega, by omega, by go_num, HM2.out, HO2b.out.drewN _⟩
    · obtain rfl : j = ns.length := by omega
      have HCN := Lib.hid (can_any l kn (g : Int) _ _ wa (HL.out.keep (HO3.out.trans hO.out)) (HK.out.keep (HO3.out.trans hO.out)) HWF.out (by omega) (by omega) hwg)
      cases hc : canB l kn (g : Int)
      · have HKE := Lib.hid (HKEY.out hc)
        rw [hc] at HCN
        clear hc HCAN HKEY hnl
        go_wp2_with (go_at_call 14; (with_reducible refine HCN.out.mono ?_); rintro e w4 ⟨rfl, h4⟩)
        have HO4x := Lib.hid h4
        have HM4 := Lib.hid (hM.out.keep h4 (fun x => x))
        clear h4 HCN
        have HRF := Lib.hid (Only.refl (fun _ => False) w4)
        go_loopg [11] l.length (fun gg i wr => ∃ q : Nat, q ≤ l.length ∧ gg = l.length - q ∧ i = .int .i64 q ∧ Hid (Only (fun _ => False) w4 wr))
        case atStart => exact ⟨0, by omega, by omega, rfl, HRF.out⟩
        case round =>
          clear HRF
          revert wr
          intro wb hrel
          obtain ⟨q, hq, hgq, rfl, HO5⟩ := hrel
          by_cases hlt2 : q < l.length
          · have hlt2' : (q : Int) < (l.length : Int) := by omega
            have HO45 := Lib.hid (HO4x.out.trans HO5.out)
            obtain ⟨gb, go, gc, he, _, _, _, _, _, _⟩ := (HL.out.keep ((HO3.out.trans hO.out).trans HO45.out)).at hlt2
            cases he
            have HY : Hid (l[q]? = some l[q]) := List.getElem?_eq_getElem hlt2
            have HWX : Hid (wf64 l[q].a) := (HWF.out _ (List.getElem_mem hlt2)).a
            have HC0 : Hid (∀ W, Only (fun _ => False) wb W → W.cell? ⟨gb, go + q * 3, none⟩ = some (.int .i64 l[q].op)) := fun W o => by
              obtain ⟨_, _, _, he, _, _, d0, _, _, _⟩ := (HL.out.keep (((HO3.out.trans hO.out).trans HO45.out).trans o)).at hlt2
              cases he
              exact d0
            have HC1 : Hid (∀ W, Only (fun _ => False) wb W → W.cell? ⟨gb, go + q * 3 + 1, none⟩ = some (.int .i64 l[q].a)) := fun W o => by
              obtain ⟨_, _, _, he, _, _, _, d1, _, _⟩ := (HL.out.keep (((HO3.out.trans hO.out).trans HO45.out).trans o)).at hlt2
              cases he
              exact d1
            generalize l[q] = x at *
            obtain ⟨op, xa, xb⟩ := x
            by_cases ho : op = 1
            · subst ho
              have HKV0 := HKE.out q _ HY.out rfl
              have HLK0 : Hid (∀ W, Only (fun _ => False) wb W → (Instr.lookup 31 (.map (some w3.heap.size)) (.int .i64 xa) false).run Try.prog W = .ok (.int .i64 (cnt ns ns.length xa)) W) := fun W o => ((HM4.out.keep (HO5.out.trans o) (fun x => x)).look HWX.out).1
              obtain ⟨c, hcc⟩ : ∃ c, cnt ns ns.length xa = c := ⟨_, rfl⟩
              have HKV : Hid (canB l (kn ++ [(q : Int)]) (g : Int) = decide (0 < c)) := by rw [← hcc]; exact HKV0
              have HLK : Hid (∀ W, Only (fun _ => False) wb W → (Instr.lookup 31 (.map (some w3.heap.size)) (.int .i64 xa) false).run Try.prog W = .ok (.int .i64 c) W) := by rw [← hcc]; exact HLK0.out
              clear hcc HKV0 HLK0
              go_wp2_with fail
              refine wp_region_held (S := fun W => Only (fun _ => False) wb W) (by kernel_rfl) ?_
              change wpAnyH _ _ _ _ _ _ _ _ (World.drew _)
              have HS0 : Only (fun _ => False) wb (World.drew wb) := (Only.refl _ _).drew
              refine held_pure (i := 0) (v := (.slice (some ⟨gb, go, none⟩) l.length cap0)) rfl rfl (by kernel_rfl) (by kernel_rfl) (by kernel_rfl) (fun _ _ _ h => h) (Or.inl ⟨by rfl, fun w => by go_simp⟩) HS0 ?_
              simp only [List.setIfInBounds_toArray, List.set]
              refine held_pure (i := 1) (v := (.int .i64 (q : Int))) rfl rfl (by kernel_rfl) (by kernel_rfl) (by kernel_rfl) (fun _ _ _ h => h) (Or.inl ⟨by rfl, fun w => by go_simp⟩) HS0 ?_
              simp only [List.setIfInBounds_toArray, List.set]
              refine held_pure (i := 2) (v := (.pointer (some ⟨gb, go + q * 3, none⟩))) rfl rfl (by kernel_rfl) (by kernel_rfl) (by kernel_rfl) (fun _ _ _ h => h) (Or.inl ⟨by rfl, fun w => by go_simp⟩) HS0 ?_
              simp only [List.setIfInBounds_toArray, List.set]
              refine held_pure (i := 3) (v := (.pointer (some ⟨gb, go + q * 3, none⟩))) rfl rfl (by kernel_rfl) (by kernel_rfl) (by kernel_rfl) (fun _ _ _ h => h) (Or.inl ⟨by rfl, fun w => by go_simp⟩) HS0 ?_
              simp only [List.setIfInBounds_toArray, List.set]
              refine held_take (i := 4) (v := (.int .i64 1)) rfl rfl (by kernel_rfl) (by kernel_rfl) (by kernel_rfl) (fun _ _ _ h => h) (Or.inl ⟨by rfl, fun w hS => by have hc := HC0.out w hS; go_simp⟩) HS0 ?_
              simp only [List.setIfInBounds_toArray, List.set]
              refine held_pure (i := 5) (v := (.bool true)) rfl rfl (by kernel_rfl) (by kernel_rfl) (by kernel_rfl) (fun _ _ _ h => h) (Or.inl ⟨by rfl, fun w => by go_simp⟩) HS0 ?_
              simp only [List.setIfInBounds_toArray, List.set]
              refine held_pure (i := 6) (v := (.bool true)) rfl rfl (by kernel_rfl) (by kernel_rfl) (by kernel_rfl) (fun _ _ _ h => h) (Or.inl ⟨by rfl, fun w => by go_simp⟩) HS0 ?_
              simp only [List.setIfInBounds_toArray, List.set]
              refine held_pure (i := 7) (v := (.slice (some ⟨gb, go, none⟩) l.length cap0)) rfl rfl (by kernel_rfl) (by kernel_rfl) (by kernel_rfl) (fun _ _ _ h => h) (Or.inl ⟨by rfl, fun w => by go_simp⟩) HS0 ?_
              simp only [List.setIfInBounds_toArray, List.set]
              refine held_pure (i := 9) (v := (.slice a1 kn.length cap1)) rfl rfl (by kernel_rfl) (by kernel_rfl) (by kernel_rfl) (fun _ _ _ h => h) (Or.inl ⟨by rfl, fun w => by go_simp⟩) HS0 ?_
              simp only [List.setIfInBounds_toArray, List.set]
              refine held_pure (i := 11) (v := (.int .i64 (q : Int))) rfl rfl (by kernel_rfl) (by kernel_rfl) (by kernel_rfl) (fun _ _ _ h => h) (Or.inl ⟨by rfl, fun w => by go_simp⟩) HS0 ?_
              simp only [List.setIfInBounds_toArray, List.set]
              refine held_pure (i := 14) (v := (.int .i64 (g : Int))) rfl rfl (by kernel_rfl) (by kernel_rfl) (by kernel_rfl) (fun _ _ _ h => h) (Or.inl ⟨by rfl, fun w => by go_simp⟩) HS0 ?_
              simp only [List.setIfInBounds_toArray, List.set]
              refine held_pure (i := 16) (v := (.map (some w3.heap.size))) rfl rfl (by kernel_rfl) (by kernel_rfl) (by kernel_rfl) (fun _ _ _ h => h) (Or.inl ⟨by rfl, fun w => by go_simp⟩) HS0 ?_
              simp only [List.setIfInBounds_toArray, List.set]
              refine held_pure (i := 17) (v := (.slice (some ⟨gb, go, none⟩) l.length cap0)) rfl rfl (by kernel_rfl) (by kernel_rfl) (by kernel_rfl) (fun _ _ _ h => h) (Or.inl ⟨by rfl, fun w => by go_simp⟩) HS0 ?_
              simp only [List.setIfInBounds_toArray, List.set]
              refine held_pure (i := 18) (v := (.int .i64 (q : Int))) rfl rfl (by kernel_rfl) (by kernel_rfl) (by kernel_rfl) (fun _ _ _ h => h) (Or.inl ⟨by rfl, fun w => by go_simp⟩) HS0 ?_
              simp only [List.setIfInBounds_toArray, List.set]
              refine held_pure (i := 19) (v := (.pointer (some ⟨gb, go + q * 3, none⟩))) rfl rfl (by kernel_rfl) (by kernel_rfl) (by kernel_rfl) (fun _ _ _ h => h) (Or.inl ⟨by rfl, fun w => by go_simp⟩) HS0 ?_
              simp only [List.setIfInBounds_toArray, List.set]
              refine held_pure (i := 20) (v := (.pointer (some ⟨gb, go + q * 3 + 1, none⟩))) rfl rfl (by kernel_rfl) (by kernel_rfl) (by kernel_rfl) (fun _ _ _ h => h) (Or.inl ⟨by rfl, fun w => by go_simp⟩) HS0 ?_
              simp only [List.setIfInBounds_toArray, List.set]
              refine held_take (i := 21) (v := (.int .i64 xa)) rfl rfl (by kernel_rfl) (by kernel_rfl) (by kernel_rfl) (fun _ _ _ h => h) (Or.inl ⟨by rfl, fun w hS => by have hc := HC1.out w hS; go_simp⟩) HS0 ?_
              simp only [List.setIfInBounds_toArray, List.set]
              refine held_take (i := 22) (v := (.int .i64 c)) rfl rfl (by kernel_rfl) (by kernel_rfl) (by kernel_rfl) (fun _ _ _ h => h) (Or.inl ⟨by rfl, fun w hS => by have hc := HLK.out w hS; go_simp⟩) HS0 ?_
              simp only [List.setIfInBounds_toArray, List.set]
              refine held_pure (i := 23) (v := (.bool (decide (0 < c)))) rfl rfl (by kernel_rfl) (by kernel_rfl) (by kernel_rfl) (fun _ _ _ h => h) (Or.inl ⟨by rfl, fun w => by go_simp⟩) HS0 ?_
              simp only [List.setIfInBounds_toArray, List.set]
              obtain ⟨D, hD⟩ : ∃ D, D = World.drew wb := ⟨_, rfl⟩
              rw [← hD] at HS0 ⊢
              clear hD
              have HKD := Lib.hid (HK.out.keep (((HO3.out.trans hO.out).trans HO45.out).trans HS0))
              refine held_two (j := 8) (k := 12) (by kernel_rfl) ?_ ?_
              · have HB8 := Lib.hid (build_0 D)
                have HF8 := Lib.hid (FL.new D D.heap.size (Nat.le_refl _))
                have HA8 : Hid (Only (fun _ => False) D (D.alloc (.cells #[] 3))) := (Only.refl _ _).alloc _
                have hsz8 : (D.alloc (.cells #[] 3)).heap.size = D.heap.size + 1 := by simp
                have HSZ := Lib.hid hsz8
                clear hsz8
                generalize D.alloc (.cells #[] 3) = D8 at *
                have HS8 := HS0.trans HA8.out
                refine op_exec (j := 8) rfl rfl (by rfl) _ (exec_bs 23 0 #[] rfl [] rfl _ HB8.out) ?_
                refine ⟨HS8, ?_⟩
                simp only [List.setIfInBounds_toArray, List.set]
                refine held_two (j := 10) (k := 12) (by kernel_rfl) ?_ ?_
                · obtain ⟨v10, D10, hr10, hf10, hg10, _⟩ := app_ints HF8.out (HKD.out.keep HA8.out) HA8.out.size (by simp; omega)
                  have HR10 := Lib.hid hr10
                  have HA10 := Lib.hid (fresh_only HA8.out (grown_only hg10) (fun k hk => HF8.out.base_le hk))
                  have HS10 := HS0.trans HA10.out
                  refine op_exec (j := 10) rfl rfl (by rfl) _ (exec_app (.tmp 93) (.tmp 94) 23 rfl _ _ _ rfl rfl HR10.out) ?_
                  refine ⟨HS10, ?_⟩
                  simp only [List.setIfInBounds_toArray, List.set]
                  obtain ⟨v13, W13, D13, hb12, hr13, hf13, ho13⟩ := snoc_int hf10 HA10.out.size (q : Int) (by simp; omega)
                  have HB12 := Lib.hid hb12
                  have HR13 := Lib.hid hr13
                  have HF13 : Hid (FL D13 D.heap.size v13 (kn ++ [(q : Int)])) := hf13
                  have HA13 := Lib.hid (fresh_only HA10.out ho13 (fun k hk => hk))
                  have HS13 := HS0.trans HA13.out
                  have HS12 : Only (fun _ => False) wb W13 := HS10.trans (build_only hb12)
                  refine held_execd (j := 12) (by kernel_rfl) rfl rfl (by rfl) _ (exec_bs 23 1 #[(0, .tmp 96)] rfl [(0, .int .i64 (q : Int))] rfl _ HB12.out) HS12 ?_
                  simp only [List.setIfInBounds_toArray, List.set]
                  refine held_execd (j := 13) (by kernel_rfl) rfl rfl (by rfl) _ (exec_app (.tmp 95) (.tmp 97) 23 rfl _ _ _ rfl rfl HR13.out) HS13 ?_
                  simp only [List.setIfInBounds_toArray, List.set]
                  have HCC := Lib.hid (can_any l (kn ++ [(q : Int)]) (g : Int) _ _ D13 (HL.out.keep (((HO3.out.trans hO.out).trans HO45.out).trans HS13)) HF13.out.il HWF.out (by omega) (by simp; omega) hwg)
                  rw [HKV.out] at HCC
                  refine held_call (j := 15) (by kernel_rfl) rfl rfl (by rfl) Try.func14 (by kernel_rfl) rfl rfl [(.slice (some ⟨gb, go, none⟩) l.length cap0), v13, (.int .i64 (g : Int))] rfl HCC.out ?_
                  intro w15 h15
                  have HS15 : Only (fun _ => False) wb w15 := HS13.trans h15
                  refine ⟨HS15, ?_⟩
                  simp only [List.setIfInBounds_toArray, List.set]
                  refine held_pure (i := 24) (v := (.bool false)) rfl rfl (by kernel_rfl) (by kernel_rfl) (by kernel_rfl) (fun _ _ _ h => h) (Or.inl ⟨by rfl, fun w => by go_simp⟩) HS15 ?_
                  simp only [List.setIfInBounds_toArray, List.set]
                  refine held_pure (i := 25) (v := (.bool false)) rfl rfl (by kernel_rfl) (by kernel_rfl) (by kernel_rfl) (fun _ _ _ h => h) (Or.inl ⟨by rfl, fun w => by go_simp⟩) HS15 ?_
                  simp only [List.setIfInBounds_toArray, List.set]
                  refine wpAnyH_done (by kernel_rfl) ?_ _
                  have HSS := Lib.hid (HO5.out.trans HS15)
                  clear HS0 HS15 h15
                  go_wp2_with fail
                  go_roundg (l.length - (q + 1))
                  case measure => omega
                  case rel => exact ⟨q + 1, by omega, by omega, by go_num, HSS.out⟩
                · have HB12 := Lib.hid (build_f (q : Int) D8)
                  have HG12 : Hid ((D8.alloc (.cells #[.int .i64 (q : Int)] 3)).heap[D8.heap.size]? = some (.cells #[.int .i64 (q : Int)] 3 (0, 0))) := heap_alloc_new _ _
                  have HA12 : Hid (Only (fun _ => False) D8 (D8.alloc (.cells #[.int .i64 (q : Int)] 3))) := (Only.refl _ _).alloc _
                  generalize D8.alloc (.cells #[.int .i64 (q : Int)] 3) = D12 at *
                  have HS12 := HS8.trans HA12.out
                  refine op_exec (j := 12) rfl rfl (by rfl) _ (exec_bs 23 1 #[(0, .tmp 96)] rfl [(0, .int .i64 (q : Int))] rfl _ HB12.out) ?_
                  refine ⟨HS12, ?_⟩
                  simp only [List.setIfInBounds_toArray, List.set]
                  obtain ⟨v10, D10, v13, D13, hr10, hr13, hf13, ho10, ho13⟩ := two_apps (HF8.out.keep HA12.out (fun _ _ x => x)) HG12.out (by have := HSZ.out; show ¬ some D.heap.size = some D8.heap.size; simp; omega) (HKD.out.keep (HA8.out.trans HA12.out)) (HA8.out.trans HA12.out).size (q := (q : Int)) (by omega)
                  have HR10 := Lib.hid hr10
                  have HR13 := Lib.hid hr13
                  have HF13 : Hid (FL D13 D.heap.size v13 (kn ++ [(q : Int)])) := hf13
                  have HA10 := Lib.hid (fresh_only (HA8.out.trans HA12.out) ho10 (fun k hk => hk))
                  have HA13 := Lib.hid (fresh_only HA10.out ho13 (fun k hk => hk))
                  have HS10 := HS0.trans HA10.out
                  have HS13 := HS0.trans HA13.out
                  refine held_execd (j := 10) (by kernel_rfl) rfl rfl (by rfl) _ (exec_app (.tmp 93) (.tmp 94) 23 rfl _ _ _ rfl rfl HR10.out) HS10 ?_
                  simp only [List.setIfInBounds_toArray, List.set]
                  refine held_execd (j := 13) (by kernel_rfl) rfl rfl (by rfl) _ (exec_app (.tmp 95) (.tmp 97) 23 rfl _ _ _ rfl rfl HR13.out) HS13 ?_
                  simp only [List.setIfInBounds_toArray, List.set]
                  have HCC := Lib.hid (can_any l (kn ++ [(q : Int)]) (g : Int) _ _ D13 (HL.out.keep (((HO3.out.trans hO.out).trans HO45.out).trans HS13)) HF13.out.il HWF.out (by omega) (by simp; omega) hwg)
                  rw [HKV.out] at HCC
                  refine held_call (j := 15) (by kernel_rfl) rfl rfl (by rfl) Try.func14 (by kernel_rfl) rfl rfl [(.slice (some ⟨gb, go, none⟩) l.length cap0), v13, (.int .i64 (g : Int))] rfl HCC.out ?_
                  intro w15 h15
                  have HS15 : Only (fun _ => False) wb w15 := HS13.trans h15
                  refine ⟨HS15, ?_⟩
                  simp only [List.setIfInBounds_toArray, List.set]
                  refine held_pure (i := 24) (v := (.bool false)) rfl rfl (by kernel_rfl) (by kernel_rfl) (by kernel_rfl) (fun _ _ _ h => h) (Or.inl ⟨by rfl, fun w => by go_simp⟩) HS15 ?_
                  simp only [List.setIfInBounds_toArray, List.set]
                  refine held_pure (i := 25) (v := (.bool false)) rfl rfl (by kernel_rfl) (by kernel_rfl) (by kernel_rfl) (fun _ _ _ h => h) (Or.inl ⟨by rfl, fun w => by go_simp⟩) HS15 ?_
                  simp only [List.setIfInBounds_toArray, List.set]
                  refine wpAnyH_done (by kernel_rfl) ?_ _
                  have HSS := Lib.hid (HO5.out.trans HS15)
                  clear HS0 HS15 h15
                  go_wp2_with fail
                  go_roundg (l.length - (q + 1))
                  case measure => omega
                  case rel => exact ⟨q + 1, by omega, by omega, by go_num, HSS.out⟩
              · have HB12 := Lib.hid (build_f (q : Int) D)
                have HG12 : Hid ((D.alloc (.cells #[.int .i64 (q : Int)] 3)).heap[D.heap.size]? = some (.cells #[.int .i64 (q : Int)] 3 (0, 0))) := heap_alloc_new _ _
                have HA12 : Hid (Only (fun _ => False) D (D.alloc (.cells #[.int .i64 (q : Int)] 3))) := (Only.refl _ _).alloc _
                have hsz8 : (D.alloc (.cells #[.int .i64 (q : Int)] 3)).heap.size = D.heap.size + 1 := by simp
                have HSZ := Lib.hid hsz8
                clear hsz8
                generalize D.alloc (.cells #[.int .i64 (q : Int)] 3) = D12 at *
                have HS12 := HS0.trans HA12.out
                refine op_exec (j := 12) rfl rfl (by rfl) _ (exec_bs 23 1 #[(0, .tmp 96)] rfl [(0, .int .i64 (q : Int))] rfl _ HB12.out) ?_
                refine ⟨HS12, ?_⟩
                simp only [List.setIfInBounds_toArray, List.set]
                have HB8 := Lib.hid (build_0 D12)
                have HF8 := Lib.hid (FL.new D12 D.heap.size HA12.out.size)
                have HA8 : Hid (Only (fun _ => False) D12 (D12.alloc (.cells #[] 3))) := (Only.refl _ _).alloc _
                generalize D12.alloc (.cells #[] 3) = D8 at *
                have HS8 := HS12.trans HA8.out
                refine held_execd (j := 8) (by kernel_rfl) rfl rfl (by rfl) _ (exec_bs 23 0 #[] rfl [] rfl _ HB8.out) HS8 ?_
                simp only [List.setIfInBounds_toArray, List.set]
                obtain ⟨v10, D10, v13, D13, hr10, hr13, hf13, ho10, ho13⟩ := two_apps HF8.out (keepRow HA8.out HG12.out (fun x => x)) (by have := HSZ.out; show ¬ some D12.heap.size = some D.heap.size; simp; omega) (HKD.out.keep (HA12.out.trans HA8.out)) (HA12.out.trans HA8.out).size (q := (q : Int)) (by omega)
                have HR10 := Lib.hid hr10
                have HR13 := Lib.hid hr13
                have HF13 : Hid (FL D13 D.heap.size v13 (kn ++ [(q : Int)])) := hf13
                have HA10 := Lib.hid (fresh_only (HA12.out.trans HA8.out) ho10 (fun k hk => hk))
                have HA13 := Lib.hid (fresh_only HA10.out ho13 (fun k hk => hk))
                have HS10 := HS0.trans HA10.out
                have HS13 := HS0.trans HA13.out
                refine held_execd (j := 10) (by kernel_rfl) rfl rfl (by rfl) _ (exec_app (.tmp 93) (.tmp 94) 23 rfl _ _ _ rfl rfl HR10.out) HS10 ?_
                simp only [List.setIfInBounds_toArray, List.set]
                refine held_execd (j := 13) (by kernel_rfl) rfl rfl (by rfl) _ (exec_app (.tmp 95) (.tmp 97) 23 rfl _ _ _ rfl rfl HR13.out) HS13 ?_
                simp only [List.setIfInBounds_toArray, List.set]
                have HCC := Lib.hid (can_any l (kn ++ [(q : Int)]) (g : Int) _ _ D13 (HL.out.keep (((HO3.out.trans hO.out).trans HO45.out).trans HS13)) HF13.out.il HWF.out (by omega) (by simp; omega) hwg)
                rw [HKV.out] at HCC
                refine held_call (j := 15) (by kernel_rfl) rfl rfl (by rfl) Try.func14 (by kernel_rfl) rfl rfl [(.slice (some ⟨gb, go, none⟩) l.length cap0), v13, (.int .i64 (g : Int))] rfl HCC.out ?_
                intro w15 h15
                have HS15 : Only (fun _ => False) wb w15 := HS13.trans h15
                refine ⟨HS15, ?_⟩
                simp only [List.setIfInBounds_toArray, List.set]
                refine held_pure (i := 24) (v := (.bool false)) rfl rfl (by kernel_rfl) (by kernel_rfl) (by kernel_rfl) (fun _ _ _ h => h) (Or.inl ⟨by rfl, fun w => by go_simp⟩) HS15 ?_
                simp only [List.setIfInBounds_toArray, List.set]
                refine held_pure (i := 25) (v := (.bool false)) rfl rfl (by kernel_rfl) (by kernel_rfl) (by kernel_rfl) (fun _ _ _ h => h) (Or.inl ⟨by rfl, fun w => by go_simp⟩) HS15 ?_
                simp only [List.setIfInBounds_toArray, List.set]
                refine wpAnyH_done (by kernel_rfl) ?_ _
                have HSS := Lib.hid (HO5.out.trans HS15)
                clear HS0 HS15 h15
                go_wp2_with fail
                go_roundg (l.length - (q + 1))
                case measure => omega
                case rel => exact ⟨q + 1, by omega, by omega, by go_num, HSS.out⟩
            · have ho' : ((op : Int) == 1) = false := by rw [beq_eq_false_iff_ne]; exact ho
              go_wp2_with fail
              refine wp_region_held (S := fun W => Only (fun _ => False) wb W) (by kernel_rfl) ?_
              change wpAnyH _ _ _ _ _ _ _ _ (World.drew _)
              have HS0 : Only (fun _ => False) wb (World.drew wb) := (Only.refl _ _).drew
              refine held_pure (i := 0) (v := (.slice (some ⟨gb, go, none⟩) l.length cap0)) rfl rfl (by kernel_rfl) (by kernel_rfl) (by kernel_rfl) (fun _ _ _ h => h) (Or.inl ⟨by rfl, fun w => by go_simp⟩) HS0 ?_
              simp only [List.setIfInBounds_toArray, List.set]
              refine held_pure (i := 1) (v := (.int .i64 (q : Int))) rfl rfl (by kernel_rfl) (by kernel_rfl) (by kernel_rfl) (fun _ _ _ h => h) (Or.inl ⟨by rfl, fun w => by go_simp⟩) HS0 ?_
              simp only [List.setIfInBounds_toArray, List.set]
              refine held_pure (i := 2) (v := (.pointer (some ⟨gb, go + q * 3, none⟩))) rfl rfl (by kernel_rfl) (by kernel_rfl) (by kernel_rfl) (fun _ _ _ h => h) (Or.inl ⟨by rfl, fun w => by go_simp⟩) HS0 ?_
              simp only [List.setIfInBounds_toArray, List.set]
              refine held_pure (i := 3) (v := (.pointer (some ⟨gb, go + q * 3, none⟩))) rfl rfl (by kernel_rfl) (by kernel_rfl) (by kernel_rfl) (fun _ _ _ h => h) (Or.inl ⟨by rfl, fun w => by go_simp⟩) HS0 ?_
              simp only [List.setIfInBounds_toArray, List.set]
              refine held_take (i := 4) (v := (.int .i64 op)) rfl rfl (by kernel_rfl) (by kernel_rfl) (by kernel_rfl) (fun _ _ _ h => h) (Or.inl ⟨by rfl, fun w hS => by have hc := HC0.out w hS; go_simp⟩) HS0 ?_
              simp only [List.setIfInBounds_toArray, List.set]
              refine held_pure (i := 5) (v := (.bool false)) rfl rfl (by kernel_rfl) (by kernel_rfl) (by kernel_rfl) (fun _ _ _ h => h) (Or.inl ⟨by rfl, fun w => by go_simp⟩) HS0 ?_
              simp only [List.setIfInBounds_toArray, List.set]
              refine held_pure (i := 6) (v := (.bool false)) rfl rfl (by kernel_rfl) (by kernel_rfl) (by kernel_rfl) (fun _ _ _ h => h) (Or.inl ⟨by rfl, fun w => by go_simp⟩) HS0 ?_
              simp only [List.setIfInBounds_toArray, List.set]
              refine held_take (i := 7) (v := undef) rfl rfl (by kernel_rfl) (by kernel_rfl) (by kernel_rfl) (fun _ _ _ h => h) (Or.inr ⟨by rfl, rfl⟩) HS0 ?_
              simp only [List.setIfInBounds_toArray, List.set]
              refine held_take (i := 8) (v := undef) rfl rfl (by kernel_rfl) (by kernel_rfl) (by kernel_rfl) (fun _ _ _ h => h) (Or.inr ⟨by rfl, rfl⟩) HS0 ?_
              simp only [List.setIfInBounds_toArray, List.set]
              refine held_take (i := 9) (v := undef) rfl rfl (by kernel_rfl) (by kernel_rfl) (by kernel_rfl) (fun _ _ _ h => h) (Or.inr ⟨by rfl, rfl⟩) HS0 ?_
              simp only [List.setIfInBounds_toArray, List.set]
              refine held_take (i := 10) (v := undef) rfl rfl (by kernel_rfl) (by kernel_rfl) (by kernel_rfl) (fun _ _ _ h => h) (Or.inr ⟨by rfl, rfl⟩) HS0 ?_
              simp only [List.setIfInBounds_toArray, List.set]
              refine held_take (i := 11) (v := undef) rfl rfl (by kernel_rfl) (by kernel_rfl) (by kernel_rfl) (fun _ _ _ h => h) (Or.inr ⟨by rfl, rfl⟩) HS0 ?_
              simp only [List.setIfInBounds_toArray, List.set]
              refine held_take (i := 12) (v := undef) rfl rfl (by kernel_rfl) (by kernel_rfl) (by kernel_rfl) (fun _ _ _ h => h) (Or.inr ⟨by rfl, rfl⟩) HS0 ?_
              simp only [List.setIfInBounds_toArray, List.set]
              refine held_take (i := 13) (v := undef) rfl rfl (by kernel_rfl) (by kernel_rfl) (by kernel_rfl) (fun _ _ _ h => h) (Or.inr ⟨by rfl, rfl⟩) HS0 ?_
              simp only [List.setIfInBounds_toArray, List.set]
              refine held_take (i := 14) (v := undef) rfl rfl (by kernel_rfl) (by kernel_rfl) (by kernel_rfl) (fun _ _ _ h => h) (Or.inr ⟨by rfl, rfl⟩) HS0 ?_
              simp only [List.setIfInBounds_toArray, List.set]
              refine held_take (i := 15) (v := undef) rfl rfl (by kernel_rfl) (by kernel_rfl) (by kernel_rfl) (fun _ _ _ h => h) (Or.inr ⟨by rfl, rfl⟩) HS0 ?_
              simp only [List.setIfInBounds_toArray, List.set]
              refine held_take (i := 16) (v := undef) rfl rfl (by kernel_rfl) (by kernel_rfl) (by kernel_rfl) (fun _ _ _ h => h) (Or.inr ⟨by rfl, rfl⟩) HS0 ?_
              simp only [List.setIfInBounds_toArray, List.set]
              refine held_take (i := 17) (v := undef) rfl rfl (by kernel_rfl) (by kernel_rfl) (by kernel_rfl) (fun _ _ _ h => h) (Or.inr ⟨by rfl, rfl⟩) HS0 ?_
              simp only [List.setIfInBounds_toArray, List.set]
              refine held_take (i := 18) (v := undef) rfl rfl (by kernel_rfl) (by kernel_rfl) (by kernel_rfl) (fun _ _ _ h => h) (Or.inr ⟨by rfl, rfl⟩) HS0 ?_
              simp only [List.setIfInBounds_toArray, List.set]
              refine held_take (i := 19) (v := undef) rfl rfl (by kernel_rfl) (by kernel_rfl) (by kernel_rfl) (fun _ _ _ h => h) (Or.inr ⟨by rfl, rfl⟩) HS0 ?_
              simp only [List.setIfInBounds_toArray, List.set]
              refine held_take (i := 20) (v := undef) rfl rfl (by kernel_rfl) (by kernel_rfl) (by kernel_rfl) (fun _ _ _ h => h) (Or.inr ⟨by rfl, rfl⟩) HS0 ?_
              simp only [List.setIfInBounds_toArray, List.set]
              refine held_take (i := 21) (v := undef) rfl rfl (by kernel_rfl) (by kernel_rfl) (by kernel_rfl) (fun _ _ _ h => h) (Or.inr ⟨by rfl, rfl⟩) HS0 ?_
              simp only [List.setIfInBounds_toArray, List.set]
              refine held_take (i := 22) (v := undef) rfl rfl (by kernel_rfl) (by kernel_rfl) (by kernel_rfl) (fun _ _ _ h => h) (Or.inr ⟨by rfl, rfl⟩) HS0 ?_
              simp only [List.setIfInBounds_toArray, List.set]
              refine held_take (i := 23) (v := undef) rfl rfl (by kernel_rfl) (by kernel_rfl) (by kernel_rfl) (fun _ _ _ h => h) (Or.inr ⟨by rfl, rfl⟩) HS0 ?_
              simp only [List.setIfInBounds_toArray, List.set]
              refine held_take (i := 24) (v := undef) rfl rfl (by kernel_rfl) (by kernel_rfl) (by kernel_rfl) (fun _ _ _ h => h) (Or.inr ⟨by rfl, rfl⟩) HS0 ?_
              simp only [List.setIfInBounds_toArray, List.set]
              refine held_pure (i := 25) (v := (.bool false)) rfl rfl (by kernel_rfl) (by kernel_rfl) (by kernel_rfl) (fun _ _ _ h => h) (Or.inl ⟨by rfl, fun w => by go_simp⟩) HS0 ?_
              simp only [List.setIfInBounds_toArray, List.set]
              refine wpAnyH_done (by kernel_rfl) ?_ _
              have HSS := Lib.hid (HO5.out.trans HS0)
              clear HS0
              go_wp2_with fail
              go_roundg (l.length - (q + 1))
              case measure => omega
              case rel => exact ⟨q + 1, by omega, by omega, by go_num, HSS.out⟩
          · obtain rfl : q = l.length := by omega
            go_wp2_with fail
            go_ret
            exact ⟨rfl, ((HO3.out.trans hO.out).trans (HO4x.out.trans HO5.out)).below (fun _ h => h.elim)⟩
      · have hns := HCAN.out hc
        subst hns
        rw [hc] at HCN
        clear hc
        go_wp2_with (go_at_call 14; (with_reducible refine HCN.out.mono ?_); rintro e w4 ⟨rfl, h4⟩)
        go_ret
        exact ⟨rfl, ((HO3.out.trans hO.out).trans h4).below (fun _ h => h.elim)⟩
end Go.Proofs.Ytnppjkekbdapkaa
