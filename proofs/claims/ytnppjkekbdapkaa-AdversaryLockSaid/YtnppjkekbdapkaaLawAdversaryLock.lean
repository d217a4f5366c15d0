/-
  What is under one lock alone, whose key is in nothing else that is known, is not known: for every input.
-/
import Derived.Test.YtnppjkekbdapkaaLck
import Derived.Test.YtnppjkekbdapkaaApp
set_option linter.unusedVariables false
namespace Go.Proofs.Ytnppjkekbdapkaa
open Go.RowKit

theorem lk_take {k a : Int} {ns : List Int} {i : Nat} {n : Int} (h : ns[i]? = some n) : lkS k a (ns.take (i + 1)) = lkStep k a (lkS k a (ns.take i)) n := by
  rw [List.take_add_one, h]
  exact lkS_snoc k a _ n
set_option maxHeartbeats 8000000 in
theorem adversaryLock_walk (w : World) (k : Int) (hk : (Lit.int .u16 k).wf = true) (a : Int) (ha : (Lit.int .u16 a).wf = true) (ad : Option Addr) (len cap : Nat) (ns : List Int) (hn : U16Row w ad len cap ns) :
    Calls Try.prog 7 #[.int .u16 k, .int .u16 a, .slice ad len cap] w fun e w' => e = .returned (.bool true) ∧ Below w.heap.size w w' := by
  have h1 : 0 ≤ k ∧ k ≤ 65535 := by
    simp [Lit.wf, IntKind.min, IntKind.max, IntKind.signed, IntKind.bits] at hk
    omega
  have h2 : 0 ≤ a ∧ a ≤ 65535 := by
    simp [Lit.wf, IntKind.min, IntKind.max, IntKind.signed, IntKind.bits] at ha
    omega
  clear hk ha
  obtain ⟨hv, rfl, hns⟩ := hn
  have HN := Lib.hid hv
  have HNS := Lib.hid hns
  clear hv hns
  have HSH := Lib.hid shown_any
  have e1 : IntKind.i64.wrap k = k := IntWalk.i64_in _ (by omega)
  have e2 : IntKind.i64.wrap a = a := IntWalk.i64_in _ (by omega)
  by_cases hg : 40 < ns.length
  · have hg' : (40 : Int) < (ns.length : Int) := by omega
    go_enter Try.func7, Try.ntmps7
    go_wp2_with (go_at_call 9; refine (HSH.out _).mono ?_; rintro e w1 ⟨rfl, h1⟩)
    go_ret
    exact ⟨rfl, h1.below (fun _ h => h.elim)⟩
  · have hg' : ¬ (40 : Int) < (ns.length : Int) := by omega
    have HH := Lib.hid (show (0 ≤ k ∧ k ≤ 65535) ∧ (0 ≤ a ∧ a ≤ 65535) from ⟨h1, h2⟩)
    go_enter Try.func7, Try.ntmps7
    go_upto_region 6 with (go_at_call 9; refine (HSH.out _).mono ?_; rintro e w1 ⟨rfl, h1⟩)
    have HO1 := Lib.hid h1
    clear h1 e1 e2
    change Code.wp _ _ _ _ (w1.alloc (.cells (flat (lkS k a []).1).toArray 34))
    have HG0 : Hid (GL (w1.alloc (.cells (flat (lkS k a []).1).toArray 34)) w1.heap.size (.slice (some ⟨w1.heap.size, 0, none⟩) 3 3) (lkS k a []).1) := GL.new w1 _ (Nat.le_refl _) (lkS k a []).1 (by simp [lkS])
    have HV0 : Hid (Only (fun _ => False) w1 (w1.alloc (.cells (flat (lkS k a []).1).toArray 34))) := (Only.refl _ _).alloc _
    generalize w1.alloc (.cells (flat (lkS k a []).1).toArray 34) = V0 at *
    have HF1 : Hid (FL (V0.alloc (.cells #[.int .i64 2] 3)) w1.heap.size (.slice (some ⟨V0.heap.size, 0, none⟩) 1 1) [2]) := World.ownsRow_lit V0 #[.int .i64 2] 1 HV0.out.size (by unfold maxLen; omega) rfl
    have HO2 : Hid (Only (fun _ => False) V0 (V0.alloc (.cells #[.int .i64 2] 3))) := (Only.refl _ _).alloc _
    have HB1 := Lib.hid (build_f 2 V0)
    have HG1 := Lib.hid (HG0.out.keep HO2.out)
    have HV1 := Lib.hid (HV0.out.trans HO2.out)
    generalize V0.alloc (.cells #[.int .i64 2] 3) = V1 at *
    go_wp2_with (refine wpList_bs_g rfl 23 1 #[(0, .const (.int .i64 2))] (by with_reducible rfl) [(0, .int .i64 2)] rfl _ HB1.out ?_)
    clear HB1 HG0 HO2 HV0
    go_loopg [9, 10, 11] ns.length (fun gg lv kv i wr => ∃ j : Nat, j ≤ ns.length ∧ gg = ns.length - j ∧ i = .int .i64 j ∧ Hid (GL wr w1.heap.size lv (lkS k a (ns.take j)).1) ∧ Hid (FL wr w1.heap.size kv (lkS k a (ns.take j)).2) ∧ Hid (Only (fun _ => False) w1 wr))
    case atStart => exact ⟨0, by omega, by omega, rfl, HG1.out, HF1.out, HV1.out⟩
    case round =>
      clear HG1 HF1 HV1
      revert wr
      intro wa hrel
      obtain ⟨j, hj, hgj, rfl, hG, hF, hO⟩ := hrel
      by_cases hlt : j < ns.length
      · have hlt' : (j : Int) < (ns.length : Int) := by omega
        have HX : Hid (ns[j]? = some ns[j]) := List.getElem?_eq_getElem hlt
        obtain ⟨a', cap', he, hc1, hc2, hcc⟩ := HN.out.keep (HO1.out.trans hO.out)
        rw [List.length_map] at he hc1
        cases he
        obtain ⟨gb, go, he2, hcell⟩ := hcc j (.int .u16 ns[j]) (by simp [hlt])
        cases he2
        have HN0 : Hid (0 ≤ ns[j] ∧ ns[j] ≤ 65535) := HNS.out _ (List.getElem_mem hlt)
        generalize ns[j] = n at *
        have hn0 := HN0.out
        have e1 : IntKind.i64.wrap n = n := IntWalk.i64_in _ (by omega)
        clear hcc hc2
        by_cases hnk : n = k ∨ n = a
        · have HS : Hid (lkS k a (ns.take (j + 1)) = lkS k a (ns.take j)) := by
            rw [lk_take HX.out, lkStep, if_pos hnk]
            rfl
          have HG' : Hid (GL wa w1.heap.size u9 (lkS k a (ns.take (j + 1))).1) := by rw [HS.out]; exact hG.out
          have HF' : Hid (FL wa w1.heap.size u10 (lkS k a (ns.take (j + 1))).2) := by rw [HS.out]; exact hF.out
          by_cases hk1 : n = k
          · subst hk1
            clear hnk
            go_wp2_with fail
            go_roundg (ns.length - (j + 1))
            case measure => omega
            case rel => exact ⟨j + 1, by omega, by omega, by go_num, HG'.out, HF'.out, hO.out⟩
          · obtain rfl : n = a := by rcases hnk with h | h; exact absurd h hk1; exact h
            have hb : ((n : Int) == k) = false := by rw [beq_eq_false_iff_ne]; exact hk1
            clear hnk hk1
            go_wp2_with fail
            go_roundg (ns.length - (j + 1))
            case measure => omega
            case rel => exact ⟨j + 1, by omega, by omega, by go_num, HG'.out, HF'.out, hO.out⟩
        · have hb1 : ((n : Int) == k) = false := by rw [beq_eq_false_iff_ne]; exact fun h => hnk (.inl h)
          have hb2 : ((n : Int) == a) = false := by rw [beq_eq_false_iff_ne]; exact fun h => hnk (.inr h)
          have HS : Hid (lkS k a (ns.take (j + 1)) = lkStep k a (lkS k a (ns.take j)) n) := lk_take HX.out
          have HI := Lib.hid (lk_all (k := k) (a := a) (ns.take j) (fun x hx => HNS.out x (List.mem_of_mem_take hx)))
          have hLB : (lkS k a (ns.take j)).1.length ≤ 123 := by have := HI.out.len; rw [List.length_take] at this; omega
          have hKB : (lkS k a (ns.take j)).2.length ≤ 121 := by have := HI.out.kln; rw [List.length_take] at this; omega
          unfold lkStep at HS
          rw [if_neg hnk] at HS
          generalize (lkS k a (ns.take j)).1 = L at *
          generalize (lkS k a (ns.take j)).2 = M at *
          obtain ⟨la, lc, rfl⟩ := hG.out.val
          obtain ⟨v2, V2, hr2, hg2, ho2⟩ := snoc_nodes hG.out hO.out.size [⟨1, n, 0⟩, ⟨0, n, 0⟩, ⟨3, (L.length : Int), 2⟩] (by simp; omega)
          have hf2 := hF.out.keep ho2 (fun q hq hq' => gl_fl hG.out hF.out q hq' hq)
          have ho2' := fresh_only hO.out ho2 (fun q hq => hG.out.base_le hq)
          obtain ⟨v4, V4, hr4, hf4, ho4⟩ := snoc_ints hf2 ho2'.size [(L.length : Int), (L.length : Int) + 1, (L.length : Int) + 2] (by simp; omega)
          have HG4 : Hid (GL V4 w1.heap.size v2 (lkS k a (ns.take (j + 1))).1) := by
            rw [HS.out]
            exact hg2.keepS ho4 (fun q hq hq' => gl_fl hg2 hf2 q hq hq')
          have HF4 : Hid (FL V4 w1.heap.size v4 (lkS k a (ns.take (j + 1))).2) := by
            rw [HS.out]
            exact hf4
          have HO4 := Lib.hid (fresh_only ho2' ho4 (fun q hq => hF.out.base_le hq))
          have HR2 := Lib.hid hr2
          have HR4 := Lib.hid hr4
          have HB4 : Hid ((Instr.buildSlice 23 3 #[(0, .int .i64 (L.length : Int)), (1, .int .i64 ((L.length : Int) + 1)), (2, .int .i64 ((L.length : Int) + 2))]).run Try.prog V2 = .ok (.slice (some ⟨V2.heap.size, 0, none⟩) 3 3) (V2.alloc (.cells #[.int .i64 (L.length : Int), .int .i64 ((L.length : Int) + 1), .int .i64 ((L.length : Int) + 2)] 3))) := build_f3 _ _ _ V2
          clear hr2 hr4 hg2 hf2 hf4 ho2 ho4 ho2'
          go_upto_region 13 with fail
          go_wp2_with (first | (at_builtin; refine wpList_app_g rfl (.tmp 54) (.tmp 61) 22 (by with_reducible rfl) _ _ _ rfl rfl HR2.out ?_) | (refine wpList_bs_g rfl 23 3 #[(0, .tmp 64), (1, .tmp 66), (2, .tmp 68)] (by with_reducible rfl) [(0, .int .i64 (L.length : Int)), (1, .int .i64 ((L.length : Int) + 1)), (2, .int .i64 ((L.length : Int) + 2))] rfl _ HB4.out ?_) | (at_builtin; refine wpList_app_g rfl (.tmp 63) (.tmp 69) 23 (by with_reducible rfl) _ _ _ rfl rfl HR4.out ?_))
          go_roundg (ns.length - (j + 1))
          case measure => omega
          case rel => exact ⟨j + 1, by omega, by omega, by go_num, HG4.out, HF4.out, HO4.out⟩
      · obtain rfl : j = ns.length := by omega
        rw [List.take_length] at hG hF
        have HI := Lib.hid (lk_all (k := k) (a := a) ns HNS.out)
        generalize (lkS k a ns).1 = L at *
        generalize (lkS k a ns).2 = M at *
        have hm := HI.out.may HH.out.1 HH.out.2 (by omega)
        have hll := HI.out.len
        have hkl := HI.out.kln
        have HWF : Hid (∀ x ∈ L, x.Wf) := by
          intro x hx
          obtain ⟨i, hi, rfl⟩ := List.getElem_of_mem hx
          have hx' : L[i]? = some L[i] := List.getElem?_eq_getElem hi
          generalize L[i] = x at *
          have wf : ∀ p q r : Int, 0 ≤ p ∧ p ≤ 100000 → 0 ≤ q ∧ q ≤ 100000 → 0 ≤ r ∧ r ≤ 100000 → (⟨p, q, r⟩ : Nd).Wf := fun p q r h1 h2 h3 => ⟨by rw [wf64_iff]; dsimp only; omega, by rw [wf64_iff]; dsimp only; omega, by rw [wf64_iff]; dsimp only; omega⟩
          have h1 := HH.out
          by_cases h3 : 3 ≤ i
          · rcases HI.out.each i x h3 hx' with ⟨n, rfl, _, n0, n1⟩ | ⟨n, rfl, _, n0, n1⟩ | ⟨t, rfl, h4, _⟩
            · exact wf _ _ _ (by omega) (by omega) (by omega)
            · exact wf _ _ _ (by omega) (by omega) (by omega)
            · exact wf _ _ _ (by omega) (by omega) (by omega)
          · match i, h3 with
            | 0, _ => rw [HI.out.n0] at hx'; cases hx'; exact wf _ _ _ (by omega) (by omega) (by omega)
            | 1, _ => rw [HI.out.n1] at hx'; cases hx'; exact wf _ _ _ (by omega) (by omega) (by omega)
            | 2, _ => rw [HI.out.n2] at hx'; cases hx'; exact wf _ _ _ (by omega) (by omega) (by omega)
            | i + 3, h3 => omega
        have HM := Lib.hid hm
        clear hm
        have w0 : wf64 0 := by unfold wf64; decide
        have w1' : wf64 1 := by unfold wf64; decide
        have hA1 := can_any L M 1 u9 u10 wa hG.out.nl hF.out.il HWF.out (by omega) (by omega) w1'
        rw [HI.out.can1 HM.out] at hA1
        have HA1 := Lib.hid hA1
        have HA2 : Hid (∀ W, Only (fun _ => False) wa W → Calls Try.prog 14 #[u9, u10, .int .i64 0] W fun e w' => e = .returned (.bool false) ∧ Only (fun _ => False) W w') := fun W o => by
          have := can_any L M 0 u9 u10 W (hG.out.nl.keep o) (hF.out.il.keep o) HWF.out (by omega) (by omega) w0
          rwa [HI.out.can0 HM.out] at this
        have HA3 : Hid (∀ W v, GL W w1.heap.size u9 L → FL W w1.heap.size v (M ++ [0]) → Calls Try.prog 14 #[u9, v, .int .i64 1] W fun e w' => e = .returned (.bool true) ∧ Only (fun _ => False) W w') := fun W v hG hF => by
          have := can_any L (M ++ [0]) 1 u9 v W hG.nl hF.il HWF.out (by omega) (by simp; omega) w1'
          rwa [HI.out.can2 HM.out] at this
        have HA4 : Hid (∀ W, GL W w1.heap.size u9 L → FL W w1.heap.size u10 M → Calls Try.prog 13 #[u9, u10, .int .i64 1] W fun e w' => ∃ v', e = .returned v' ∧ IL w' v' [k] ∧ Only (fun _ => False) W w') := fun W hG hF => by
          have := needs_any L M 1 u9 u10 W hG.nl hF.il HWF.out (by omega) (by omega) w1'
          rwa [HI.out.needs HM.out] at this
        have hM2 : M.length ≤ 100000 := by omega
        have HKW := Lib.hid (build_f k)
        clear hA1 hll w0 w1'
        go_wp2_with (first | (go_at_call 14; (with_reducible refine HA1.out.mono ?_); rintro e w2 ⟨rfl, h2⟩; have HA2' := Lib.hid (HA2.out _ h2)) | (go_at_call 14; (with_reducible refine HA2'.out.mono ?_); rintro e w3 ⟨rfl, h3⟩; have HO3 := Lib.hid (h2.trans h3); obtain ⟨v5, V4, V5, hb5, hr5, hf5, ho5, hoo⟩ := snoc_old (hF.out.keep HO3.out (fun _ _ x => x)) (hO.out.trans HO3.out).size 0 hM2; have HB5 := Lib.hid hb5; have HR5 := Lib.hid hr5; have HG5 := Lib.hid ((hG.out.keep HO3.out).keepS hoo (gl_fl hG.out hF.out)); have HF5 := Lib.hid ho5; have HO5 := Lib.hid (fresh_only (hO.out.trans HO3.out) hoo (fun q hq => hF.out.base_le hq)); have HA3' := Lib.hid (HA3.out _ _ HG5.out hf5); clear hb5 hr5 hf5 ho5 hoo h3 h2) | (refine wpList_bs_g rfl 23 1 #[(0, .const (.int .i64 0))] (by with_reducible rfl) [(0, .int .i64 0)] rfl _ HB5.out ?_) | (at_builtin; refine wpList_app_g rfl (.tmp 83) (.tmp 84) 23 (by with_reducible rfl) _ _ _ rfl rfl HR5.out ?_) | (go_at_call 14; (with_reducible refine HA3'.out.mono ?_); rintro e w6 ⟨rfl, h6⟩; have HO6 := Lib.hid (HO5.out.trans h6); have HA4' := Lib.hid (HA4.out _ (HG5.out.keep h6) (HF5.out.keep h6 (fun _ _ x => x))); clear h6) | (go_at_call 13; (with_reducible refine HA4'.out.mono ?_); rintro e w7 ⟨nv, rfl, hi7, h7⟩; have HO7 := Lib.hid (HO6.out.trans h7); have HKW' := Lib.hid (HKW.out w7); have HS8 := Lib.hid (si_any [k] [k] _ _ _ (hi7.keep ((Only.refl (fun _ => False) w7).alloc (.cells #[.int .i64 k] 3))) (IL.of_row (l := [k]) (cap := 1) (heap_alloc_new w7 (.cells #[.int .i64 k] 3)) (Nat.le_refl 1) (by unfold maxLen; omega) (fun i u h => by simpa using h))); clear hi7 h7) | (refine wpList_bs_g rfl 23 1 #[(0, .tmp 92)] (by with_reducible rfl) [(0, .int .i64 k)] rfl _ HKW'.out ?_) | (go_at_call 18; refine HS8.out.mono ?_; rintro e w9 ⟨rfl, h9⟩))
        go_ret
        exact ⟨by first | rfl | simp, (HO1.out.trans (HO7.out.trans (((Only.refl _ w7).alloc _).trans h9))).below (fun _ h => h.elim)⟩
end Go.Proofs.Ytnppjkekbdapkaa
