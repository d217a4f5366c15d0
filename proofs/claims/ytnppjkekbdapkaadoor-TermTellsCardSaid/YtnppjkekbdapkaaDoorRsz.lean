/-
  The reference: Size. (Printed by mkrsz.py out of rsz.head.)
-/
import Derived.Test.YtnppjkekbdapkaaDoorRdi
import Derived.Test.YtnppjkekbdapkaaDoorTxt
import Derived.BigQuiet
set_option linter.unusedVariables false
namespace Go.Proofs.YtnppjkekbdapkaaDoor
open Go.RowKit

theorem at_world {P : Program} {c : Code} {Q : Exit → Act → World → Prop} {a : Act} {w : World} (S : World → Prop) (hS : S w) (h : ∀ W, S W → c.wp P Q a W) : c.wp P Q a w := h w hS
theorem szs_len (l : List Nd) : (szs l).length = l.length := foldN_len gsz 0 l
theorem szs_at {l : List Nd} {i : Nat} (h : i < l.length) : (szs l)[i]? = some (szN l i) := by
  have h2 : i < (szs l).length := by rw [szs_len]; exact h
  unfold szN valN
  rw [List.getD_eq_getElem?_getD]
  show _ = some (((szs l)[i]?).getD 0)
  rw [List.getElem?_eq_getElem h2]
  rfl
theorem szs_cell {w : World} {base : Nat} {v : Value} {l : List Nd} {k : Nat} (h : FL w base v ((szs l).take k)) (hk : k ≤ l.length) {g cap : Nat} (he : v = .slice (some ⟨g, 0, none⟩) k cap) {i : Nat} (hi : i < k) : w.cell? ⟨g, i, none⟩ = some (.int .i64 (szN l i)) := by
  have hlen : ((szs l).take k).length = k := by rw [List.length_take, szs_len]; omega
  have := h.cell (g := g) (cap := cap) (by rw [hlen]; exact he) (i := i) (by rw [hlen]; exact hi)
  rw [this, getD_take hi, List.getD_eq_getElem?_getD, szs_at (by omega)]
  rfl
set_option maxHeartbeats 8000000 in
set_option maxRecDepth 100000 in
theorem rsize_any (l : List Nd) (i : Int) (v : Value) (w : World) (hl : NL w v l) (hi : wf64 i) :
    Calls Tryd.prog 16 #[v, .int .i64 i] w fun e w' => e = .returned (.int .i64 (sizeB l i)) ∧ Only (fun _ => False) w w' := by
  have HL := Lib.hid hl
  have HP := Lib.hid (rplace_any l i v w hl hi)
  obtain ⟨ad, cap, rfl, hrow⟩ := hl
  clear hrow
  cases hp : placeB l i
  · have HS : Hid (sizeB l i = 0) := show _ = _ from sizeB_no hp
    rw [hp] at HP
    rw [HS.out]
    clear hp
    go_enter Tryd.func16, Tryd.ntmps16
    go_wp2_with (go_at_call 31; refine HP.out.mono ?_; rintro e w1 ⟨rfl, k1⟩)
    go_ret
    exact ⟨rfl, k1⟩
  · obtain ⟨i0, i1, hm⟩ := placeB_yes hp
    have HMB := Lib.hid hm
    have hlen2 : l.length ≤ 200 := by
      have := hm
      simp [mayB] at this
      exact this.2
    obtain ⟨I, rfl⟩ := Int.eq_ofNat_of_zero_le i0
    have hI : I < l.length := by omega
    have HS : Hid (sizeB l (I : Int) = szN l I) := show _ = _ from sizeB_yes hp
    rw [hp] at HP
    rw [HS.out]
    clear hp hm HS
    go_enter Tryd.func16, Tryd.ntmps16
    go_upto_region 3 with (go_at_call 31; refine HP.out.mono ?_; rintro e w1 ⟨rfl, k1⟩)
    have hb0 := build_0 w1
    have HF0 := Lib.hid (FL.new w1 w.heap.size k1.size)
    have HV0 : Hid (Only (fun _ => False) w (w1.alloc (.cells #[] 3))) := k1.alloc _
    generalize w1.alloc (.cells #[] 3) = V0 at *
    have HB0 := Lib.hid hb0
    clear hb0 HP k1
    go_wp2_with ((with_reducible refine wpList_bs_g ?_ 32 0 #[] ?_ [] ?_ _ HB0.out ?_); rfl; rfl; rfl)
    go_loopg [5, 6] (I + 1) (fun gg sv kv wr => ∃ k : Nat, k ≤ I + 1 ∧ gg = I + 1 - k ∧ kv = .int .i64 k ∧ Hid (FL wr w.heap.size sv ((szs l).take k)) ∧ Hid (Only (fun _ => False) w wr))
    case atStart => exact ⟨0, by omega, by omega, rfl, HF0.out, HV0.out⟩
    case round =>
      clear HF0 HV0 HB0
      revert wr
      intro wa hrel
      obtain ⟨k, hk, hgk, rfl, hS, hO⟩ := hrel
      by_cases hlt : k < I + 1
      · have hlt' : (k : Int) ≤ (I : Int) := by omega
        have hkl : k < l.length := by omega
        have hkl' : (k : Int) < (l.length : Int) := by omega
        obtain ⟨gb, go, gc, he, hgc, hld⟩ := (HL.out.keep hO.out).load55 hkl
        cases he
        have HX : Hid (l[k]? = some l[k]) := List.getElem?_eq_getElem hkl
        generalize l[k] = x at *
        obtain ⟨op, a, b⟩ := x
        have HLD : Hid ((loadVar 53 ⟨gb, go + k * 3, none⟩).run Tryd.prog wa = .ok (.agg #[.int .i64 op, .int .i64 a, .int .i64 b]) wa) := hld
        obtain ⟨X, hX⟩ : ∃ X, X = wa.alloc (.cells #[.int .i64 op, .int .i64 a, .int .i64 b] 53) := ⟨_, rfl⟩
        have hO1 : Only (fun _ => False) wa X := by rw [hX]; exact (Only.refl _ _).alloc _
        have hg1 : X.heap[wa.heap.size]? = some (.cells #[.int .i64 op, .int .i64 a, .int .i64 b] 53 (0, 0)) := by rw [hX]; exact heap_alloc_new _ _
        have HO1 := Lib.hid hO1
        have HXE := Lib.hid hX
        have q0 := cell_of_row _ _ 0 _ _ _ hg1
        have q1 := cell_of_row _ _ 1 _ _ _ hg1
        have q2 := cell_of_row _ _ 2 _ _ _ hg1
        clear hld hX hO1 hg1
        by_cases ho : op = 2 ∨ op = 3
        · obtain ⟨⟨a0, ak⟩, b0', bk⟩ := may_made HMB.out HX.out ho
          dsimp only at a0 ak b0' bk
          obtain ⟨A, rfl⟩ := Int.eq_ofNat_of_zero_le a0
          obtain ⟨B, rfl⟩ := Int.eq_ofNat_of_zero_le b0'
          have hA : A < k := by omega
          have hB : B < k := by omega
          have hlenk : ((szs l).take k).length = k := by rw [List.length_take, szs_len]; omega
          obtain ⟨gs, cs, cur, hsv, hcs, hgs, hrs, _⟩ := hS.out.at (i := A) (by rw [hlenk]; exact hA)
          rw [hlenk] at hsv hcs
          subst hsv
          have hSX := hS.out.keep HO1.out (fun _ _ x => x)
          have qA := szs_cell hSX (by omega) rfl hA
          have qB := szs_cell hSX (by omega) rfl hB
          obtain ⟨sA, hsA⟩ : ∃ z, szN l A = z := ⟨_, rfl⟩
          obtain ⟨sB, hsB⟩ : ∃ z, szN l B = z := ⟨_, rfl⟩
          have rA := sz_range HMB.out (show A < l.length by omega)
          have rB := sz_range HMB.out (show B < l.length by omega)
          have HSA := Lib.hid hsA
          have HSB := Lib.hid hsB
          rw [hsA] at rA qA
          rw [hsB] at rB qB
          obtain ⟨rA0, rA1⟩ := rA
          obtain ⟨rB0, rB1⟩ := rB
          clear hsA hsB hSX hrs
          rcases ho with rfl | rfl
          ·
            have HVL : Hid (szN l k = min 1000000000 (sA + sB + 2 + 1)) := show _ = _ by
              have e := valN_made gsz 0 l HMB.out HX.out (.inl rfl)
              unfold szN at HSA HSB ⊢
              rw [e]
              show gsz (valN gsz 0 l A) (valN gsz 0 l B) _ = _
              rw [HSA.out, HSB.out]
              rfl
            have hw1 : IntKind.i64.wrap (3 + sA) = 3 + sA := by rw [IntKind.wrap_i64]; omega
            have hw2 : IntKind.i64.wrap (3 + sA + sB) = 3 + sA + sB := by rw [IntKind.wrap_i64]; omega
            go_upto_region 14 with ((with_reducible refine wpList_load_at ?_ 53 (.tmp 21) ?_ _ ?_ _ HLD.out ?_); rfl; rfl; rfl)
            rw [← HXE.out]
            go_quiet (fail)
            go_upto_region 17 with fail
            refine at_world (fun W => Only (fun _ => False) wa W) (by exact HO1.out.drewN _) ?_
            intro Wt oT
            clear qA qB q0 q1 q2 hw1 hw2
            have HVV : Hid (szN l k = min (3 + sA + sB) 1000000000) := show _ = _ by rw [HVL.out]; omega
            obtain ⟨v2, W2, V2, hb2, hr2, hf2, ho2⟩ := snoc_int (hS.out.keep oT (fun _ _ x => x)) (hO.out.trans oT).size (min (3 + sA + sB) 1000000000) (by rw [List.length_take, szs_len]; omega)
            have HF2 : Hid (FL V2 w.heap.size v2 ((szs l).take (k + 1))) := by
              rw [List.take_add_one, szs_at hkl, HVV.out]
              exact hf2
            have HB2 := Lib.hid hb2
            have HR2 := Lib.hid hr2
            have HO3 := Lib.hid (fresh_only (hO.out.trans oT) ho2 (fun q hq => hq))
            clear hb2 hr2 hf2 ho2
            go_wp2_with (first | ((with_reducible refine wpList_bs_g ?_ 32 1 #[(0, .tmp 63)] ?_ [(0, .int .i64 (min (3 + sA + sB) 1000000000))] ?_ _ HB2.out ?_); rfl; rfl; rfl) | (at_builtin; ((with_reducible refine wpList_app_g ?_ (.tmp 61) (.tmp 64) 32 ?_ _ _ _ ?_ ?_ HR2.out ?_); rfl; rfl; rfl; rfl)))
            go_roundg (I + 1 - (k + 1))
            case measure => omega
            case rel => exact ⟨k + 1, by omega, by omega, by go_num, HF2.out, HO3.out⟩
          ·
            have HVL : Hid (szN l k = min 1000000000 (sA + sB + 2 + 0)) := show _ = _ by
              have e := valN_made gsz 0 l HMB.out HX.out (.inr rfl)
              unfold szN at HSA HSB ⊢
              rw [e]
              show gsz (valN gsz 0 l A) (valN gsz 0 l B) _ = _
              rw [HSA.out, HSB.out]
              rfl
            have hw1 : IntKind.i64.wrap (2 + sA) = 2 + sA := by rw [IntKind.wrap_i64]; omega
            have hw2 : IntKind.i64.wrap (2 + sA + sB) = 2 + sA + sB := by rw [IntKind.wrap_i64]; omega
            go_upto_region 16 with ((with_reducible refine wpList_load_at ?_ 53 (.tmp 21) ?_ _ ?_ _ HLD.out ?_); rfl; rfl; rfl)
            rw [← HXE.out]
            go_quiet (fail)
            go_upto_region 17 with fail
            refine at_world (fun W => Only (fun _ => False) wa W) (by exact HO1.out.drewN _) ?_
            intro Wt oT
            clear qA qB q0 q1 q2 hw1 hw2
            have HVV : Hid (szN l k = min (2 + sA + sB) 1000000000) := show _ = _ by rw [HVL.out]; omega
            obtain ⟨v2, W2, V2, hb2, hr2, hf2, ho2⟩ := snoc_int (hS.out.keep oT (fun _ _ x => x)) (hO.out.trans oT).size (min (2 + sA + sB) 1000000000) (by rw [List.length_take, szs_len]; omega)
            have HF2 : Hid (FL V2 w.heap.size v2 ((szs l).take (k + 1))) := by
              rw [List.take_add_one, szs_at hkl, HVV.out]
              exact hf2
            have HB2 := Lib.hid hb2
            have HR2 := Lib.hid hr2
            have HO3 := Lib.hid (fresh_only (hO.out.trans oT) ho2 (fun q hq => hq))
            clear hb2 hr2 hf2 ho2
            go_wp2_with (first | ((with_reducible refine wpList_bs_g ?_ 32 1 #[(0, .tmp 63)] ?_ [(0, .int .i64 (min (2 + sA + sB) 1000000000))] ?_ _ HB2.out ?_); rfl; rfl; rfl) | (at_builtin; ((with_reducible refine wpList_app_g ?_ (.tmp 61) (.tmp 64) 32 ?_ _ _ _ ?_ ?_ HR2.out ?_); rfl; rfl; rfl; rfl)))
            go_roundg (I + 1 - (k + 1))
            case measure => omega
            case rel => exact ⟨k + 1, by omega, by omega, by go_num, HF2.out, HO3.out⟩
        · obtain ⟨h01, n0, n1, _⟩ := leaf_num HMB.out HX.out ho
          dsimp only at n0 n1 h01
          obtain ⟨A, rfl⟩ := Int.eq_ofNat_of_zero_le n0
          have HDG := Lib.hid (digits_any A (by omega) X)
          obtain ⟨n, hn⟩ : ∃ n, (Lib.decDigits A).length = n := ⟨_, rfl⟩
          have HN : Hid ((⟨(Lib.decDigits A).toArray⟩ : ByteArray).size = n) := by
            show (Lib.decDigits A).toArray.size = n
            rw [List.size_toArray]
            exact hn
          have hnb := (dec_len (n := A) (k := 5) (by omega)).2
          rw [hn] at hnb
          have HVV : Hid (szN l k = min (1 + (n : Int)) 1000000000) := show _ = _ by
            have hmn : min (1 + (n : Int)) 1000000000 = 1 + (n : Int) := by omega
            rw [hmn]
            unfold szN
            rw [valN_at _ _ l HX.out]
            unfold gsz
            rw [if_neg ho]
            show 1 + ((Lib.itoa (A : Int)).length : Int) = _
            rw [itoa_dec n0, Int.toNat_natCast, hn]
          have hw1 : IntKind.i64.wrap (1 + (n : Int)) = 1 + (n : Int) := by rw [IntKind.wrap_i64]; omega
          clear hn ho
          rw [HXE.out] at HDG
          rcases h01 with rfl | rfl
          ·
            go_upto_region 17 with (first | ((with_reducible refine wpList_load_at ?_ 53 (.tmp 21) ?_ _ ?_ _ HLD.out ?_); rfl; rfl; rfl) | (go_at_call 32; (with_reducible refine HDG.out.mono ?_); rintro e wd ⟨_, rfl, s, rfl, hs, kd⟩; have hsn : s.size = n := (by rw [hs]; exact HN.out); have HSS := Lib.hid hs; clear hs))
            rw [← HXE.out] at kd
            have oT : Only (fun _ => False) wa wd := HO1.out.trans kd
            obtain ⟨Wt, hWt⟩ : ∃ W, W = wd := ⟨_, rfl⟩
            rw [← hWt] at oT ⊢
            clear hWt q0 q1 q2 kd
            obtain ⟨v2, W2, V2, hb2, hr2, hf2, ho2⟩ := snoc_int (hS.out.keep oT (fun _ _ x => x)) (hO.out.trans oT).size (min (1 + (n : Int)) 1000000000) (by rw [List.length_take, szs_len]; omega)
            have HF2 : Hid (FL V2 w.heap.size v2 ((szs l).take (k + 1))) := by
              rw [List.take_add_one, szs_at hkl, HVV.out]
              exact hf2
            have HB2 := Lib.hid hb2
            have HR2 := Lib.hid hr2
            have HO3 := Lib.hid (fresh_only (hO.out.trans oT) ho2 (fun q hq => hq))
            clear hb2 hr2 hf2 ho2
            go_wp2_with (first | ((with_reducible refine wpList_bs_g ?_ 32 1 #[(0, .tmp 63)] ?_ [(0, .int .i64 (min (1 + (n : Int)) 1000000000))] ?_ _ HB2.out ?_); rfl; rfl; rfl) | (at_builtin; ((with_reducible refine wpList_app_g ?_ (.tmp 61) (.tmp 64) 32 ?_ _ _ _ ?_ ?_ HR2.out ?_); rfl; rfl; rfl; rfl)))
            go_roundg (I + 1 - (k + 1))
            case measure => omega
            case rel => exact ⟨k + 1, by omega, by omega, by go_num, HF2.out, HO3.out⟩
          ·
            go_upto_region 17 with (first | ((with_reducible refine wpList_load_at ?_ 53 (.tmp 21) ?_ _ ?_ _ HLD.out ?_); rfl; rfl; rfl) | (go_at_call 32; (with_reducible refine HDG.out.mono ?_); rintro e wd ⟨_, rfl, s, rfl, hs, kd⟩; have hsn : s.size = n := (by rw [hs]; exact HN.out); have HSS := Lib.hid hs; clear hs))
            rw [← HXE.out] at kd
            have oT : Only (fun _ => False) wa wd := HO1.out.trans kd
            obtain ⟨Wt, hWt⟩ : ∃ W, W = wd := ⟨_, rfl⟩
            rw [← hWt] at oT ⊢
            clear hWt q0 q1 q2 kd
            obtain ⟨v2, W2, V2, hb2, hr2, hf2, ho2⟩ := snoc_int (hS.out.keep oT (fun _ _ x => x)) (hO.out.trans oT).size (min (1 + (n : Int)) 1000000000) (by rw [List.length_take, szs_len]; omega)
            have HF2 : Hid (FL V2 w.heap.size v2 ((szs l).take (k + 1))) := by
              rw [List.take_add_one, szs_at hkl, HVV.out]
              exact hf2
            have HB2 := Lib.hid hb2
            have HR2 := Lib.hid hr2
            have HO3 := Lib.hid (fresh_only (hO.out.trans oT) ho2 (fun q hq => hq))
            clear hb2 hr2 hf2 ho2
            go_wp2_with (first | ((with_reducible refine wpList_bs_g ?_ 32 1 #[(0, .tmp 63)] ?_ [(0, .int .i64 (min (1 + (n : Int)) 1000000000))] ?_ _ HB2.out ?_); rfl; rfl; rfl) | (at_builtin; ((with_reducible refine wpList_app_g ?_ (.tmp 61) (.tmp 64) 32 ?_ _ _ _ ?_ ?_ HR2.out ?_); rfl; rfl; rfl; rfl)))
            go_roundg (I + 1 - (k + 1))
            case measure => omega
            case rel => exact ⟨k + 1, by omega, by omega, by go_num, HF2.out, HO3.out⟩
      · obtain rfl : k = I + 1 := by omega
        have hlt' : ¬ ((I : Int) + 1 ≤ (I : Int)) := by omega
        have hlenk : ((szs l).take (I + 1)).length = I + 1 := by rw [List.length_take, szs_len]; omega
        obtain ⟨gs, cs, cur, hsv, hcs, hgs, hrs, hqq⟩ := hS.out.at (i := I) (by rw [hlenk]; omega)
        rw [hlenk] at hsv hcs
        subst hsv
        have hq := szs_cell hS.out (by omega) rfl (Nat.lt_succ_self I)
        have HOE := Lib.hid hO.out
        clear hrs hqq
        go_wp2_with fail
        go_ret
        exact ⟨rfl, HOE.out⟩
end Go.Proofs.YtnppjkekbdapkaaDoor
