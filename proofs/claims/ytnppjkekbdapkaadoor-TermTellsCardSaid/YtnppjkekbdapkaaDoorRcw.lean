/-
  The reference: Classes. (Printed by mkrcw.py.)
-/
import Derived.Test.YtnppjkekbdapkaaDoorCla
import Derived.Test.YtnppjkekbdapkaaDoorRmy
import Derived.BigQuiet
set_option linter.unusedVariables false
namespace Go.Proofs.YtnppjkekbdapkaaDoor
open Go.RowKit

theorem FL.cell {w : World} {base : Nat} {v : Value} {fs : List Int} (h : FL w base v fs) {g cap : Nat} (he : v = .slice (some ⟨g, 0, none⟩) fs.length cap) {i : Nat} (hi : i < fs.length) : w.cell? ⟨g, i, none⟩ = some (.int .i64 (fs.getD i 0)) := by
  obtain ⟨g', c', cur, he', _, _, _, hc⟩ := h.at hi
  rw [he] at he'
  cases he'
  rw [hc, List.getD_eq_getElem?_getD, List.getElem?_eq_getElem hi]
  rfl
set_option maxHeartbeats 8000000 in
set_option maxRecDepth 100000 in
theorem rclasses_any (l : List Nd) (v : Value) (w : World) (hl : NL w v l) (hm : mayB l = true) : Calls Tryd.prog 33 #[v] w fun e w' => ∃ v', e = .returned v' ∧ FL w' w.heap.size v' (firsts l) ∧ Only (fun _ => False) w w' := by
  have HL := Lib.hid hl
  have HM := Lib.hid hm
  have hlen : l.length ≤ 200 := by
    have := hm
    simp [mayB] at this
    exact this.2
  obtain ⟨ad, cap, rfl, hrow⟩ := hl
  clear hrow hm
  have hb0 := build_0 w
  have HF0 := Lib.hid (FL.new w w.heap.size (Nat.le_refl _))
  have HV0 : Hid (Only (fun _ => False) w (w.alloc (.cells #[] 3))) := (Only.refl _ _).alloc _
  generalize w.alloc (.cells #[] 3) = V0 at *
  have HB0 := Lib.hid hb0
  clear hb0
  go_enter Tryd.func33, Tryd.ntmps33
  go_wp2_with ((with_reducible refine wpList_bs_g ?_ 32 0 #[] ?_ [] ?_ _ HB0.out ?_); rfl; rfl; rfl)
  go_loopg [3, 4] l.length (fun gg ov i wr => ∃ k : Nat, k ≤ l.length ∧ gg = l.length - k ∧ i = .int .i64 k ∧ Hid (FL wr w.heap.size ov ((firsts l).take k)) ∧ Hid (Only (fun _ => False) w wr))
  case atStart => exact ⟨0, by omega, by omega, rfl, HF0.out, HV0.out⟩
  case round =>
    clear HF0 HV0 HB0
    revert wr
    intro wa hrel
    obtain ⟨k, hk, hgk, rfl, hS, hO⟩ := hrel
    by_cases hlt : k < l.length
    · have hlt' : (k : Int) < (l.length : Int) := by omega
      have hkk : (0 : Int) ≤ (k : Int) := by omega
      have HRF := Lib.hid (Only.refl (fun _ => False) wa)
      have HBE := Lib.hid (bestOf_end l k)
      go_wp2_with fail
      go_loopg [5, 6] k (fun gg bv jv wr => ∃ (j : Nat) (z : Int), j ≤ k ∧ gg = j ∧ z = (j : Int) - 1 ∧ jv = .int .i64 z ∧ bv = .int .i64 ((bestOf l k j : Nat) : Int) ∧ Hid (Only (fun _ => False) wa wr))
      case atStart => exact ⟨k, (k : Int) - 1, Nat.le_refl _, rfl, rfl, rfl, by rw [HBE.out], HRF.out⟩
      case round =>
        clear HRF HBE
        revert wr
        intro wb hrel
        obtain ⟨j, z, hj, hgj, hz, rfl, rfl, hO2⟩ := hrel
        by_cases hj0 : j = 0
        · subst hj0
          have hzn : z < 0 := by omega
          clear hz
          obtain ⟨v2, W2, V2, hb2, hr2, hf2, ho2⟩ := snoc_int (hS.out.keep hO2.out (fun _ _ x => x)) (hO.out.trans hO2.out).size ((bestOf l k 0 : Nat) : Int) (by rw [List.length_take, firsts_len]; omega)
          have HF2 : Hid (FL V2 w.heap.size v2 ((firsts l).take (k + 1))) := by
            rw [List.take_add_one, firsts_at hlt, ← best_cl hlt]
            exact hf2
          have HB2 := Lib.hid hb2
          have HR2 := Lib.hid hr2
          have HO3 := Lib.hid (fresh_only (hO.out.trans hO2.out) ho2 (fun q hq => hq))
          clear hb2 hr2 hf2 ho2
          obtain ⟨bb, hbb⟩ : ∃ bb, ((bestOf l k 0 : Nat) : Int) = bb := ⟨_, rfl⟩
          rw [hbb] at HB2 ⊢
          clear hbb
          go_wp2_with (first | ((with_reducible refine wpList_bs_g ?_ 32 1 #[(0, .tmp 83)] ?_ [(0, .int .i64 bb)] ?_ _ HB2.out ?_); rfl; rfl; rfl) | (at_builtin; ((with_reducible refine wpList_app_g ?_ (.tmp 82) (.tmp 84) 32 ?_ _ _ _ ?_ ?_ HR2.out ?_); rfl; rfl; rfl; rfl)))
          go_roundg (l.length - (k + 1))
          case measure => omega
          case rel => exact ⟨k + 1, by omega, by omega, by go_num, HF2.out, HO3.out⟩
        · obtain ⟨q, rfl⟩ : ∃ q, j = q + 1 := ⟨j - 1, by omega⟩
          obtain rfl : z = (q : Int) := by omega
          have hqk : q < k := by omega
          have hql : q < l.length := by omega
          have hql' : (q : Int) < (l.length : Int) := by omega
          clear hj0 hz
          obtain ⟨gb, go, gc, he, hgc, hld1⟩ := (HL.out.keep (hO.out.trans hO2.out)).load55 hlt
          cases he
          have HX : Hid (l[k]? = some l[k]) := List.getElem?_eq_getElem hlt
          have HY : Hid (l[q]? = some l[q]) := List.getElem?_eq_getElem hql
          have HLD2 : Hid (∀ W, Only (fun _ => False) wb W → (loadVar 53 ⟨gb, go + q * 3, none⟩).run Tryd.prog W = .ok (.agg (ndA l[q])) W) := fun W o => by
            obtain ⟨_, _, _, he, _, hld⟩ := (HL.out.keep ((hO.out.trans hO2.out).trans o)).load55 hql
            cases he
            exact hld
          generalize l[k] = x at *
          generalize l[q] = y at *
          obtain ⟨xo, xa, xb⟩ := x
          obtain ⟨yo, ya, yb⟩ := y
          have HLD1 : Hid ((loadVar 53 ⟨gb, go + k * 3, none⟩).run Tryd.prog wb = .ok (.agg #[.int .i64 xo, .int .i64 xa, .int .i64 xb]) wb) := hld1
          have HO4 : Hid (Only (fun _ => False) wb (wb.alloc (.cells #[.int .i64 xo, .int .i64 xa, .int .i64 xb] 53))) := (Only.refl _ _).alloc _
          have HLD3 : Hid ((loadVar 53 ⟨gb, go + q * 3, none⟩).run Tryd.prog (wb.alloc (.cells #[.int .i64 xo, .int .i64 xa, .int .i64 xb] 53)) = .ok (.agg #[.int .i64 yo, .int .i64 ya, .int .i64 yb]) (wb.alloc (.cells #[.int .i64 xo, .int .i64 xa, .int .i64 xb] 53))) := HLD2.out _ HO4.out
          have HO5 : Hid (Only (fun _ => False) wb ((wb.alloc (.cells #[.int .i64 xo, .int .i64 xa, .int .i64 xb] 53)).alloc (.cells #[.int .i64 yo, .int .i64 ya, .int .i64 yb] 53))) := HO4.out.alloc _
          have HOE : Hid (Only (fun _ => False) wa ((wb.alloc (.cells #[.int .i64 xo, .int .i64 xa, .int .i64 xb] 53)).alloc (.cells #[.int .i64 yo, .int .i64 ya, .int .i64 yb] 53))) := hO2.out.trans HO5.out
          have HS5 := Lib.hid (hS.out.keep HOE.out (fun _ _ x => x))
          have hsam := sam_ks HM.out hqk HX.out HY.out
          have hbn := bestOf_next l hqk
          have HT : Hid (samB ((firsts l).take k) ⟨xo, xa, xb⟩ ⟨yo, ya, yb⟩ = true → ((q : Nat) : Int) = ((bestOf l k q : Nat) : Int)) := fun h => by rw [hbn, if_pos (hsam.1 h)]
          have HF : Hid (samB ((firsts l).take k) ⟨xo, xa, xb⟩ ⟨yo, ya, yb⟩ = false → ((bestOf l k (q + 1) : Nat) : Int) = ((bestOf l k q : Nat) : Int)) := fun h => by rw [hbn, if_neg (fun hk => by rw [hsam.2 hk] at h; cases h)]
          have hopx := op_small HM.out HX.out
          have hopy := op_small HM.out HY.out
          dsimp only at hopx hopy
          clear hld1 hsam hbn HLD2
          obtain ⟨bb, hbb⟩ : ∃ bb, ((bestOf l k (q + 1) : Nat) : Int) = bb := ⟨_, rfl⟩
          rw [hbb] at HF ⊢
          clear hbb
          by_cases c1 : xo = yo
          · subst c1
            by_cases c2 : xo < 2
            · by_cases c3 : xa = ya
              · subst c3
                have HE := Lib.hid (HT.out (by simp [samB, c2]))
                clear hopx hopy
                go_wp2_with (first | ((with_reducible refine wpList_load_at ?_ 53 (.tmp 26) ?_ _ ?_ _ HLD1.out ?_); rfl; rfl; rfl) | ((with_reducible refine wpList_load_at ?_ 53 (.tmp 30) ?_ _ ?_ _ HLD3.out ?_); rfl; rfl; rfl))
                go_quiet (fail)
                go_wp2_with fail
                go_roundg q
                case measure => omega
                case rel => exact ⟨q, (q : Int) - 1, by omega, rfl, rfl, by go_num, by rw [HE.out], HOE.out.drewN _⟩
              · have c3' : ((xa : Int) == ya) = false := by rw [beq_eq_false_iff_ne]; exact c3
                have c2d : decide (2 ≤ xo) = false := decide_eq_false (by omega)
                have HE := Lib.hid (HF.out (by simp [samB, c3]; omega))
                clear hopx hopy c3
                go_wp2_with (first | ((with_reducible refine wpList_load_at ?_ 53 (.tmp 26) ?_ _ ?_ _ HLD1.out ?_); rfl; rfl; rfl) | ((with_reducible refine wpList_load_at ?_ 53 (.tmp 30) ?_ _ ?_ _ HLD3.out ?_); rfl; rfl; rfl))
                go_quiet (fail)
                go_wp2_with fail
                go_roundg q
                case measure => omega
                case rel => exact ⟨q, (q : Int) - 1, by omega, rfl, rfl, by go_num, by rw [HE.out], HOE.out.drewN _⟩
            · have c2' : 2 ≤ xo := by omega
              obtain ⟨⟨a0, a1⟩, b0, b1⟩ := may_made HM.out HX.out (by simp only; omega)
              obtain ⟨⟨a2, a3⟩, b2, b3⟩ := may_made HM.out HY.out (by simp only; omega)
              dsimp only at a0 a1 b0 b1 a2 a3 b2 b3
              obtain ⟨A, rfl⟩ := Int.eq_ofNat_of_zero_le a0
              obtain ⟨B, rfl⟩ := Int.eq_ofNat_of_zero_le b0
              obtain ⟨C, rfl⟩ := Int.eq_ofNat_of_zero_le a2
              obtain ⟨D, rfl⟩ := Int.eq_ofNat_of_zero_le b2
              generalize hfs : (firsts l).take k = fs at *
              have htl : fs.length = k := by rw [← hfs, List.length_take, firsts_len]; omega
              clear hfs
              have hA : A < fs.length := by rw [htl]; omega
              have hB : B < fs.length := by rw [htl]; omega
              have hC : C < fs.length := by rw [htl]; omega
              have hD : D < fs.length := by rw [htl]; omega
              clear htl
              obtain ⟨gf, fc, cur, rfl, hfc, _, _, _⟩ := hS.out.at hA
              have qA := HS5.out.cell rfl hA
              have qB := HS5.out.cell rfl hB
              have qC := HS5.out.cell rfl hC
              have qD := HS5.out.cell rfl hD
              have hSM : samB fs ⟨xo, (A : Int), (B : Int)⟩ ⟨xo, (C : Int), (D : Int)⟩ = (decide (fs.getD A 0 = fs.getD C 0) && decide (fs.getD B 0 = fs.getD D 0)) := by
                have n2 : decide (xo < 2) = false := decide_eq_false (by omega)
                have n3 : decide (2 ≤ xo) = true := decide_eq_true (by omega)
                simp only [samB, Int.toNat_natCast, n2, n3, decide_true, Bool.true_and, Bool.false_and, Bool.false_or]
              have hA' : (A : Int) < (fs.length : Int) := by omega
              have hB' : (B : Int) < (fs.length : Int) := by omega
              have hC' : (C : Int) < (fs.length : Int) := by omega
              have hD' : (D : Int) < (fs.length : Int) := by omega
              generalize fs.getD A 0 = fA at *
              generalize fs.getD B 0 = fB at *
              generalize fs.getD C 0 = fC at *
              generalize fs.getD D 0 = fD at *
              have c2d : decide (2 ≤ xo) = true := decide_eq_true c2'
              by_cases c4 : fA = fC
              · subst c4
                by_cases c5 : fB = fD
                · subst c5
                  have HE := Lib.hid (HT.out (by rw [hSM]; simp))
                  clear hSM hopx hopy a0 a1 b0 b1 a2 a3 b2 b3
                  go_wp2_with (first | ((with_reducible refine wpList_load_at ?_ 53 (.tmp 26) ?_ _ ?_ _ HLD1.out ?_); rfl; rfl; rfl) | ((with_reducible refine wpList_load_at ?_ 53 (.tmp 30) ?_ _ ?_ _ HLD3.out ?_); rfl; rfl; rfl))
                  go_quiet (fail)
                  go_wp2_with fail
                  go_roundg q
                  case measure => omega
                  case rel => exact ⟨q, (q : Int) - 1, by omega, rfl, rfl, by go_num, by rw [HE.out], HOE.out.drewN _⟩
                · have c5' : ((fB : Int) == fD) = false := by rw [beq_eq_false_iff_ne]; exact c5
                  have HE := Lib.hid (HF.out (by rw [hSM]; simp [c5]))
                  clear hSM hopx hopy a0 a1 b0 b1 a2 a3 b2 b3 c5
                  go_wp2_with (first | ((with_reducible refine wpList_load_at ?_ 53 (.tmp 26) ?_ _ ?_ _ HLD1.out ?_); rfl; rfl; rfl) | ((with_reducible refine wpList_load_at ?_ 53 (.tmp 30) ?_ _ ?_ _ HLD3.out ?_); rfl; rfl; rfl))
                  go_quiet (fail)
                  go_wp2_with fail
                  go_roundg q
                  case measure => omega
                  case rel => exact ⟨q, (q : Int) - 1, by omega, rfl, rfl, by go_num, by rw [HE.out], HOE.out.drewN _⟩
              · have c4' : ((fA : Int) == fC) = false := by rw [beq_eq_false_iff_ne]; exact c4
                have HE := Lib.hid (HF.out (by rw [hSM]; simp [c4]))
                clear hSM hopx hopy a0 a1 b0 b1 a2 a3 b2 b3 c4
                go_wp2_with (first | ((with_reducible refine wpList_load_at ?_ 53 (.tmp 26) ?_ _ ?_ _ HLD1.out ?_); rfl; rfl; rfl) | ((with_reducible refine wpList_load_at ?_ 53 (.tmp 30) ?_ _ ?_ _ HLD3.out ?_); rfl; rfl; rfl))
                go_quiet (fail)
                go_wp2_with fail
                go_roundg q
                case measure => omega
                case rel => exact ⟨q, (q : Int) - 1, by omega, rfl, rfl, by go_num, by rw [HE.out], HOE.out.drewN _⟩
          · have c1' : ((xo : Int) == yo) = false := by rw [beq_eq_false_iff_ne]; exact c1
            by_cases c2 : xo < 2
            · by_cases c3 : xa = ya
              · subst c3
                have HE := Lib.hid (HF.out (by simp [samB, c1]))
                clear hopx hopy c1
                go_wp2_with (first | ((with_reducible refine wpList_load_at ?_ 53 (.tmp 26) ?_ _ ?_ _ HLD1.out ?_); rfl; rfl; rfl) | ((with_reducible refine wpList_load_at ?_ 53 (.tmp 30) ?_ _ ?_ _ HLD3.out ?_); rfl; rfl; rfl))
                go_quiet (fail)
                go_wp2_with fail
                go_roundg q
                case measure => omega
                case rel => exact ⟨q, (q : Int) - 1, by omega, rfl, rfl, by go_num, by rw [HE.out], HOE.out.drewN _⟩
              · have c3' : ((xa : Int) == ya) = false := by rw [beq_eq_false_iff_ne]; exact c3
                have HE := Lib.hid (HF.out (by simp [samB, c1]))
                clear hopx hopy c1 c3
                go_wp2_with (first | ((with_reducible refine wpList_load_at ?_ 53 (.tmp 26) ?_ _ ?_ _ HLD1.out ?_); rfl; rfl; rfl) | ((with_reducible refine wpList_load_at ?_ 53 (.tmp 30) ?_ _ ?_ _ HLD3.out ?_); rfl; rfl; rfl))
                go_quiet (fail)
                go_wp2_with fail
                go_roundg q
                case measure => omega
                case rel => exact ⟨q, (q : Int) - 1, by omega, rfl, rfl, by go_num, by rw [HE.out], HOE.out.drewN _⟩
            · have c2' : 2 ≤ xo := by omega
              have HE := Lib.hid (HF.out (by simp [samB, c1]))
              clear hopx hopy c1
              go_wp2_with (first | ((with_reducible refine wpList_load_at ?_ 53 (.tmp 26) ?_ _ ?_ _ HLD1.out ?_); rfl; rfl; rfl) | ((with_reducible refine wpList_load_at ?_ 53 (.tmp 30) ?_ _ ?_ _ HLD3.out ?_); rfl; rfl; rfl))
              go_quiet (fail)
              go_wp2_with fail
              go_roundg q
              case measure => omega
              case rel => exact ⟨q, (q : Int) - 1, by omega, rfl, rfl, by go_num, by rw [HE.out], HOE.out.drewN _⟩
    · obtain rfl : k = l.length := by omega
      have HS := hS
      rw [List.take_of_length_le (by rw [firsts_len]; exact Nat.le_refl _)] at HS
      clear hS
      go_wp2_with fail
      go_ret
      exact ⟨_, rfl, HS.out, hO.out⟩
end Go.Proofs.YtnppjkekbdapkaaDoor
