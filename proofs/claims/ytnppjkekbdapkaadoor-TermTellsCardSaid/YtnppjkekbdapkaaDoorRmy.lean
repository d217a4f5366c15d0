/-
  The reference: right, May. (Printed by mkrmy.py.)
-/
import Derived.Test.YtnppjkekbdapkaaDoorIts
set_option linter.unusedVariables false
namespace Go.Proofs.YtnppjkekbdapkaaDoor
open Go.RowKit

theorem rb_leaf {l : List Nd} {x : Nd} (h : x.op = 0 ∨ x.op = 1) : rightB l x = decide (0 ≤ x.a ∧ x.a ≤ 999999 ∧ x.b = 0) := by
  unfold rightB
  rw [if_pos h]
theorem rb_no {l : List Nd} {x : Nd} (h : ¬ (x.op = 0 ∨ x.op = 1)) (h2 : ¬ (x.op = 2 ∨ x.op = 3) ∨ x.a < 0 ∨ x.b < 0 ∨ (l.length : Int) ≤ x.a ∨ (l.length : Int) ≤ x.b) : rightB l x = false := by
  unfold rightB
  rw [if_neg h, if_pos]
  rcases h2 with h2 | h2
  · exact .inl h2
  · right
    omega
theorem rb_yes {l : List Nd} {x : Nd} (h : x.op = 2 ∨ x.op = 3) (h1 : 0 ≤ x.a) (h2 : 0 ≤ x.b) (h3 : x.a < (l.length : Int)) (h4 : x.b < (l.length : Int)) : rightB l x = decide (x.op = 2 ∨ (l.getD x.a.toNat ⟨0, 0, 0⟩).op = 1) := by
  unfold rightB
  rw [if_neg (by omega), if_neg (by omega)]
theorem rb_three {l : List Nd} {x : Nd} {y : Nd} (h : x.op = 3) (h1 : 0 ≤ x.a) (h2 : 0 ≤ x.b) (h3 : x.a < (l.length : Int)) (h4 : x.b < (l.length : Int)) (hg : l.getD x.a.toNat ⟨0, 0, 0⟩ = y) : rightB l x = decide (y.op = 1) := by
  rw [rb_yes (.inr h) h1 h2 h3 h4, hg, decide_eq_decide]
  omega
set_option maxHeartbeats 8000000 in
theorem rr_any (l : List Nd) (v : Value) (n : Nat) (hn : n ≤ l.length) (x : Nd) (w : World) (hl : NL w v l) : Calls Tryd.prog 29 #[v, .int .i64 (n : Int), .agg (ndA x)] w fun e w' => e = .returned (.bool (rightB (l.take n) x)) ∧ Only (fun _ => False) w w' := by
  have HL := Lib.hid hl
  obtain ⟨ad, cap, rfl, hrow⟩ := hl
  clear hrow
  have tk : ((l.take n).length : Int) = (n : Int) := by rw [List.length_take]; omega
  obtain ⟨op, a, b⟩ := x
  change Calls Tryd.prog 29 #[.slice ad l.length cap, .int .i64 (n : Int), .agg #[.int .i64 op, .int .i64 a, .int .i64 b]] w _
  have HOX : Hid (Only (fun _ => False) w (w.alloc (.cells #[.int .i64 op, .int .i64 a, .int .i64 b] 53))) := (Only.refl _ w).alloc _
  by_cases o0 : op = 0
  · subst o0
    by_cases a0 : 0 ≤ a
    · by_cases a1 : a ≤ 999999
      · by_cases b0 : b = 0
        · subst b0
          have HR := Lib.hid (show rightB (l.take n) ⟨0, a, 0⟩ = true from by rw [rb_leaf (by simp), decide_eq_true ⟨a0, a1, rfl⟩])
          clear tk
          go_enter Tryd.func29, Tryd.ntmps29
          go_wp2_with fail
          go_ret
          exact ⟨by rw [HR.out]; rfl, HOX.out⟩
        · have b0' : ((b : Int) == 0) = false := by rw [beq_eq_false_iff_ne]; exact b0
          have HR := Lib.hid (show rightB (l.take n) ⟨0, a, b⟩ = false from by rw [rb_leaf (by simp), decide_eq_false (fun h => b0 h.2.2)])
          clear tk
          go_enter Tryd.func29, Tryd.ntmps29
          go_wp2_with fail
          go_ret
          exact ⟨by rw [HR.out]; rfl, HOX.out⟩
      · skip
        have HR := Lib.hid (show rightB (l.take n) ⟨0, a, b⟩ = false from by rw [rb_leaf (by simp), decide_eq_false (fun h => a1 h.2.1)])
        clear tk
        go_enter Tryd.func29, Tryd.ntmps29
        go_wp2_with fail
        go_ret
        exact ⟨by rw [HR.out]; rfl, HOX.out⟩
    · skip
      have HR := Lib.hid (show rightB (l.take n) ⟨0, a, b⟩ = false from by rw [rb_leaf (by simp), decide_eq_false (fun h => a0 h.1)])
      clear tk
      go_enter Tryd.func29, Tryd.ntmps29
      go_wp2_with fail
      go_ret
      exact ⟨by rw [HR.out]; rfl, HOX.out⟩
  have f0 : ((op : Int) == 0) = false := by rw [beq_eq_false_iff_ne]; exact o0
  by_cases o1 : op = 1
  · subst o1
    by_cases a0 : 0 ≤ a
    · by_cases a1 : a ≤ 999999
      · by_cases b0 : b = 0
        · subst b0
          have HR := Lib.hid (show rightB (l.take n) ⟨1, a, 0⟩ = true from by rw [rb_leaf (by simp), decide_eq_true ⟨a0, a1, rfl⟩])
          clear tk
          go_enter Tryd.func29, Tryd.ntmps29
          go_wp2_with fail
          go_ret
          exact ⟨by rw [HR.out]; rfl, HOX.out⟩
        · have b0' : ((b : Int) == 0) = false := by rw [beq_eq_false_iff_ne]; exact b0
          have HR := Lib.hid (show rightB (l.take n) ⟨1, a, b⟩ = false from by rw [rb_leaf (by simp), decide_eq_false (fun h => b0 h.2.2)])
          clear tk
          go_enter Tryd.func29, Tryd.ntmps29
          go_wp2_with fail
          go_ret
          exact ⟨by rw [HR.out]; rfl, HOX.out⟩
      · skip
        have HR := Lib.hid (show rightB (l.take n) ⟨1, a, b⟩ = false from by rw [rb_leaf (by simp), decide_eq_false (fun h => a1 h.2.1)])
        clear tk
        go_enter Tryd.func29, Tryd.ntmps29
        go_wp2_with fail
        go_ret
        exact ⟨by rw [HR.out]; rfl, HOX.out⟩
    · skip
      have HR := Lib.hid (show rightB (l.take n) ⟨1, a, b⟩ = false from by rw [rb_leaf (by simp), decide_eq_false (fun h => a0 h.1)])
      clear tk
      go_enter Tryd.func29, Tryd.ntmps29
      go_wp2_with fail
      go_ret
      exact ⟨by rw [HR.out]; rfl, HOX.out⟩
  have f1 : ((op : Int) == 1) = false := by rw [beq_eq_false_iff_ne]; exact o1
  by_cases o2 : op = 2
  · subst o2
    clear f0 f1 o0 o1
    by_cases c1 : a < 0
    · skip
      have HR := Lib.hid (show rightB (l.take n) ⟨2, a, b⟩ = false from rb_no (by simp) (by simp only; omega))
      clear tk
      go_enter Tryd.func29, Tryd.ntmps29
      go_wp2_with fail
      go_ret
      exact ⟨by rw [HR.out]; rfl, HOX.out⟩
    have c1' : 0 ≤ a := by omega
    by_cases c2 : (n : Int) ≤ a
    · skip
      have HR := Lib.hid (show rightB (l.take n) ⟨2, a, b⟩ = false from rb_no (by simp) (by simp only; omega))
      clear tk
      go_enter Tryd.func29, Tryd.ntmps29
      go_wp2_with fail
      go_ret
      exact ⟨by rw [HR.out]; rfl, HOX.out⟩
    have c2' : a < (n : Int) := by omega
    by_cases c3 : b < 0
    · skip
      have HR := Lib.hid (show rightB (l.take n) ⟨2, a, b⟩ = false from rb_no (by simp) (by simp only; omega))
      clear tk
      go_enter Tryd.func29, Tryd.ntmps29
      go_wp2_with fail
      go_ret
      exact ⟨by rw [HR.out]; rfl, HOX.out⟩
    have c3' : 0 ≤ b := by omega
    by_cases c4 : (n : Int) ≤ b
    · skip
      have HR := Lib.hid (show rightB (l.take n) ⟨2, a, b⟩ = false from rb_no (by simp) (by simp only; omega))
      clear tk
      go_enter Tryd.func29, Tryd.ntmps29
      go_wp2_with fail
      go_ret
      exact ⟨by rw [HR.out]; rfl, HOX.out⟩
    have c4' : b < (n : Int) := by omega
    clear c1 c2 c3 c4
    have HR := Lib.hid (show rightB (l.take n) ⟨2, a, b⟩ = true from by rw [rb_yes (.inl rfl) c1' c3' (by simp only; omega) (by simp only; omega), decide_eq_true (.inl rfl)])
    clear tk
    go_enter Tryd.func29, Tryd.ntmps29
    go_wp2_with fail
    go_ret
    exact ⟨by rw [HR.out]; rfl, HOX.out⟩
  have n2 : ((op : Int) != 2) = true := by rw [bne_iff_ne]; exact o2
  by_cases o3 : op = 3
  · subst o3
    clear f0 f1 o0 o1 n2 o2
    by_cases c1 : a < 0
    · skip
      have HR := Lib.hid (show rightB (l.take n) ⟨3, a, b⟩ = false from rb_no (by simp) (by simp only; omega))
      clear tk
      go_enter Tryd.func29, Tryd.ntmps29
      go_wp2_with fail
      go_ret
      exact ⟨by rw [HR.out]; rfl, HOX.out⟩
    have c1' : 0 ≤ a := by omega
    by_cases c2 : (n : Int) ≤ a
    · skip
      have HR := Lib.hid (show rightB (l.take n) ⟨3, a, b⟩ = false from rb_no (by simp) (by simp only; omega))
      clear tk
      go_enter Tryd.func29, Tryd.ntmps29
      go_wp2_with fail
      go_ret
      exact ⟨by rw [HR.out]; rfl, HOX.out⟩
    have c2' : a < (n : Int) := by omega
    by_cases c3 : b < 0
    · skip
      have HR := Lib.hid (show rightB (l.take n) ⟨3, a, b⟩ = false from rb_no (by simp) (by simp only; omega))
      clear tk
      go_enter Tryd.func29, Tryd.ntmps29
      go_wp2_with fail
      go_ret
      exact ⟨by rw [HR.out]; rfl, HOX.out⟩
    have c3' : 0 ≤ b := by omega
    by_cases c4 : (n : Int) ≤ b
    · skip
      have HR := Lib.hid (show rightB (l.take n) ⟨3, a, b⟩ = false from rb_no (by simp) (by simp only; omega))
      clear tk
      go_enter Tryd.func29, Tryd.ntmps29
      go_wp2_with fail
      go_ret
      exact ⟨by rw [HR.out]; rfl, HOX.out⟩
    have c4' : b < (n : Int) := by omega
    clear c1 c2 c3 c4
    obtain ⟨A, rfl⟩ := Int.eq_ofNat_of_zero_le c1'
    have hA : A < l.length := by omega
    obtain ⟨gb, go, gc, he, _, _, d0, _, _, _⟩ := (HL.out.keep HOX.out).at hA
    cases he
    have hg : (l.take n).getD A ⟨0, 0, 0⟩ = l[A] := by
      rw [List.getD_eq_getElem?_getD, List.getElem?_take, if_pos (by omega), List.getElem?_eq_getElem hA]
      rfl
    have hAl : (A : Int) < (l.length : Int) := by omega
    generalize l[A] = y at *
    have hq := rb_three (l := l.take n) (x := ⟨3, (A : Int), b⟩) (y := y) rfl c1' c3' (by simp only; omega) (by simp only; omega) hg
    clear hg
    by_cases hy : y.op = 1
    · rw [hy] at d0
      have HR := Lib.hid (show rightB (l.take n) ⟨3, (A : Int), b⟩ = true from by rw [hq, decide_eq_true hy])
      clear tk hq hy
      go_enter Tryd.func29, Tryd.ntmps29
      go_wp2_with fail
      go_ret
      exact ⟨by rw [HR.out]; rfl, HOX.out⟩
    · have hy' : ((y.op : Int) == 1) = false := by rw [beq_eq_false_iff_ne]; exact hy
      have HR := Lib.hid (show rightB (l.take n) ⟨3, (A : Int), b⟩ = false from by rw [hq, decide_eq_false hy])
      clear tk hq hy
      go_enter Tryd.func29, Tryd.ntmps29
      go_wp2_with fail
      go_ret
      exact ⟨by rw [HR.out]; rfl, HOX.out⟩
  have n3 : ((op : Int) != 3) = true := by rw [bne_iff_ne]; exact o3
  have HR := Lib.hid (show rightB (l.take n) ⟨op, a, b⟩ = false from rb_no (by simp only; omega) (.inl (by simp only; omega)))
  clear tk
  go_enter Tryd.func29, Tryd.ntmps29
  go_wp2_with fail
  go_ret
  exact ⟨by rw [HR.out]; rfl, HOX.out⟩
set_option maxHeartbeats 4000000 in
theorem rmay_any (l : List Nd) (v : Value) (w : World) (hl : NL w v l) : Calls Tryd.prog 14 #[v] w fun e w' => e = .returned (.bool (mayB l)) ∧ Only (fun _ => False) w w' := by
  have HL := Lib.hid hl
  obtain ⟨ad, cap, rfl, hrow⟩ := hl
  clear hrow
  have HR0 : Hid (Only (fun _ => False) w w) := Only.refl _ w
  by_cases h2 : 200 < l.length
  · have h2' : (200 : Int) < (l.length : Int) := by omega
    have HB : Hid (mayB l = false) := by
      unfold mayB
      rw [decide_eq_false (by omega), Bool.and_false]
      exact rfl
    clear h2
    go_enter Tryd.func14, Tryd.ntmps14
    go_wp2_with fail
    go_ret
    exact ⟨by rw [HB.out]; rfl, HR0.out⟩
  · have h2' : ¬ (200 : Int) < (l.length : Int) := by omega
    go_enter Tryd.func14, Tryd.ntmps14
    go_wp2_with fail
    go_loopg [3] l.length (fun gg i wr => ∃ k : Nat, k ≤ l.length ∧ gg = l.length - k ∧ i = .int .i64 k ∧ Hid (∀ j, j < k → rightAt l j = true) ∧ Hid (Only (fun _ => False) w wr))
    case atStart => exact ⟨0, by omega, by omega, rfl, fun j hj => absurd hj (Nat.not_lt_zero j), HR0.out⟩
    case round =>
      clear HR0
      revert wr
      intro wa hrel
      obtain ⟨k, hk, hgk, rfl, hS, hO⟩ := hrel
      by_cases hlt : k < l.length
      · have hlt' : (k : Int) < (l.length : Int) := by omega
        obtain ⟨gb, go, gc, he, hgc, hld⟩ := (HL.out.keep hO.out).load55 hlt
        cases he
        have HLD := Lib.hid hld
        have HC := Lib.hid (rr_any l _ k hk l[k] wa (HL.out.keep hO.out))
        have HRA : Hid (rightB (l.take k) l[k] = rightAt l k) := by
          show _ = rightB (l.take k) (l.getD k nd0)
          rw [List.getD_eq_getElem?_getD, List.getElem?_eq_getElem hlt]
          rfl
        rw [HRA.out] at HC
        clear hld HRA
        generalize l[k] = x at *
        obtain ⟨op, a, b⟩ := x
        cases hra : rightAt l k
        · rw [hra] at HC
          have HMB := Lib.hid (may_bad hlt hra)
          clear hra
          go_wp2_with (first | ((with_reducible refine wpList_load_at ?_ 53 (.tmp 17) ?_ _ ?_ _ HLD.out ?_); rfl; rfl; rfl) | (go_at_call 29; refine HC.out.mono ?_; rintro e w1 ⟨rfl, h1⟩))
          go_ret
          exact ⟨by rw [HMB.out]; rfl, hO.out.trans h1⟩
        · rw [hra] at HC
          have HS' : Hid (∀ j, j < k + 1 → rightAt l j = true) := by
            intro j hj
            by_cases hjk : j < k
            · exact hS.out j hjk
            · obtain rfl : j = k := by omega
              exact hra
          clear hra
          go_wp2_with (first | ((with_reducible refine wpList_load_at ?_ 53 (.tmp 17) ?_ _ ?_ _ HLD.out ?_); rfl; rfl; rfl) | (go_at_call 29; refine HC.out.mono ?_; rintro e w1 ⟨rfl, h1⟩))
          go_roundg (l.length - (k + 1))
          case measure => omega
          case rel => exact ⟨k + 1, by omega, by omega, by go_num, HS'.out, hO.out.trans h1⟩
      · obtain rfl : k = l.length := by omega
        have HR := Lib.hid (may_end hS.out)
        go_wp2_with fail
        go_ret
        exact ⟨by rw [HR.out, decide_eq_true (by omega)]; rfl, hO.out⟩
end Go.Proofs.YtnppjkekbdapkaaDoor
