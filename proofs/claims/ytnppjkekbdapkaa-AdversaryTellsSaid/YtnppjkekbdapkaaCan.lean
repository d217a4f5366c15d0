/-
  Can, SameBools, shown.
-/
import Derived.Test.YtnppjkekbdapkaaKno
set_option linter.unusedVariables false
namespace Go.Proofs.Ytnppjkekbdapkaa
open Go.RowKit

noncomputable def canB (l : List Nd) (kn : List Int) (goal : Int) : Bool := if 0 ≤ goal then (knows l kn).getD goal.toNat false else false
theorem canB_iff {l : List Nd} {kn : List Int} (h : mayB l = true) {i : Nat} (hi : i < l.length) : canB l kn (i : Int) = true ↔ DerK l kn i := by
  unfold canB knows
  rw [if_pos h, if_pos (by omega), List.getD_eq_getElem?_getD, List.getElem?_map, Int.toNat_natCast, List.getElem?_range hi]
  simp

set_option maxHeartbeats 4000000 in
theorem can_any (l : List Nd) (kn : List Int) (goal : Int) (v kv : Value) (w : World) (hl : NL w v l) (hkn : IL w kv kn) (hwf : ∀ x ∈ l, x.Wf) (hll : l.length ≤ 1000000) (hkl : kn.length ≤ 100000) (hg : wf64 goal) :
    Calls Try.prog 14 #[v, kv, .int .i64 goal] w fun e w' => e = .returned (.bool (canB l kn goal)) ∧ Only (fun _ => False) w w' := by
  have HC := Lib.hid (knows_any l kn v kv w hl hkn hwf hll hkl)
  rw [wf64_iff] at hg
  obtain ⟨r, hr⟩ : ∃ r, canB l kn goal = r := ⟨_, rfl⟩
  rw [hr]
  unfold canB at hr
  generalize knows l kn = bs at *
  have HR := Lib.hid hr
  clear hr hl hkn hwf
  go_enter Try.func14, Try.ntmps14
  go_upto_region 2 with (go_at_call 10; refine HC.out.mono ?_; rintro e w1 ⟨bv, rfl, hb, h1⟩)
  have HB := Lib.hid hb
  have HO := Lib.hid h1
  obtain ⟨a, cap, rfl, hcap, hmx⟩ := hb.val
  clear hb h1
  by_cases h0 : 0 ≤ goal
  · by_cases h2 : goal < (bs.length : Int)
    · obtain ⟨i, rfl⟩ := Int.eq_ofNat_of_zero_le h0
      have hi : i < bs.length := by omega
      obtain ⟨b, o, c, he, _, _, hc⟩ := HB.out.at hi
      cases he
      have e : r = bs[i] := by
        rw [← HR.out, if_pos h0, List.getD_eq_getElem?_getD, Int.toNat_natCast, List.getElem?_eq_getElem hi]
        rfl
      rw [← e] at hc
      clear e
      go_wp2_with fail
      go_ret
      exact ⟨rfl, HO.out⟩
    · go_wp2_with fail
      go_ret
      refine ⟨?_, HO.out⟩
      rw [← HR.out, if_pos h0, List.getD_eq_getElem?_getD, List.getElem?_eq_none (by omega)]
      rfl
  · go_wp2_with fail
    go_ret
    refine ⟨?_, HO.out⟩
    rw [← HR.out, if_neg (by omega)]
    rfl

theorem take_ext {a b : List Bool} (hl : a.length = b.length) {k : Nat} (h : ∀ j, j < k → a[j]? = b[j]?) (hk : a.length ≤ k) : a = b := by
  refine List.ext_getElem? fun i => ?_
  by_cases hi : i < k
  · exact h i hi
  · rw [List.getElem?_eq_none (by omega), List.getElem?_eq_none (by omega)]
set_option maxHeartbeats 4000000 in
theorem sb_any (a b : List Bool) (va vb : Value) (w : World) (ha : BL w va a) (hb : BL w vb b) :
    Calls Try.prog 11 #[va, vb] w fun e w' => e = .returned (.bool (decide (a = b))) ∧ Only (fun _ => False) w w' := by
  have HA := Lib.hid ha
  have HB := Lib.hid hb
  obtain ⟨xa, ca, rfl, hca, hma⟩ := ha.val
  obtain ⟨xb, cb, rfl, hcb, hmb⟩ := hb.val
  clear ha hb
  unfold maxLen at hma hmb
  have HO0 := Lib.hid (Only.refl (fun _ => False) w)
  by_cases hl : a.length = b.length
  · have HLn := Lib.hid hl
    have hl' : (a.length : Int) = (b.length : Int) := by omega
    have hq : ((a.length : Int) != (b.length : Int)) = false := by simp [hl]
    clear hl'
    obtain ⟨n, hn⟩ : ∃ n, a.length = n := ⟨_, rfl⟩
    have hn2 : b.length = n := by omega
    rw [hn] at hq hl hca
    rw [hn2] at hq hl hcb
    have HN := Lib.hid hn
    have HN2 := Lib.hid hn2
    rw [hn, hn2]
    clear hn hn2 hl hq
    go_enter Try.func11, Try.ntmps11
    go_wp2_with fail
    go_loopg [5] n (fun gg i wr => ∃ k : Nat, k ≤ n ∧ gg = n - k ∧ i = .int .i64 k ∧ Hid (∀ j, j < k → a[j]? = b[j]?) ∧ Hid (Only (fun _ => False) w wr))
    case atStart => exact ⟨0, by omega, by omega, rfl, fun j hj => absurd hj (Nat.not_lt_zero j), HO0.out⟩
    case round =>
      obtain ⟨k, hk, hgk, rfl, hS, hO⟩ := hrel
      by_cases hlt : k < n
      · have hlt' : (k : Int) < (n : Int) := by omega
        have hka : k < a.length := by have := HN.out; omega
        have hkb : k < b.length := by have := HN2.out; omega
        obtain ⟨ba, oa, c1, he1, _, _, hc1⟩ := (HA.out.keep hO.out).at hka
        obtain ⟨bb, ob, c2, he2, _, _, hc2⟩ := (HB.out.keep hO.out).at hkb
        cases he1
        cases he2
        have HX : Hid (a[k]? = some a[k]) := List.getElem?_eq_getElem hka
        have HY : Hid (b[k]? = some b[k]) := List.getElem?_eq_getElem hkb
        generalize a[k] = x at *
        generalize b[k] = y at *
        clear hka hkb
        by_cases hxy : x = y
        · subst hxy
          go_wp2_with fail
          go_quiet (fail)
          go_wp2_with fail
          have HS' : Hid (∀ j, j < k + 1 → a[j]? = b[j]?) := fun j hj => by
            by_cases hjk : j < k
            · exact hS.out j hjk
            · obtain rfl : j = k := by omega
              rw [HX.out, HY.out]
          go_roundg (n - (k + 1))
          case measure => omega
          case rel => exact ⟨k + 1, by omega, by omega, by go_num, HS'.out, hO.out.drewN _⟩
        · have HNE : Hid (¬ a = b) := by
            rintro rfl
            exact hxy (Option.some.inj (HX.out.symm.trans HY.out))
          obtain rfl : y = !x := by cases x <;> cases y <;> simp_all
          clear hxy
          cases x
          · go_wp2_with fail
            go_quiet (fail)
            go_wp2_with fail
            go_ret
            exact ⟨by rw [decide_eq_false HNE.out]; rfl, hO.out.drewN _⟩
          · go_wp2_with fail
            go_quiet (fail)
            go_wp2_with fail
            go_ret
            exact ⟨by rw [decide_eq_false HNE.out]; rfl, hO.out.drewN _⟩
      · obtain rfl : k = n := by omega
        go_wp2_with fail
        go_ret
        exact ⟨by rw [decide_eq_true (take_ext HLn.out hS.out (by have := HN.out; omega))]; rfl, hO.out⟩
  · have hq : ((a.length : Int) != (b.length : Int)) = true := by simp; omega
    have HLn := Lib.hid hl
    clear hl
    go_enter Try.func11, Try.ntmps11
    go_wp2_with fail
    go_ret
    exact ⟨by rw [decide_eq_false (fun h => HLn.out (by rw [h]))]; rfl, HO0.out⟩
end Go.Proofs.Ytnppjkekbdapkaa
