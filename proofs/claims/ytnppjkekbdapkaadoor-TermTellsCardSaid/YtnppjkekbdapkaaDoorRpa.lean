/-
  The reference: Parts.
-/
import Derived.Test.YtnppjkekbdapkaaDoorPrt
import Derived.Test.YtnppjkekbdapkaaDoorRsm
import Derived.Deep.CutBlock
set_option linter.unusedVariables false
namespace Go.Proofs.YtnppjkekbdapkaaDoor
open Go.RowKit

/-- Which places are in, behind d of them, in a row. -/
def RB (l : List Nd) (I0 d g : Nat) (W : World) : Prop := ∃ cur : Array Value, W.heap[g]? = some (.cells cur 4 (0, 0)) ∧ cur.size = l.length ∧ ∀ z, z < l.length → cur[z]? = some (.bool (decide (0 < inC l I0 d z)))
theorem RB.cell {l : List Nd} {I0 d g : Nat} {W : World} (h : RB l I0 d g W) {z : Nat} (hz : z < l.length) : W.cell? ⟨g, z, none⟩ = some (.bool (decide (0 < inC l I0 d z))) ∧ W.frozen? ⟨g, z, none⟩ = false := by
  obtain ⟨cur, h1, h2, h3⟩ := h
  exact ⟨(cell_of_row _ _ _ _ _ _ h1).trans (h3 z hz), frozen_of_row _ _ _ _ _ h1⟩
theorem RB.keep {l : List Nd} {I0 d g : Nat} {W V : World} (h : RB l I0 d g W) (hg : V.heap[g]? = W.heap[g]?) : RB l I0 d g V := by
  obtain ⟨cur, h1, r⟩ := h
  exact ⟨cur, hg.trans h1, r⟩
theorem makeB (n : Nat) (w : World) (hn : n ≤ 1000000) : (Instr.makeSlice 57 (.int .i64 (n : Int)) (.int .i64 (n : Int))).run Tryd.prog w = .ok (.slice (some ⟨w.heap.size, 0, none⟩) n n) (w.alloc (.cells (madeCells #[.bool false] n) 4)) :=
  run_make_row' (P := Tryd.prog) 57 4 (.bool false) 1 Tryd.underlying57 (by kernel_rfl) rfl .i64 .i64 n (by omega) (by omega) w
theorem made_at (u : Value) {n z : Nat} (h : z < n) : (madeCells #[u] n)[z]? = some u := by
  simp [madeCells, Nat.mod_one]
  exact ⟨z, Array.getElem?_eq_some_iff.2 ⟨by simpa using h, by simp⟩⟩
theorem rb_start (l : List Nd) {I0 : Nat} (hI : I0 < l.length) (W : World) : RB l I0 0 W.heap.size ((W.alloc (.cells (madeCells #[.bool false] l.length) 4)).setCell ⟨W.heap.size, I0, none⟩ (.bool true)) := by
  refine ⟨_, heap_setCell_same _ _ _ _ _ _ (heap_alloc_new _ _), by simp [madeCells], fun z hz => ?_⟩
  by_cases h : z = I0
  · subst h
    rw [Array.getElem?_setIfInBounds_self_of_lt (by simp [madeCells]; omega)]
    simp [inC]
  · rw [Array.getElem?_setIfInBounds_ne (by omega), made_at _ hz]
    simp [inC, h]
theorem RB.two {l : List Nd} {I0 d g A B : Nat} {W : World} (h : RB l I0 d g W) (hx : (l.getD (I0 - d) nd0).op = 2 ∨ (l.getD (I0 - d) nd0).op = 3) (hA : (A : Int) = (l.getD (I0 - d) nd0).a) (hB : (B : Int) = (l.getD (I0 - d) nd0).b) (hin : 0 < inC l I0 d (I0 - d)) (hA1 : A < l.length) (hB1 : B < l.length) :
    RB l I0 (d + 1) g ((W.setCell ⟨g, A, none⟩ (.bool true)).setCell ⟨g, B, none⟩ (.bool true)) := by
  obtain ⟨cur, h1, h2, h3⟩ := h
  refine ⟨_, heap_setCell_same _ _ _ _ _ _ (heap_setCell_same _ _ _ _ _ _ h1), by simp [h2], fun z hz => ?_⟩
  have e : inC l I0 (d + 1) z = inC l I0 d z + (if (z : Int) = (A : Int) then 1 else 0) + (if (z : Int) = (B : Int) then 1 else 0) := by
    show inStep l (inC l I0 d) (I0 - d) z = _
    unfold inStep
    rw [if_pos ⟨hin, hx⟩, hA, hB]
  rw [e]
  by_cases hzB : z = B
  · subst hzB
    rw [Array.getElem?_setIfInBounds_self_of_lt (by simp; omega), if_pos rfl, decide_eq_true (by omega)]
  · rw [Array.getElem?_setIfInBounds_ne (by omega), if_neg (by omega : ¬ (z : Int) = (B : Int))]
    by_cases hzA : z = A
    · subst hzA
      rw [Array.getElem?_setIfInBounds_self_of_lt (by omega), if_pos rfl, decide_eq_true (by omega)]
    · rw [Array.getElem?_setIfInBounds_ne (by omega), if_neg (by omega), h3 z hz]
      simp
theorem RB.none {l : List Nd} {I0 d g : Nat} {W : World} (h : RB l I0 d g W) (hx : ¬ (0 < inC l I0 d (I0 - d) ∧ ((l.getD (I0 - d) nd0).op = 2 ∨ (l.getD (I0 - d) nd0).op = 3))) : RB l I0 (d + 1) g W := by
  obtain ⟨cur, h1, h2, h3⟩ := h
  refine ⟨cur, h1, h2, fun z hz => ?_⟩
  rw [h3 z hz]
  have e : inC l I0 (d + 1) z = inC l I0 d z := by
    show inStep l (inC l I0 d) (I0 - d) z = _
    unfold inStep
    rw [if_neg hx]
  rw [e]
def outsN (l : List Nd) (I0 k : Nat) : List Int := ((List.range k).filter (isIn l I0)).map fun z : Nat => (z : Int)
theorem outsN_next (l : List Nd) (I0 k : Nat) : outsN l I0 (k + 1) = if isIn l I0 k then outsN l I0 k ++ [(k : Int)] else outsN l I0 k := by
  unfold outsN
  rw [List.range_succ, List.filter_append, List.map_append, List.filter_cons]
  split <;> simp
theorem outsN_len (l : List Nd) (I0 k : Nat) : (outsN l I0 k).length ≤ k := by
  unfold outsN
  rw [List.length_map]
  exact Nat.le_trans (List.length_filter_le _ _) (by rw [List.length_range]; exact Nat.le_refl _)
set_option maxHeartbeats 8000000 in
theorem rparts_any (l : List Nd) (i : Int) (v : Value) (w : World) (hl : NL w v l) (hi : wf64 i) :
    Calls Tryd.prog 19 #[v, .int .i64 i] w fun e w' => ∃ v', e = .returned v' ∧ IL w' v' (if placeB l i then partsN l i.toNat else []) ∧ Only (fun _ => False) w w' := by
  have HL := Lib.hid hl
  have HP := Lib.hid (rplace_any l i v w hl hi)
  obtain ⟨ad, cap, rfl, hrow⟩ := hl
  clear hrow
  cases hp : placeB l i
  · rw [hp] at HP
    clear hp
    go_enter Tryd.func19, Tryd.ntmps19
    go_wp2_with (go_at_call 31; refine HP.out.mono ?_; rintro e w1 ⟨rfl, k1⟩)
    go_ret
    exact ⟨_, rfl, ⟨none, 0, rfl, Nat.le_refl _, Nat.zero_le _, fun i u hu => by cases hu⟩, k1⟩
  · obtain ⟨i0, i1, hm⟩ := placeB_yes hp
    have HMB := Lib.hid hm
    have hlen2 : l.length ≤ 200 := by
      have := hm
      simp [mayB] at this
      exact this.2
    obtain ⟨I, rfl⟩ := Int.eq_ofNat_of_zero_le i0
    have hI : I < l.length := by omega
    rw [if_pos rfl, Int.toNat_natCast]
    rw [hp] at HP
    clear hp hm
    obtain ⟨gb, go, gc, he, hgc, _, hcb, _⟩ := HL.out.at hI
    cases he
    have hgbw : gb < w.heap.size := World.block_lt_of_cell? w _ hcb
    clear hcb
    go_enter Tryd.func19, Tryd.ntmps19
    go_upto_region 3 with (go_at_call 31; refine HP.out.mono ?_; rintro e w1 ⟨rfl, k1⟩)
    have hmk := makeB l.length w1 (by omega)
    have HR0 := Lib.hid (rb_start l hI w1)
    have hg0 : (w1.alloc (.cells (madeCells #[.bool false] l.length) 4)).heap[w1.heap.size]? = some (.cells (madeCells #[.bool false] l.length) 4 (0, 0)) := heap_alloc_new _ _
    have q1 := (cell_of_row _ _ I _ _ _ hg0).trans (made_at _ hI)
    have q2 := frozen_of_row _ _ I _ _ hg0
    have HO0 : Hid (Only (fun _ => False) w ((w1.alloc (.cells (madeCells #[.bool false] l.length) 4)).setCell ⟨w1.heap.size, I, none⟩ (.bool true))) := fresh_only k1 (((Only.refl (fun k => k = w1.heap.size) w1).alloc _).setCell rfl _) (fun k hk => by have := k1.size; omega)
    have hgw : w.heap.size ≤ w1.heap.size := k1.size
    clear hg0 HP
    generalize w1.alloc (.cells (madeCells #[.bool false] l.length) 4) = V0 at *
    generalize w1.heap.size = g at *
    clear k1
    have n1 : ¬ gb = g := by omega
    have n2 : ¬ g = gb := by omega
    go_wp2_with fail
    clear hmk q1 q2
    go_loopg [6] (I + 1) (fun gg iv wr => ∃ (d : Nat) (z : Int), d ≤ I + 1 ∧ gg = I + 1 - d ∧ z = (I : Int) - (d : Int) ∧ iv = .int .i64 z ∧ Hid (RB l I d g wr) ∧ Hid (Only (fun _ => False) w wr))
    case atStart => exact ⟨0, (I : Int), by omega, by omega, by simp, rfl, HR0.out, HO0.out⟩
    case round =>
      clear HR0 HO0
      revert wr
      intro wa hrel
      obtain ⟨d, z, hd, hgd, hz, rfl, hrb, hO⟩ := hrel
      by_cases hd0 : d = I + 1
      · subst hd0
        have hzn : z < 0 := by omega
        have HRB := Lib.hid hrb.out
        have HOW := Lib.hid hO.out
        have hb0 := build_0 wa
        have HF0 := Lib.hid (FL.new wa wa.heap.size (Nat.le_refl _))
        have HV0 : Hid (Only (fun _ => False) wa (wa.alloc (.cells #[] 3))) := (Only.refl _ _).alloc _
        generalize wa.alloc (.cells #[] 3) = V1 at *
        have HB0 := Lib.hid hb0
        clear hb0 hz hrb hO
        go_wp2_with ((with_reducible refine wpList_bs_g ?_ 32 0 #[] ?_ [] ?_ _ HB0.out ?_); rfl; rfl; rfl)
        go_loopg [7, 8] (I + 1) (fun gg ov kv wr => ∃ k : Nat, k ≤ I + 1 ∧ gg = I + 1 - k ∧ kv = .int .i64 k ∧ Hid (FL wr wa.heap.size ov (outsN l I k)) ∧ Hid (Only (fun _ => False) wa wr))
        case atStart => exact ⟨0, by omega, by omega, rfl, HF0.out, HV0.out⟩
        case round =>
          clear HF0 HV0 HB0
          revert wr
          intro wb hrel
          obtain ⟨k, hk, hgk, rfl, hS, hO⟩ := hrel
          by_cases hlt : k < I + 1
          · have hlt' : (k : Int) ≤ (I : Int) := by omega
            have hkl : (k : Int) < (l.length : Int) := by omega
            obtain ⟨cur, hcur, _⟩ := HRB.out
            have hgwa := (Array.getElem?_eq_some_iff.1 hcur).1
            have q1 := ((HRB.out.keep (hO.out.block g hgwa (fun x => x))).cell (show k < l.length by omega)).1
            have q1' : wb.cell? ⟨g, k, none⟩ = some (.bool (isIn l I k)) := q1
            have hnx := outsN_next l I k
            have hol := outsN_len l I k
            cases hin : isIn l I k
            · rw [hin] at q1' hnx
              have HNX := Lib.hid hnx
              clear q1 hnx hin hcur
              go_wp2_with fail
              go_roundg (I + 1 - (k + 1))
              case measure => omega
              case rel => exact ⟨k + 1, by omega, by omega, by go_num, by rw [HNX.out]; exact hS.out, hO.out⟩
            · rw [hin] at q1' hnx
              obtain ⟨v2, W2, V2, hb2, hr2, hf2, ho2⟩ := snoc_int hS.out hO.out.size (k : Int) (by omega)
              have HF2 : Hid (FL V2 wa.heap.size v2 (outsN l I (k + 1))) := by
                rw [hnx]
                exact hf2
              have HB2 := Lib.hid hb2
              have HR2 := Lib.hid hr2
              have HO3 := Lib.hid (fresh_only hO.out ho2 (fun q hq => hq))
              clear hb2 hr2 hf2 ho2 q1 hnx hin hcur
              go_wp2_with (first | ((with_reducible refine wpList_bs_g ?_ 32 1 #[(0, .tmp 61)] ?_ [(0, .int .i64 (k : Int))] ?_ _ HB2.out ?_); rfl; rfl; rfl) | (at_builtin; ((with_reducible refine wpList_app_g ?_ (.tmp 60) (.tmp 62) 32 ?_ _ _ _ ?_ ?_ HR2.out ?_); rfl; rfl; rfl; rfl)))
              go_roundg (I + 1 - (k + 1))
              case measure => omega
              case rel => exact ⟨k + 1, by omega, by omega, by go_num, HF2.out, HO3.out⟩
          · obtain rfl : k = I + 1 := by omega
            have hlt' : ¬ ((I : Int) + 1 ≤ (I : Int)) := by omega
            have HIL : Hid (IL wb u7 (partsN l I)) := by
              rw [parts_eq HMB.out hI]
              exact hS.out.il
            have HOE := Lib.hid (HOW.out.trans hO.out)
            go_wp2_with fail
            go_ret
            exact ⟨_, rfl, HIL.out, HOE.out⟩
      · obtain ⟨K, hK⟩ : ∃ K, K + d = I := ⟨I - d, by omega⟩
        obtain rfl : z = (K : Int) := by omega
        clear hz
        have hKe : I - d = K := by omega
        have hKl : K < l.length := by omega
        have hKl' : (K : Int) < (l.length : Int) := by omega
        have hK0 : (0 : Int) ≤ (K : Int) := by omega
        obtain ⟨hq1, hq2⟩ := hrb.out.cell hKl
        obtain ⟨b', o', c', he, _, _, r0, r1, r2, _⟩ := (HL.out.keep hO.out).at hKl
        cases he
        have HX : Hid (l[K]? = some l[K]) := List.getElem?_eq_getElem hKl
        have HGD : Hid (l.getD K nd0 = l[K]) := show _ = _ by rw [List.getD_eq_getElem?_getD, HX.out]; rfl
        generalize l[K] = x at *
        obtain ⟨op, a, b⟩ := x
        dsimp only at r0 r1 r2
        have hos := (op_small HMB.out HX.out).1
        dsimp only at hos
        by_cases hc : 0 < inC l I d K
        · have HIN := Lib.hid hc
          rw [decide_eq_true hc] at hq1
          by_cases ho : op = 2 ∨ op = 3
          · obtain ⟨⟨a0, ak⟩, b0', bk⟩ := may_made HMB.out HX.out ho
            dsimp only at a0 ak b0' bk
            obtain ⟨A, rfl⟩ := Int.eq_ofNat_of_zero_le a0
            obtain ⟨B, rfl⟩ := Int.eq_ofNat_of_zero_le b0'
            have hA : (A : Int) < (l.length : Int) := by omega
            have hB : (B : Int) < (l.length : Int) := by omega
            obtain ⟨qa1, qa2⟩ := hrb.out.cell (show A < l.length by omega)
            obtain ⟨qb1, qb2⟩ := hrb.out.cell (show B < l.length by omega)
            have HRN := Lib.hid (hrb.out.two (A := A) (B := B) (by rw [hKe, HGD.out]; exact ho) (by rw [hKe, HGD.out]) (by rw [hKe, HGD.out]) (by rw [hKe]; exact hc) (by omega) (by omega))
            have HON : Hid (Only (fun _ => False) w ((wa.setCell ⟨g, A, none⟩ (.bool true)).setCell ⟨g, B, none⟩ (.bool true))) := fresh_only hO.out (((Only.refl (fun k => k = g) wa).setCell rfl _).setCell rfl _) (fun k hk => by omega)
            have ho2 : 2 ≤ op := by omega
            clear hc ho hKe
            by_cases hAB : A = B
            · subst hAB
              go_wp2_with fail
              go_roundg (I + 1 - (d + 1))
              case measure => omega
              case rel => exact ⟨d + 1, _, by omega, by omega, by omega, rfl, HRN.out, HON.out⟩
            · have hBA : ¬ B = A := fun h => hAB h.symm
              go_wp2_with fail
              go_roundg (I + 1 - (d + 1))
              case measure => omega
              case rel => exact ⟨d + 1, _, by omega, by omega, by omega, rfl, HRN.out, HON.out⟩
          · have HRN := Lib.hid (hrb.out.none (by rw [hKe, HGD.out]; exact fun h => ho h.2))
            have ho2 : ¬ 2 ≤ op := by omega
            clear hc ho hKe
            go_wp2_with fail
            go_roundg (I + 1 - (d + 1))
            case measure => omega
            case rel => exact ⟨d + 1, _, by omega, by omega, by omega, rfl, HRN.out, hO.out⟩
        · have HRN := Lib.hid (hrb.out.none (by rw [hKe]; exact fun h => hc h.1))
          rw [decide_eq_false hc] at hq1
          clear hc hKe
          go_wp2_with fail
          go_roundg (I + 1 - (d + 1))
          case measure => omega
          case rel => exact ⟨d + 1, _, by omega, by omega, by omega, rfl, HRN.out, hO.out⟩
end Go.Proofs.YtnppjkekbdapkaaDoor
