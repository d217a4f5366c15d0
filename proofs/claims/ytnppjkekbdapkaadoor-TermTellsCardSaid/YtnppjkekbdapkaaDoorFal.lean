/-
  falling: what it hands back; its rounds.
-/
import Derived.RangeFuncNested
import Derived.RangeFuncBound
import Derived.RangeFuncCalls
import Derived.RangeFuncLeaves
import Derived.RangeFuncBox
import Derived.Shelf.Abstract
import Derived.Shelf.RegionOpen
import Derived.WalkKit
import Derived.OwnWalkIn
import Derived.TacticsInMore
import Derived.LoopNIn
import Derived.LoopIn
import Derived.Test.YtnppjkekbdapkaaDoorPrt
import Derived.Test.YtnppjkekbdapkaaDoorRsm
set_option linter.unusedVariables false
namespace Go.Proofs.YtnppjkekbdapkaaDoor
open Go.RowKit

attribute [local go_sem] Oper.semAt_some

theorem wpListIn_load_at {F : Fence} {n : Nat} {P : Program} {ops : Array Oper} {rest : List Oper} {o : Oper} {a : Act} {w : World} {Q : Exit → Act → World → Prop} (hgd : o.guard = none) (ty : TypeId) (x : Operand) (ho : o.op = .load ty x) (ad : Addr) (hx : a.eval x = .pointer (some ad)) (v : Value)
    (hrun : (loadVar ty ad).run P w = .ok v w) (h : wpListIn F n P ops Q rest (a.put o.dst v) w) : wpListIn F n P ops Q (o :: rest) a w := by
  refine wpListIn_plain hgd fun K hK => ?_
  unfold Oper.wpIn
  refine ⟨?_, ?_⟩
  · simp [Oper.about, ho]
  · rw [Oper.semAt_plain F _ _ (by rw [ho]; intro c hc'; cases hc')]
    unfold execOp
    simp only [ho, hx, Instr.loadAt, Instr.sureAddr, Sem.run_bind, Sem.run_pure, Result.andThen_ok, hrun]
    exact hK _ _ h
/-- falling hands back a function that has caught its list and its place. -/
theorem falling_any (ad : Option Addr) (len cap : Nat) (i : Int) (w : World) : Calls Tryd.prog 27 #[.slice ad len cap, .int .i64 i] w fun e w' => e = .returned (.func (.func 36) #[] #[.pointer (some ⟨w.heap.size + 1, 0, none⟩), .pointer (some ⟨w.heap.size, 0, none⟩)]) ∧ w' = (w.alloc (.cells #[.slice ad len cap] 22)).alloc (.cells #[.int .i64 i] 3) := by
  have hmf : ∀ (fn : Fn) (first cap : Array Value) (w : World), (Instr.makeFunc fn first cap).run Tryd.prog w = .ok (.func fn first cap) w := by intro fn first cap w; simp [go_sem, Instr.makeFunc]
  go_enter Tryd.func27, Tryd.ntmps27
  go_wp2_with fail
  go_ret
  exact ⟨rfl, rfl⟩
/-- The counts behind d places, in a row. -/
def Row (l : List Nd) (I0 d g : Nat) (W : World) : Prop := ∃ cur : Array Value, W.heap[g]? = some (.cells cur 3 (0, 0)) ∧ cur.size = I0 + 1 ∧ ∀ z, z < I0 + 1 → cur[z]? = some (.int .i64 (inC l I0 d z : Int))
theorem Row.cell {l : List Nd} {I0 d g : Nat} {W : World} (h : Row l I0 d g W) {z : Nat} (hz : z < I0 + 1) : W.cell? ⟨g, z, none⟩ = some (.int .i64 (inC l I0 d z : Int)) ∧ W.frozen? ⟨g, z, none⟩ = false := by
  obtain ⟨cur, h1, h2, h3⟩ := h
  exact ⟨(cell_of_row _ _ _ _ _ _ h1).trans (h3 z hz), frozen_of_row _ _ _ _ _ h1⟩
theorem makeS1 (n : Nat) (w : World) (hn : n ≤ 1000000) : (Instr.makeSlice 32 (.int .i64 ((n : Int) + 1)) (.int .i64 ((n : Int) + 1))).run Tryd.prog w = .ok (.slice (some ⟨w.heap.size, 0, none⟩) (n + 1) (n + 1)) (w.alloc (.cells (madeCells #[.int .i64 0] (n + 1)) 3)) :=
  run_make_row' (P := Tryd.prog) 32 3 (.int .i64 0) 8 Tryd.underlying32 (by kernel_rfl) rfl .i64 .i64 (n + 1) (by omega) (by omega) w
/-- The row at the start. -/
theorem row_start (l : List Nd) (I0 : Nat) (W : World) : Row l I0 0 W.heap.size ((W.alloc (.cells (madeCells #[.int .i64 0] (I0 + 1)) 3)).setCell ⟨W.heap.size, I0, none⟩ (.int .i64 1)) := by
  refine ⟨_, heap_setCell_same _ _ _ _ _ _ (heap_alloc_new _ _), by simp [madeCells], fun z hz => ?_⟩
  by_cases h : z = I0
  · subst h
    rw [Array.getElem?_setIfInBounds_self_of_lt (by simp [madeCells])]
    simp [inC]
  · rw [Array.getElem?_setIfInBounds_ne (by omega)]
    simp [inC, h, madeCells]
    exact ⟨z, Array.getElem?_eq_some_iff.2 ⟨by simpa using hz, by simp⟩, by simp [Nat.mod_one]⟩
/-- Two counts more, one behind the other. -/
theorem Row.two {l : List Nd} {I0 d g A B : Nat} {W : World} (h : Row l I0 d g W) (hx : (l.getD (I0 - d) nd0).op = 2 ∨ (l.getD (I0 - d) nd0).op = 3) (hA : (A : Int) = (l.getD (I0 - d) nd0).a) (hB : (B : Int) = (l.getD (I0 - d) nd0).b) (hin : 0 < inC l I0 d (I0 - d)) (hA1 : A < I0 + 1) (hB1 : B < I0 + 1) {u v : Int}
    (hu : u = inC l I0 d A + 1) (hv : v = inC l I0 d B + (if A = B then 1 else 0) + 1) : Row l I0 (d + 1) g ((W.setCell ⟨g, A, none⟩ (.int .i64 u)).setCell ⟨g, B, none⟩ (.int .i64 v)) := by
  obtain ⟨cur, h1, h2, h3⟩ := h
  refine ⟨_, heap_setCell_same _ _ _ _ _ _ (heap_setCell_same _ _ _ _ _ _ h1), by simp [h2], fun z hz => ?_⟩
  have e : inC l I0 (d + 1) z = inC l I0 d z + (if (z : Int) = (A : Int) then 1 else 0) + (if (z : Int) = (B : Int) then 1 else 0) := by
    show inStep l (inC l I0 d) (I0 - d) z = _
    unfold inStep
    rw [if_pos ⟨hin, hx⟩, hA, hB]
  rw [e]
  by_cases hzB : z = B
  · subst hzB
    rw [Array.getElem?_setIfInBounds_self_of_lt (by simp; omega), hv, if_pos rfl]
    by_cases hAz : A = z
    · subst hAz
      rw [if_pos rfl]
      simp
    · rw [if_neg hAz, if_neg (by omega)]
      simp
  · rw [Array.getElem?_setIfInBounds_ne (by omega), if_neg (by omega : ¬ (z : Int) = (B : Int))]
    by_cases hzA : z = A
    · subst hzA
      rw [Array.getElem?_setIfInBounds_self_of_lt (by omega), hu, if_pos rfl]
      simp
    · rw [Array.getElem?_setIfInBounds_ne (by omega), if_neg (by omega), h3 z hz]
      simp
theorem Row.none {l : List Nd} {I0 d g : Nat} {W : World} (h : Row l I0 d g W) (hx : ¬ (0 < inC l I0 d (I0 - d) ∧ ((l.getD (I0 - d) nd0).op = 2 ∨ (l.getD (I0 - d) nd0).op = 3))) : Row l I0 (d + 1) g W := by
  obtain ⟨cur, h1, h2, h3⟩ := h
  refine ⟨cur, h1, h2, fun z hz => ?_⟩
  rw [h3 z hz]
  have e : inC l I0 (d + 1) z = inC l I0 d z := by
    show inStep l (inC l I0 d) (I0 - d) z = _
    unfold inStep
    rw [if_neg hx]
  rw [e]
theorem Row.keep {l : List Nd} {I0 d g : Nat} {W V : World} (h : Row l I0 d g W) (hg : V.heap[g]? = W.heap[g]?) : Row l I0 d g V := by
  obtain ⟨cur, h1, r⟩ := h
  exact ⟨cur, hg.trans h1, r⟩
set_option maxRecDepth 100000 in
set_option maxHeartbeats 8000000 in
/-- The rounds of falling: for whatever invariant of the caller's that speaks of no block of its own. -/
theorem fall_in (l : List Nd) (I0 : Nat) (hm : mayB l = true) (hI : I0 < l.length) (ad : Option Addr) (cap : Nat) (ib lb : Nat) (D l_ : Nat) (J : List Int → World → Prop) (W1 : World) (hsz : W1.heap.size = D)
    (hst : ∀ pre W, J pre W → NL W (.slice ad l.length cap) l ∧ W.heap[ib]? = some (.cells #[.int .i64 (I0 : Int)] 3 (0, 0)) ∧ W.heap[lb]? = some (.cells #[.slice ad l.length cap] 22 (0, 0)))
    (hJ : ∀ pre A B, J pre A → Only (fun k => k = D) A B → J pre B)
    (hY : ∀ pre (x : Nat) W, J pre W → D + 1 ≤ W.heap.size → pre.length ≤ 1000 → x < l.length → YieldAt Fence.wide 2 Tryd.prog l_ #[.int .i64 (x : Int)] W fun e W' => e = .returned (.bool true) ∧ J (pre ++ [(x : Int)]) W' ∧ W'.heap[D]? = W.heap[D]? ∧ W.heap.size ≤ W'.heap.size)
    (h0 : J [] W1) :
    CallsIn Fence.wide 3 Tryd.prog 36 #[.func (.yield l_) #[] #[], .pointer (some ⟨ib, 0, none⟩), .pointer (some ⟨lb, 0, none⟩)] W1 fun e W' => (∃ v, e = .returned v) ∧ J (outD l I0 (I0 + 1)) W' := by
  have HST := Lib.hid hst
  have HJ := Lib.hid hJ
  have HYY := Lib.hid hY
  have HMB := Lib.hid hm
  have hlen : l.length ≤ 200 := by
    have := hm
    simp [mayB] at this
    exact this.2
  obtain ⟨_, i1, _⟩ := hst _ _ h0
  have hc1 := cell_of_row _ _ 0 _ _ _ i1
  have hmk := makeS1 I0 W1 (by omega)
  have HRS := row_start l I0 W1
  have HOS : Only (fun k => k = D) W1 ((W1.alloc (.cells (madeCells #[.int .i64 0] (I0 + 1)) 3)).setCell ⟨W1.heap.size, I0, none⟩ (.int .i64 1)) := ((Only.refl _ W1).alloc _).setCell hsz _
  rw [hsz] at HRS HOS hmk
  have hnw : (W1.alloc (.cells (madeCells #[.int .i64 0] (I0 + 1)) 3)).cell? ⟨D, I0, none⟩ = some (.int .i64 0) ∧ (W1.alloc (.cells (madeCells #[.int .i64 0] (I0 + 1)) 3)).frozen? ⟨D, I0, none⟩ = false ∧ (W1.alloc (.cells (madeCells #[.int .i64 0] (I0 + 1)) 3)).heap[ib]? = some (.cells #[.int .i64 (I0 : Int)] 3 (0, 0)) := by
    have hg : (W1.alloc (.cells (madeCells #[.int .i64 0] (I0 + 1)) 3)).heap[D]? = some (.cells (madeCells #[.int .i64 0] (I0 + 1)) 3 (0, 0)) := by rw [← hsz]; exact heap_alloc_new _ _
    refine ⟨?_, frozen_of_row _ _ _ _ _ hg, keepRow ((Only.refl (fun _ => False) W1).alloc _) i1 (fun x => x)⟩
    rw [cell_of_row _ _ _ _ _ _ hg]
    simp [madeCells, Nat.mod_one]
  obtain ⟨q1, q2, q3⟩ := hnw
  have q4 := cell_of_row _ _ 0 _ _ _ q3
  have hJ0 := hJ _ _ _ h0 HOS
  have HJ0 := Lib.hid hJ0
  have HR0 := Lib.hid HRS
  have HSZ0 : Hid (D + 1 ≤ ((W1.alloc (.cells (madeCells #[.int .i64 0] (I0 + 1)) 3)).setCell ⟨D, I0, none⟩ (.int .i64 1)).heap.size) := by
    show D + 1 ≤ _
    have : ((W1.alloc (.cells (madeCells #[.int .i64 0] (I0 + 1)) 3)).setCell ⟨D, I0, none⟩ (.int .i64 1)).heap.size = W1.heap.size + 1 := by simp
    omega
  obtain ⟨_, j1, _⟩ := hst _ _ hJ0
  have q5 := cell_of_row _ _ 0 _ _ _ j1
  generalize W1.alloc (.cells (madeCells #[.int .i64 0] (I0 + 1)) 3) = V1 at *
  clear HRS HOS hJ0 j1 i1 q3 h0 hst hJ hY hm
  refine callsIn_of_wp Tryd.func36 rfl trivial ?_ rfl
  simp only [Tryd.ntmps36, List.size_toArray, List.length_cons, List.length_nil, Nat.reduceAdd, Nat.reduceSub, Array.replicate_succ, Array.replicate_zero, List.push_toArray, List.append_toArray, List.nil_append, List.cons_append]
  gi_wp2
  gi_loopw [5] (fun p wr => ∃ (d : Nat) (z : Int), d ≤ I0 + 1 ∧ z = (I0 : Int) - (d : Int) ∧ p = .int .i64 z ∧ Hid (J (outD l I0 d) wr) ∧ Hid (Row l I0 d D wr) ∧ Hid (D + 1 ≤ wr.heap.size)) (fun p wr => (intOf p + 1).toNat)
  case atStart => exact ⟨0, (I0 : Int), by omega, by simp, rfl, HJ0.out, HR0.out, HSZ0.out⟩
  case round =>
    clear HJ0 HR0 HSZ0 q1 q2 q4 q5 hmk hc1
    revert wr
    intro wa hrel
    obtain ⟨d, z, hd, hz, rfl, hjj, hrow, hsw⟩ := hrel
    by_cases hd0 : d = I0 + 1
    · subst hd0
      have hzn : z < 0 := by omega
      have HJE := Lib.hid hjj.out
      gi_wp2
      go_end0
      exact ⟨⟨_, rfl⟩, HJE.out⟩
    · obtain ⟨K, hK⟩ : ∃ K, K + d = I0 := ⟨I0 - d, by omega⟩
      obtain rfl : z = (K : Int) := by omega
      clear hz
      have hKe : I0 - d = K := by omega
      have hKl : K < l.length := by omega
      have hKl' : (K : Int) < (l.length : Int) := by omega
      have hKI : (K : Int) < (I0 : Int) + 1 := by omega
      have hK0 : (0 : Int) ≤ (K : Int) := by omega
      obtain ⟨hq1, hq2⟩ := hrow.out.cell (show K < I0 + 1 by omega)
      have hIC := inC_le l I0 d K
      obtain ⟨c, hc⟩ : ∃ c, inC l I0 d K = c := ⟨_, rfl⟩
      rw [hc] at hq1 hIC
      have HLE : Hid ((outD l I0 d).length ≤ 1000) := by
        show _ ≤ _
        have : ∀ d, (outD l I0 d).length ≤ d := by
          intro d
          induction d with
          | zero => exact Nat.le_refl _
          | succ d ih => unfold outD; split; (rw [List.length_append, List.length_singleton]; omega); omega
        have := this d
        omega
      by_cases hc0 : c = 0
      · subst hc0
        have HOD : Hid (outD l I0 (d + 1) = outD l I0 d) := show _ = _ by
          rw [outD, hKe, if_neg (by omega)]
        have HR2 := Lib.hid (hrow.out.none (by rw [hKe]; omega))
        gi_wp2
        go_roundw
        case measure => simp [intOf]
        case rel => exact ⟨d + 1, _, by omega, by omega, rfl, by rw [HOD.out]; exact hjj.out, HR2.out, hsw.out⟩
      · have hcb : ((c : Int) == 0) = false := by rw [beq_eq_false_iff_ne]; omega
        have HOD : Hid (outD l I0 (d + 1) = outD l I0 d ++ [(K : Int)]) := show _ = _ by
          rw [outD, hKe, if_pos (by omega)]
        obtain ⟨s1, s2, s3⟩ := HST.out _ _ hjj.out
        have q7 := cell_of_row _ _ 0 _ _ _ s3
        obtain ⟨gb, go, gc, he, hgc, _, _, _, _, hld⟩ := s1.at hKl
        cases he
        have HX : Hid (l[K]? = some l[K]) := List.getElem?_eq_getElem hKl
        have HGD : Hid (l.getD K nd0 = l[K]) := show _ = _ by rw [List.getD_eq_getElem?_getD, HX.out]; rfl
        generalize l[K] = x at *
        obtain ⟨op, a, b⟩ := x
        have HLD : Hid ((loadVar 27 ⟨gb, go + K * 3, none⟩).run Tryd.prog wa = .ok (.agg #[.int .i64 op, .int .i64 a, .int .i64 b]) wa) := hld
        obtain ⟨X, hX⟩ : ∃ X, X = wa.alloc (.cells #[.int .i64 op, .int .i64 a, .int .i64 b] 27) := ⟨_, rfl⟩
        have hO1 : Only (fun _ => False) wa X := by rw [hX]; exact (Only.refl _ _).alloc _
        have hg1 : X.heap[wa.heap.size]? = some (.cells #[.int .i64 op, .int .i64 a, .int .i64 b] 27 (0, 0)) := by rw [hX]; exact heap_alloc_new _ _
        have HO1 := Lib.hid hO1
        have HG1 := Lib.hid hg1
        have HLX := Lib.hid (load34 hg1)
        have HMD := Lib.hid (made_any ⟨op, a, b⟩ X)
        have HXE := Lib.hid hX
        clear hld hO1 hg1 s1 s2 s3
        by_cases ho : op = 2 ∨ op = 3
        · obtain ⟨⟨a0, ak⟩, b0', bk⟩ := may_made HMB.out HX.out ho
          dsimp only at a0 ak b0' bk
          obtain ⟨A, rfl⟩ := Int.eq_ofNat_of_zero_le a0
          obtain ⟨B, rfl⟩ := Int.eq_ofNat_of_zero_le b0'
          have hA : (A : Int) < (I0 : Int) + 1 := by omega
          have hB : (B : Int) < (I0 : Int) + 1 := by omega
          have hIA := inC_le l I0 d A
          have hIB := inC_le l I0 d B
          obtain ⟨cA, hcA⟩ : ∃ c, inC l I0 d A = c := ⟨_, rfl⟩
          obtain ⟨cB, hcB⟩ : ∃ c, inC l I0 d B = c := ⟨_, rfl⟩
          rw [hcA] at hIA
          rw [hcB] at hIB
          have nD : ¬ D = wa.heap.size := by have := hsw.out; omega
          have nD' : ¬ wa.heap.size = D := fun h => nD h.symm
          have HMD2 : Hid (Calls Tryd.prog 22 #[.agg #[.int .i64 op, .int .i64 (A : Int), .int .i64 (B : Int)]] X fun e w' => e = .returned (.bool true) ∧ Below X.heap.size X w') := by
            have := HMD.out
            rw [show decide ((⟨op, (A : Int), (B : Int)⟩ : Nd).op = 2 ∨ (⟨op, (A : Int), (B : Int)⟩ : Nd).op = 3) = true from decide_eq_true ho] at this
            exact this
          have HMD2' := HMD2
          have HLX' := HLX
          rw [HXE.out] at HMD2' HLX'
          clear HMD
          by_cases hAB : A = B
          · obtain rfl : A = B := hAB
            gi_wp2_with (first | ((with_reducible refine wpListIn_load_at ?_ 27 (.tmp 28) ?_ _ ?_ _ HLD.out ?_); rfl; rfl; rfl) | ((with_reducible refine wpListIn_load_at ?_ 27 (.tmp 6) ?_ _ ?_ _ HLX'.out ?_); rfl; rfl; rfl) | (refine ⟨trivial, ?_⟩; gi_at_call 22; (with_reducible refine (callsIn_wide.2 HMD2'.out).mono ?_); rintro e w3 ⟨rfl, k3⟩; rw [← HXE.out] at k3; have o3 := HO1.out.trans (Only.of_below k3 : Only (fun _ => False) X w3); have hr3 := hrow.out.keep (o3.block D (by have := hsw.out; omega) (fun x => x)); obtain ⟨qa1, qa2⟩ := hr3.cell (show A < I0 + 1 by omega); obtain ⟨qb1, qb2⟩ := hr3.cell (show A < I0 + 1 by omega); rw [hcA] at qa1; rw [hcA] at qb1; have hg3 := keepRow (Only.of_below k3 : Only (fun _ => False) X w3) HG1.out (fun x => x); have qx1 := cell_of_row _ _ 1 _ _ _ hg3; have qx2 := cell_of_row _ _ 2 _ _ _ hg3; have HOV := Lib.hid (Only.setCell (p := ⟨D, A, none⟩) (Only.setCell (p := ⟨D, A, none⟩) (o3.mono (T := fun k => k = D) (fun _ x => x.elim)) rfl (.int .i64 ((cA : Int) + 1))) rfl (.int .i64 ((cA : Int) + 1 + 1))); have HJV := Lib.hid (HJ.out _ _ _ hjj.out HOV.out); have HRV : Hid (Row l I0 (d + 1) D ((w3.setCell ⟨D, A, none⟩ (.int .i64 ((cA : Int) + 1))).setCell ⟨D, A, none⟩ (.int .i64 ((cA : Int) + 1 + 1)))) := hr3.two (by rw [hKe, HGD.out]; exact ho) (by rw [hKe, HGD.out]) (by rw [hKe, HGD.out]) (by rw [hKe]; omega) (by omega) (by omega) (by rw [hcA]) (by rw [hcA, if_pos rfl]); have HSV : Hid (D + 1 ≤ (((w3.setCell ⟨D, A, none⟩ (.int .i64 ((cA : Int) + 1))).setCell ⟨D, A, none⟩ (.int .i64 ((cA : Int) + 1 + 1)))).heap.size) := Nat.le_trans hsw.out HOV.out.size; obtain ⟨fn, tmps, assign, body, hy, hR⟩ := HYY.out (outD l I0 d) K _ HJV.out HSV.out HLE.out hKl))
            refine hR.mono ?_
            rintro e W3 ⟨rfl, hJ3, hk3, hs3⟩
            have HJ3 := Lib.hid hJ3
            have HR3 := Lib.hid (HRV.out.keep hk3)
            have HS3 := Lib.hid (Nat.le_trans HSV.out hs3)
            clear hJ3 hk3 hs3
            gi_wp2
            go_roundw
            case measure => simp [intOf]
            case rel => exact ⟨d + 1, _, by omega, by omega, rfl, by rw [HOD.out]; exact HJ3.out, HR3.out, HS3.out⟩
          · have hBA : ¬ B = A := fun h => hAB h.symm
            gi_wp2_with (first | ((with_reducible refine wpListIn_load_at ?_ 27 (.tmp 28) ?_ _ ?_ _ HLD.out ?_); rfl; rfl; rfl) | ((with_reducible refine wpListIn_load_at ?_ 27 (.tmp 6) ?_ _ ?_ _ HLX'.out ?_); rfl; rfl; rfl) | (refine ⟨trivial, ?_⟩; gi_at_call 22; (with_reducible refine (callsIn_wide.2 HMD2'.out).mono ?_); rintro e w3 ⟨rfl, k3⟩; rw [← HXE.out] at k3; have o3 := HO1.out.trans (Only.of_below k3 : Only (fun _ => False) X w3); have hr3 := hrow.out.keep (o3.block D (by have := hsw.out; omega) (fun x => x)); obtain ⟨qa1, qa2⟩ := hr3.cell (show A < I0 + 1 by omega); obtain ⟨qb1, qb2⟩ := hr3.cell (show B < I0 + 1 by omega); rw [hcA] at qa1; rw [hcB] at qb1; have hg3 := keepRow (Only.of_below k3 : Only (fun _ => False) X w3) HG1.out (fun x => x); have qx1 := cell_of_row _ _ 1 _ _ _ hg3; have qx2 := cell_of_row _ _ 2 _ _ _ hg3; have HOV := Lib.hid (Only.setCell (p := ⟨D, B, none⟩) (Only.setCell (p := ⟨D, A, none⟩) (o3.mono (T := fun k => k = D) (fun _ x => x.elim)) rfl (.int .i64 ((cA : Int) + 1))) rfl (.int .i64 ((cB : Int) + 1))); have HJV := Lib.hid (HJ.out _ _ _ hjj.out HOV.out); have HRV : Hid (Row l I0 (d + 1) D ((w3.setCell ⟨D, A, none⟩ (.int .i64 ((cA : Int) + 1))).setCell ⟨D, B, none⟩ (.int .i64 ((cB : Int) + 1)))) := hr3.two (by rw [hKe, HGD.out]; exact ho) (by rw [hKe, HGD.out]) (by rw [hKe, HGD.out]) (by rw [hKe]; omega) (by omega) (by omega) (by rw [hcA]) (by rw [hcB, if_neg hAB]; omega); have HSV : Hid (D + 1 ≤ (((w3.setCell ⟨D, A, none⟩ (.int .i64 ((cA : Int) + 1))).setCell ⟨D, B, none⟩ (.int .i64 ((cB : Int) + 1)))).heap.size) := Nat.le_trans hsw.out HOV.out.size; obtain ⟨fn, tmps, assign, body, hy, hR⟩ := HYY.out (outD l I0 d) K _ HJV.out HSV.out HLE.out hKl))
            refine hR.mono ?_
            rintro e W3 ⟨rfl, hJ3, hk3, hs3⟩
            have HJ3 := Lib.hid hJ3
            have HR3 := Lib.hid (HRV.out.keep hk3)
            have HS3 := Lib.hid (Nat.le_trans HSV.out hs3)
            clear hJ3 hk3 hs3
            gi_wp2
            go_roundw
            case measure => simp [intOf]
            case rel => exact ⟨d + 1, _, by omega, by omega, rfl, by rw [HOD.out]; exact HJ3.out, HR3.out, HS3.out⟩
        · have HMD2 : Hid (Calls Tryd.prog 22 #[.agg #[.int .i64 op, .int .i64 a, .int .i64 b]] X fun e w' => e = .returned (.bool false) ∧ Below X.heap.size X w') := by
            have := HMD.out
            rw [show decide ((⟨op, a, b⟩ : Nd).op = 2 ∨ (⟨op, a, b⟩ : Nd).op = 3) = false from decide_eq_false ho] at this
            exact this
          have HMD2' := HMD2
          have HLX' := HLX
          rw [HXE.out] at HMD2' HLX'
          clear HMD
          gi_wp2_with (first | ((with_reducible refine wpListIn_load_at ?_ 27 (.tmp 28) ?_ _ ?_ _ HLD.out ?_); rfl; rfl; rfl) | ((with_reducible refine wpListIn_load_at ?_ 27 (.tmp 6) ?_ _ ?_ _ HLX'.out ?_); rfl; rfl; rfl) | (refine ⟨trivial, ?_⟩; gi_at_call 22; (with_reducible refine (callsIn_wide.2 HMD2'.out).mono ?_); rintro e w3 ⟨rfl, k3⟩; rw [← HXE.out] at k3; have o3 := HO1.out.trans (Only.of_below k3 : Only (fun _ => False) X w3); have hr3 := hrow.out.keep (o3.block D (by have := hsw.out; omega) (fun x => x)); have HOV : Hid (Only (fun k => k = D) wa w3) := o3.mono (fun _ x => x.elim); have HJV := Lib.hid (HJ.out _ _ _ hjj.out HOV.out); have HRV : Hid (Row l I0 (d + 1) D w3) := hr3.none (by rw [hKe, HGD.out]; exact fun h => ho h.2); have HSV : Hid (D + 1 ≤ w3.heap.size) := Nat.le_trans hsw.out HOV.out.size; obtain ⟨fn, tmps, assign, body, hy, hR⟩ := HYY.out (outD l I0 d) K _ HJV.out HSV.out HLE.out hKl))
          refine hR.mono ?_
          rintro e W3 ⟨rfl, hJ3, hk3, hs3⟩
          have HJ3 := Lib.hid hJ3
          have HR3 := Lib.hid (HRV.out.keep hk3)
          have HS3 := Lib.hid (Nat.le_trans HSV.out hs3)
          clear hJ3 hk3 hs3
          gi_wp2
          go_roundw
          case measure => simp [intOf]
          case rel => exact ⟨d + 1, _, by omega, by omega, rfl, by rw [HOD.out]; exact HJ3.out, HR3.out, HS3.out⟩
end Go.Proofs.YtnppjkekbdapkaaDoor
