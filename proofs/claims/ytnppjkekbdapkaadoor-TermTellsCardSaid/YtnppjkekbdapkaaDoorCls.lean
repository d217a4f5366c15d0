/-
  classes. (Printed by mkcls.py out of cls.head.)
-/
import Derived.Test.YtnppjkekbdapkaaDoorMpk
import Derived.Test.YtnppjkekbdapkaaDoorRsm
import Derived.Deep.CutBlock
set_option linter.unusedVariables false
namespace Go.Proofs.YtnppjkekbdapkaaDoor
open Go.RowKit

theorem ks_pre (l m : List Nd) : ∃ r s, ks (l ++ m) = ks l ++ r ∧ firsts (l ++ m) = firsts l ++ s := by
  induction m using snoc_ind with
  | h0 => exact ⟨[], [], by simp, by simp⟩
  | h1 m x ih =>
    obtain ⟨r, s, h1, h2⟩ := ih
    have e1 : ks (l ++ (m ++ [x])) = ks (l ++ m) ++ [normAt (firsts (l ++ m)) x] := by rw [← List.append_assoc]; unfold ks firsts; rw [thS_snoc]; rfl
    have e2 : ∃ z, firsts (l ++ (m ++ [x])) = firsts (l ++ m) ++ [z] := ⟨_, by rw [← List.append_assoc]; unfold firsts; rw [thS_snoc]; rfl⟩
    obtain ⟨z, e2⟩ := e2
    rw [e1, e2, h1, h2]
    exact ⟨_, _, List.append_assoc _ _ _, List.append_assoc _ _ _⟩
theorem firsts_take (l : List Nd) {k : Nat} (hk : k ≤ l.length) : firsts (l.take k) = (firsts l).take k := by
  obtain ⟨r, s, _, h2⟩ := ks_pre (l.take k) (l.drop k)
  rw [List.take_append_drop] at h2
  have : (firsts (l.take k)).length = k := by rw [firsts_len, List.length_take]; omega
  rw [h2, List.take_append_of_le_length (by omega)]
  exact (List.take_of_length_le (by omega)).symm
theorem cls_next {l : List Nd} {k : Nat} {x y : Nd} (hx : l[k]? = some x) (hy : normAt ((firsts l).take k) x = y) :
    ks (l.take (k + 1)) = ks (l.take k) ++ [y] ∧ cl l k = if y ∈ ks (l.take k) then (((ks (l.take k)).idxOf y : Nat) : Int) else (k : Int) := by
  have hl := (List.getElem?_eq_some_iff.1 hx).1
  have h1 : ks (l.take (k + 1)) = ks (l.take k) ++ [y] := by
    rw [List.take_add_one, hx]
    show ks (l.take k ++ [x]) = _
    unfold ks
    rw [thS_snoc]
    show ks (l.take k) ++ [normAt (firsts (l.take k)) x] = _
    rw [firsts_take l (by omega), hy]
    rfl
  refine ⟨h1, ?_⟩
  have h2 : (ks l)[k]? = some y := by rw [ks_eq hx, hy]
  rw [cl_ks h2]
  obtain ⟨r, s, h3, _⟩ := ks_pre (l.take (k + 1)) (l.drop (k + 1))
  rw [List.take_append_drop, h1, List.append_assoc] at h3
  rw [h3, List.idxOf_append]
  by_cases hm : y ∈ ks (l.take k)
  · rw [if_pos hm, if_pos hm]
  · rw [if_neg hm, if_neg hm]
    have hlen : (ks (l.take k)).length = k := by rw [ks_len, List.length_take]; omega
    rw [hlen]
    simp
theorem seen_old {ks : List Nd} {y : Nd} (h : y ∈ ks) : seenOf (ks ++ [y]) = seenOf ks := by
  funext z
  unfold seenOf
  by_cases hz : z ∈ ks
  · rw [if_pos hz, if_pos (by simp [hz]), List.idxOf_append, if_pos hz]
  · rw [if_neg hz, if_neg (by simp [hz]; rintro rfl; exact hz h)]
theorem seen_new {ks : List Nd} {y : Nd} (h : ¬ y ∈ ks) : seenOf (ks ++ [y]) = fun z => if z = y then some ((ks.length : Nat) : Int) else seenOf ks z := by
  funext z
  unfold seenOf
  by_cases hz : z ∈ ks
  · rw [if_pos hz, if_pos (by simp [hz]), List.idxOf_append, if_pos hz, if_neg (by rintro rfl; exact h hz)]
  · by_cases hzy : z = y
    · subst hzy
      rw [if_pos (by simp), if_pos rfl, List.idxOf_append, if_neg hz]
      simp
    · rw [if_neg (by simp [hz, hzy]), if_neg hzy, if_neg hz]
theorem make_map (t : TypeId) (w : World) : (Instr.makeMap t none).run Tryd.prog w = .ok (.map (some w.heap.size)) (w.alloc (.map #[] 0)) := by simp [Instr.makeMap]
theorem makeN (n : Nat) (w : World) (hn : n ≤ 1000000) : (Instr.makeSlice 32 (.int .i64 (n : Int)) (.int .i64 (n : Int))).run Tryd.prog w = .ok (.slice (some ⟨w.heap.size, 0, none⟩) n n) (w.alloc (.cells (madeCells #[.int .i64 0] n) 3)) :=
  run_make_row' (P := Tryd.prog) 32 3 (.int .i64 0) 8 Tryd.underlying32 (by kernel_rfl) rfl .i64 .i64 n (by omega) (by omega) w
/-- Behind k places: the map of the normal forms, the classes. -/
structure Cs (w : World) (G g : Nat) (l : List Nd) (k n : Nat) (wr : World) : Prop where
  seen : NM wr G n (seenOf (ks (l.take k)))
  row : ∃ cur : Array Value, wr.heap[g]? = some (.cells cur 3 (0, 0)) ∧ cur.size = l.length ∧ ∀ j, j < k → cur[j]? = some (.int .i64 (cl l j))
  nG : w.heap.size ≤ G
  ng : w.heap.size ≤ g
  le : n ≤ k
  only : Only (fun _ => False) w wr
theorem Cs.keep {w wr W : World} {G g k n : Nat} {l : List Nd} (h : Cs w G g l k n wr) (o : Only (fun _ => False) wr W) : Cs w G g l k n W := by
  obtain ⟨cur, h1, h2, h3⟩ := h.row
  exact ⟨h.seen.keep o (fun x => x), ⟨cur, keepRow o h1 (fun x => x), h2, h3⟩, h.nG, h.ng, h.le, h.only.trans o⟩
theorem Cs.cell {w wr : World} {G g k n : Nat} {l : List Nd} (h : Cs w G g l k n wr) {j : Nat} (hj : j < k) : wr.cell? ⟨g, j, none⟩ = some (.int .i64 (cl l j)) := by
  obtain ⟨cur, h1, h2, h3⟩ := h.row
  rw [cell_of_row _ _ _ _ _ _ h1]
  exact h3 j hj
theorem Cs.lt {w wr : World} {G g k n : Nat} {l : List Nd} (h : Cs w G g l k n wr) : g < wr.heap.size ∧ G < wr.heap.size := by
  obtain ⟨cur, h1, _⟩ := h.row
  obtain ⟨es, clock, h2⟩ := h.seen.row
  exact ⟨(Array.getElem?_eq_some_iff.1 h1).1, (Array.getElem?_eq_some_iff.1 h2).1⟩
/-- Behind the look-up: the map with y, the classes as they were. -/
structure Ct (w : World) (G g : Nat) (l : List Nd) (k n : Nat) (wr : World) : Prop where
  seen : NM wr G n (seenOf (ks (l.take (k + 1))))
  row : ∃ cur : Array Value, wr.heap[g]? = some (.cells cur 3 (0, 0)) ∧ cur.size = l.length ∧ ∀ j, j < k → cur[j]? = some (.int .i64 (cl l j))
  nG : w.heap.size ≤ G
  ng : w.heap.size ≤ g
  le : n ≤ k + 1
  only : Only (fun _ => False) w wr
theorem Ct.room {w wr : World} {G g k n : Nat} {l : List Nd} (h : Ct w G g l k n wr) (hk : k < l.length) : ∃ u, wr.cell? ⟨g, k, none⟩ = some u ∧ wr.frozen? ⟨g, k, none⟩ = false := by
  obtain ⟨cur, h1, h2, h3⟩ := h.row
  exact ⟨cur[k], by rw [cell_of_row _ _ _ _ _ _ h1]; exact Array.getElem?_eq_getElem (by omega), frozen_of_row _ _ _ _ _ h1⟩
theorem Ct.put {w wr : World} {G g k n : Nat} {l : List Nd} {z : Int} (h : Ct w G g l k n wr) (hk : k < l.length) (hz : cl l k = z) : Cs w G g l (k + 1) n (wr.setCell ⟨g, k, none⟩ (.int .i64 z)) := by
  obtain ⟨cur, h1, h2, h3⟩ := h.row
  have ho : Only (fun j => j = g) wr (wr.setCell ⟨g, k, none⟩ (.int .i64 z)) := (Only.refl (fun j => j = g) wr).setCell rfl _
  obtain ⟨es, clock, hG⟩ := h.seen.row
  have hne : ¬ G = g := by
    rintro rfl
    rw [h1] at hG
    cases hG
  refine ⟨h.seen.keep ho hne, ⟨_, heap_setCell_same _ _ _ _ _ _ h1, by rw [Array.size_setIfInBounds]; exact h2, fun j hj => ?_⟩, h.nG, h.ng, h.le, fresh_only h.only ho (fun j hj => by have := h.ng; omega)⟩
  by_cases hjk : j = k
  · subst hjk
    rw [Array.getElem?_setIfInBounds_self_of_lt (by omega), hz]
  · rw [Array.getElem?_setIfInBounds_ne (by omega)]
    exact h3 j (by omega)
theorem cs_old {w wr Z : World} {G g k n : Nat} {l : List Nd} {x y : Nd} (h : Cs w G g l k n wr) (oZ : Only (fun _ => False) wr Z) (hx : l[k]? = some x) (hy : normAt ((firsts l).take k) x = y) (hm : y ∈ ks (l.take k)) : Ct w G g l k n Z := by
  have h' := h.keep oZ
  exact ⟨by rw [(cls_next hx hy).1, seen_old hm]; exact h'.seen, h'.row, h.nG, h.ng, by have := h.le; omega, h'.only⟩
theorem cs_new {w wr Z Z2 : World} {G g k n : Nat} {l : List Nd} {x y : Nd} (h : Cs w G g l k n wr) (oZ : Only (fun _ => False) wr Z) (hx : l[k]? = some x) (hy : normAt ((firsts l).take k) x = y) (hm : ¬ y ∈ ks (l.take k))
    (ho : Only (fun j => j = G) Z Z2) (hn : NM Z2 G (n + 1) (fun z => if z = y then some (k : Int) else seenOf (ks (l.take k)) z)) : Ct w G g l k (n + 1) Z2 := by
  have h' := h.keep oZ
  have hl := (List.getElem?_eq_some_iff.1 hx).1
  have hlen : (ks (l.take k)).length = k := by rw [ks_len, List.length_take]; omega
  obtain ⟨cur, h1, h2, h3⟩ := h'.row
  obtain ⟨es, clock, hG⟩ := h'.seen.row
  have hne : ¬ g = G := by
    rintro rfl
    rw [h1] at hG
    cases hG
  exact ⟨by rw [(cls_next hx hy).1, seen_new hm, hlen]; exact hn, ⟨cur, keepRow ho h1 hne, h2, h3⟩, h.nG, h.ng, by have := h.le; omega, fresh_only h'.only ho (fun j hj => by have := h.nG; omega)⟩

set_option maxHeartbeats 8000000 in
theorem classes_any (l : List Nd) (v : Value) (w : World) (hl : NL w v l) (hm : mayB l = true) (hwf : ∀ x ∈ l, x.Wf) : Calls Tryd.prog 26 #[v] w fun e w' => ∃ v', e = .returned v' ∧ IL w' v' (firsts l) ∧ Only (fun _ => False) w w' := by
  have HL := Lib.hid hl
  have HMB := Lib.hid hm
  have HWF := Lib.hid hwf
  obtain ⟨ad, cap, rfl, hrow⟩ := hl
  clear hrow hwf
  have hlen : l.length ≤ 200 := by
    have := hm
    simp [mayB] at this
    exact this.2
  clear hm
  have M1 := Lib.hid (make_map 59 w)
  have m1 := M1.out
  have HO0 : Hid (Only (fun _ => False) w (w.alloc (.map #[] 0))) := (Only.refl _ _).alloc _
  have HN0 : Hid (NM (w.alloc (.map #[] 0)) w.heap.size 0 (fun _ => none)) := NM.new w
  have m2 := makeN l.length (w.alloc (.map #[] 0)) (by omega)
  go_enter Tryd.func26, Tryd.ntmps26
  go_wp2_with fail
  have HS0 : Hid (Cs w w.heap.size (w.alloc (.map #[] 0)).heap.size l 0 0 ((w.alloc (.map #[] 0)).alloc (.cells (madeCells #[.int .i64 0] l.length) 3))) := by
    have o2 : Only (fun _ => False) (w.alloc (.map #[] 0)) ((w.alloc (.map #[] 0)).alloc (.cells (madeCells #[.int .i64 0] l.length) 3)) := (Only.refl _ _).alloc _
    exact ⟨HN0.out.keep o2 (fun x => x), ⟨_, heap_alloc_new _ _, by simp [madeCells], fun j hj => absurd hj (Nat.not_lt_zero j)⟩, Nat.le_refl _, HO0.out.size, Nat.le_refl _, HO0.out.trans o2⟩
  have hsz : (w.alloc (.map #[] 0)).heap.size = w.heap.size + 1 := by simp
  rw [hsz] at HS0
  obtain ⟨V0, hV0⟩ : ∃ V, V = (w.alloc (.map #[] 0)).alloc (.cells (madeCells #[.int .i64 0] l.length) 3) := ⟨_, rfl⟩
  rw [← hV0] at HS0 ⊢
  clear m1 m2 M1 HO0 HN0 hsz hV0
  go_loopg [15] l.length (fun gg i wr => ∃ (k n : Nat), k ≤ l.length ∧ gg = l.length - k ∧ i = .int .i64 k ∧ Hid (Cs w w.heap.size (w.heap.size + 1) l k n wr))
  case atStart => exact ⟨0, 0, by omega, by omega, rfl, HS0.out⟩
  case round =>
    clear HS0
    revert wr
    intro wa hrel
    obtain ⟨k, n, hk, hgk, rfl, hS⟩ := hrel
    by_cases hlt : k < l.length
    · have hlt' : (k : Int) < (l.length : Int) := by omega
      obtain ⟨gb, go, gc, he, hgc, _, _, _, _, hld⟩ := (HL.out.keep hS.out.only).at hlt
      cases he
      have HX : Hid (l[k]? = some l[k]) := List.getElem?_eq_getElem hlt
      have HXW : Hid (l[k].Wf) := HWF.out _ (List.getElem_mem hlt)
      generalize l[k] = x at *
      obtain ⟨op, a, b⟩ := x
      have HLD2 : Hid ((loadVar 27 ⟨gb, go + k * 3, none⟩).run Tryd.prog wa = .ok (.agg #[.int .i64 op, .int .i64 a, .int .i64 b]) wa) := hld
      clear hld
      go_upto_region 6 with (((with_reducible refine wpList_load_at ?_ 27 (.tmp 18) ?_ _ ?_ _ HLD2.out ?_); rfl; rfl; rfl))
      obtain ⟨X, hX⟩ : ∃ X, X = wa.alloc (.cells #[.int .i64 op, .int .i64 a, .int .i64 b] 27) := ⟨_, rfl⟩
      have hO1 : Only (fun _ => False) wa X := by rw [hX]; exact (Only.refl _ _).alloc _
      have hg1 : X.heap[wa.heap.size]? = some (.cells #[.int .i64 op, .int .i64 a, .int .i64 b] 27 (0, 0)) := by rw [hX]; exact heap_alloc_new _ _
      rw [← hX]
      have HO1 := Lib.hid hO1
      have HG1 := Lib.hid hg1
      have HLX := Lib.hid (load34 hg1)
      have HMD := Lib.hid (made_any ⟨op, a, b⟩ X)
      clear hX hO1 hg1 HLD2
      by_cases ho : op = 2 ∨ op = 3
      · obtain ⟨⟨a0, ak⟩, b0', bk⟩ := may_made HMB.out HX.out ho
        dsimp only at a0 ak b0' bk
        obtain ⟨A, rfl⟩ := Int.eq_ofNat_of_zero_le a0
        obtain ⟨B, rfl⟩ := Int.eq_ofNat_of_zero_le b0'
        have hA : A < k := by omega
        have hB : B < k := by omega
        have hAl : (A : Int) < (l.length : Int) := by omega
        have hBl : (B : Int) < (l.length : Int) := by omega
        have HMD2 : Hid (Calls Tryd.prog 22 #[.agg #[.int .i64 op, .int .i64 (A : Int), .int .i64 (B : Int)]] X fun e w' => e = .returned (.bool true) ∧ Below X.heap.size X w') := by
          have := HMD.out
          rw [show decide ((⟨op, (A : Int), (B : Int)⟩ : Nd).op = 2 ∨ (⟨op, (A : Int), (B : Int)⟩ : Nd).op = 3) = true from decide_eq_true ho] at this
          exact this
        clear HMD
        go_upto_region 7 with (first | ((with_reducible refine wpList_load_at ?_ 27 (.tmp 6) ?_ _ ?_ _ HLX.out ?_); rfl; rfl; rfl) | (go_at_call 22; (with_reducible refine HMD2.out.mono ?_); rintro e w3 ⟨rfl, k3⟩))
        have HO3 := Lib.hid (Only.of_below k3 : Only (fun _ => False) X w3)
        have HG3 : Hid (w3.heap[wa.heap.size]? = some (.cells #[.int .i64 op, .int .i64 (A : Int), .int .i64 (B : Int)] 27 (0, 0))) := keepRow HO3.out HG1.out (fun x => x)
        have hcs3 := hS.out.keep (HO1.out.trans HO3.out)
        have q2 := hcs3.cell hA
        have q3 := hcs3.cell hB
        obtain ⟨fA, hfA⟩ : ∃ y, cl l A = y := ⟨_, rfl⟩
        obtain ⟨fB, hfB⟩ : ∃ y, cl l B = y := ⟨_, rfl⟩
        rw [hfA] at q2
        rw [hfB] at q3
        have q4 : w3.cell? ⟨wa.heap.size, 1, none⟩ = some (.int .i64 (A : Int)) := cell_of_row _ _ _ _ _ _ HG3.out
        have q5 : w3.cell? ⟨wa.heap.size, 2, none⟩ = some (.int .i64 (B : Int)) := cell_of_row _ _ _ _ _ _ HG3.out
        have q6 : w3.frozen? ⟨wa.heap.size, 1, none⟩ = false := frozen_of_row _ _ _ _ _ HG3.out
        have q7 : w3.frozen? ⟨wa.heap.size, 2, none⟩ = false := frozen_of_row _ _ _ _ _ HG3.out
        have hglt := hS.out.lt
        have n1 : ¬ w.heap.size + 1 = wa.heap.size := by omega
        have n3 : ¬ wa.heap.size = w.heap.size + 1 := by omega
        clear k3 HMD2 HLX hcs3 hglt
        go_region
        obtain ⟨Y, hY⟩ : ∃ Y, Y = (w3.setCell ⟨wa.heap.size, 1, none⟩ (.int .i64 fA)).setCell ⟨wa.heap.size, 2, none⟩ (.int .i64 fB) := ⟨_, rfl⟩
        have gY : Y.heap[wa.heap.size]? = some (.cells #[.int .i64 op, .int .i64 fA, .int .i64 fB] 27 (0, 0)) := by
          rw [hY]
          exact heap_setCell_same _ _ _ _ _ _ (heap_setCell_same _ _ _ _ _ _ HG3.out)
        have oY : Only (fun _ => False) wa Y := by
          rw [hY]
          exact fresh_only (HO1.out.trans HO3.out) (((Only.refl (fun k => k = wa.heap.size) w3).setCell rfl _).setCell rfl _) (fun k hk => by omega)
        rw [← hY]
        clear hY q2 q3 q4 q5 q6 q7
        obtain ⟨Z, hZ⟩ : ∃ Z, Z = World.drew Y := ⟨_, rfl⟩
        have gZ : Z.heap[wa.heap.size]? = some (.cells #[.int .i64 op, .int .i64 fA, .int .i64 fB] 27 (0, 0)) := by rw [hZ]; exact gY
        have oZ : Only (fun _ => False) wa Z := by rw [hZ]; exact oY.drew
        rw [← hZ]
        clear hZ gY oY HG1 HO1 HG3 HO3
        have HY : Hid (normAt ((firsts l).take k) ⟨op, (A : Int), (B : Int)⟩ = ⟨op, fA, fB⟩) := by
          show normAt _ _ = _
          unfold normAt
          rw [if_pos ho]
          show (⟨op, ((firsts l).take k).getD A 0, ((firsts l).take k).getD B 0⟩ : Nd) = _
          rw [getD_take hA, getD_take hB, ← hfA, ← hfB]
          rfl
        have wy : (⟨op, fA, fB⟩ : Nd).Wf := by
          have h1 := cl_lt (show A < l.length by omega)
          have h2 := cl_lt (show B < l.length by omega)
          rw [hfA] at h1
          rw [hfB] at h2
          exact ⟨by show wf64 op; rw [wf64_iff]; omega, by show wf64 fA; rw [wf64_iff]; omega, by show wf64 fB; rw [wf64_iff]; omega⟩
        clear hfA hfB
        have hlk := (hS.out.seen.keep oZ (fun x => x)).lookOk wy
        have HLZ := Lib.hid (load34 gZ)
        have hcn := (cls_next HX.out HY.out).2
        by_cases hmem : (⟨op, fA, fB⟩ : Nd) ∈ ks (l.take k)
        · have hs : seenOf (ks (l.take k)) ⟨op, fA, fB⟩ = some (((ks (l.take k)).idxOf ⟨op, fA, fB⟩ : Nat) : Int) := if_pos hmem
          rw [hs] at hlk
          rw [if_pos hmem] at hcn
          obtain ⟨d, hd⟩ : ∃ d : Nat, (ks (l.take k)).idxOf ⟨op, fA, fB⟩ = d := ⟨_, rfl⟩
          rw [hd] at hlk hcn
          have hlk2 : (Instr.lookup 59 (.map (some w.heap.size)) (.agg #[.int .i64 op, .int .i64 fA, .int .i64 fB]) true).run Tryd.prog Z = .ok (.tuple #[.int .i64 (d : Int), .bool true]) Z := hlk
          have HCT := Lib.hid (cs_old hS.out oZ HX.out HY.out hmem)
          have HCN := Lib.hid hcn
          obtain ⟨u5, q5, q6⟩ := HCT.out.room hlt
          clear hlk hs hd hcn oZ gZ
          go_wp2_with (((with_reducible refine wpList_load_at ?_ 27 (.tmp 6) ?_ _ ?_ _ HLZ.out ?_); rfl; rfl; rfl))
          have HN := Lib.hid (HCT.out.put hlt HCN.out)
          clear hlk2 q5 q6
          go_roundg (l.length - (k + 1))
          case measure => omega
          case rel => exact ⟨k + 1, n, by omega, by omega, by go_num, HN.out⟩
        · have hs : seenOf (ks (l.take k)) ⟨op, fA, fB⟩ = none := if_neg hmem
          rw [hs] at hlk
          rw [if_neg hmem] at hcn
          have hlk2 : (Instr.lookup 59 (.map (some w.heap.size)) (.agg #[.int .i64 op, .int .i64 fA, .int .i64 fB]) true).run Tryd.prog Z = .ok (.tuple #[.int .i64 0, .bool false]) Z := hlk
          obtain ⟨Z2, hrun, hnm, ho2⟩ := (hS.out.seen.keep oZ (fun x => x)).put (by have := hS.out.le; unfold maxLen; omega) wy (v := (k : Int)) (by rw [wf64_iff]; omega)
          have hrun2 : (Instr.mapUpdate 59 (.map (some w.heap.size)) (.agg #[.int .i64 op, .int .i64 fA, .int .i64 fB]) (.int .i64 (k : Int))).run Tryd.prog Z = .ok () Z2 := hrun
          have HCT := Lib.hid (cs_new hS.out oZ HX.out HY.out hmem ho2 hnm)
          have HCN := Lib.hid hcn
          obtain ⟨u5, q5, q6⟩ := HCT.out.room hlt
          clear hlk hs hcn oZ gZ hrun hnm ho2
          go_wp2_with (((with_reducible refine wpList_load_at ?_ 27 (.tmp 6) ?_ _ ?_ _ HLZ.out ?_); rfl; rfl; rfl))
          have HN := Lib.hid (HCT.out.put hlt HCN.out)
          clear hlk2 hrun2 q5 q6
          go_roundg (l.length - (k + 1))
          case measure => omega
          case rel => exact ⟨k + 1, n + 1, by omega, by omega, by go_num, HN.out⟩
      · have HMD2 : Hid (Calls Tryd.prog 22 #[.agg #[.int .i64 op, .int .i64 a, .int .i64 b]] X fun e w' => e = .returned (.bool false) ∧ Below X.heap.size X w') := by
          have := HMD.out
          rw [show decide ((⟨op, a, b⟩ : Nd).op = 2 ∨ (⟨op, a, b⟩ : Nd).op = 3) = false from decide_eq_false ho] at this
          exact this
        have HY : Hid (normAt ((firsts l).take k) ⟨op, a, b⟩ = ⟨op, a, b⟩) := if_neg ho
        have wy := HXW.out
        clear HMD ho
        go_upto_region 8 with (first | ((with_reducible refine wpList_load_at ?_ 27 (.tmp 6) ?_ _ ?_ _ HLX.out ?_); rfl; rfl; rfl) | (go_at_call 22; (with_reducible refine HMD2.out.mono ?_); rintro e w3 ⟨rfl, k3⟩))
        have oX3 : Only (fun _ => False) X w3 := Only.of_below k3
        have oZ := HO1.out.trans oX3
        have gZ : w3.heap[wa.heap.size]? = some (.cells #[.int .i64 op, .int .i64 a, .int .i64 b] 27 (0, 0)) := keepRow oX3 HG1.out (fun x => x)
        clear k3 oX3 HMD2 HLX HG1 HO1
        obtain ⟨Z, hZ⟩ : ∃ Z, Z = w3 := ⟨_, rfl⟩
        rw [← hZ] at oZ gZ ⊢
        clear hZ
        have hlk := (hS.out.seen.keep oZ (fun x => x)).lookOk wy
        have HLZ := Lib.hid (load34 gZ)
        have hcn := (cls_next HX.out HY.out).2
        by_cases hmem : (⟨op, a, b⟩ : Nd) ∈ ks (l.take k)
        · have hs : seenOf (ks (l.take k)) ⟨op, a, b⟩ = some (((ks (l.take k)).idxOf ⟨op, a, b⟩ : Nat) : Int) := if_pos hmem
          rw [hs] at hlk
          rw [if_pos hmem] at hcn
          obtain ⟨d, hd⟩ : ∃ d : Nat, (ks (l.take k)).idxOf ⟨op, a, b⟩ = d := ⟨_, rfl⟩
          rw [hd] at hlk hcn
          have hlk2 : (Instr.lookup 59 (.map (some w.heap.size)) (.agg #[.int .i64 op, .int .i64 a, .int .i64 b]) true).run Tryd.prog Z = .ok (.tuple #[.int .i64 (d : Int), .bool true]) Z := hlk
          have HCT := Lib.hid (cs_old hS.out oZ HX.out HY.out hmem)
          have HCN := Lib.hid hcn
          obtain ⟨u5, q5, q6⟩ := HCT.out.room hlt
          clear hlk hs hd hcn oZ gZ
          go_wp2_with (((with_reducible refine wpList_load_at ?_ 27 (.tmp 6) ?_ _ ?_ _ HLZ.out ?_); rfl; rfl; rfl))
          have HN := Lib.hid (HCT.out.put hlt HCN.out)
          clear hlk2 q5 q6
          go_roundg (l.length - (k + 1))
          case measure => omega
          case rel => exact ⟨k + 1, n, by omega, by omega, by go_num, HN.out⟩
        · have hs : seenOf (ks (l.take k)) ⟨op, a, b⟩ = none := if_neg hmem
          rw [hs] at hlk
          rw [if_neg hmem] at hcn
          have hlk2 : (Instr.lookup 59 (.map (some w.heap.size)) (.agg #[.int .i64 op, .int .i64 a, .int .i64 b]) true).run Tryd.prog Z = .ok (.tuple #[.int .i64 0, .bool false]) Z := hlk
          obtain ⟨Z2, hrun, hnm, ho2⟩ := (hS.out.seen.keep oZ (fun x => x)).put (by have := hS.out.le; unfold maxLen; omega) wy (v := (k : Int)) (by rw [wf64_iff]; omega)
          have hrun2 : (Instr.mapUpdate 59 (.map (some w.heap.size)) (.agg #[.int .i64 op, .int .i64 a, .int .i64 b]) (.int .i64 (k : Int))).run Tryd.prog Z = .ok () Z2 := hrun
          have HCT := Lib.hid (cs_new hS.out oZ HX.out HY.out hmem ho2 hnm)
          have HCN := Lib.hid hcn
          obtain ⟨u5, q5, q6⟩ := HCT.out.room hlt
          clear hlk hs hcn oZ gZ hrun hnm ho2
          go_wp2_with (((with_reducible refine wpList_load_at ?_ 27 (.tmp 6) ?_ _ ?_ _ HLZ.out ?_); rfl; rfl; rfl))
          have HN := Lib.hid (HCT.out.put hlt HCN.out)
          clear hlk2 hrun2 q5 q6
          go_roundg (l.length - (k + 1))
          case measure => omega
          case rel => exact ⟨k + 1, n + 1, by omega, by omega, by go_num, HN.out⟩
    · obtain rfl : k = l.length := by omega
      have HIL : Hid (IL wa (.slice (some ⟨w.heap.size + 1, 0, none⟩) l.length l.length) (firsts l)) := by
        obtain ⟨cur, h1, h2, h3⟩ := hS.out.row
        have := IL.of_row (l := firsts l) (cap := l.length) h1 (by rw [firsts_len]; omega) (by unfold maxLen; omega) (fun i u hu => by
          rw [List.getElem?_map] at hu
          obtain ⟨z, hz, rfl⟩ := Option.map_eq_some_iff.1 hu
          have hi : i < l.length := by
            have := (List.getElem?_eq_some_iff.1 hz).1
            rw [firsts_len] at this
            exact this
          rw [h3 i hi, cl_of hz])
        rw [firsts_len] at this
        exact this
      have HO := Lib.hid hS.out.only
      go_wp2_with fail
      go_ret
      exact ⟨_, rfl, HIL.out, HO.out⟩
end Go.Proofs.YtnppjkekbdapkaaDoor
