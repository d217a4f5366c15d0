/-
  Size. (Printed by mksiz.py out of siz.head.)
-/
import Derived.Test.YtnppjkekbdapkaaDoorSzs
import Derived.Test.YtnppjkekbdapkaaDoorRsm
import Derived.Test.YtnppjkekbdapkaaDoorShelf
import Derived.Deep.CutBlock
import Derived.Lib.AppendIntMem
set_option linter.unusedVariables false
namespace Go.Proofs.YtnppjkekbdapkaaDoor
open Go.RowKit

def Pow10 (w : World) : Prop := Lib.TabIs Tryd.prog w "internal/strconv.uint64pow10" .u64 Lib.pow10Tab
theorem Pow10.keep {w w' : World} (h : Pow10 w) (o : Only (fun _ => False) w w') : Pow10 w' := Lib.tabBelow_of_tabIs h w' (o.below (fun _ x => x.elim))
theorem itoa_any (a : Int) (w : World) (ha : wf64 a) (h : Pow10 w) : Calls Tryd.prog 24 #[.int .i64 a] w fun e w' => ∃ s : ByteArray, e = .returned (.string s) ∧ s.size = (Lib.itoa a).length ∧ Only (fun _ => False) w w' := by
  rw [wf64_iff] at ha
  refine (Tryd.strconv_Itoa a ha.1 ha.2 w h).mono ?_
  rintro e w' ⟨rfl, k, os, rfl⟩
  exact ⟨_, rfl, List.size_toArray, Only.of_below (Lib.below_grow _ w (Nat.le_refl _) k os)⟩
theorem exec_min {o : Oper} {a : Act} {w : World} (x y : Operand) (ts : Array TypeId) (ho : o.op = .call { callee := .builtin .min, args := #[x, y], argTypes := ts }) (u v z : Int) (hx : a.eval x = .int .i64 u) (hy : a.eval y = .int .i64 v) (hz : min u v = z) : (execOp a.eval o).run Tryd.prog w = .ok (.value (.int .i64 z)) w := by
  have e : (if v < u then v else u) = z := by rw [← hz]; split <;> omega
  unfold execOp
  simp only [ho, resolve, invoke, builtin, Sem.run_bind, Sem.run_pure, Result.andThen_ok, List.map_toArray, List.map_cons, List.map_nil, hx, hy]
  go_simp
/-- What Size is. -/
def sizeB (l : List Nd) (i : Int) : Int := if placeB l i then szN l i.toNat else 0
theorem makeS (n : Nat) (w : World) (hn : n ≤ 1000000) : (Instr.makeSlice 32 (.int .i64 ((n : Int) + 1)) (.int .i64 ((n : Int) + 1))).run Tryd.prog w = .ok (.slice (some ⟨w.heap.size, 0, none⟩) (n + 1) (n + 1)) (w.alloc (.cells (madeCells #[.int .i64 0] (n + 1)) 3)) :=
  run_make_row' (P := Tryd.prog) 32 3 (.int .i64 0) 8 Tryd.underlying32 (by kernel_rfl) rfl .i64 .i64 (n + 1) (by omega) (by omega) w
/-- The sizes so far, in a row. -/
structure Sz (w : World) (g : Nat) (l : List Nd) (n k : Nat) (wr : World) : Prop where
  row : ∃ cur : Array Value, wr.heap[g]? = some (.cells cur 3 (0, 0)) ∧ cur.size = n ∧ ∀ j, j < k → cur[j]? = some (.int .i64 (szN l j))
  new : w.heap.size ≤ g
  only : Only (fun _ => False) w wr
theorem Sz.keep {w wr W : World} {g n k : Nat} {l : List Nd} (h : Sz w g l n k wr) (o : Only (fun _ => False) wr W) : Sz w g l n k W := by
  obtain ⟨cur, h1, h2, h3⟩ := h.row
  exact ⟨⟨cur, keepRow o h1 (fun x => x), h2, h3⟩, h.new, h.only.trans o⟩
theorem Sz.cell {w wr : World} {g n k : Nat} {l : List Nd} (h : Sz w g l n k wr) {j : Nat} (hj : j < k) : wr.cell? ⟨g, j, none⟩ = some (.int .i64 (szN l j)) := by
  obtain ⟨cur, h1, h2, h3⟩ := h.row
  rw [cell_of_row _ _ _ _ _ _ h1]
  exact h3 j hj
theorem Sz.room {w wr : World} {g n k : Nat} {l : List Nd} (h : Sz w g l n k wr) {j : Nat} (hj : j < n) : ∃ u, wr.cell? ⟨g, j, none⟩ = some u ∧ wr.frozen? ⟨g, j, none⟩ = false := by
  obtain ⟨cur, h1, h2, h3⟩ := h.row
  exact ⟨cur[j], by rw [cell_of_row _ _ _ _ _ _ h1]; exact Array.getElem?_eq_getElem (by omega), frozen_of_row _ _ _ _ _ h1⟩
theorem sz_put {cur : Array Value} {l : List Nd} {n k : Nat} {z : Int} (h2 : cur.size = n) (h3 : ∀ j, j < k → cur[j]? = some (.int .i64 (szN l j))) (hk : k < n) (hz : szN l k = z) : (cur.setIfInBounds k (.int .i64 z)).size = n ∧ ∀ j, j < k + 1 → (cur.setIfInBounds k (.int .i64 z))[j]? = some (.int .i64 (szN l j)) := by
  refine ⟨by rw [Array.size_setIfInBounds]; exact h2, fun j hj => ?_⟩
  by_cases hjk : j = k
  · subst hjk
    rw [Array.getElem?_setIfInBounds_self_of_lt (by omega), hz]
  · rw [Array.getElem?_setIfInBounds_ne (by omega)]
    exact h3 j (by omega)
theorem Sz.put {w wr : World} {g n k : Nat} {l : List Nd} {z : Int} (h : Sz w g l n k wr) (hk : k < n) (hz : szN l k = z) : Sz w g l n (k + 1) (wr.setCell ⟨g, k, none⟩ (.int .i64 z)) := by
  obtain ⟨cur, h1, h2, h3⟩ := h.row
  obtain ⟨h4, h5⟩ := sz_put h2 h3 hk hz
  exact ⟨⟨_, heap_setCell_same _ _ _ _ _ _ h1, h4, h5⟩, h.new, fresh_only h.only ((Only.refl (fun j => j = g) wr).setCell rfl _) (fun j hj => by have := h.new; omega)⟩
theorem Sz.store {w wr : World} {g n k : Nat} {l : List Nd} {z : Int} (h : Sz w g l n k wr) (hk : k < n) (hz : szN l k = z) : ∃ V, (storeVar 3 ⟨g, k, none⟩ (.int .i64 z)).run Tryd.prog wr = .ok () V ∧ Sz w g l n (k + 1) V ∧ Only (fun j => j = g) wr V := by
  obtain ⟨cur, h1, h2, h3⟩ := h.row
  obtain ⟨V, e1, e2, e3, e4⟩ := one_at wr (o := k) (ty := 3) (v := .int .i64 z) h1 (by kernel_rfl) rfl (by omega)
  obtain ⟨h4, h5⟩ := sz_put h2 h3 hk hz
  exact ⟨V, e1, ⟨⟨_, e2, h4, h5⟩, h.new, fresh_only h.only e3 (fun j hj => by have := h.new; omega)⟩, e3⟩

set_option maxHeartbeats 8000000 in
theorem size_any (l : List Nd) (i : Int) (v : Value) (w : World) (hl : NL w v l) (hlen : l.length ≤ 1000000) (hi : wf64 i) (htab : Pow10 w) :
    Calls Tryd.prog 9 #[v, .int .i64 i] w fun e w' => e = .returned (.int .i64 (sizeB l i)) ∧ Only (fun _ => False) w w' := by
  have HL := Lib.hid hl
  have HT := Lib.hid htab
  have HP : Hid (Calls Tryd.prog 21 #[v, .int .i64 i] w fun e w' => e = .returned (.bool (placeB l i)) ∧ Only (fun _ => False) w w') := place_any l i v w hl hlen hi
  obtain ⟨ad, cap, rfl, hrow⟩ := hl
  clear hrow
  cases hp : placeB l i
  · have HS : Hid (sizeB l i = 0) := show _ = _ by unfold sizeB; rw [hp]; rfl
    rw [hp] at HP
    rw [HS.out]
    clear hp
    go_enter Tryd.func9, Tryd.ntmps9
    go_wp2_with (go_at_call 21; refine HP.out.mono ?_; rintro e w1 ⟨rfl, k1⟩)
    go_ret
    exact ⟨rfl, k1⟩
  · obtain ⟨i0, i1, hm⟩ := placeB_yes hp
    have HMB := Lib.hid hm
    have hlen2 : l.length ≤ 200 := by
      have := hm
      simp [mayB] at this
      exact this.2
    obtain ⟨I, rfl⟩ := Int.eq_ofNat_of_zero_le i0
    have hI : I < l.length := by omega
    have HS : Hid (sizeB l (I : Int) = szN l I) := show _ = _ by unfold sizeB; rw [hp]; rfl
    rw [hp] at HP
    rw [HS.out]
    obtain ⟨b0, o0, cap0, he, hc0, hc1, _⟩ := HL.out.at hI
    cases he
    have hIc : (I : Int) + 1 ≤ (cap : Int) := by omega
    clear hp hm HS
    go_enter Tryd.func9, Tryd.ntmps9
    go_wp2_with (go_at_call 21; refine HP.out.mono ?_; rintro e w1 ⟨rfl, k1⟩; have hmk := makeS I w1 (by omega))
    have HZ0 : Hid (Sz w w1.heap.size l (I + 1) 0 (w1.alloc (.cells (madeCells #[.int .i64 0] (I + 1)) 3))) := ⟨⟨_, heap_alloc_new _ _, by simp [madeCells], fun j hj => absurd hj (Nat.not_lt_zero j)⟩, k1.size, k1.trans ((Only.refl _ _).alloc _)⟩
    have hgw := k1.size
    clear hmk HP
    generalize w1.alloc (.cells (madeCells #[.int .i64 0] (I + 1)) 3) = V0 at *
    generalize w1.heap.size = g at *
    clear k1
    go_loopg [20] (I + 1) (fun gg i wr => ∃ k : Nat, k ≤ I + 1 ∧ gg = I + 1 - k ∧ i = .int .i64 k ∧ Hid (Sz w g l (I + 1) k wr))
    case atStart => exact ⟨0, by omega, by omega, rfl, HZ0.out⟩
    case round =>
      clear HZ0
      revert wr
      intro wa hrel
      obtain ⟨k, hk, hgk, rfl, hS⟩ := hrel
      by_cases hlt : k < I + 1
      · have hlt' : (k : Int) < (I : Int) + 1 := by omega
        have hkl : k < l.length := by omega
        obtain ⟨gb, go, gc, he, hgc, _, _, _, _, hld⟩ := (HL.out.keep hS.out.only).at hkl
        cases he
        have HX : Hid (l[k]? = some l[k]) := List.getElem?_eq_getElem hkl
        generalize l[k] = x at *
        obtain ⟨op, a, b⟩ := x
        have HLD2 : Hid ((loadVar 27 ⟨b0, o0 + k * 3, none⟩).run Tryd.prog wa = .ok (.agg #[.int .i64 op, .int .i64 a, .int .i64 b]) wa) := hld
        clear hld
        go_upto_region 7 with (((with_reducible refine wpList_load_at ?_ 27 (.tmp 23) ?_ _ ?_ _ HLD2.out ?_); rfl; rfl; rfl))
        obtain ⟨X, hX⟩ : ∃ X, X = wa.alloc (.cells #[.int .i64 op, .int .i64 a, .int .i64 b] 27) := ⟨_, rfl⟩
        have hO1 : Only (fun _ => False) wa X := by rw [hX]; exact (Only.refl _ _).alloc _
        have hg1 : X.heap[wa.heap.size]? = some (.cells #[.int .i64 op, .int .i64 a, .int .i64 b] 27 (0, 0)) := by rw [hX]; exact heap_alloc_new _ _
        rw [← hX]
        have HO1 := Lib.hid hO1
        have HG1 := Lib.hid hg1
        have HLX := Lib.hid (load34 hg1)
        have HMD := Lib.hid (made_any ⟨op, a, b⟩ X)
        clear hX hO1 hg1 HLD2
        by_cases ho : op = 2 ∨ op = 3
        · obtain ⟨⟨a0, ak⟩, b0', bk⟩ := may_made HMB.out HX.out ho
          dsimp only at a0 ak b0' bk
          obtain ⟨A, rfl⟩ := Int.eq_ofNat_of_zero_le a0
          obtain ⟨B, rfl⟩ := Int.eq_ofNat_of_zero_le b0'
          have hA : A < k := by omega
          have hB : B < k := by omega
          have HMD2 : Hid (Calls Tryd.prog 22 #[.agg #[.int .i64 op, .int .i64 (A : Int), .int .i64 (B : Int)]] X fun e w' => e = .returned (.bool true) ∧ Below X.heap.size X w') := by
            have := HMD.out
            rw [show decide ((⟨op, (A : Int), (B : Int)⟩ : Nd).op = 2 ∨ (⟨op, (A : Int), (B : Int)⟩ : Nd).op = 3) = true from decide_eq_true ho] at this
            exact this
          clear HMD
          obtain ⟨sA, hsA⟩ : ∃ z, szN l A = z := ⟨_, rfl⟩
          obtain ⟨sB, hsB⟩ : ∃ z, szN l B = z := ⟨_, rfl⟩
          have rA := sz_range HMB.out (show A < l.length by omega)
          have rB := sz_range HMB.out (show B < l.length by omega)
          have HSA := Lib.hid hsA
          have HSB := Lib.hid hsB
          rw [hsA] at rA
          rw [hsB] at rB
          obtain ⟨rA0, rA1⟩ := rA
          obtain ⟨rB0, rB1⟩ := rB
          have hAi : (A : Int) < (I : Int) + 1 := by omega
          have hBi : (B : Int) < (I : Int) + 1 := by omega
          have hw1 : IntKind.i64.wrap (sA + sB) = sA + sB := by rw [IntKind.wrap_i64]; omega
          have hw2 : IntKind.i64.wrap (sA + sB + 2) = sA + sB + 2 := by rw [IntKind.wrap_i64]; omega
          have hw3 : IntKind.i64.wrap (sA + sB + 2 + 1) = sA + sB + 2 + 1 := by rw [IntKind.wrap_i64]; omega
          have hw4 : IntKind.i64.wrap (sA + sB + 2 + 0) = sA + sB + 2 + 0 := by rw [IntKind.wrap_i64]; omega
          clear hsA hsB
          go_upto_region 8 with (first | ((with_reducible refine wpList_load_at ?_ 27 (.tmp 7) ?_ _ ?_ _ HLX.out ?_); rfl; rfl; rfl) | (go_at_call 22; (with_reducible refine HMD2.out.mono ?_); rintro e w3 ⟨rfl, k3⟩))
          have HO3 := Lib.hid (Only.of_below k3 : Only (fun _ => False) X w3)
          have HG3 : Hid (w3.heap[wa.heap.size]? = some (.cells #[.int .i64 op, .int .i64 (A : Int), .int .i64 (B : Int)] 27 (0, 0))) := keepRow HO3.out HG1.out (fun x => x)
          have HZ3 := Lib.hid ((hS.out.keep (HO1.out.trans HO3.out)).keep (Only.refl _ w3).drew)
          clear k3 HMD2 HLX
          have HGD : (World.drew w3).heap[wa.heap.size]? = some (.cells #[.int .i64 op, .int .i64 (A : Int), .int .i64 (B : Int)] 27 (0, 0)) := HG3.out
          have HS0 : (World.drew w3).heap[wa.heap.size]? = some (.cells #[.int .i64 op, .int .i64 (A : Int), .int .i64 (B : Int)] 27 (0, 0)) ∧ (World.drew w3).cell? ⟨g, A, none⟩ = some (.int .i64 sA) ∧ (World.drew w3).cell? ⟨g, B, none⟩ = some (.int .i64 sB) := ⟨HGD, by rw [HZ3.out.cell hA, HSA.out], by rw [HZ3.out.cell hB, HSB.out]⟩
          rcases ho with h2 | h3
          · subst h2
            have HVL : Hid (szN l k = min 1000000000 (sA + sB + 2 + 1)) := show _ = _ by
              have e := valN_made gsz 0 l HMB.out HX.out (.inl rfl)
              unfold szN at HSA HSB ⊢
              rw [e]
              show gsz (valN gsz 0 l A) (valN gsz 0 l B) _ = _
              rw [HSA.out, HSB.out]
              rfl
            obtain ⟨V, hst, hzn, hov⟩ := HZ3.out.store hlt HVL.out
            have HZN := Lib.hid hzn
            have HST := Lib.hid hst
            have HSV : V.heap[wa.heap.size]? = some (.cells #[.int .i64 2, .int .i64 (A : Int), .int .i64 (B : Int)] 27 (0, 0)) ∧ V.cell? ⟨g, A, none⟩ = some (.int .i64 sA) ∧ V.cell? ⟨g, B, none⟩ = some (.int .i64 sB) := ⟨keepRow hov HS0.1 (by
              obtain ⟨cur, h1, _⟩ := hS.out.row
              have := (Array.getElem?_eq_some_iff.1 h1).1
              omega), by rw [hzn.cell (by omega), HSA.out], by rw [hzn.cell (by omega), HSB.out]⟩
            have HC0 : Hid (∀ W : World, (W.heap[wa.heap.size]? = some (.cells #[.int .i64 2, .int .i64 (A : Int), .int .i64 (B : Int)] 27 (0, 0)) ∧ W.cell? ⟨g, A, none⟩ = some (.int .i64 sA) ∧ W.cell? ⟨g, B, none⟩ = some (.int .i64 sB)) → W.cell? ⟨wa.heap.size, 0, none⟩ = some (.int .i64 2)) := fun W h => cell_of_row _ _ _ _ _ _ h.1
            have HC1 : Hid (∀ W : World, (W.heap[wa.heap.size]? = some (.cells #[.int .i64 2, .int .i64 (A : Int), .int .i64 (B : Int)] 27 (0, 0)) ∧ W.cell? ⟨g, A, none⟩ = some (.int .i64 sA) ∧ W.cell? ⟨g, B, none⟩ = some (.int .i64 sB)) → W.cell? ⟨wa.heap.size, 1, none⟩ = some (.int .i64 (A : Int))) := fun W h => cell_of_row _ _ _ _ _ _ h.1
            have HC2 : Hid (∀ W : World, (W.heap[wa.heap.size]? = some (.cells #[.int .i64 2, .int .i64 (A : Int), .int .i64 (B : Int)] 27 (0, 0)) ∧ W.cell? ⟨g, A, none⟩ = some (.int .i64 sA) ∧ W.cell? ⟨g, B, none⟩ = some (.int .i64 sB)) → W.cell? ⟨wa.heap.size, 2, none⟩ = some (.int .i64 (B : Int))) := fun W h => cell_of_row _ _ _ _ _ _ h.1
            have HCA : Hid (∀ W : World, (W.heap[wa.heap.size]? = some (.cells #[.int .i64 2, .int .i64 (A : Int), .int .i64 (B : Int)] 27 (0, 0)) ∧ W.cell? ⟨g, A, none⟩ = some (.int .i64 sA) ∧ W.cell? ⟨g, B, none⟩ = some (.int .i64 sB)) → W.cell? ⟨g, A, none⟩ = some (.int .i64 sA)) := fun W h => h.2.1
            have HCB : Hid (∀ W : World, (W.heap[wa.heap.size]? = some (.cells #[.int .i64 2, .int .i64 (A : Int), .int .i64 (B : Int)] 27 (0, 0)) ∧ W.cell? ⟨g, A, none⟩ = some (.int .i64 sA) ∧ W.cell? ⟨g, B, none⟩ = some (.int .i64 sB)) → W.cell? ⟨g, B, none⟩ = some (.int .i64 sB)) := fun W h => h.2.2
            clear hst hzn hov HGD
            refine wp_region_held (S := fun W => W.heap[wa.heap.size]? = some (.cells #[.int .i64 2, .int .i64 (A : Int), .int .i64 (B : Int)] 27 (0, 0)) ∧ W.cell? ⟨g, A, none⟩ = some (.int .i64 sA) ∧ W.cell? ⟨g, B, none⟩ = some (.int .i64 sB)) (by kernel_rfl) ?_
            change wpAnyH _ _ _ _ _ _ _ _ (World.drew _)
            refine held_pure (i := 0) (v := (.slice (some ⟨g, 0, none⟩) (I + 1) (I + 1))) rfl rfl (by kernel_rfl) (by kernel_rfl) (by kernel_rfl) (fun _ _ _ h => h) (Or.inl ⟨by rfl, fun w => by go_simp⟩) HS0 ?_
            simp only [List.setIfInBounds_toArray, List.set]
            refine held_pure (i := 1) (v := (.int .i64 (k : Int))) rfl rfl (by kernel_rfl) (by kernel_rfl) (by kernel_rfl) (fun _ _ _ h => h) (Or.inl ⟨by rfl, fun w => by go_simp⟩) HS0 ?_
            simp only [List.setIfInBounds_toArray, List.set]
            refine held_pure (i := 2) (v := (.slice (some ⟨g, 0, none⟩) (I + 1) (I + 1))) rfl rfl (by kernel_rfl) (by kernel_rfl) (by kernel_rfl) (fun _ _ _ h => h) (Or.inl ⟨by rfl, fun w => by go_simp⟩) HS0 ?_
            simp only [List.setIfInBounds_toArray, List.set]
            refine held_pure (i := 3) (v := (.pointer (some ⟨wa.heap.size, 1, none⟩))) rfl rfl (by kernel_rfl) (by kernel_rfl) (by kernel_rfl) (fun _ _ _ h => h) (Or.inl ⟨by rfl, fun w => by go_simp⟩) HS0 ?_
            simp only [List.setIfInBounds_toArray, List.set]
            refine held_take (i := 4) (v := (.int .i64 (A : Int))) rfl rfl (by kernel_rfl) (by kernel_rfl) (by kernel_rfl) (fun _ _ _ h => h) (Or.inl ⟨by rfl, fun w hS => by have hc := HC1.out w hS; go_simp⟩) HS0 ?_
            simp only [List.setIfInBounds_toArray, List.set]
            refine held_pure (i := 5) (v := (.pointer (some ⟨g, A, none⟩))) rfl rfl (by kernel_rfl) (by kernel_rfl) (by kernel_rfl) (fun _ _ _ h => h) (Or.inl ⟨by rfl, fun w => by go_simp⟩) HS0 ?_
            simp only [List.setIfInBounds_toArray, List.set]
            refine held_take (i := 6) (v := (.int .i64 sA)) rfl rfl (by kernel_rfl) (by kernel_rfl) (by kernel_rfl) (fun _ _ _ h => h) (Or.inl ⟨by rfl, fun w hS => by have hc := HCA.out w hS; go_simp⟩) HS0 ?_
            simp only [List.setIfInBounds_toArray, List.set]
            refine held_pure (i := 7) (v := (.slice (some ⟨g, 0, none⟩) (I + 1) (I + 1))) rfl rfl (by kernel_rfl) (by kernel_rfl) (by kernel_rfl) (fun _ _ _ h => h) (Or.inl ⟨by rfl, fun w => by go_simp⟩) HS0 ?_
            simp only [List.setIfInBounds_toArray, List.set]
            refine held_pure (i := 8) (v := (.pointer (some ⟨wa.heap.size, 2, none⟩))) rfl rfl (by kernel_rfl) (by kernel_rfl) (by kernel_rfl) (fun _ _ _ h => h) (Or.inl ⟨by rfl, fun w => by go_simp⟩) HS0 ?_
            simp only [List.setIfInBounds_toArray, List.set]
            refine held_take (i := 9) (v := (.int .i64 (B : Int))) rfl rfl (by kernel_rfl) (by kernel_rfl) (by kernel_rfl) (fun _ _ _ h => h) (Or.inl ⟨by rfl, fun w hS => by have hc := HC2.out w hS; go_simp⟩) HS0 ?_
            simp only [List.setIfInBounds_toArray, List.set]
            refine held_pure (i := 10) (v := (.pointer (some ⟨g, B, none⟩))) rfl rfl (by kernel_rfl) (by kernel_rfl) (by kernel_rfl) (fun _ _ _ h => h) (Or.inl ⟨by rfl, fun w => by go_simp⟩) HS0 ?_
            simp only [List.setIfInBounds_toArray, List.set]
            refine held_take (i := 11) (v := (.int .i64 sB)) rfl rfl (by kernel_rfl) (by kernel_rfl) (by kernel_rfl) (fun _ _ _ h => h) (Or.inl ⟨by rfl, fun w hS => by have hc := HCB.out w hS; go_simp⟩) HS0 ?_
            simp only [List.setIfInBounds_toArray, List.set]
            refine held_pure (i := 12) (v := (.int .i64 (sA + sB))) rfl rfl (by kernel_rfl) (by kernel_rfl) (by kernel_rfl) (fun _ _ _ h => h) (Or.inl ⟨by rfl, fun w => by go_simp⟩) HS0 ?_
            simp only [List.setIfInBounds_toArray, List.set]
            refine held_pure (i := 13) (v := (.int .i64 (sA + sB + 2))) rfl rfl (by kernel_rfl) (by kernel_rfl) (by kernel_rfl) (fun _ _ _ h => h) (Or.inl ⟨by rfl, fun w => by go_simp⟩) HS0 ?_
            simp only [List.setIfInBounds_toArray, List.set]
            refine held_pure (i := 14) (v := (.pointer (some ⟨wa.heap.size, 0, none⟩))) rfl rfl (by kernel_rfl) (by kernel_rfl) (by kernel_rfl) (fun _ _ _ h => h) (Or.inl ⟨by rfl, fun w => by go_simp⟩) HS0 ?_
            simp only [List.setIfInBounds_toArray, List.set]
            refine held_take (i := 15) (v := (.int .i64 2)) rfl rfl (by kernel_rfl) (by kernel_rfl) (by kernel_rfl) (fun _ _ _ h => h) (Or.inl ⟨by rfl, fun w hS => by have hc := HC0.out w hS; go_simp⟩) HS0 ?_
            simp only [List.setIfInBounds_toArray, List.set]
            refine held_pure (i := 16) (v := (.bool true)) rfl rfl (by kernel_rfl) (by kernel_rfl) (by kernel_rfl) (fun _ _ _ h => h) (Or.inl ⟨by rfl, fun w => by go_simp⟩) HS0 ?_
            simp only [List.setIfInBounds_toArray, List.set]
            refine held_call (j := 17) (by kernel_rfl) rfl rfl (by rfl) Tryd.func23 (by kernel_rfl) rfl rfl [.bool true] rfl (number_t _) ?_
            rintro w17 rfl
            refine ⟨HS0, ?_⟩
            simp only [List.setIfInBounds_toArray, List.set]
            refine held_pure (i := 18) (v := (.int .i64 (sA + sB + 2 + 1))) rfl rfl (by kernel_rfl) (by kernel_rfl) (by kernel_rfl) (fun _ _ _ h => h) (Or.inl ⟨by rfl, fun w => by go_simp⟩) HS0 ?_
            simp only [List.setIfInBounds_toArray, List.set]
            refine held_execd (j := 19) (by kernel_rfl) rfl rfl (by rfl) _ (exec_min _ _ _ rfl 1000000000 (sA + sB + 2 + 1) _ rfl rfl rfl) HS0 ?_
            simp only [List.setIfInBounds_toArray, List.set]
            refine held_pure (i := 20) (v := (.pointer (some ⟨g, k, none⟩))) rfl rfl (by kernel_rfl) (by kernel_rfl) (by kernel_rfl) (fun _ _ _ h => h) (Or.inl ⟨by rfl, fun w => by go_simp⟩) HS0 ?_
            simp only [List.setIfInBounds_toArray, List.set]
            refine held_store (j := 21) (by kernel_rfl) rfl rfl rfl 3 (.tmp 47) (.tmp 46) rfl _ rfl _ rfl HST.out HSV ?_
            refine wpAnyH_done (by kernel_rfl) ?_ _
            clear HS0 HSV
            go_wp2_with fail
            go_roundg (I + 1 - (k + 1))
            case measure => omega
            case rel => exact ⟨k + 1, by omega, by omega, by go_num, HZN.out⟩
          · subst h3
            have HVL : Hid (szN l k = min 1000000000 (sA + sB + 2 + 0)) := show _ = _ by
              have e := valN_made gsz 0 l HMB.out HX.out (.inr rfl)
              unfold szN at HSA HSB ⊢
              rw [e]
              show gsz (valN gsz 0 l A) (valN gsz 0 l B) _ = _
              rw [HSA.out, HSB.out]
              rfl
            obtain ⟨V, hst, hzn, hov⟩ := HZ3.out.store hlt HVL.out
            have HZN := Lib.hid hzn
            have HST := Lib.hid hst
            have HSV : V.heap[wa.heap.size]? = some (.cells #[.int .i64 3, .int .i64 (A : Int), .int .i64 (B : Int)] 27 (0, 0)) ∧ V.cell? ⟨g, A, none⟩ = some (.int .i64 sA) ∧ V.cell? ⟨g, B, none⟩ = some (.int .i64 sB) := ⟨keepRow hov HS0.1 (by
              obtain ⟨cur, h1, _⟩ := hS.out.row
              have := (Array.getElem?_eq_some_iff.1 h1).1
              omega), by rw [hzn.cell (by omega), HSA.out], by rw [hzn.cell (by omega), HSB.out]⟩
            have HC0 : Hid (∀ W : World, (W.heap[wa.heap.size]? = some (.cells #[.int .i64 3, .int .i64 (A : Int), .int .i64 (B : Int)] 27 (0, 0)) ∧ W.cell? ⟨g, A, none⟩ = some (.int .i64 sA) ∧ W.cell? ⟨g, B, none⟩ = some (.int .i64 sB)) → W.cell? ⟨wa.heap.size, 0, none⟩ = some (.int .i64 3)) := fun W h => cell_of_row _ _ _ _ _ _ h.1
            have HC1 : Hid (∀ W : World, (W.heap[wa.heap.size]? = some (.cells #[.int .i64 3, .int .i64 (A : Int), .int .i64 (B : Int)] 27 (0, 0)) ∧ W.cell? ⟨g, A, none⟩ = some (.int .i64 sA) ∧ W.cell? ⟨g, B, none⟩ = some (.int .i64 sB)) → W.cell? ⟨wa.heap.size, 1, none⟩ = some (.int .i64 (A : Int))) := fun W h => cell_of_row _ _ _ _ _ _ h.1
            have HC2 : Hid (∀ W : World, (W.heap[wa.heap.size]? = some (.cells #[.int .i64 3, .int .i64 (A : Int), .int .i64 (B : Int)] 27 (0, 0)) ∧ W.cell? ⟨g, A, none⟩ = some (.int .i64 sA) ∧ W.cell? ⟨g, B, none⟩ = some (.int .i64 sB)) → W.cell? ⟨wa.heap.size, 2, none⟩ = some (.int .i64 (B : Int))) := fun W h => cell_of_row _ _ _ _ _ _ h.1
            have HCA : Hid (∀ W : World, (W.heap[wa.heap.size]? = some (.cells #[.int .i64 3, .int .i64 (A : Int), .int .i64 (B : Int)] 27 (0, 0)) ∧ W.cell? ⟨g, A, none⟩ = some (.int .i64 sA) ∧ W.cell? ⟨g, B, none⟩ = some (.int .i64 sB)) → W.cell? ⟨g, A, none⟩ = some (.int .i64 sA)) := fun W h => h.2.1
            have HCB : Hid (∀ W : World, (W.heap[wa.heap.size]? = some (.cells #[.int .i64 3, .int .i64 (A : Int), .int .i64 (B : Int)] 27 (0, 0)) ∧ W.cell? ⟨g, A, none⟩ = some (.int .i64 sA) ∧ W.cell? ⟨g, B, none⟩ = some (.int .i64 sB)) → W.cell? ⟨g, B, none⟩ = some (.int .i64 sB)) := fun W h => h.2.2
            clear hst hzn hov HGD
            refine wp_region_held (S := fun W => W.heap[wa.heap.size]? = some (.cells #[.int .i64 3, .int .i64 (A : Int), .int .i64 (B : Int)] 27 (0, 0)) ∧ W.cell? ⟨g, A, none⟩ = some (.int .i64 sA) ∧ W.cell? ⟨g, B, none⟩ = some (.int .i64 sB)) (by kernel_rfl) ?_
            change wpAnyH _ _ _ _ _ _ _ _ (World.drew _)
            refine held_pure (i := 0) (v := (.slice (some ⟨g, 0, none⟩) (I + 1) (I + 1))) rfl rfl (by kernel_rfl) (by kernel_rfl) (by kernel_rfl) (fun _ _ _ h => h) (Or.inl ⟨by rfl, fun w => by go_simp⟩) HS0 ?_
            simp only [List.setIfInBounds_toArray, List.set]
            refine held_pure (i := 1) (v := (.int .i64 (k : Int))) rfl rfl (by kernel_rfl) (by kernel_rfl) (by kernel_rfl) (fun _ _ _ h => h) (Or.inl ⟨by rfl, fun w => by go_simp⟩) HS0 ?_
            simp only [List.setIfInBounds_toArray, List.set]
            refine held_pure (i := 2) (v := (.slice (some ⟨g, 0, none⟩) (I + 1) (I + 1))) rfl rfl (by kernel_rfl) (by kernel_rfl) (by kernel_rfl) (fun _ _ _ h => h) (Or.inl ⟨by rfl, fun w => by go_simp⟩) HS0 ?_
            simp only [List.setIfInBounds_toArray, List.set]
            refine held_pure (i := 3) (v := (.pointer (some ⟨wa.heap.size, 1, none⟩))) rfl rfl (by kernel_rfl) (by kernel_rfl) (by kernel_rfl) (fun _ _ _ h => h) (Or.inl ⟨by rfl, fun w => by go_simp⟩) HS0 ?_
            simp only [List.setIfInBounds_toArray, List.set]
            refine held_take (i := 4) (v := (.int .i64 (A : Int))) rfl rfl (by kernel_rfl) (by kernel_rfl) (by kernel_rfl) (fun _ _ _ h => h) (Or.inl ⟨by rfl, fun w hS => by have hc := HC1.out w hS; go_simp⟩) HS0 ?_
            simp only [List.setIfInBounds_toArray, List.set]
            refine held_pure (i := 5) (v := (.pointer (some ⟨g, A, none⟩))) rfl rfl (by kernel_rfl) (by kernel_rfl) (by kernel_rfl) (fun _ _ _ h => h) (Or.inl ⟨by rfl, fun w => by go_simp⟩) HS0 ?_
            simp only [List.setIfInBounds_toArray, List.set]
            refine held_take (i := 6) (v := (.int .i64 sA)) rfl rfl (by kernel_rfl) (by kernel_rfl) (by kernel_rfl) (fun _ _ _ h => h) (Or.inl ⟨by rfl, fun w hS => by have hc := HCA.out w hS; go_simp⟩) HS0 ?_
            simp only [List.setIfInBounds_toArray, List.set]
            refine held_pure (i := 7) (v := (.slice (some ⟨g, 0, none⟩) (I + 1) (I + 1))) rfl rfl (by kernel_rfl) (by kernel_rfl) (by kernel_rfl) (fun _ _ _ h => h) (Or.inl ⟨by rfl, fun w => by go_simp⟩) HS0 ?_
            simp only [List.setIfInBounds_toArray, List.set]
            refine held_pure (i := 8) (v := (.pointer (some ⟨wa.heap.size, 2, none⟩))) rfl rfl (by kernel_rfl) (by kernel_rfl) (by kernel_rfl) (fun _ _ _ h => h) (Or.inl ⟨by rfl, fun w => by go_simp⟩) HS0 ?_
            simp only [List.setIfInBounds_toArray, List.set]
            refine held_take (i := 9) (v := (.int .i64 (B : Int))) rfl rfl (by kernel_rfl) (by kernel_rfl) (by kernel_rfl) (fun _ _ _ h => h) (Or.inl ⟨by rfl, fun w hS => by have hc := HC2.out w hS; go_simp⟩) HS0 ?_
            simp only [List.setIfInBounds_toArray, List.set]
            refine held_pure (i := 10) (v := (.pointer (some ⟨g, B, none⟩))) rfl rfl (by kernel_rfl) (by kernel_rfl) (by kernel_rfl) (fun _ _ _ h => h) (Or.inl ⟨by rfl, fun w => by go_simp⟩) HS0 ?_
            simp only [List.setIfInBounds_toArray, List.set]
            refine held_take (i := 11) (v := (.int .i64 sB)) rfl rfl (by kernel_rfl) (by kernel_rfl) (by kernel_rfl) (fun _ _ _ h => h) (Or.inl ⟨by rfl, fun w hS => by have hc := HCB.out w hS; go_simp⟩) HS0 ?_
            simp only [List.setIfInBounds_toArray, List.set]
            refine held_pure (i := 12) (v := (.int .i64 (sA + sB))) rfl rfl (by kernel_rfl) (by kernel_rfl) (by kernel_rfl) (fun _ _ _ h => h) (Or.inl ⟨by rfl, fun w => by go_simp⟩) HS0 ?_
            simp only [List.setIfInBounds_toArray, List.set]
            refine held_pure (i := 13) (v := (.int .i64 (sA + sB + 2))) rfl rfl (by kernel_rfl) (by kernel_rfl) (by kernel_rfl) (fun _ _ _ h => h) (Or.inl ⟨by rfl, fun w => by go_simp⟩) HS0 ?_
            simp only [List.setIfInBounds_toArray, List.set]
            refine held_pure (i := 14) (v := (.pointer (some ⟨wa.heap.size, 0, none⟩))) rfl rfl (by kernel_rfl) (by kernel_rfl) (by kernel_rfl) (fun _ _ _ h => h) (Or.inl ⟨by rfl, fun w => by go_simp⟩) HS0 ?_
            simp only [List.setIfInBounds_toArray, List.set]
            refine held_take (i := 15) (v := (.int .i64 3)) rfl rfl (by kernel_rfl) (by kernel_rfl) (by kernel_rfl) (fun _ _ _ h => h) (Or.inl ⟨by rfl, fun w hS => by have hc := HC0.out w hS; go_simp⟩) HS0 ?_
            simp only [List.setIfInBounds_toArray, List.set]
            refine held_pure (i := 16) (v := (.bool false)) rfl rfl (by kernel_rfl) (by kernel_rfl) (by kernel_rfl) (fun _ _ _ h => h) (Or.inl ⟨by rfl, fun w => by go_simp⟩) HS0 ?_
            simp only [List.setIfInBounds_toArray, List.set]
            refine held_call (j := 17) (by kernel_rfl) rfl rfl (by rfl) Tryd.func23 (by kernel_rfl) rfl rfl [.bool false] rfl (number_f _) ?_
            rintro w17 rfl
            refine ⟨HS0, ?_⟩
            simp only [List.setIfInBounds_toArray, List.set]
            refine held_pure (i := 18) (v := (.int .i64 (sA + sB + 2 + 0))) rfl rfl (by kernel_rfl) (by kernel_rfl) (by kernel_rfl) (fun _ _ _ h => h) (Or.inl ⟨by rfl, fun w => by go_simp⟩) HS0 ?_
            simp only [List.setIfInBounds_toArray, List.set]
            refine held_execd (j := 19) (by kernel_rfl) rfl rfl (by rfl) _ (exec_min _ _ _ rfl 1000000000 (sA + sB + 2 + 0) _ rfl rfl rfl) HS0 ?_
            simp only [List.setIfInBounds_toArray, List.set]
            refine held_pure (i := 20) (v := (.pointer (some ⟨g, k, none⟩))) rfl rfl (by kernel_rfl) (by kernel_rfl) (by kernel_rfl) (fun _ _ _ h => h) (Or.inl ⟨by rfl, fun w => by go_simp⟩) HS0 ?_
            simp only [List.setIfInBounds_toArray, List.set]
            refine held_store (j := 21) (by kernel_rfl) rfl rfl rfl 3 (.tmp 47) (.tmp 46) rfl _ rfl _ rfl HST.out HSV ?_
            refine wpAnyH_done (by kernel_rfl) ?_ _
            clear HS0 HSV
            go_wp2_with fail
            go_roundg (I + 1 - (k + 1))
            case measure => omega
            case rel => exact ⟨k + 1, by omega, by omega, by go_num, HZN.out⟩
        · obtain ⟨h01, n0, n1, _⟩ := leaf_num HMB.out HX.out ho
          dsimp only at n0 n1 h01
          have HMD2 : Hid (Calls Tryd.prog 22 #[.agg #[.int .i64 op, .int .i64 a, .int .i64 b]] X fun e w' => e = .returned (.bool false) ∧ Below X.heap.size X w') := by
            have := HMD.out
            rw [show decide ((⟨op, a, b⟩ : Nd).op = 2 ∨ (⟨op, a, b⟩ : Nd).op = 3) = false from decide_eq_false ho] at this
            exact this
          have hil := itoa_len n0 n1
          have HVL : Hid (szN l k = 1 + ((Lib.itoa a).length : Int)) := show _ = _ by
            unfold szN
            rw [valN_at _ _ l HX.out]
            unfold gsz
            rw [if_neg ho]
          have HWA : Hid (wf64 a) := Lib.hid (wf64_iff.2 ⟨by omega, by omega⟩)
          clear HMD ho
          go_upto_region 9 with (first | ((with_reducible refine wpList_load_at ?_ 27 (.tmp 7) ?_ _ ?_ _ HLX.out ?_); rfl; rfl; rfl) | (go_at_call 22; (with_reducible refine HMD2.out.mono ?_); rintro e w3 ⟨rfl, k3⟩))
          have HO3 := Lib.hid (Only.of_below k3 : Only (fun _ => False) X w3)
          have hg3 : w3.heap[wa.heap.size]? = some (.cells #[.int .i64 op, .int .i64 a, .int .i64 b] 27 (0, 0)) := keepRow HO3.out HG1.out (fun x => x)
          have HZ3 := Lib.hid (hS.out.keep (HO1.out.trans HO3.out))
          have q1 : w3.cell? ⟨wa.heap.size, 1, none⟩ = some (.int .i64 a) := cell_of_row _ _ _ _ _ _ hg3
          have HIT := Lib.hid (itoa_any a w3 HWA.out (HT.out.keep HZ3.out.only))
          obtain ⟨n, hn⟩ : ∃ n, (Lib.itoa a).length = n := ⟨_, rfl⟩
          rw [hn] at HIT HVL hil
          obtain ⟨hil0, hil1⟩ := hil
          clear k3 HMD2 HLX hg3 hn
          go_wp2_with (go_at_call 24; (with_reducible refine HIT.out.mono ?_); rintro e w4 ⟨s, rfl, hs, k4⟩; have HZ4 := Lib.hid (HZ3.out.keep k4); obtain ⟨u5, q5, q6⟩ := HZ4.out.room hlt)
          have HN := Lib.hid (HZ4.out.put hlt HVL.out)
          go_roundg (I + 1 - (k + 1))
          case measure => omega
          case rel => exact ⟨k + 1, by omega, by omega, by go_num, HN.out⟩
      · obtain rfl : k = I + 1 := by omega
        have hq := hS.out.cell (Nat.lt_succ_self I)
        have HO := Lib.hid hS.out.only
        go_wp2_with fail
        go_ret
        exact ⟨rfl, HO.out⟩
end Go.Proofs.YtnppjkekbdapkaaDoor
