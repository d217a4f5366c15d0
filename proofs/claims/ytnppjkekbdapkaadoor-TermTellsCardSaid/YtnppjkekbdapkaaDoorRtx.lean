/-
  The reference: text, Text. (Printed by mkrtx.py out of rtx.head.)
-/
import Derived.Test.YtnppjkekbdapkaaDoorRsz
set_option linter.unusedVariables false
namespace Go.Proofs.YtnppjkekbdapkaaDoor
open Go.RowKit

section
variable {P : Program} {ops : Array Oper}
theorem op_callx {Q : Exit → Act → World → Prop} {K : Act → World → Prop} {j : Nat} {oj : Oper} {t : Tmp} {a : Act} {w : World} (hj : ops[j]? = some oj) (hd : oj.dst = some t)
    (hw : Region.wanted oj (yielded ops a.tmps) = true) {f : FuncId} {fn : Func} (hf : P.funcs[f]? = some fn) (hn : (fn.name == "runtime.NumGoroutine") = false) (hb : fn.body.isSome = true)
    {xs : Array Operand} {ts : Array TypeId} (hop : oj.op = .call { callee := .value (.func f), args := xs, argTypes := ts }) (al : List Value) (hargs : xs.toList.map a.eval = al) {R : Value → World → Prop}
    (hc : Calls P f al.toArray w fun e w' => ∃ v, e = .returned v ∧ R v w') (h : ∀ v w', R v w' → K ⟨a.tmps.setIfInBounds t v, a.defers⟩ w') : wpOp P ops Q j K a w := by
  unfold Go.wpOp
  simp only [hj]
  rw [if_pos hw]
  refine .inl ?_
  have h1 : fn.name ≠ "runtime.NumGoroutine" := by simpa using hn
  obtain ⟨c, hcb⟩ := Option.isSome_iff_exists.1 hb
  have hargs' : xs.map a.eval = al.toArray := by rw [← hargs]; apply Array.toList_inj.1; simp
  have he : (callFunc f al.toArray).run P w = .ok (.enter f al.toArray) w := by simp [callFunc, hf, h1, hcb]
  have hrun : (execOp a.eval oj).run P w = .ok (.enter f al.toArray) w := by
    unfold execOp
    simp [hop, resolve, Deferred.ofValue, invoke, Act.eval, hargs', he]
  unfold Oper.wp
  rw [hrun, Oper.upon_enter]
  refine hc.mono fun e w'' hh => ?_
  obtain ⟨v, rfl, hk⟩ := hh
  have := h v w'' hk
  rw [← put_some (a := a), ← hd] at this
  exact this
end
def RtP (W0 : World) (lv : Value) (l : List Nd) (i : Nat) : Prop := ∀ w : World, Only (fun _ => False) W0 w → Calls Tryd.prog 30 #[lv, .int .i64 (i : Int)] w fun e w' => ∃ v, e = .returned v ∧ ∃ s : ByteArray, v = .string s ∧ s = ⟨(txN l i).toArray⟩ ∧ Only (fun _ => False) w w'
theorem add_size {x y u : ByteArray} (h : x ++ y = u) {a b : Nat} (hx : x.size ≤ a) (hy : y.size ≤ b) : u.size ≤ a + b := by
  rw [← h, ByteArray.size_append]
  omega
theorem arr_size {s : ByteArray} {t : List UInt8} (h : s = ⟨t.toArray⟩) : s.size = t.length := by
  rw [h]
  exact List.size_toArray
set_option maxHeartbeats 8000000 in
theorem rtext_in (l : List Nd) (lv : Value) (W0 : World) (hl : NL W0 lv l) (hm : mayB l = true) (i : Nat) : i < l.length → (txN l i).length ≤ 10000 → RtP W0 lv l i := by
  have HL := Lib.hid hl
  have HMB := Lib.hid hm
  obtain ⟨ad, cap, rfl, hrow⟩ := hl
  clear hrow hm
  have hlen : l.length ≤ 200 := by
    have := HMB.out
    simp [mayB] at this
    exact this.2
  induction i using Nat.strongRecOn with
  | ind i ih =>
    intro hi hbd w ow
    have hi' : (i : Int) < (l.length : Int) := by omega
    obtain ⟨gb, go, gc, he, hgc, hld⟩ := (HL.out.keep ow).load55 hi
    cases he
    have HX : Hid (l[i]? = some l[i]) := List.getElem?_eq_getElem hi
    generalize l[i] = x at *
    obtain ⟨op, x1, x2⟩ := x
    have HLD : Hid ((loadVar 53 ⟨gb, go + i * 3, none⟩).run Tryd.prog w = .ok (.agg #[.int .i64 op, .int .i64 x1, .int .i64 x2]) w) := hld
    obtain ⟨X, hX⟩ : ∃ X, X = w.alloc (.cells #[.int .i64 op, .int .i64 x1, .int .i64 x2] 53) := ⟨_, rfl⟩
    have hO1 : Only (fun _ => False) w X := by rw [hX]; exact (Only.refl _ _).alloc _
    have hg1 : X.heap[w.heap.size]? = some (.cells #[.int .i64 op, .int .i64 x1, .int .i64 x2] 53 (0, 0)) := by rw [hX]; exact heap_alloc_new _ _
    have HO1 := Lib.hid hO1
    have HOW := Lib.hid ow
    have HXE := Lib.hid hX
    have HG1 := Lib.hid hg1
    clear hld hX hO1 hg1 ow
    by_cases ho : op = 2 ∨ op = 3
    · obtain ⟨⟨a0, ak⟩, b0', bk⟩ := may_made HMB.out HX.out ho
      dsimp only at a0 ak b0' bk
      obtain ⟨A, rfl⟩ := Int.eq_ofNat_of_zero_le a0
      obtain ⟨B, rfl⟩ := Int.eq_ofNat_of_zero_le b0'
      obtain ⟨tA, htA⟩ : ∃ z, txN l A = z := ⟨_, rfl⟩
      obtain ⟨tB, htB⟩ : ∃ z, txN l B = z := ⟨_, rfl⟩
      have htx : txN l i = gtx tA tB ⟨op, (A : Int), (B : Int)⟩ := by
        unfold txN at htA htB ⊢
        rw [valN_made gtx [] l HMB.out HX.out ho]
        show gtx (valN gtx [] l A) (valN gtx [] l B) _ = _
        rw [htA, htB]
      have hbb : tA.length ≤ 10000 ∧ tB.length ≤ 10000 := by
        rw [htx] at hbd
        rcases ho with rfl | rfl
        · rw [gtx_pair rfl] at hbd
          simp only [List.length_cons, List.length_append] at hbd
          omega
        · rw [gtx_lock rfl] at hbd
          simp only [List.length_cons, List.length_append] at hbd
          omega
      have HIA : Hid (∀ W : World, Only (fun _ => False) w W → Calls Tryd.prog 30 #[.slice (some ⟨gb, go, none⟩) l.length cap, .int .i64 (A : Int)] W fun e w' => ∃ v, e = .returned v ∧ ∃ s : ByteArray, v = .string s ∧ s = ⟨tA.toArray⟩ ∧ Only (fun _ => False) W w') := fun W o => by
        have := ih A (by omega) (by omega) (by rw [htA]; exact hbb.1) W (HOW.out.trans o)
        rw [htA] at this
        exact this
      have HIB : Hid (∀ W : World, Only (fun _ => False) w W → Calls Tryd.prog 30 #[.slice (some ⟨gb, go, none⟩) l.length cap, .int .i64 (B : Int)] W fun e w' => ∃ v, e = .returned v ∧ ∃ s : ByteArray, v = .string s ∧ s = ⟨tB.toArray⟩ ∧ Only (fun _ => False) W w') := fun W o => by
        have := ih B (by omega) (by omega) (by rw [htB]; exact hbb.2) W (HOW.out.trans o)
        rw [htB] at this
        exact this
      have HZA : Hid (∀ s : ByteArray, s = ⟨tA.toArray⟩ → s.size ≤ 10000) := fun s h => by rw [arr_size h]; exact hbb.1
      have HZB : Hid (∀ s : ByteArray, s = ⟨tB.toArray⟩ → s.size ≤ 10000) := fun s h => by rw [arr_size h]; exact hbb.2
      clear ih htA htB hbd
      have q0 := cell_of_row _ _ 0 _ _ _ HG1.out
      rcases ho with rfl | rfl
      · rw [gtx_pair rfl] at htx
        have HTX := Lib.hid htx
        clear htx
        go_enter Tryd.func30, Tryd.ntmps30
        go_upto_region 8 with ((with_reducible refine wpList_load_at ?_ 53 (.tmp 8) ?_ _ ?_ _ HLD.out ?_); rfl; rfl; rfl)
        rw [← HXE.out]
        have HC1 : Hid (∀ W : World, Only (fun _ => False) X W → W.cell? ⟨w.heap.size, 1, none⟩ = some (.int .i64 (A : Int))) := fun W o => cell_of_row _ _ _ _ _ _ (keepRow o HG1.out (fun x => x))
        have HC2 : Hid (∀ W : World, Only (fun _ => False) X W → W.cell? ⟨w.heap.size, 2, none⟩ = some (.int .i64 (B : Int))) := fun W o => cell_of_row _ _ _ _ _ _ (keepRow o HG1.out (fun x => x))
        refine wp_region_held (S := fun W => Only (fun _ => False) X W) (by kernel_rfl) ?_
        change wpAnyH _ _ _ _ _ _ _ _ (World.drew _)
        have HS0 : Only (fun _ => False) X (World.drew X) := (Only.refl _ _).drew
        refine held_pure (i := 0) (v := (.slice (some ⟨gb, go, none⟩) l.length cap)) rfl rfl (by kernel_rfl) (by kernel_rfl) (by kernel_rfl) (fun _ _ _ h => h) (Or.inl ⟨by rfl, fun w => by go_simp⟩) HS0 ?_
        simp only [List.setIfInBounds_toArray, List.set]
        refine held_pure (i := 1) (v := (.pointer (some ⟨w.heap.size, 1, none⟩))) rfl rfl (by kernel_rfl) (by kernel_rfl) (by kernel_rfl) (fun _ _ _ h => h) (Or.inl ⟨by rfl, fun w => by go_simp⟩) HS0 ?_
        simp only [List.setIfInBounds_toArray, List.set]
        refine held_take (i := 2) (v := (.int .i64 (A : Int))) rfl rfl (by kernel_rfl) (by kernel_rfl) (by kernel_rfl) (fun _ _ _ h => h) (Or.inl ⟨by rfl, fun w hS => by have hc := HC1.out w hS; go_simp⟩) HS0 ?_
        simp only [List.setIfInBounds_toArray, List.set]
        refine held_pure (i := 6) (v := (.slice (some ⟨gb, go, none⟩) l.length cap)) rfl rfl (by kernel_rfl) (by kernel_rfl) (by kernel_rfl) (fun _ _ _ h => h) (Or.inl ⟨by rfl, fun w => by go_simp⟩) HS0 ?_
        simp only [List.setIfInBounds_toArray, List.set]
        refine held_pure (i := 7) (v := (.pointer (some ⟨w.heap.size, 2, none⟩))) rfl rfl (by kernel_rfl) (by kernel_rfl) (by kernel_rfl) (fun _ _ _ h => h) (Or.inl ⟨by rfl, fun w => by go_simp⟩) HS0 ?_
        simp only [List.setIfInBounds_toArray, List.set]
        refine held_take (i := 8) (v := (.int .i64 (B : Int))) rfl rfl (by kernel_rfl) (by kernel_rfl) (by kernel_rfl) (fun _ _ _ h => h) (Or.inl ⟨by rfl, fun w hS => by have hc := HC2.out w hS; go_simp⟩) HS0 ?_
        simp only [List.setIfInBounds_toArray, List.set]
        refine held_callx (j := 3) (by kernel_rfl) rfl rfl (by rfl) Tryd.func30 (by kernel_rfl) rfl rfl [(.slice (some ⟨gb, go, none⟩) l.length cap), .int .i64 (A : Int)] rfl (HIA.out _ (HO1.out.trans HS0)) ?_
        rintro cv3 wc3 ⟨s1, rfl, hs3, j3⟩
        have HSa := HS0.trans j3
        have hs1 := HZA.out s1 hs3
        have HS1 := Lib.hid hs3
        clear hs3 j3
        refine ⟨HSa, ?_⟩
        simp only [List.setIfInBounds_toArray, List.set]
        obtain ⟨u1, hu1⟩ : ∃ u, (⟨#[40]⟩ : ByteArray) ++ s1 = u := ⟨_, rfl⟩
        have hzu1 : u1.size ≤ 10001 := add_size hu1 (show (⟨#[40]⟩ : ByteArray).size ≤ 1 by decide) hs1
        refine held_take (i := 4) (v := .string u1) rfl rfl (by kernel_rfl) (by kernel_rfl) (by kernel_rfl) (fun _ _ _ h => h) (Or.inl ⟨by rfl, fun w _ => by go_simp; first | exact hu1 | omega⟩) HSa ?_
        simp only [List.setIfInBounds_toArray, List.set]
        have HU1 := Lib.hid hu1
        clear hu1
        obtain ⟨u2, hu2⟩ : ∃ u, (u1 : ByteArray) ++ ⟨#[44]⟩ = u := ⟨_, rfl⟩
        have hzu2 : u2.size ≤ 10002 := add_size hu2 hzu1 (show (⟨#[44]⟩ : ByteArray).size ≤ 1 by decide)
        refine held_take (i := 5) (v := .string u2) rfl rfl (by kernel_rfl) (by kernel_rfl) (by kernel_rfl) (fun _ _ _ h => h) (Or.inl ⟨by rfl, fun w _ => by go_simp; first | exact hu2 | omega⟩) HSa ?_
        simp only [List.setIfInBounds_toArray, List.set]
        have HU2 := Lib.hid hu2
        clear hu2
        refine held_callx (j := 9) (by kernel_rfl) rfl rfl (by rfl) Tryd.func30 (by kernel_rfl) rfl rfl [(.slice (some ⟨gb, go, none⟩) l.length cap), .int .i64 (B : Int)] rfl (HIB.out _ (HO1.out.trans HSa)) ?_
        rintro cv9 wc9 ⟨s2, rfl, hs9, j9⟩
        have HSb := HSa.trans j9
        have hs2 := HZB.out s2 hs9
        have HS2 := Lib.hid hs9
        clear hs9 j9
        refine ⟨HSb, ?_⟩
        simp only [List.setIfInBounds_toArray, List.set]
        obtain ⟨u3, hu3⟩ : ∃ u, (u2 : ByteArray) ++ s2 = u := ⟨_, rfl⟩
        have hzu3 : u3.size ≤ 20002 := add_size hu3 hzu2 hs2
        refine held_take (i := 10) (v := .string u3) rfl rfl (by kernel_rfl) (by kernel_rfl) (by kernel_rfl) (fun _ _ _ h => h) (Or.inl ⟨by rfl, fun w _ => by go_simp; first | exact hu3 | omega⟩) HSb ?_
        simp only [List.setIfInBounds_toArray, List.set]
        have HU3 := Lib.hid hu3
        clear hu3
        obtain ⟨u4, hu4⟩ : ∃ u, (u3 : ByteArray) ++ ⟨#[41]⟩ = u := ⟨_, rfl⟩
        have hzu4 : u4.size ≤ 20003 := add_size hu4 hzu3 (show (⟨#[41]⟩ : ByteArray).size ≤ 1 by decide)
        refine held_take (i := 11) (v := .string u4) rfl rfl (by kernel_rfl) (by kernel_rfl) (by kernel_rfl) (fun _ _ _ h => h) (Or.inl ⟨by rfl, fun w _ => by go_simp; first | exact hu4 | omega⟩) HSb ?_
        simp only [List.setIfInBounds_toArray, List.set]
        have HU4 := Lib.hid hu4
        clear hu4
        refine held_pure (i := 12) (v := .string u4) rfl rfl (by kernel_rfl) (by kernel_rfl) (by kernel_rfl) (fun _ _ _ h => h) (Or.inl ⟨by rfl, fun w => by go_simp⟩) HSb ?_
        simp only [List.setIfInBounds_toArray, List.set]
        refine wpAnyH_done (by kernel_rfl) ?_ _
        have HSE := Lib.hid (HO1.out.trans HSb)
        have HFI : Hid (u4 = ⟨(txN l i).toArray⟩) := by
          show u4 = _
          rw [HTX.out]
          apply ByteArray.ext
          rw [← HU4.out, ← HU3.out, ← HU2.out, ← HU1.out, HS1.out, HS2.out]
          simp
        clear HS0
        go_wp2_with fail
        go_ret
        exact ⟨_, rfl, _, rfl, HFI.out, HSE.out⟩
      · rw [gtx_lock rfl] at htx
        have HTX := Lib.hid htx
        clear htx
        go_enter Tryd.func30, Tryd.ntmps30
        go_upto_region 9 with ((with_reducible refine wpList_load_at ?_ 53 (.tmp 8) ?_ _ ?_ _ HLD.out ?_); rfl; rfl; rfl)
        rw [← HXE.out]
        have HC1 : Hid (∀ W : World, Only (fun _ => False) X W → W.cell? ⟨w.heap.size, 2, none⟩ = some (.int .i64 (B : Int))) := fun W o => cell_of_row _ _ _ _ _ _ (keepRow o HG1.out (fun x => x))
        have HC2 : Hid (∀ W : World, Only (fun _ => False) X W → W.cell? ⟨w.heap.size, 1, none⟩ = some (.int .i64 (A : Int))) := fun W o => cell_of_row _ _ _ _ _ _ (keepRow o HG1.out (fun x => x))
        refine wp_region_held (S := fun W => Only (fun _ => False) X W) (by kernel_rfl) ?_
        change wpAnyH _ _ _ _ _ _ _ _ (World.drew _)
        have HS0 : Only (fun _ => False) X (World.drew X) := (Only.refl _ _).drew
        refine held_pure (i := 0) (v := (.slice (some ⟨gb, go, none⟩) l.length cap)) rfl rfl (by kernel_rfl) (by kernel_rfl) (by kernel_rfl) (fun _ _ _ h => h) (Or.inl ⟨by rfl, fun w => by go_simp⟩) HS0 ?_
        simp only [List.setIfInBounds_toArray, List.set]
        refine held_pure (i := 1) (v := (.pointer (some ⟨w.heap.size, 2, none⟩))) rfl rfl (by kernel_rfl) (by kernel_rfl) (by kernel_rfl) (fun _ _ _ h => h) (Or.inl ⟨by rfl, fun w => by go_simp⟩) HS0 ?_
        simp only [List.setIfInBounds_toArray, List.set]
        refine held_take (i := 2) (v := (.int .i64 (B : Int))) rfl rfl (by kernel_rfl) (by kernel_rfl) (by kernel_rfl) (fun _ _ _ h => h) (Or.inl ⟨by rfl, fun w hS => by have hc := HC1.out w hS; go_simp⟩) HS0 ?_
        simp only [List.setIfInBounds_toArray, List.set]
        refine held_pure (i := 6) (v := (.slice (some ⟨gb, go, none⟩) l.length cap)) rfl rfl (by kernel_rfl) (by kernel_rfl) (by kernel_rfl) (fun _ _ _ h => h) (Or.inl ⟨by rfl, fun w => by go_simp⟩) HS0 ?_
        simp only [List.setIfInBounds_toArray, List.set]
        refine held_pure (i := 7) (v := (.pointer (some ⟨w.heap.size, 1, none⟩))) rfl rfl (by kernel_rfl) (by kernel_rfl) (by kernel_rfl) (fun _ _ _ h => h) (Or.inl ⟨by rfl, fun w => by go_simp⟩) HS0 ?_
        simp only [List.setIfInBounds_toArray, List.set]
        refine held_take (i := 8) (v := (.int .i64 (A : Int))) rfl rfl (by kernel_rfl) (by kernel_rfl) (by kernel_rfl) (fun _ _ _ h => h) (Or.inl ⟨by rfl, fun w hS => by have hc := HC2.out w hS; go_simp⟩) HS0 ?_
        simp only [List.setIfInBounds_toArray, List.set]
        refine held_callx (j := 3) (by kernel_rfl) rfl rfl (by rfl) Tryd.func30 (by kernel_rfl) rfl rfl [(.slice (some ⟨gb, go, none⟩) l.length cap), .int .i64 (B : Int)] rfl (HIB.out _ (HO1.out.trans HS0)) ?_
        rintro cv3 wc3 ⟨s1, rfl, hs3, j3⟩
        have HSa := HS0.trans j3
        have hs1 := HZB.out s1 hs3
        have HS1 := Lib.hid hs3
        clear hs3 j3
        refine ⟨HSa, ?_⟩
        simp only [List.setIfInBounds_toArray, List.set]
        obtain ⟨u1, hu1⟩ : ∃ u, (⟨#[123]⟩ : ByteArray) ++ s1 = u := ⟨_, rfl⟩
        have hzu1 : u1.size ≤ 10001 := add_size hu1 (show (⟨#[123]⟩ : ByteArray).size ≤ 1 by decide) hs1
        refine held_take (i := 4) (v := .string u1) rfl rfl (by kernel_rfl) (by kernel_rfl) (by kernel_rfl) (fun _ _ _ h => h) (Or.inl ⟨by rfl, fun w _ => by go_simp; first | exact hu1 | omega⟩) HSa ?_
        simp only [List.setIfInBounds_toArray, List.set]
        have HU1 := Lib.hid hu1
        clear hu1
        obtain ⟨u2, hu2⟩ : ∃ u, (u1 : ByteArray) ++ ⟨#[125]⟩ = u := ⟨_, rfl⟩
        have hzu2 : u2.size ≤ 10002 := add_size hu2 hzu1 (show (⟨#[125]⟩ : ByteArray).size ≤ 1 by decide)
        refine held_take (i := 5) (v := .string u2) rfl rfl (by kernel_rfl) (by kernel_rfl) (by kernel_rfl) (fun _ _ _ h => h) (Or.inl ⟨by rfl, fun w _ => by go_simp; first | exact hu2 | omega⟩) HSa ?_
        simp only [List.setIfInBounds_toArray, List.set]
        have HU2 := Lib.hid hu2
        clear hu2
        refine held_callx (j := 9) (by kernel_rfl) rfl rfl (by rfl) Tryd.func30 (by kernel_rfl) rfl rfl [(.slice (some ⟨gb, go, none⟩) l.length cap), .int .i64 (A : Int)] rfl (HIA.out _ (HO1.out.trans HSa)) ?_
        rintro cv9 wc9 ⟨s2, rfl, hs9, j9⟩
        have HSb := HSa.trans j9
        have hs2 := HZA.out s2 hs9
        have HS2 := Lib.hid hs9
        clear hs9 j9
        refine ⟨HSb, ?_⟩
        simp only [List.setIfInBounds_toArray, List.set]
        obtain ⟨u3, hu3⟩ : ∃ u, (u2 : ByteArray) ++ s2 = u := ⟨_, rfl⟩
        have hzu3 : u3.size ≤ 20002 := add_size hu3 hzu2 hs2
        refine held_take (i := 10) (v := .string u3) rfl rfl (by kernel_rfl) (by kernel_rfl) (by kernel_rfl) (fun _ _ _ h => h) (Or.inl ⟨by rfl, fun w _ => by go_simp; first | exact hu3 | omega⟩) HSb ?_
        simp only [List.setIfInBounds_toArray, List.set]
        have HU3 := Lib.hid hu3
        clear hu3
        refine held_pure (i := 11) (v := .string u3) rfl rfl (by kernel_rfl) (by kernel_rfl) (by kernel_rfl) (fun _ _ _ h => h) (Or.inl ⟨by rfl, fun w => by go_simp⟩) HSb ?_
        simp only [List.setIfInBounds_toArray, List.set]
        refine wpAnyH_done (by kernel_rfl) ?_ _
        have HSE := Lib.hid (HO1.out.trans HSb)
        have HFI : Hid (u3 = ⟨(txN l i).toArray⟩) := by
          show u3 = _
          rw [HTX.out]
          apply ByteArray.ext
          rw [← HU3.out, ← HU2.out, ← HU1.out, HS1.out, HS2.out]
          simp
        clear HS0
        go_wp2_with fail
        go_ret
        exact ⟨_, rfl, _, rfl, HFI.out, HSE.out⟩
    · obtain ⟨h01, n0, n1, _⟩ := leaf_num HMB.out HX.out ho
      dsimp only at n0 n1 h01
      obtain ⟨A, rfl⟩ := Int.eq_ofNat_of_zero_le n0
      have htx : txN l i = (if op = 0 then 97 else 107) :: Lib.decDigits A := by
        unfold txN
        rw [valN_at gtx [] l HX.out, gtx_leaf ho]
        show _ :: Lib.itoa (A : Int) = _
        rw [itoa_dec n0, Int.toNat_natCast]
      have HDG := Lib.hid (digits_any A (by omega) X)
      have HZD : Hid (∀ s : ByteArray, s = ⟨(Lib.decDigits A).toArray⟩ → s.size ≤ 6) := fun s h => by
        rw [arr_size h]
        exact (dec_len (n := A) (k := 5) (by omega)).2
      rw [HXE.out] at HDG
      have q1 := cell_of_row _ _ 1 _ _ _ HG1.out
      clear ih ho
      rcases h01 with rfl | rfl
      · rw [if_pos rfl] at htx
        have HTX := Lib.hid htx
        clear htx
        go_enter Tryd.func30, Tryd.ntmps30
        go_wp2_with (first | ((with_reducible refine wpList_load_at ?_ 53 (.tmp 8) ?_ _ ?_ _ HLD.out ?_); rfl; rfl; rfl) | (go_at_call 32; (with_reducible refine HDG.out.mono ?_); rintro e wd ⟨_, rfl, s, rfl, hs, kd⟩; have hz := HZD.out s hs; have HSS := Lib.hid hs; clear hs; have hz1 : 1 + s.size ≤ 9223372036854775807 := by omega))
        go_ret
        rw [← HXE.out] at kd
        exact ⟨_, rfl, _, rfl, by rw [HTX.out, HSS.out]; apply ByteArray.ext; simp, HO1.out.trans kd⟩
      · rw [if_neg (by decide)] at htx
        have HTX := Lib.hid htx
        clear htx
        go_enter Tryd.func30, Tryd.ntmps30
        go_wp2_with (first | ((with_reducible refine wpList_load_at ?_ 53 (.tmp 8) ?_ _ ?_ _ HLD.out ?_); rfl; rfl; rfl) | (go_at_call 32; (with_reducible refine HDG.out.mono ?_); rintro e wd ⟨_, rfl, s, rfl, hs, kd⟩; have hz := HZD.out s hs; have HSS := Lib.hid hs; clear hs; have hz1 : 1 + s.size ≤ 9223372036854775807 := by omega))
        go_ret
        rw [← HXE.out] at kd
        exact ⟨_, rfl, _, rfl, by rw [HTX.out, HSS.out]; apply ByteArray.ext; simp, HO1.out.trans kd⟩
end Go.Proofs.YtnppjkekbdapkaaDoor
