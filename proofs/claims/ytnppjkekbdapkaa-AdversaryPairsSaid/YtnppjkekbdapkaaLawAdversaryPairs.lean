/-
  Whoever has a pair has both, and whoever has both has the pair: for every input.
-/
import Derived.Test.YtnppjkekbdapkaaPai
set_option linter.unusedVariables false
namespace Go.Proofs.Ytnppjkekbdapkaa
open Go.RowKit

theorem build_n7 (x0 x1 x2 x3 x4 x5 x6 : Nd) (w : World) : (Instr.buildSlice 22 7 #[(0, .agg (ndA x0)), (1, .agg (ndA x1)), (2, .agg (ndA x2)), (3, .agg (ndA x3)), (4, .agg (ndA x4)), (5, .agg (ndA x5)), (6, .agg (ndA x6))]).run Try.prog w = .ok (.slice (some ⟨w.heap.size, 0, none⟩) 7 7) (w.alloc (.cells (flat [x0, x1, x2, x3, x4, x5, x6]).toArray 34)) := by
  obtain ⟨ie, hie, hz, hs, hb⟩ := info_parts (show (Try.prog.info? 34).map (fun i => (i.zero, i.size, i.bytes)) = some (some (.agg #[.int .i64 0, .int .i64 0, .int .i64 0]), 3, 24) by kernel_rfl)
  refine run_buildSlice w 22 34 7 _ _ ie _ Try.underlying22 hie hz (by omega) (by omega) ?_
  rw [hs]
  kernel_rfl
theorem number_t (w : World) : Calls Try.prog 22 #[.bool true] w fun e w' => e = .returned (.int .i64 1) ∧ w' = w := by
  go_enter Try.func22, Try.ntmps22
  go_wp2
  go_ret
  exact ⟨rfl, rfl⟩
theorem number_f (w : World) : Calls Try.prog 22 #[.bool false] w fun e w' => e = .returned (.int .i64 0) ∧ w' = w := by
  go_enter Try.func22, Try.ntmps22
  go_wp2
  go_ret
  exact ⟨rfl, rfl⟩
section
variable {P : Program} {ops : Array Oper} {S : World → Prop} {md : Region.Mode} {Q : Exit → Act → World → Prop}
/-- A call of several operations that may come up; its value is told behind it. -/
theorem op_callx {K : Act → World → Prop} {j : Nat} {oj : Oper} {t : Tmp} {a : Act} {w : World} (hj : ops[j]? = some oj) (hd : oj.dst = some t) (hw : Region.wanted oj (yielded ops a.tmps) = true)
    {f : FuncId} {fn : Func} (hf : P.funcs[f]? = some fn) (hn : (fn.name == "runtime.NumGoroutine") = false) (hb : fn.body.isSome = true)
    {xs : Array Operand} {ts : Array TypeId} (hop : oj.op = .call { callee := .value (.func f), args := xs, argTypes := ts }) (al : List Value) (hargs : xs.toList.map a.eval = al) {R : Ending → World → Prop} (hc : Calls P f al.toArray w R)
    (h : ∀ e w', R e w' → ∃ v, e = .returned v ∧ K ⟨a.tmps.setIfInBounds t v, a.defers⟩ w') : wpOp P ops Q j K a w := by
  unfold Go.wpOp
  simp only [hj]
  rw [if_pos hw]
  refine .inl ?_
  have h1 : fn.name ≠ "runtime.NumGoroutine" := by simpa using hn
  obtain ⟨c, hcb⟩ := Option.isSome_iff_exists.1 hb
  have hargs' : xs.map a.eval = al.toArray := by rw [← hargs]; apply Array.toList_inj.1; simp
  have he : (callFunc f al.toArray).run P w = .ok (.enter f al.toArray) w := by simp [callFunc, hf, h1, hcb]
  have hrun : (execOp a.eval oj).run P w = .ok (.enter f al.toArray) w := by
    unfold execOp
    simp [hop, resolve, Deferred.ofValue, invoke, Act.eval, hargs', he]
  unfold Oper.wp
  rw [hrun, Oper.upon_enter]
  refine hc.mono fun e w'' hh => ?_
  obtain ⟨v, rfl, hk⟩ := h e w'' hh
  rw [← put_some (a := a), ← hd] at hk
  exact hk
end
theorem cellB {w : World} {b o n c : Nat} {l : List Bool} (h : BL w (.slice (some ⟨b, o, none⟩) n c) l) (i : Nat) (hi : i < l.length) : w.cell? ⟨b, o + i, none⟩ = some (.bool l[i]) := by
  obtain ⟨b', o', c', he, _, _, hc⟩ := h.at hi
  cases he
  exact hc
set_option maxHeartbeats 8000000 in
theorem adversaryPairs_walk (w : World) (a : Int) (ha : (Lit.int .u16 a).wf = true) (b : Int) (hb : (Lit.int .u16 b).wf = true) (one two : Bool) :
    Calls Try.prog 6 #[.int .u16 a, .int .u16 b, .bool one, .bool two] w fun e w' => e = .returned (.bool true) ∧ Below w.heap.size w w' := by
  have h1 : 0 ≤ a ∧ a ≤ 65535 := by
    simp [Lit.wf, IntKind.min, IntKind.max, IntKind.signed, IntKind.bits] at ha
    omega
  have h2 : 0 ≤ b ∧ b ≤ 65535 := by
    simp [Lit.wf, IntKind.min, IntKind.max, IntKind.signed, IntKind.bits] at hb
    omega
  clear ha hb
  have e1 : IntKind.i64.wrap a = a := IntWalk.i64_in _ (by omega)
  have e2 : IntKind.i64.wrap b = b := IntWalk.i64_in _ (by omega)
  have e3 : IntKind.i64.wrap (70000 + b) = 70000 + b := IntWalk.i64_in _ (by omega)
  have HNL : Hid (NL (w.alloc (.cells (flat (pL a b)).toArray 34)) (.slice (some ⟨w.heap.size, 0, none⟩) 7 7) (pL a b)) := NL.of_row (l := pL a b) (cap := 7) (heap_alloc_new _ _) (Nat.le_refl 7) (by unfold maxLen; omega) (fun i u h => by simpa using h)
  have HVO : Hid (Only (fun _ => False) w (w.alloc (.cells (flat (pL a b)).toArray 34))) := (Only.refl _ _).alloc _
  have HWF : Hid (∀ x ∈ pL a b, x.Wf) := by
    intro x hx
    simp [pL] at hx
    rcases hx with rfl | rfl | rfl | rfl | rfl | rfl | rfl <;> exact ⟨by rw [wf64_iff]; dsimp only; omega, by rw [wf64_iff]; dsimp only; omega, by rw [wf64_iff]; dsimp only; omega⟩
  have HH := Lib.hid (show (0 ≤ a ∧ a ≤ 65535) ∧ (0 ≤ b ∧ b ≤ 65535) from ⟨h1, h2⟩)
  go_enter Try.func6, Try.ntmps6
  go_upto_region 2 with fail
  change Code.wp _ _ _ _ (w.alloc (.cells (flat (pL a b)).toArray 34))
  generalize w.alloc (.cells (flat (pL a b)).toArray 34) = V at *
  clear e1 e2 e3 h1 h2
  have HF1 : Hid (FL (V.alloc (.cells #[.int .i64 6] 3)) V.heap.size (.slice (some ⟨V.heap.size, 0, none⟩) 1 1) [6]) := World.ownsRow_lit V #[.int .i64 6] 1 (Nat.le_refl _) (by unfold maxLen; omega) rfl
  have HO1 : Hid (Only (fun _ => False) V (V.alloc (.cells #[.int .i64 6] 3))) := (Only.refl _ _).alloc _
  have HB1 := Lib.hid (build_f 6 V)
  generalize V.alloc (.cells #[.int .i64 6] 3) = V1 at *
  cases one
  · cases two
    · have HKN : Hid (FL V1 V.heap.size _ (pK false false)) := HF1.out
      have HX := Lib.hid (pL_x HH.out.1 HH.out.2 false false)
      have HY := Lib.hid (pL_y HH.out.1 HH.out.2)
      have HA := Lib.hid (pL_atoms HH.out.1 HH.out.2 false false)
      have HC1 := Lib.hid (knows_any (pL a b) (pK false false) _ _ V1 (HNL.out.keep HO1.out) HKN.out.il HWF.out (by show 7 ≤ 1000000; omega) (by decide))
      rw [HX.out] at HC1
      go_upto_region 8 with (first | (refine wpList_bs_g rfl 23 1 #[(0, .const (.int .i64 6))] (by with_reducible rfl) [(0, .int .i64 6)] rfl _ HB1.out ?_) | (go_at_call 10; refine HC1.out.mono ?_; rintro e w3 ⟨bv, rfl, hb3, h3⟩))
      have HO3b := Lib.hid h3
      have HBX := Lib.hid hb3
      have HO3 := Lib.hid (HO1.out.trans h3)
      obtain ⟨bx, ox, cx, rfl, hcx, hmx, _⟩ := hb3.at (i := 0) (by decide)
      clear hb3 h3 HC1
      have HB8 := Lib.hid (build_f2 0 1 w3)
      have HI8 : Hid (IL (w3.alloc (.cells #[.int .i64 0, .int .i64 1] 3)) (.slice (some ⟨w3.heap.size, 0, none⟩) 2 2) [0, 1]) := IL.of_row (l := [0, 1]) (cap := 2) (heap_alloc_new _ _) (Nat.le_refl 2) (by unfold maxLen; omega) (fun i u h => by simpa using h)
      have HO8 : Hid (Only (fun _ => False) w3 (w3.alloc (.cells #[.int .i64 0, .int .i64 1] 3))) := (Only.refl _ _).alloc _
      generalize w3.alloc (.cells #[.int .i64 0, .int .i64 1] 3) = V8 at *
      have HC2 := Lib.hid (knows_any (pL a b) [0, 1] _ _ V8 (HNL.out.keep (HO3.out.trans HO8.out)) HI8.out HWF.out (by show 7 ≤ 1000000; omega) (by decide))
      rw [HY.out] at HC2
      have HSH := Lib.hid shown_any
      go_upto_region 9 with (first | (refine wpList_bs_g rfl 23 2 #[(0, .const (.int .i64 0)), (1, .const (.int .i64 1))] (by with_reducible rfl) [(0, .int .i64 0), (1, .int .i64 1)] rfl _ HB8.out ?_) | (go_at_call 10; refine HC2.out.mono ?_; rintro e w5 ⟨yv, rfl, hb5, h5⟩))
      have HO5 := Lib.hid h5
      obtain ⟨yx, oy, cy, rfl, hcy, hmy, _⟩ := hb5.at (i := 0) (by decide)
      have HBY := Lib.hid hb5
      have HQ := Lib.hid (HO8.out.trans h5)
      have HAT := Lib.hid (atoms_any (pL a b) (pK false false) _ _ (World.drew w5) (HNL.out.keep ((HO3.out.trans HQ.out).drew)) (HKN.out.il.keep ((HO3b.out.trans HQ.out).drew)) HWF.out (by show 7 ≤ 100000; omega) (by decide))
      have HX0 : Hid (∀ W, Only (fun _ => False) w5 W → W.cell? ⟨bx, ox, none⟩ = some (.bool false)) := fun W o => cellB (HBX.out.keep (HQ.out.trans o)) 0 (by decide)
      have HX1 : Hid (∀ W, Only (fun _ => False) w5 W → W.cell? ⟨bx, ox + 1, none⟩ = some (.bool false)) := fun W o => cellB (HBX.out.keep (HQ.out.trans o)) 1 (by decide)
      have HX2 : Hid (∀ W, Only (fun _ => False) w5 W → W.cell? ⟨bx, ox + 2, none⟩ = some (.bool false)) := fun W o => cellB (HBX.out.keep (HQ.out.trans o)) 2 (by decide)
      have HX5 : Hid (∀ W, Only (fun _ => False) w5 W → W.cell? ⟨bx, ox + 5, none⟩ = some (.bool false)) := fun W o => cellB (HBX.out.keep (HQ.out.trans o)) 5 (by decide)
      have HY2 : Hid (∀ W, Only (fun _ => False) w5 W → W.cell? ⟨yx, oy + 2, none⟩ = some (.bool true)) := fun W o => cellB (HBY.out.keep o) 2 (by decide)
      have HY5 : Hid (∀ W, Only (fun _ => False) w5 W → W.cell? ⟨yx, oy + 5, none⟩ = some (.bool false)) := fun W o => cellB (HBY.out.keep o) 5 (by decide)
      clear hb5 h5 HC2
      have hwn : IntKind.i64.wrap 0 = 0 := by decide
      refine wp_region_held (S := fun W => Only (fun _ => False) w5 W) (by kernel_rfl) ?_
      change wpAnyH _ _ _ _ _ _ _ _ (World.drew _)
      have HS0 : Only (fun _ => False) w5 (World.drew w5) := (Only.refl _ _).drew
      refine held_pure (i := 0) (v := (.slice (some ⟨bx, ox, none⟩) 7 cx)) rfl rfl (by kernel_rfl) (by kernel_rfl) (by kernel_rfl) (fun _ _ _ h => h) (Or.inl ⟨by rfl, fun w => by go_simp⟩) HS0 ?_
      simp only [List.setIfInBounds_toArray, List.set]
      refine held_pure (i := 1) (v := (.int .i64 7)) rfl rfl (by kernel_rfl) (by kernel_rfl) (by kernel_rfl) (fun _ _ _ h => h) (Or.inl ⟨by rfl, fun w => by go_simp⟩) HS0 ?_
      simp only [List.setIfInBounds_toArray, List.set]
      refine held_pure (i := 2) (v := (.bool true)) rfl rfl (by kernel_rfl) (by kernel_rfl) (by kernel_rfl) (fun _ _ _ h => h) (Or.inl ⟨by rfl, fun w => by go_simp⟩) HS0 ?_
      simp only [List.setIfInBounds_toArray, List.set]
      refine held_pure (i := 3) (v := (.bool true)) rfl rfl (by kernel_rfl) (by kernel_rfl) (by kernel_rfl) (fun _ _ _ h => h) (Or.inl ⟨by rfl, fun w => by go_simp⟩) HS0 ?_
      simp only [List.setIfInBounds_toArray, List.set]
      refine held_pure (i := 4) (v := (.slice (some ⟨yx, oy, none⟩) 7 cy)) rfl rfl (by kernel_rfl) (by kernel_rfl) (by kernel_rfl) (fun _ _ _ h => h) (Or.inl ⟨by rfl, fun w => by go_simp⟩) HS0 ?_
      simp only [List.setIfInBounds_toArray, List.set]
      refine held_pure (i := 5) (v := (.int .i64 7)) rfl rfl (by kernel_rfl) (by kernel_rfl) (by kernel_rfl) (fun _ _ _ h => h) (Or.inl ⟨by rfl, fun w => by go_simp⟩) HS0 ?_
      simp only [List.setIfInBounds_toArray, List.set]
      refine held_pure (i := 6) (v := (.bool true)) rfl rfl (by kernel_rfl) (by kernel_rfl) (by kernel_rfl) (fun _ _ _ h => h) (Or.inl ⟨by rfl, fun w => by go_simp⟩) HS0 ?_
      simp only [List.setIfInBounds_toArray, List.set]
      refine held_pure (i := 7) (v := (.bool true)) rfl rfl (by kernel_rfl) (by kernel_rfl) (by kernel_rfl) (fun _ _ _ h => h) (Or.inl ⟨by rfl, fun w => by go_simp⟩) HS0 ?_
      simp only [List.setIfInBounds_toArray, List.set]
      refine held_pure (i := 8) (v := (.bool true)) rfl rfl (by kernel_rfl) (by kernel_rfl) (by kernel_rfl) (fun _ _ _ h => h) (Or.inl ⟨by rfl, fun w => by go_simp⟩) HS0 ?_
      simp only [List.setIfInBounds_toArray, List.set]
      refine held_pure (i := 9) (v := (.slice (some ⟨bx, ox, none⟩) 7 cx)) rfl rfl (by kernel_rfl) (by kernel_rfl) (by kernel_rfl) (fun _ _ _ h => h) (Or.inl ⟨by rfl, fun w => by go_simp⟩) HS0 ?_
      simp only [List.setIfInBounds_toArray, List.set]
      refine held_pure (i := 10) (v := (.pointer (some ⟨bx, ox + 5, none⟩))) rfl rfl (by kernel_rfl) (by kernel_rfl) (by kernel_rfl) (fun _ _ _ h => h) (Or.inl ⟨by rfl, fun w => by go_simp⟩) HS0 ?_
      simp only [List.setIfInBounds_toArray, List.set]
      refine held_take (i := 11) (v := (.bool false)) rfl rfl (by kernel_rfl) (by kernel_rfl) (by kernel_rfl) (fun _ _ _ h => h) (Or.inl ⟨by rfl, fun w hS => by have hc := HX5.out w hS; go_simp⟩) HS0 ?_
      simp only [List.setIfInBounds_toArray, List.set]
      refine held_pure (i := 12) (v := (.bool false)) rfl rfl (by kernel_rfl) (by kernel_rfl) (by kernel_rfl) (fun _ _ _ h => h) (Or.inl ⟨by rfl, fun w => by go_simp⟩) HS0 ?_
      simp only [List.setIfInBounds_toArray, List.set]
      refine held_pure (i := 13) (v := (.bool true)) rfl rfl (by kernel_rfl) (by kernel_rfl) (by kernel_rfl) (fun _ _ _ h => h) (Or.inl ⟨by rfl, fun w => by go_simp⟩) HS0 ?_
      simp only [List.setIfInBounds_toArray, List.set]
      refine held_pure (i := 14) (v := (.bool true)) rfl rfl (by kernel_rfl) (by kernel_rfl) (by kernel_rfl) (fun _ _ _ h => h) (Or.inl ⟨by rfl, fun w => by go_simp⟩) HS0 ?_
      simp only [List.setIfInBounds_toArray, List.set]
      refine held_pure (i := 15) (v := (.bool true)) rfl rfl (by kernel_rfl) (by kernel_rfl) (by kernel_rfl) (fun _ _ _ h => h) (Or.inl ⟨by rfl, fun w => by go_simp⟩) HS0 ?_
      simp only [List.setIfInBounds_toArray, List.set]
      refine held_pure (i := 16) (v := (.slice (some ⟨bx, ox, none⟩) 7 cx)) rfl rfl (by kernel_rfl) (by kernel_rfl) (by kernel_rfl) (fun _ _ _ h => h) (Or.inl ⟨by rfl, fun w => by go_simp⟩) HS0 ?_
      simp only [List.setIfInBounds_toArray, List.set]
      refine held_pure (i := 17) (v := (.pointer (some ⟨bx, ox + 2, none⟩))) rfl rfl (by kernel_rfl) (by kernel_rfl) (by kernel_rfl) (fun _ _ _ h => h) (Or.inl ⟨by rfl, fun w => by go_simp⟩) HS0 ?_
      simp only [List.setIfInBounds_toArray, List.set]
      refine held_take (i := 18) (v := (.bool false)) rfl rfl (by kernel_rfl) (by kernel_rfl) (by kernel_rfl) (fun _ _ _ h => h) (Or.inl ⟨by rfl, fun w hS => by have hc := HX2.out w hS; go_simp⟩) HS0 ?_
      simp only [List.setIfInBounds_toArray, List.set]
      refine held_pure (i := 19) (v := (.bool false)) rfl rfl (by kernel_rfl) (by kernel_rfl) (by kernel_rfl) (fun _ _ _ h => h) (Or.inl ⟨by rfl, fun w => by go_simp⟩) HS0 ?_
      simp only [List.setIfInBounds_toArray, List.set]
      refine held_pure (i := 20) (v := (.bool false)) rfl rfl (by kernel_rfl) (by kernel_rfl) (by kernel_rfl) (fun _ _ _ h => h) (Or.inl ⟨by rfl, fun w => by go_simp⟩) HS0 ?_
      simp only [List.setIfInBounds_toArray, List.set]
      refine held_take (i := 21) (v := undef) rfl rfl (by kernel_rfl) (by kernel_rfl) (by kernel_rfl) (fun _ _ _ h => h) (Or.inr ⟨by rfl, rfl⟩) HS0 ?_
      simp only [List.setIfInBounds_toArray, List.set]
      refine held_pure (i := 22) (v := (.bool false)) rfl rfl (by kernel_rfl) (by kernel_rfl) (by kernel_rfl) (fun _ _ _ h => h) (Or.inl ⟨by rfl, fun w => by go_simp⟩) HS0 ?_
      simp only [List.setIfInBounds_toArray, List.set]
      refine held_pure (i := 23) (v := (.bool true)) rfl rfl (by kernel_rfl) (by kernel_rfl) (by kernel_rfl) (fun _ _ _ h => h) (Or.inl ⟨by rfl, fun w => by go_simp⟩) HS0 ?_
      simp only [List.setIfInBounds_toArray, List.set]
      refine held_pure (i := 24) (v := (.bool true)) rfl rfl (by kernel_rfl) (by kernel_rfl) (by kernel_rfl) (fun _ _ _ h => h) (Or.inl ⟨by rfl, fun w => by go_simp⟩) HS0 ?_
      simp only [List.setIfInBounds_toArray, List.set]
      refine held_pure (i := 25) (v := (.bool true)) rfl rfl (by kernel_rfl) (by kernel_rfl) (by kernel_rfl) (fun _ _ _ h => h) (Or.inl ⟨by rfl, fun w => by go_simp⟩) HS0 ?_
      simp only [List.setIfInBounds_toArray, List.set]
      refine held_pure (i := 26) (v := (.slice (some ⟨bx, ox, none⟩) 7 cx)) rfl rfl (by kernel_rfl) (by kernel_rfl) (by kernel_rfl) (fun _ _ _ h => h) (Or.inl ⟨by rfl, fun w => by go_simp⟩) HS0 ?_
      simp only [List.setIfInBounds_toArray, List.set]
      refine held_pure (i := 27) (v := (.pointer (some ⟨bx, ox, none⟩))) rfl rfl (by kernel_rfl) (by kernel_rfl) (by kernel_rfl) (fun _ _ _ h => h) (Or.inl ⟨by rfl, fun w => by go_simp⟩) HS0 ?_
      simp only [List.setIfInBounds_toArray, List.set]
      refine held_take (i := 28) (v := (.bool false)) rfl rfl (by kernel_rfl) (by kernel_rfl) (by kernel_rfl) (fun _ _ _ h => h) (Or.inl ⟨by rfl, fun w hS => by have hc := HX0.out w hS; go_simp⟩) HS0 ?_
      simp only [List.setIfInBounds_toArray, List.set]
      refine held_pure (i := 29) (v := (.slice (some ⟨bx, ox, none⟩) 7 cx)) rfl rfl (by kernel_rfl) (by kernel_rfl) (by kernel_rfl) (fun _ _ _ h => h) (Or.inl ⟨by rfl, fun w => by go_simp⟩) HS0 ?_
      simp only [List.setIfInBounds_toArray, List.set]
      refine held_pure (i := 30) (v := (.pointer (some ⟨bx, ox + 2, none⟩))) rfl rfl (by kernel_rfl) (by kernel_rfl) (by kernel_rfl) (fun _ _ _ h => h) (Or.inl ⟨by rfl, fun w => by go_simp⟩) HS0 ?_
      simp only [List.setIfInBounds_toArray, List.set]
      refine held_take (i := 31) (v := (.bool false)) rfl rfl (by kernel_rfl) (by kernel_rfl) (by kernel_rfl) (fun _ _ _ h => h) (Or.inl ⟨by rfl, fun w hS => by have hc := HX2.out w hS; go_simp⟩) HS0 ?_
      simp only [List.setIfInBounds_toArray, List.set]
      refine held_pure (i := 32) (v := (.bool true)) rfl rfl (by kernel_rfl) (by kernel_rfl) (by kernel_rfl) (fun _ _ _ h => h) (Or.inl ⟨by rfl, fun w => by go_simp⟩) HS0 ?_
      simp only [List.setIfInBounds_toArray, List.set]
      refine held_pure (i := 33) (v := (.bool true)) rfl rfl (by kernel_rfl) (by kernel_rfl) (by kernel_rfl) (fun _ _ _ h => h) (Or.inl ⟨by rfl, fun w => by go_simp⟩) HS0 ?_
      simp only [List.setIfInBounds_toArray, List.set]
      refine held_pure (i := 34) (v := (.bool true)) rfl rfl (by kernel_rfl) (by kernel_rfl) (by kernel_rfl) (fun _ _ _ h => h) (Or.inl ⟨by rfl, fun w => by go_simp⟩) HS0 ?_
      simp only [List.setIfInBounds_toArray, List.set]
      refine held_pure (i := 35) (v := (.slice (some ⟨bx, ox, none⟩) 7 cx)) rfl rfl (by kernel_rfl) (by kernel_rfl) (by kernel_rfl) (fun _ _ _ h => h) (Or.inl ⟨by rfl, fun w => by go_simp⟩) HS0 ?_
      simp only [List.setIfInBounds_toArray, List.set]
      refine held_pure (i := 36) (v := (.pointer (some ⟨bx, ox + 1, none⟩))) rfl rfl (by kernel_rfl) (by kernel_rfl) (by kernel_rfl) (fun _ _ _ h => h) (Or.inl ⟨by rfl, fun w => by go_simp⟩) HS0 ?_
      simp only [List.setIfInBounds_toArray, List.set]
      refine held_take (i := 37) (v := (.bool false)) rfl rfl (by kernel_rfl) (by kernel_rfl) (by kernel_rfl) (fun _ _ _ h => h) (Or.inl ⟨by rfl, fun w hS => by have hc := HX1.out w hS; go_simp⟩) HS0 ?_
      simp only [List.setIfInBounds_toArray, List.set]
      refine held_pure (i := 38) (v := (.slice (some ⟨bx, ox, none⟩) 7 cx)) rfl rfl (by kernel_rfl) (by kernel_rfl) (by kernel_rfl) (fun _ _ _ h => h) (Or.inl ⟨by rfl, fun w => by go_simp⟩) HS0 ?_
      simp only [List.setIfInBounds_toArray, List.set]
      refine held_pure (i := 39) (v := (.pointer (some ⟨bx, ox + 2, none⟩))) rfl rfl (by kernel_rfl) (by kernel_rfl) (by kernel_rfl) (fun _ _ _ h => h) (Or.inl ⟨by rfl, fun w => by go_simp⟩) HS0 ?_
      simp only [List.setIfInBounds_toArray, List.set]
      refine held_take (i := 40) (v := (.bool false)) rfl rfl (by kernel_rfl) (by kernel_rfl) (by kernel_rfl) (fun _ _ _ h => h) (Or.inl ⟨by rfl, fun w hS => by have hc := HX2.out w hS; go_simp⟩) HS0 ?_
      simp only [List.setIfInBounds_toArray, List.set]
      refine held_pure (i := 41) (v := (.bool true)) rfl rfl (by kernel_rfl) (by kernel_rfl) (by kernel_rfl) (fun _ _ _ h => h) (Or.inl ⟨by rfl, fun w => by go_simp⟩) HS0 ?_
      simp only [List.setIfInBounds_toArray, List.set]
      refine held_pure (i := 42) (v := (.bool true)) rfl rfl (by kernel_rfl) (by kernel_rfl) (by kernel_rfl) (fun _ _ _ h => h) (Or.inl ⟨by rfl, fun w => by go_simp⟩) HS0 ?_
      simp only [List.setIfInBounds_toArray, List.set]
      refine held_pure (i := 43) (v := (.bool true)) rfl rfl (by kernel_rfl) (by kernel_rfl) (by kernel_rfl) (fun _ _ _ h => h) (Or.inl ⟨by rfl, fun w => by go_simp⟩) HS0 ?_
      simp only [List.setIfInBounds_toArray, List.set]
      refine held_pure (i := 44) (v := (.slice (some ⟨yx, oy, none⟩) 7 cy)) rfl rfl (by kernel_rfl) (by kernel_rfl) (by kernel_rfl) (fun _ _ _ h => h) (Or.inl ⟨by rfl, fun w => by go_simp⟩) HS0 ?_
      simp only [List.setIfInBounds_toArray, List.set]
      refine held_pure (i := 45) (v := (.pointer (some ⟨yx, oy + 2, none⟩))) rfl rfl (by kernel_rfl) (by kernel_rfl) (by kernel_rfl) (fun _ _ _ h => h) (Or.inl ⟨by rfl, fun w => by go_simp⟩) HS0 ?_
      simp only [List.setIfInBounds_toArray, List.set]
      refine held_take (i := 46) (v := (.bool true)) rfl rfl (by kernel_rfl) (by kernel_rfl) (by kernel_rfl) (fun _ _ _ h => h) (Or.inl ⟨by rfl, fun w hS => by have hc := HY2.out w hS; go_simp⟩) HS0 ?_
      simp only [List.setIfInBounds_toArray, List.set]
      refine held_pure (i := 47) (v := (.bool true)) rfl rfl (by kernel_rfl) (by kernel_rfl) (by kernel_rfl) (fun _ _ _ h => h) (Or.inl ⟨by rfl, fun w => by go_simp⟩) HS0 ?_
      simp only [List.setIfInBounds_toArray, List.set]
      refine held_pure (i := 48) (v := (.bool true)) rfl rfl (by kernel_rfl) (by kernel_rfl) (by kernel_rfl) (fun _ _ _ h => h) (Or.inl ⟨by rfl, fun w => by go_simp⟩) HS0 ?_
      simp only [List.setIfInBounds_toArray, List.set]
      refine held_pure (i := 49) (v := (.slice (some ⟨yx, oy, none⟩) 7 cy)) rfl rfl (by kernel_rfl) (by kernel_rfl) (by kernel_rfl) (fun _ _ _ h => h) (Or.inl ⟨by rfl, fun w => by go_simp⟩) HS0 ?_
      simp only [List.setIfInBounds_toArray, List.set]
      refine held_pure (i := 50) (v := (.pointer (some ⟨yx, oy + 5, none⟩))) rfl rfl (by kernel_rfl) (by kernel_rfl) (by kernel_rfl) (fun _ _ _ h => h) (Or.inl ⟨by rfl, fun w => by go_simp⟩) HS0 ?_
      simp only [List.setIfInBounds_toArray, List.set]
      refine held_take (i := 51) (v := (.bool false)) rfl rfl (by kernel_rfl) (by kernel_rfl) (by kernel_rfl) (fun _ _ _ h => h) (Or.inl ⟨by rfl, fun w hS => by have hc := HY5.out w hS; go_simp⟩) HS0 ?_
      simp only [List.setIfInBounds_toArray, List.set]
      refine held_pure (i := 52) (v := (.bool true)) rfl rfl (by kernel_rfl) (by kernel_rfl) (by kernel_rfl) (fun _ _ _ h => h) (Or.inl ⟨by rfl, fun w => by go_simp⟩) HS0 ?_
      simp only [List.setIfInBounds_toArray, List.set]
      refine held_pure (i := 53) (v := (.bool true)) rfl rfl (by kernel_rfl) (by kernel_rfl) (by kernel_rfl) (fun _ _ _ h => h) (Or.inl ⟨by rfl, fun w => by go_simp⟩) HS0 ?_
      simp only [List.setIfInBounds_toArray, List.set]
      refine held_pure (i := 54) (v := (.bool true)) rfl rfl (by kernel_rfl) (by kernel_rfl) (by kernel_rfl) (fun _ _ _ h => h) (Or.inl ⟨by rfl, fun w => by go_simp⟩) HS0 ?_
      simp only [List.setIfInBounds_toArray, List.set]
      refine held_pure (i := 55) (v := (.slice (some ⟨w.heap.size, 0, none⟩) 7 7)) rfl rfl (by kernel_rfl) (by kernel_rfl) (by kernel_rfl) (fun _ _ _ h => h) (Or.inl ⟨by rfl, fun w => by go_simp⟩) HS0 ?_
      simp only [List.setIfInBounds_toArray, List.set]
      refine held_pure (i := 56) (v := (.slice (some ⟨V.heap.size, 0, none⟩) 1 1)) rfl rfl (by kernel_rfl) (by kernel_rfl) (by kernel_rfl) (fun _ _ _ h => h) (Or.inl ⟨by rfl, fun w => by go_simp⟩) HS0 ?_
      simp only [List.setIfInBounds_toArray, List.set]
      refine held_pure (i := 59) (v := (.bool false)) rfl rfl (by kernel_rfl) (by kernel_rfl) (by kernel_rfl) (fun _ _ _ h => h) (Or.inl ⟨by rfl, fun w => by go_simp⟩) HS0 ?_
      simp only [List.setIfInBounds_toArray, List.set]
      refine held_one (j := 57) (by kernel_rfl) ?_
      refine op_callx (j := 57) rfl rfl (by rfl) Try.func19 (by kernel_rfl) rfl rfl [(.slice (some ⟨w.heap.size, 0, none⟩) 7 7), (.slice (some ⟨V.heap.size, 0, none⟩) 1 1)] rfl HAT.out ?_
      rintro e w6 ⟨av, rfl, hi6, h6⟩
      obtain ⟨aa, ac, rfl, hca, hma⟩ := hi6.val
      rw [HA.out]
      have HS6 : Only (fun _ => False) w5 w6 := HS0.trans h6
      refine ⟨_, rfl, HS6, ?_⟩
      simp only [List.setIfInBounds_toArray, List.set]
      refine held_pure (i := 58) (v := (.int .i64 0)) rfl rfl (by kernel_rfl) (by kernel_rfl) (by kernel_rfl) (fun _ _ _ h => h) (Or.inl ⟨by rfl, fun w => by go_simp⟩) HS6 ?_
      simp only [List.setIfInBounds_toArray, List.set]
      refine held_pure (i := 60) (v := (.bool false)) rfl rfl (by kernel_rfl) (by kernel_rfl) (by kernel_rfl) (fun _ _ _ h => h) (Or.inl ⟨by rfl, fun w => by go_simp⟩) HS6 ?_
      simp only [List.setIfInBounds_toArray, List.set]
      refine held_take (i := 61) (v := undef) rfl rfl (by kernel_rfl) (by kernel_rfl) (by kernel_rfl) (fun _ _ _ h => h) (Or.inr ⟨by rfl, rfl⟩) HS6 ?_
      simp only [List.setIfInBounds_toArray, List.set]
      refine held_pure (i := 62) (v := (.bool false)) rfl rfl (by kernel_rfl) (by kernel_rfl) (by kernel_rfl) (fun _ _ _ h => h) (Or.inl ⟨by rfl, fun w => by go_simp⟩) HS6 ?_
      simp only [List.setIfInBounds_toArray, List.set]
      refine held_call (j := 63) (by kernel_rfl) rfl rfl (by rfl) Try.func22 (by kernel_rfl) rfl rfl [(.bool false)] rfl (number_f _) ?_
      rintro w8 rfl
      refine ⟨HS6, ?_⟩
      simp only [List.setIfInBounds_toArray, List.set]
      refine held_pure (i := 64) (v := (.int .i64 0)) rfl rfl (by kernel_rfl) (by kernel_rfl) (by kernel_rfl) (fun _ _ _ h => h) (Or.inl ⟨by rfl, fun w => by go_simp⟩) HS6 ?_
      simp only [List.setIfInBounds_toArray, List.set]
      refine held_pure (i := 65) (v := (.bool true)) rfl rfl (by kernel_rfl) (by kernel_rfl) (by kernel_rfl) (fun _ _ _ h => h) (Or.inl ⟨by rfl, fun w => by go_simp⟩) HS6 ?_
      simp only [List.setIfInBounds_toArray, List.set]
      refine held_pure (i := 66) (v := (.bool true)) rfl rfl (by kernel_rfl) (by kernel_rfl) (by kernel_rfl) (fun _ _ _ h => h) (Or.inl ⟨by rfl, fun w => by go_simp⟩) HS6 ?_
      simp only [List.setIfInBounds_toArray, List.set]
      refine held_pure (i := 67) (v := (.bool true)) rfl rfl (by kernel_rfl) (by kernel_rfl) (by kernel_rfl) (fun _ _ _ h => h) (Or.inl ⟨by rfl, fun w => by go_simp⟩) HS6 ?_
      simp only [List.setIfInBounds_toArray, List.set]
      refine held_call (j := 68) (by kernel_rfl) rfl rfl (by rfl) Try.func9 (by kernel_rfl) rfl rfl [] rfl (HSH.out _) ?_
      intro w7 h7
      have HS7 : Only (fun _ => False) w5 w7 := HS6.trans h7
      refine ⟨HS7, ?_⟩
      simp only [List.setIfInBounds_toArray, List.set]
      refine held_pure (i := 69) (v := (.bool true)) rfl rfl (by kernel_rfl) (by kernel_rfl) (by kernel_rfl) (fun _ _ _ h => h) (Or.inl ⟨by rfl, fun w => by go_simp⟩) HS7 ?_
      simp only [List.setIfInBounds_toArray, List.set]
      refine held_pure (i := 70) (v := (.bool true)) rfl rfl (by kernel_rfl) (by kernel_rfl) (by kernel_rfl) (fun _ _ _ h => h) (Or.inl ⟨by rfl, fun w => by go_simp⟩) HS7 ?_
      simp only [List.setIfInBounds_toArray, List.set]
      refine wpAnyH_done (by kernel_rfl) ?_ _
      have HS8 := Lib.hid HS7
      go_wp2_with fail
      go_ret
      exact ⟨rfl, ((((HVO.out.trans HO3.out).trans HO8.out).trans HO5.out).trans HS8.out).below (fun _ h => h.elim)⟩
    · obtain ⟨v2, W2, V2, hb, hr, hf, ho⟩ := snoc_int HF1.out HO1.out.size 4 (by decide)
      have HB2 := Lib.hid hb
      have HR2 := Lib.hid hr
      have HF2 := Lib.hid hf
      have HO2 := Lib.hid (fresh_only HO1.out ho (fun j hj => hj))
      clear hb hr hf ho
      have HKN : Hid (FL V2 V.heap.size _ (pK false true)) := HF2.out
      have HX := Lib.hid (pL_x HH.out.1 HH.out.2 false true)
      have HY := Lib.hid (pL_y HH.out.1 HH.out.2)
      have HA := Lib.hid (pL_atoms HH.out.1 HH.out.2 false true)
      have HC1 := Lib.hid (knows_any (pL a b) (pK false true) _ _ V2 (HNL.out.keep HO2.out) HKN.out.il HWF.out (by show 7 ≤ 1000000; omega) (by decide))
      rw [HX.out] at HC1
      go_upto_region 8 with (first | (refine wpList_bs_g rfl 23 1 #[(0, .const (.int .i64 6))] (by with_reducible rfl) [(0, .int .i64 6)] rfl _ HB1.out ?_) | (refine wpList_bs_g rfl 23 1 #[(0, .const (.int .i64 4))] (by with_reducible rfl) [(0, .int .i64 4)] rfl _ HB2.out ?_) | (at_builtin; refine wpList_app_g rfl (.tmp 32) (.tmp 33) 23 (by with_reducible rfl) _ _ _ rfl rfl HR2.out ?_) | (go_at_call 10; refine HC1.out.mono ?_; rintro e w3 ⟨bv, rfl, hb3, h3⟩))
      have HO3b := Lib.hid h3
      have HBX := Lib.hid hb3
      have HO3 := Lib.hid (HO2.out.trans h3)
      obtain ⟨bx, ox, cx, rfl, hcx, hmx, _⟩ := hb3.at (i := 0) (by decide)
      clear hb3 h3 HC1
      have HB8 := Lib.hid (build_f2 0 1 w3)
      have HI8 : Hid (IL (w3.alloc (.cells #[.int .i64 0, .int .i64 1] 3)) (.slice (some ⟨w3.heap.size, 0, none⟩) 2 2) [0, 1]) := IL.of_row (l := [0, 1]) (cap := 2) (heap_alloc_new _ _) (Nat.le_refl 2) (by unfold maxLen; omega) (fun i u h => by simpa using h)
      have HO8 : Hid (Only (fun _ => False) w3 (w3.alloc (.cells #[.int .i64 0, .int .i64 1] 3))) := (Only.refl _ _).alloc _
      generalize w3.alloc (.cells #[.int .i64 0, .int .i64 1] 3) = V8 at *
      have HC2 := Lib.hid (knows_any (pL a b) [0, 1] _ _ V8 (HNL.out.keep (HO3.out.trans HO8.out)) HI8.out HWF.out (by show 7 ≤ 1000000; omega) (by decide))
      rw [HY.out] at HC2
      have HSH := Lib.hid shown_any
      go_upto_region 9 with (first | (refine wpList_bs_g rfl 23 2 #[(0, .const (.int .i64 0)), (1, .const (.int .i64 1))] (by with_reducible rfl) [(0, .int .i64 0), (1, .int .i64 1)] rfl _ HB8.out ?_) | (go_at_call 10; refine HC2.out.mono ?_; rintro e w5 ⟨yv, rfl, hb5, h5⟩))
      have HO5 := Lib.hid h5
      obtain ⟨yx, oy, cy, rfl, hcy, hmy, _⟩ := hb5.at (i := 0) (by decide)
      have HBY := Lib.hid hb5
      have HQ := Lib.hid (HO8.out.trans h5)
      have HAT := Lib.hid (atoms_any (pL a b) (pK false true) _ _ (World.drew w5) (HNL.out.keep ((HO3.out.trans HQ.out).drew)) (HKN.out.il.keep ((HO3b.out.trans HQ.out).drew)) HWF.out (by show 7 ≤ 100000; omega) (by decide))
      have HX0 : Hid (∀ W, Only (fun _ => False) w5 W → W.cell? ⟨bx, ox, none⟩ = some (.bool false)) := fun W o => cellB (HBX.out.keep (HQ.out.trans o)) 0 (by decide)
      have HX1 : Hid (∀ W, Only (fun _ => False) w5 W → W.cell? ⟨bx, ox + 1, none⟩ = some (.bool false)) := fun W o => cellB (HBX.out.keep (HQ.out.trans o)) 1 (by decide)
      have HX2 : Hid (∀ W, Only (fun _ => False) w5 W → W.cell? ⟨bx, ox + 2, none⟩ = some (.bool false)) := fun W o => cellB (HBX.out.keep (HQ.out.trans o)) 2 (by decide)
      have HX5 : Hid (∀ W, Only (fun _ => False) w5 W → W.cell? ⟨bx, ox + 5, none⟩ = some (.bool true)) := fun W o => cellB (HBX.out.keep (HQ.out.trans o)) 5 (by decide)
      have HY2 : Hid (∀ W, Only (fun _ => False) w5 W → W.cell? ⟨yx, oy + 2, none⟩ = some (.bool true)) := fun W o => cellB (HBY.out.keep o) 2 (by decide)
      have HY5 : Hid (∀ W, Only (fun _ => False) w5 W → W.cell? ⟨yx, oy + 5, none⟩ = some (.bool false)) := fun W o => cellB (HBY.out.keep o) 5 (by decide)
      clear hb5 h5 HC2
      have hwn : IntKind.i64.wrap 0 = 0 := by decide
      refine wp_region_held (S := fun W => Only (fun _ => False) w5 W) (by kernel_rfl) ?_
      change wpAnyH _ _ _ _ _ _ _ _ (World.drew _)
      have HS0 : Only (fun _ => False) w5 (World.drew w5) := (Only.refl _ _).drew
      refine held_pure (i := 0) (v := (.slice (some ⟨bx, ox, none⟩) 7 cx)) rfl rfl (by kernel_rfl) (by kernel_rfl) (by kernel_rfl) (fun _ _ _ h => h) (Or.inl ⟨by rfl, fun w => by go_simp⟩) HS0 ?_
      simp only [List.setIfInBounds_toArray, List.set]
      refine held_pure (i := 1) (v := (.int .i64 7)) rfl rfl (by kernel_rfl) (by kernel_rfl) (by kernel_rfl) (fun _ _ _ h => h) (Or.inl ⟨by rfl, fun w => by go_simp⟩) HS0 ?_
      simp only [List.setIfInBounds_toArray, List.set]
      refine held_pure (i := 2) (v := (.bool true)) rfl rfl (by kernel_rfl) (by kernel_rfl) (by kernel_rfl) (fun _ _ _ h => h) (Or.inl ⟨by rfl, fun w => by go_simp⟩) HS0 ?_
      simp only [List.setIfInBounds_toArray, List.set]
      refine held_pure (i := 3) (v := (.bool true)) rfl rfl (by kernel_rfl) (by kernel_rfl) (by kernel_rfl) (fun _ _ _ h => h) (Or.inl ⟨by rfl, fun w => by go_simp⟩) HS0 ?_
      simp only [List.setIfInBounds_toArray, List.set]
      refine held_pure (i := 4) (v := (.slice (some ⟨yx, oy, none⟩) 7 cy)) rfl rfl (by kernel_rfl) (by kernel_rfl) (by kernel_rfl) (fun _ _ _ h => h) (Or.inl ⟨by rfl, fun w => by go_simp⟩) HS0 ?_
      simp only [List.setIfInBounds_toArray, List.set]
      refine held_pure (i := 5) (v := (.int .i64 7)) rfl rfl (by kernel_rfl) (by kernel_rfl) (by kernel_rfl) (fun _ _ _ h => h) (Or.inl ⟨by rfl, fun w => by go_simp⟩) HS0 ?_
      simp only [List.setIfInBounds_toArray, List.set]
      refine held_pure (i := 6) (v := (.bool true)) rfl rfl (by kernel_rfl) (by kernel_rfl) (by kernel_rfl) (fun _ _ _ h => h) (Or.inl ⟨by rfl, fun w => by go_simp⟩) HS0 ?_
      simp only [List.setIfInBounds_toArray, List.set]
      refine held_pure (i := 7) (v := (.bool true)) rfl rfl (by kernel_rfl) (by kernel_rfl) (by kernel_rfl) (fun _ _ _ h => h) (Or.inl ⟨by rfl, fun w => by go_simp⟩) HS0 ?_
      simp only [List.setIfInBounds_toArray, List.set]
      refine held_pure (i := 8) (v := (.bool true)) rfl rfl (by kernel_rfl) (by kernel_rfl) (by kernel_rfl) (fun _ _ _ h => h) (Or.inl ⟨by rfl, fun w => by go_simp⟩) HS0 ?_
      simp only [List.setIfInBounds_toArray, List.set]
      refine held_pure (i := 9) (v := (.slice (some ⟨bx, ox, none⟩) 7 cx)) rfl rfl (by kernel_rfl) (by kernel_rfl) (by kernel_rfl) (fun _ _ _ h => h) (Or.inl ⟨by rfl, fun w => by go_simp⟩) HS0 ?_
      simp only [List.setIfInBounds_toArray, List.set]
      refine held_pure (i := 10) (v := (.pointer (some ⟨bx, ox + 5, none⟩))) rfl rfl (by kernel_rfl) (by kernel_rfl) (by kernel_rfl) (fun _ _ _ h => h) (Or.inl ⟨by rfl, fun w => by go_simp⟩) HS0 ?_
      simp only [List.setIfInBounds_toArray, List.set]
      refine held_take (i := 11) (v := (.bool true)) rfl rfl (by kernel_rfl) (by kernel_rfl) (by kernel_rfl) (fun _ _ _ h => h) (Or.inl ⟨by rfl, fun w hS => by have hc := HX5.out w hS; go_simp⟩) HS0 ?_
      simp only [List.setIfInBounds_toArray, List.set]
      refine held_pure (i := 12) (v := (.bool true)) rfl rfl (by kernel_rfl) (by kernel_rfl) (by kernel_rfl) (fun _ _ _ h => h) (Or.inl ⟨by rfl, fun w => by go_simp⟩) HS0 ?_
      simp only [List.setIfInBounds_toArray, List.set]
      refine held_pure (i := 13) (v := (.bool true)) rfl rfl (by kernel_rfl) (by kernel_rfl) (by kernel_rfl) (fun _ _ _ h => h) (Or.inl ⟨by rfl, fun w => by go_simp⟩) HS0 ?_
      simp only [List.setIfInBounds_toArray, List.set]
      refine held_pure (i := 14) (v := (.bool true)) rfl rfl (by kernel_rfl) (by kernel_rfl) (by kernel_rfl) (fun _ _ _ h => h) (Or.inl ⟨by rfl, fun w => by go_simp⟩) HS0 ?_
      simp only [List.setIfInBounds_toArray, List.set]
      refine held_pure (i := 15) (v := (.bool true)) rfl rfl (by kernel_rfl) (by kernel_rfl) (by kernel_rfl) (fun _ _ _ h => h) (Or.inl ⟨by rfl, fun w => by go_simp⟩) HS0 ?_
      simp only [List.setIfInBounds_toArray, List.set]
      refine held_pure (i := 16) (v := (.slice (some ⟨bx, ox, none⟩) 7 cx)) rfl rfl (by kernel_rfl) (by kernel_rfl) (by kernel_rfl) (fun _ _ _ h => h) (Or.inl ⟨by rfl, fun w => by go_simp⟩) HS0 ?_
      simp only [List.setIfInBounds_toArray, List.set]
      refine held_pure (i := 17) (v := (.pointer (some ⟨bx, ox + 2, none⟩))) rfl rfl (by kernel_rfl) (by kernel_rfl) (by kernel_rfl) (fun _ _ _ h => h) (Or.inl ⟨by rfl, fun w => by go_simp⟩) HS0 ?_
      simp only [List.setIfInBounds_toArray, List.set]
      refine held_take (i := 18) (v := (.bool false)) rfl rfl (by kernel_rfl) (by kernel_rfl) (by kernel_rfl) (fun _ _ _ h => h) (Or.inl ⟨by rfl, fun w hS => by have hc := HX2.out w hS; go_simp⟩) HS0 ?_
      simp only [List.setIfInBounds_toArray, List.set]
      refine held_pure (i := 19) (v := (.bool false)) rfl rfl (by kernel_rfl) (by kernel_rfl) (by kernel_rfl) (fun _ _ _ h => h) (Or.inl ⟨by rfl, fun w => by go_simp⟩) HS0 ?_
      simp only [List.setIfInBounds_toArray, List.set]
      refine held_pure (i := 20) (v := (.bool false)) rfl rfl (by kernel_rfl) (by kernel_rfl) (by kernel_rfl) (fun _ _ _ h => h) (Or.inl ⟨by rfl, fun w => by go_simp⟩) HS0 ?_
      simp only [List.setIfInBounds_toArray, List.set]
      refine held_take (i := 21) (v := undef) rfl rfl (by kernel_rfl) (by kernel_rfl) (by kernel_rfl) (fun _ _ _ h => h) (Or.inr ⟨by rfl, rfl⟩) HS0 ?_
      simp only [List.setIfInBounds_toArray, List.set]
      refine held_pure (i := 22) (v := (.bool false)) rfl rfl (by kernel_rfl) (by kernel_rfl) (by kernel_rfl) (fun _ _ _ h => h) (Or.inl ⟨by rfl, fun w => by go_simp⟩) HS0 ?_
      simp only [List.setIfInBounds_toArray, List.set]
      refine held_pure (i := 23) (v := (.bool true)) rfl rfl (by kernel_rfl) (by kernel_rfl) (by kernel_rfl) (fun _ _ _ h => h) (Or.inl ⟨by rfl, fun w => by go_simp⟩) HS0 ?_
      simp only [List.setIfInBounds_toArray, List.set]
      refine held_pure (i := 24) (v := (.bool true)) rfl rfl (by kernel_rfl) (by kernel_rfl) (by kernel_rfl) (fun _ _ _ h => h) (Or.inl ⟨by rfl, fun w => by go_simp⟩) HS0 ?_
      simp only [List.setIfInBounds_toArray, List.set]
      refine held_pure (i := 25) (v := (.bool true)) rfl rfl (by kernel_rfl) (by kernel_rfl) (by kernel_rfl) (fun _ _ _ h => h) (Or.inl ⟨by rfl, fun w => by go_simp⟩) HS0 ?_
      simp only [List.setIfInBounds_toArray, List.set]
      refine held_pure (i := 26) (v := (.slice (some ⟨bx, ox, none⟩) 7 cx)) rfl rfl (by kernel_rfl) (by kernel_rfl) (by kernel_rfl) (fun _ _ _ h => h) (Or.inl ⟨by rfl, fun w => by go_simp⟩) HS0 ?_
      simp only [List.setIfInBounds_toArray, List.set]
      refine held_pure (i := 27) (v := (.pointer (some ⟨bx, ox, none⟩))) rfl rfl (by kernel_rfl) (by kernel_rfl) (by kernel_rfl) (fun _ _ _ h => h) (Or.inl ⟨by rfl, fun w => by go_simp⟩) HS0 ?_
      simp only [List.setIfInBounds_toArray, List.set]
      refine held_take (i := 28) (v := (.bool false)) rfl rfl (by kernel_rfl) (by kernel_rfl) (by kernel_rfl) (fun _ _ _ h => h) (Or.inl ⟨by rfl, fun w hS => by have hc := HX0.out w hS; go_simp⟩) HS0 ?_
      simp only [List.setIfInBounds_toArray, List.set]
      refine held_pure (i := 29) (v := (.slice (some ⟨bx, ox, none⟩) 7 cx)) rfl rfl (by kernel_rfl) (by kernel_rfl) (by kernel_rfl) (fun _ _ _ h => h) (Or.inl ⟨by rfl, fun w => by go_simp⟩) HS0 ?_
      simp only [List.setIfInBounds_toArray, List.set]
      refine held_pure (i := 30) (v := (.pointer (some ⟨bx, ox + 2, none⟩))) rfl rfl (by kernel_rfl) (by kernel_rfl) (by kernel_rfl) (fun _ _ _ h => h) (Or.inl ⟨by rfl, fun w => by go_simp⟩) HS0 ?_
      simp only [List.setIfInBounds_toArray, List.set]
      refine held_take (i := 31) (v := (.bool false)) rfl rfl (by kernel_rfl) (by kernel_rfl) (by kernel_rfl) (fun _ _ _ h => h) (Or.inl ⟨by rfl, fun w hS => by have hc := HX2.out w hS; go_simp⟩) HS0 ?_
      simp only [List.setIfInBounds_toArray, List.set]
      refine held_pure (i := 32) (v := (.bool true)) rfl rfl (by kernel_rfl) (by kernel_rfl) (by kernel_rfl) (fun _ _ _ h => h) (Or.inl ⟨by rfl, fun w => by go_simp⟩) HS0 ?_
      simp only [List.setIfInBounds_toArray, List.set]
      refine held_pure (i := 33) (v := (.bool true)) rfl rfl (by kernel_rfl) (by kernel_rfl) (by kernel_rfl) (fun _ _ _ h => h) (Or.inl ⟨by rfl, fun w => by go_simp⟩) HS0 ?_
      simp only [List.setIfInBounds_toArray, List.set]
      refine held_pure (i := 34) (v := (.bool true)) rfl rfl (by kernel_rfl) (by kernel_rfl) (by kernel_rfl) (fun _ _ _ h => h) (Or.inl ⟨by rfl, fun w => by go_simp⟩) HS0 ?_
      simp only [List.setIfInBounds_toArray, List.set]
      refine held_pure (i := 35) (v := (.slice (some ⟨bx, ox, none⟩) 7 cx)) rfl rfl (by kernel_rfl) (by kernel_rfl) (by kernel_rfl) (fun _ _ _ h => h) (Or.inl ⟨by rfl, fun w => by go_simp⟩) HS0 ?_
      simp only [List.setIfInBounds_toArray, List.set]
      refine held_pure (i := 36) (v := (.pointer (some ⟨bx, ox + 1, none⟩))) rfl rfl (by kernel_rfl) (by kernel_rfl) (by kernel_rfl) (fun _ _ _ h => h) (Or.inl ⟨by rfl, fun w => by go_simp⟩) HS0 ?_
      simp only [List.setIfInBounds_toArray, List.set]
      refine held_take (i := 37) (v := (.bool false)) rfl rfl (by kernel_rfl) (by kernel_rfl) (by kernel_rfl) (fun _ _ _ h => h) (Or.inl ⟨by rfl, fun w hS => by have hc := HX1.out w hS; go_simp⟩) HS0 ?_
      simp only [List.setIfInBounds_toArray, List.set]
      refine held_pure (i := 38) (v := (.slice (some ⟨bx, ox, none⟩) 7 cx)) rfl rfl (by kernel_rfl) (by kernel_rfl) (by kernel_rfl) (fun _ _ _ h => h) (Or.inl ⟨by rfl, fun w => by go_simp⟩) HS0 ?_
      simp only [List.setIfInBounds_toArray, List.set]
      refine held_pure (i := 39) (v := (.pointer (some ⟨bx, ox + 2, none⟩))) rfl rfl (by kernel_rfl) (by kernel_rfl) (by kernel_rfl) (fun _ _ _ h => h) (Or.inl ⟨by rfl, fun w => by go_simp⟩) HS0 ?_
      simp only [List.setIfInBounds_toArray, List.set]
      refine held_take (i := 40) (v := (.bool false)) rfl rfl (by kernel_rfl) (by kernel_rfl) (by kernel_rfl) (fun _ _ _ h => h) (Or.inl ⟨by rfl, fun w hS => by have hc := HX2.out w hS; go_simp⟩) HS0 ?_
      simp only [List.setIfInBounds_toArray, List.set]
      refine held_pure (i := 41) (v := (.bool true)) rfl rfl (by kernel_rfl) (by kernel_rfl) (by kernel_rfl) (fun _ _ _ h => h) (Or.inl ⟨by rfl, fun w => by go_simp⟩) HS0 ?_
      simp only [List.setIfInBounds_toArray, List.set]
      refine held_pure (i := 42) (v := (.bool true)) rfl rfl (by kernel_rfl) (by kernel_rfl) (by kernel_rfl) (fun _ _ _ h => h) (Or.inl ⟨by rfl, fun w => by go_simp⟩) HS0 ?_
      simp only [List.setIfInBounds_toArray, List.set]
      refine held_pure (i := 43) (v := (.bool true)) rfl rfl (by kernel_rfl) (by kernel_rfl) (by kernel_rfl) (fun _ _ _ h => h) (Or.inl ⟨by rfl, fun w => by go_simp⟩) HS0 ?_
      simp only [List.setIfInBounds_toArray, List.set]
      refine held_pure (i := 44) (v := (.slice (some ⟨yx, oy, none⟩) 7 cy)) rfl rfl (by kernel_rfl) (by kernel_rfl) (by kernel_rfl) (fun _ _ _ h => h) (Or.inl ⟨by rfl, fun w => by go_simp⟩) HS0 ?_
      simp only [List.setIfInBounds_toArray, List.set]
      refine held_pure (i := 45) (v := (.pointer (some ⟨yx, oy + 2, none⟩))) rfl rfl (by kernel_rfl) (by kernel_rfl) (by kernel_rfl) (fun _ _ _ h => h) (Or.inl ⟨by rfl, fun w => by go_simp⟩) HS0 ?_
      simp only [List.setIfInBounds_toArray, List.set]
      refine held_take (i := 46) (v := (.bool true)) rfl rfl (by kernel_rfl) (by kernel_rfl) (by kernel_rfl) (fun _ _ _ h => h) (Or.inl ⟨by rfl, fun w hS => by have hc := HY2.out w hS; go_simp⟩) HS0 ?_
      simp only [List.setIfInBounds_toArray, List.set]
      refine held_pure (i := 47) (v := (.bool true)) rfl rfl (by kernel_rfl) (by kernel_rfl) (by kernel_rfl) (fun _ _ _ h => h) (Or.inl ⟨by rfl, fun w => by go_simp⟩) HS0 ?_
      simp only [List.setIfInBounds_toArray, List.set]
      refine held_pure (i := 48) (v := (.bool true)) rfl rfl (by kernel_rfl) (by kernel_rfl) (by kernel_rfl) (fun _ _ _ h => h) (Or.inl ⟨by rfl, fun w => by go_simp⟩) HS0 ?_
      simp only [List.setIfInBounds_toArray, List.set]
      refine held_pure (i := 49) (v := (.slice (some ⟨yx, oy, none⟩) 7 cy)) rfl rfl (by kernel_rfl) (by kernel_rfl) (by kernel_rfl) (fun _ _ _ h => h) (Or.inl ⟨by rfl, fun w => by go_simp⟩) HS0 ?_
      simp only [List.setIfInBounds_toArray, List.set]
      refine held_pure (i := 50) (v := (.pointer (some ⟨yx, oy + 5, none⟩))) rfl rfl (by kernel_rfl) (by kernel_rfl) (by kernel_rfl) (fun _ _ _ h => h) (Or.inl ⟨by rfl, fun w => by go_simp⟩) HS0 ?_
      simp only [List.setIfInBounds_toArray, List.set]
      refine held_take (i := 51) (v := (.bool false)) rfl rfl (by kernel_rfl) (by kernel_rfl) (by kernel_rfl) (fun _ _ _ h => h) (Or.inl ⟨by rfl, fun w hS => by have hc := HY5.out w hS; go_simp⟩) HS0 ?_
      simp only [List.setIfInBounds_toArray, List.set]
      refine held_pure (i := 52) (v := (.bool true)) rfl rfl (by kernel_rfl) (by kernel_rfl) (by kernel_rfl) (fun _ _ _ h => h) (Or.inl ⟨by rfl, fun w => by go_simp⟩) HS0 ?_
      simp only [List.setIfInBounds_toArray, List.set]
      refine held_pure (i := 53) (v := (.bool true)) rfl rfl (by kernel_rfl) (by kernel_rfl) (by kernel_rfl) (fun _ _ _ h => h) (Or.inl ⟨by rfl, fun w => by go_simp⟩) HS0 ?_
      simp only [List.setIfInBounds_toArray, List.set]
      refine held_pure (i := 54) (v := (.bool true)) rfl rfl (by kernel_rfl) (by kernel_rfl) (by kernel_rfl) (fun _ _ _ h => h) (Or.inl ⟨by rfl, fun w => by go_simp⟩) HS0 ?_
      simp only [List.setIfInBounds_toArray, List.set]
      refine held_pure (i := 55) (v := (.slice (some ⟨w.heap.size, 0, none⟩) 7 7)) rfl rfl (by kernel_rfl) (by kernel_rfl) (by kernel_rfl) (fun _ _ _ h => h) (Or.inl ⟨by rfl, fun w => by go_simp⟩) HS0 ?_
      simp only [List.setIfInBounds_toArray, List.set]
      refine held_pure (i := 56) (v := v2) rfl rfl (by kernel_rfl) (by kernel_rfl) (by kernel_rfl) (fun _ _ _ h => h) (Or.inl ⟨by rfl, fun w => by go_simp⟩) HS0 ?_
      simp only [List.setIfInBounds_toArray, List.set]
      refine held_pure (i := 59) (v := (.bool false)) rfl rfl (by kernel_rfl) (by kernel_rfl) (by kernel_rfl) (fun _ _ _ h => h) (Or.inl ⟨by rfl, fun w => by go_simp⟩) HS0 ?_
      simp only [List.setIfInBounds_toArray, List.set]
      refine held_one (j := 57) (by kernel_rfl) ?_
      refine op_callx (j := 57) rfl rfl (by rfl) Try.func19 (by kernel_rfl) rfl rfl [(.slice (some ⟨w.heap.size, 0, none⟩) 7 7), v2] rfl HAT.out ?_
      rintro e w6 ⟨av, rfl, hi6, h6⟩
      obtain ⟨aa, ac, rfl, hca, hma⟩ := hi6.val
      rw [HA.out]
      have HS6 : Only (fun _ => False) w5 w6 := HS0.trans h6
      refine ⟨_, rfl, HS6, ?_⟩
      simp only [List.setIfInBounds_toArray, List.set]
      refine held_pure (i := 58) (v := (.int .i64 0)) rfl rfl (by kernel_rfl) (by kernel_rfl) (by kernel_rfl) (fun _ _ _ h => h) (Or.inl ⟨by rfl, fun w => by go_simp⟩) HS6 ?_
      simp only [List.setIfInBounds_toArray, List.set]
      refine held_pure (i := 60) (v := (.bool false)) rfl rfl (by kernel_rfl) (by kernel_rfl) (by kernel_rfl) (fun _ _ _ h => h) (Or.inl ⟨by rfl, fun w => by go_simp⟩) HS6 ?_
      simp only [List.setIfInBounds_toArray, List.set]
      refine held_take (i := 61) (v := undef) rfl rfl (by kernel_rfl) (by kernel_rfl) (by kernel_rfl) (fun _ _ _ h => h) (Or.inr ⟨by rfl, rfl⟩) HS6 ?_
      simp only [List.setIfInBounds_toArray, List.set]
      refine held_pure (i := 62) (v := (.bool false)) rfl rfl (by kernel_rfl) (by kernel_rfl) (by kernel_rfl) (fun _ _ _ h => h) (Or.inl ⟨by rfl, fun w => by go_simp⟩) HS6 ?_
      simp only [List.setIfInBounds_toArray, List.set]
      refine held_call (j := 63) (by kernel_rfl) rfl rfl (by rfl) Try.func22 (by kernel_rfl) rfl rfl [(.bool false)] rfl (number_f _) ?_
      rintro w8 rfl
      refine ⟨HS6, ?_⟩
      simp only [List.setIfInBounds_toArray, List.set]
      refine held_pure (i := 64) (v := (.int .i64 0)) rfl rfl (by kernel_rfl) (by kernel_rfl) (by kernel_rfl) (fun _ _ _ h => h) (Or.inl ⟨by rfl, fun w => by go_simp⟩) HS6 ?_
      simp only [List.setIfInBounds_toArray, List.set]
      refine held_pure (i := 65) (v := (.bool true)) rfl rfl (by kernel_rfl) (by kernel_rfl) (by kernel_rfl) (fun _ _ _ h => h) (Or.inl ⟨by rfl, fun w => by go_simp⟩) HS6 ?_
      simp only [List.setIfInBounds_toArray, List.set]
      refine held_pure (i := 66) (v := (.bool true)) rfl rfl (by kernel_rfl) (by kernel_rfl) (by kernel_rfl) (fun _ _ _ h => h) (Or.inl ⟨by rfl, fun w => by go_simp⟩) HS6 ?_
      simp only [List.setIfInBounds_toArray, List.set]
      refine held_pure (i := 67) (v := (.bool true)) rfl rfl (by kernel_rfl) (by kernel_rfl) (by kernel_rfl) (fun _ _ _ h => h) (Or.inl ⟨by rfl, fun w => by go_simp⟩) HS6 ?_
      simp only [List.setIfInBounds_toArray, List.set]
      refine held_call (j := 68) (by kernel_rfl) rfl rfl (by rfl) Try.func9 (by kernel_rfl) rfl rfl [] rfl (HSH.out _) ?_
      intro w7 h7
      have HS7 : Only (fun _ => False) w5 w7 := HS6.trans h7
      refine ⟨HS7, ?_⟩
      simp only [List.setIfInBounds_toArray, List.set]
      refine held_pure (i := 69) (v := (.bool true)) rfl rfl (by kernel_rfl) (by kernel_rfl) (by kernel_rfl) (fun _ _ _ h => h) (Or.inl ⟨by rfl, fun w => by go_simp⟩) HS7 ?_
      simp only [List.setIfInBounds_toArray, List.set]
      refine held_pure (i := 70) (v := (.bool true)) rfl rfl (by kernel_rfl) (by kernel_rfl) (by kernel_rfl) (fun _ _ _ h => h) (Or.inl ⟨by rfl, fun w => by go_simp⟩) HS7 ?_
      simp only [List.setIfInBounds_toArray, List.set]
      refine wpAnyH_done (by kernel_rfl) ?_ _
      have HS8 := Lib.hid HS7
      go_wp2_with fail
      go_ret
      exact ⟨rfl, ((((HVO.out.trans HO3.out).trans HO8.out).trans HO5.out).trans HS8.out).below (fun _ h => h.elim)⟩
  · cases two
    · obtain ⟨v2, W2, V2, hb, hr, hf, ho⟩ := snoc_int HF1.out HO1.out.size 3 (by decide)
      have HB2 := Lib.hid hb
      have HR2 := Lib.hid hr
      have HF2 := Lib.hid hf
      have HO2 := Lib.hid (fresh_only HO1.out ho (fun j hj => hj))
      clear hb hr hf ho
      have HKN : Hid (FL V2 V.heap.size _ (pK true false)) := HF2.out
      have HX := Lib.hid (pL_x HH.out.1 HH.out.2 true false)
      have HY := Lib.hid (pL_y HH.out.1 HH.out.2)
      have HA := Lib.hid (pL_atoms HH.out.1 HH.out.2 true false)
      have HC1 := Lib.hid (knows_any (pL a b) (pK true false) _ _ V2 (HNL.out.keep HO2.out) HKN.out.il HWF.out (by show 7 ≤ 1000000; omega) (by decide))
      rw [HX.out] at HC1
      go_upto_region 8 with (first | (refine wpList_bs_g rfl 23 1 #[(0, .const (.int .i64 6))] (by with_reducible rfl) [(0, .int .i64 6)] rfl _ HB1.out ?_) | (refine wpList_bs_g rfl 23 1 #[(0, .const (.int .i64 3))] (by with_reducible rfl) [(0, .int .i64 3)] rfl _ HB2.out ?_) | (at_builtin; refine wpList_app_g rfl (.tmp 28) (.tmp 29) 23 (by with_reducible rfl) _ _ _ rfl rfl HR2.out ?_) | (go_at_call 10; refine HC1.out.mono ?_; rintro e w3 ⟨bv, rfl, hb3, h3⟩))
      have HO3b := Lib.hid h3
      have HBX := Lib.hid hb3
      have HO3 := Lib.hid (HO2.out.trans h3)
      obtain ⟨bx, ox, cx, rfl, hcx, hmx, _⟩ := hb3.at (i := 0) (by decide)
      clear hb3 h3 HC1
      have HB8 := Lib.hid (build_f2 0 1 w3)
      have HI8 : Hid (IL (w3.alloc (.cells #[.int .i64 0, .int .i64 1] 3)) (.slice (some ⟨w3.heap.size, 0, none⟩) 2 2) [0, 1]) := IL.of_row (l := [0, 1]) (cap := 2) (heap_alloc_new _ _) (Nat.le_refl 2) (by unfold maxLen; omega) (fun i u h => by simpa using h)
      have HO8 : Hid (Only (fun _ => False) w3 (w3.alloc (.cells #[.int .i64 0, .int .i64 1] 3))) := (Only.refl _ _).alloc _
      generalize w3.alloc (.cells #[.int .i64 0, .int .i64 1] 3) = V8 at *
      have HC2 := Lib.hid (knows_any (pL a b) [0, 1] _ _ V8 (HNL.out.keep (HO3.out.trans HO8.out)) HI8.out HWF.out (by show 7 ≤ 1000000; omega) (by decide))
      rw [HY.out] at HC2
      have HSH := Lib.hid shown_any
      go_upto_region 9 with (first | (refine wpList_bs_g rfl 23 2 #[(0, .const (.int .i64 0)), (1, .const (.int .i64 1))] (by with_reducible rfl) [(0, .int .i64 0), (1, .int .i64 1)] rfl _ HB8.out ?_) | (go_at_call 10; refine HC2.out.mono ?_; rintro e w5 ⟨yv, rfl, hb5, h5⟩))
      have HO5 := Lib.hid h5
      obtain ⟨yx, oy, cy, rfl, hcy, hmy, _⟩ := hb5.at (i := 0) (by decide)
      have HBY := Lib.hid hb5
      have HQ := Lib.hid (HO8.out.trans h5)
      have HAT := Lib.hid (atoms_any (pL a b) (pK true false) _ _ (World.drew w5) (HNL.out.keep ((HO3.out.trans HQ.out).drew)) (HKN.out.il.keep ((HO3b.out.trans HQ.out).drew)) HWF.out (by show 7 ≤ 100000; omega) (by decide))
      have HX0 : Hid (∀ W, Only (fun _ => False) w5 W → W.cell? ⟨bx, ox, none⟩ = some (.bool false)) := fun W o => cellB (HBX.out.keep (HQ.out.trans o)) 0 (by decide)
      have HX1 : Hid (∀ W, Only (fun _ => False) w5 W → W.cell? ⟨bx, ox + 1, none⟩ = some (.bool false)) := fun W o => cellB (HBX.out.keep (HQ.out.trans o)) 1 (by decide)
      have HX2 : Hid (∀ W, Only (fun _ => False) w5 W → W.cell? ⟨bx, ox + 2, none⟩ = some (.bool false)) := fun W o => cellB (HBX.out.keep (HQ.out.trans o)) 2 (by decide)
      have HX5 : Hid (∀ W, Only (fun _ => False) w5 W → W.cell? ⟨bx, ox + 5, none⟩ = some (.bool false)) := fun W o => cellB (HBX.out.keep (HQ.out.trans o)) 5 (by decide)
      have HY2 : Hid (∀ W, Only (fun _ => False) w5 W → W.cell? ⟨yx, oy + 2, none⟩ = some (.bool true)) := fun W o => cellB (HBY.out.keep o) 2 (by decide)
      have HY5 : Hid (∀ W, Only (fun _ => False) w5 W → W.cell? ⟨yx, oy + 5, none⟩ = some (.bool false)) := fun W o => cellB (HBY.out.keep o) 5 (by decide)
      clear hb5 h5 HC2
      have hwn : IntKind.i64.wrap 0 = 0 := by decide
      refine wp_region_held (S := fun W => Only (fun _ => False) w5 W) (by kernel_rfl) ?_
      change wpAnyH _ _ _ _ _ _ _ _ (World.drew _)
      have HS0 : Only (fun _ => False) w5 (World.drew w5) := (Only.refl _ _).drew
      refine held_pure (i := 0) (v := (.slice (some ⟨bx, ox, none⟩) 7 cx)) rfl rfl (by kernel_rfl) (by kernel_rfl) (by kernel_rfl) (fun _ _ _ h => h) (Or.inl ⟨by rfl, fun w => by go_simp⟩) HS0 ?_
      simp only [List.setIfInBounds_toArray, List.set]
      refine held_pure (i := 1) (v := (.int .i64 7)) rfl rfl (by kernel_rfl) (by kernel_rfl) (by kernel_rfl) (fun _ _ _ h => h) (Or.inl ⟨by rfl, fun w => by go_simp⟩) HS0 ?_
      simp only [List.setIfInBounds_toArray, List.set]
      refine held_pure (i := 2) (v := (.bool true)) rfl rfl (by kernel_rfl) (by kernel_rfl) (by kernel_rfl) (fun _ _ _ h => h) (Or.inl ⟨by rfl, fun w => by go_simp⟩) HS0 ?_
      simp only [List.setIfInBounds_toArray, List.set]
      refine held_pure (i := 3) (v := (.bool true)) rfl rfl (by kernel_rfl) (by kernel_rfl) (by kernel_rfl) (fun _ _ _ h => h) (Or.inl ⟨by rfl, fun w => by go_simp⟩) HS0 ?_
      simp only [List.setIfInBounds_toArray, List.set]
      refine held_pure (i := 4) (v := (.slice (some ⟨yx, oy, none⟩) 7 cy)) rfl rfl (by kernel_rfl) (by kernel_rfl) (by kernel_rfl) (fun _ _ _ h => h) (Or.inl ⟨by rfl, fun w => by go_simp⟩) HS0 ?_
      simp only [List.setIfInBounds_toArray, List.set]
      refine held_pure (i := 5) (v := (.int .i64 7)) rfl rfl (by kernel_rfl) (by kernel_rfl) (by kernel_rfl) (fun _ _ _ h => h) (Or.inl ⟨by rfl, fun w => by go_simp⟩) HS0 ?_
      simp only [List.setIfInBounds_toArray, List.set]
      refine held_pure (i := 6) (v := (.bool true)) rfl rfl (by kernel_rfl) (by kernel_rfl) (by kernel_rfl) (fun _ _ _ h => h) (Or.inl ⟨by rfl, fun w => by go_simp⟩) HS0 ?_
      simp only [List.setIfInBounds_toArray, List.set]
      refine held_pure (i := 7) (v := (.bool true)) rfl rfl (by kernel_rfl) (by kernel_rfl) (by kernel_rfl) (fun _ _ _ h => h) (Or.inl ⟨by rfl, fun w => by go_simp⟩) HS0 ?_
      simp only [List.setIfInBounds_toArray, List.set]
      refine held_pure (i := 8) (v := (.bool true)) rfl rfl (by kernel_rfl) (by kernel_rfl) (by kernel_rfl) (fun _ _ _ h => h) (Or.inl ⟨by rfl, fun w => by go_simp⟩) HS0 ?_
      simp only [List.setIfInBounds_toArray, List.set]
      refine held_pure (i := 9) (v := (.slice (some ⟨bx, ox, none⟩) 7 cx)) rfl rfl (by kernel_rfl) (by kernel_rfl) (by kernel_rfl) (fun _ _ _ h => h) (Or.inl ⟨by rfl, fun w => by go_simp⟩) HS0 ?_
      simp only [List.setIfInBounds_toArray, List.set]
      refine held_pure (i := 10) (v := (.pointer (some ⟨bx, ox + 5, none⟩))) rfl rfl (by kernel_rfl) (by kernel_rfl) (by kernel_rfl) (fun _ _ _ h => h) (Or.inl ⟨by rfl, fun w => by go_simp⟩) HS0 ?_
      simp only [List.setIfInBounds_toArray, List.set]
      refine held_take (i := 11) (v := (.bool false)) rfl rfl (by kernel_rfl) (by kernel_rfl) (by kernel_rfl) (fun _ _ _ h => h) (Or.inl ⟨by rfl, fun w hS => by have hc := HX5.out w hS; go_simp⟩) HS0 ?_
      simp only [List.setIfInBounds_toArray, List.set]
      refine held_pure (i := 12) (v := (.bool false)) rfl rfl (by kernel_rfl) (by kernel_rfl) (by kernel_rfl) (fun _ _ _ h => h) (Or.inl ⟨by rfl, fun w => by go_simp⟩) HS0 ?_
      simp only [List.setIfInBounds_toArray, List.set]
      refine held_pure (i := 13) (v := (.bool true)) rfl rfl (by kernel_rfl) (by kernel_rfl) (by kernel_rfl) (fun _ _ _ h => h) (Or.inl ⟨by rfl, fun w => by go_simp⟩) HS0 ?_
      simp only [List.setIfInBounds_toArray, List.set]
      refine held_pure (i := 14) (v := (.bool true)) rfl rfl (by kernel_rfl) (by kernel_rfl) (by kernel_rfl) (fun _ _ _ h => h) (Or.inl ⟨by rfl, fun w => by go_simp⟩) HS0 ?_
      simp only [List.setIfInBounds_toArray, List.set]
      refine held_pure (i := 15) (v := (.bool true)) rfl rfl (by kernel_rfl) (by kernel_rfl) (by kernel_rfl) (fun _ _ _ h => h) (Or.inl ⟨by rfl, fun w => by go_simp⟩) HS0 ?_
      simp only [List.setIfInBounds_toArray, List.set]
      refine held_pure (i := 16) (v := (.slice (some ⟨bx, ox, none⟩) 7 cx)) rfl rfl (by kernel_rfl) (by kernel_rfl) (by kernel_rfl) (fun _ _ _ h => h) (Or.inl ⟨by rfl, fun w => by go_simp⟩) HS0 ?_
      simp only [List.setIfInBounds_toArray, List.set]
      refine held_pure (i := 17) (v := (.pointer (some ⟨bx, ox + 2, none⟩))) rfl rfl (by kernel_rfl) (by kernel_rfl) (by kernel_rfl) (fun _ _ _ h => h) (Or.inl ⟨by rfl, fun w => by go_simp⟩) HS0 ?_
      simp only [List.setIfInBounds_toArray, List.set]
      refine held_take (i := 18) (v := (.bool false)) rfl rfl (by kernel_rfl) (by kernel_rfl) (by kernel_rfl) (fun _ _ _ h => h) (Or.inl ⟨by rfl, fun w hS => by have hc := HX2.out w hS; go_simp⟩) HS0 ?_
      simp only [List.setIfInBounds_toArray, List.set]
      refine held_pure (i := 19) (v := (.bool true)) rfl rfl (by kernel_rfl) (by kernel_rfl) (by kernel_rfl) (fun _ _ _ h => h) (Or.inl ⟨by rfl, fun w => by go_simp⟩) HS0 ?_
      simp only [List.setIfInBounds_toArray, List.set]
      refine held_pure (i := 20) (v := (.bool true)) rfl rfl (by kernel_rfl) (by kernel_rfl) (by kernel_rfl) (fun _ _ _ h => h) (Or.inl ⟨by rfl, fun w => by go_simp⟩) HS0 ?_
      simp only [List.setIfInBounds_toArray, List.set]
      refine held_pure (i := 21) (v := (.bool false)) rfl rfl (by kernel_rfl) (by kernel_rfl) (by kernel_rfl) (fun _ _ _ h => h) (Or.inl ⟨by rfl, fun w => by go_simp⟩) HS0 ?_
      simp only [List.setIfInBounds_toArray, List.set]
      refine held_pure (i := 22) (v := (.bool false)) rfl rfl (by kernel_rfl) (by kernel_rfl) (by kernel_rfl) (fun _ _ _ h => h) (Or.inl ⟨by rfl, fun w => by go_simp⟩) HS0 ?_
      simp only [List.setIfInBounds_toArray, List.set]
      refine held_pure (i := 23) (v := (.bool true)) rfl rfl (by kernel_rfl) (by kernel_rfl) (by kernel_rfl) (fun _ _ _ h => h) (Or.inl ⟨by rfl, fun w => by go_simp⟩) HS0 ?_
      simp only [List.setIfInBounds_toArray, List.set]
      refine held_pure (i := 24) (v := (.bool true)) rfl rfl (by kernel_rfl) (by kernel_rfl) (by kernel_rfl) (fun _ _ _ h => h) (Or.inl ⟨by rfl, fun w => by go_simp⟩) HS0 ?_
      simp only [List.setIfInBounds_toArray, List.set]
      refine held_pure (i := 25) (v := (.bool true)) rfl rfl (by kernel_rfl) (by kernel_rfl) (by kernel_rfl) (fun _ _ _ h => h) (Or.inl ⟨by rfl, fun w => by go_simp⟩) HS0 ?_
      simp only [List.setIfInBounds_toArray, List.set]
      refine held_pure (i := 26) (v := (.slice (some ⟨bx, ox, none⟩) 7 cx)) rfl rfl (by kernel_rfl) (by kernel_rfl) (by kernel_rfl) (fun _ _ _ h => h) (Or.inl ⟨by rfl, fun w => by go_simp⟩) HS0 ?_
      simp only [List.setIfInBounds_toArray, List.set]
      refine held_pure (i := 27) (v := (.pointer (some ⟨bx, ox, none⟩))) rfl rfl (by kernel_rfl) (by kernel_rfl) (by kernel_rfl) (fun _ _ _ h => h) (Or.inl ⟨by rfl, fun w => by go_simp⟩) HS0 ?_
      simp only [List.setIfInBounds_toArray, List.set]
      refine held_take (i := 28) (v := (.bool false)) rfl rfl (by kernel_rfl) (by kernel_rfl) (by kernel_rfl) (fun _ _ _ h => h) (Or.inl ⟨by rfl, fun w hS => by have hc := HX0.out w hS; go_simp⟩) HS0 ?_
      simp only [List.setIfInBounds_toArray, List.set]
      refine held_pure (i := 29) (v := (.slice (some ⟨bx, ox, none⟩) 7 cx)) rfl rfl (by kernel_rfl) (by kernel_rfl) (by kernel_rfl) (fun _ _ _ h => h) (Or.inl ⟨by rfl, fun w => by go_simp⟩) HS0 ?_
      simp only [List.setIfInBounds_toArray, List.set]
      refine held_pure (i := 30) (v := (.pointer (some ⟨bx, ox + 2, none⟩))) rfl rfl (by kernel_rfl) (by kernel_rfl) (by kernel_rfl) (fun _ _ _ h => h) (Or.inl ⟨by rfl, fun w => by go_simp⟩) HS0 ?_
      simp only [List.setIfInBounds_toArray, List.set]
      refine held_take (i := 31) (v := (.bool false)) rfl rfl (by kernel_rfl) (by kernel_rfl) (by kernel_rfl) (fun _ _ _ h => h) (Or.inl ⟨by rfl, fun w hS => by have hc := HX2.out w hS; go_simp⟩) HS0 ?_
      simp only [List.setIfInBounds_toArray, List.set]
      refine held_pure (i := 32) (v := (.bool true)) rfl rfl (by kernel_rfl) (by kernel_rfl) (by kernel_rfl) (fun _ _ _ h => h) (Or.inl ⟨by rfl, fun w => by go_simp⟩) HS0 ?_
      simp only [List.setIfInBounds_toArray, List.set]
      refine held_pure (i := 33) (v := (.bool true)) rfl rfl (by kernel_rfl) (by kernel_rfl) (by kernel_rfl) (fun _ _ _ h => h) (Or.inl ⟨by rfl, fun w => by go_simp⟩) HS0 ?_
      simp only [List.setIfInBounds_toArray, List.set]
      refine held_pure (i := 34) (v := (.bool true)) rfl rfl (by kernel_rfl) (by kernel_rfl) (by kernel_rfl) (fun _ _ _ h => h) (Or.inl ⟨by rfl, fun w => by go_simp⟩) HS0 ?_
      simp only [List.setIfInBounds_toArray, List.set]
      refine held_pure (i := 35) (v := (.slice (some ⟨bx, ox, none⟩) 7 cx)) rfl rfl (by kernel_rfl) (by kernel_rfl) (by kernel_rfl) (fun _ _ _ h => h) (Or.inl ⟨by rfl, fun w => by go_simp⟩) HS0 ?_
      simp only [List.setIfInBounds_toArray, List.set]
      refine held_pure (i := 36) (v := (.pointer (some ⟨bx, ox + 1, none⟩))) rfl rfl (by kernel_rfl) (by kernel_rfl) (by kernel_rfl) (fun _ _ _ h => h) (Or.inl ⟨by rfl, fun w => by go_simp⟩) HS0 ?_
      simp only [List.setIfInBounds_toArray, List.set]
      refine held_take (i := 37) (v := (.bool false)) rfl rfl (by kernel_rfl) (by kernel_rfl) (by kernel_rfl) (fun _ _ _ h => h) (Or.inl ⟨by rfl, fun w hS => by have hc := HX1.out w hS; go_simp⟩) HS0 ?_
      simp only [List.setIfInBounds_toArray, List.set]
      refine held_pure (i := 38) (v := (.slice (some ⟨bx, ox, none⟩) 7 cx)) rfl rfl (by kernel_rfl) (by kernel_rfl) (by kernel_rfl) (fun _ _ _ h => h) (Or.inl ⟨by rfl, fun w => by go_simp⟩) HS0 ?_
      simp only [List.setIfInBounds_toArray, List.set]
      refine held_pure (i := 39) (v := (.pointer (some ⟨bx, ox + 2, none⟩))) rfl rfl (by kernel_rfl) (by kernel_rfl) (by kernel_rfl) (fun _ _ _ h => h) (Or.inl ⟨by rfl, fun w => by go_simp⟩) HS0 ?_
      simp only [List.setIfInBounds_toArray, List.set]
      refine held_take (i := 40) (v := (.bool false)) rfl rfl (by kernel_rfl) (by kernel_rfl) (by kernel_rfl) (fun _ _ _ h => h) (Or.inl ⟨by rfl, fun w hS => by have hc := HX2.out w hS; go_simp⟩) HS0 ?_
      simp only [List.setIfInBounds_toArray, List.set]
      refine held_pure (i := 41) (v := (.bool true)) rfl rfl (by kernel_rfl) (by kernel_rfl) (by kernel_rfl) (fun _ _ _ h => h) (Or.inl ⟨by rfl, fun w => by go_simp⟩) HS0 ?_
      simp only [List.setIfInBounds_toArray, List.set]
      refine held_pure (i := 42) (v := (.bool true)) rfl rfl (by kernel_rfl) (by kernel_rfl) (by kernel_rfl) (fun _ _ _ h => h) (Or.inl ⟨by rfl, fun w => by go_simp⟩) HS0 ?_
      simp only [List.setIfInBounds_toArray, List.set]
      refine held_pure (i := 43) (v := (.bool true)) rfl rfl (by kernel_rfl) (by kernel_rfl) (by kernel_rfl) (fun _ _ _ h => h) (Or.inl ⟨by rfl, fun w => by go_simp⟩) HS0 ?_
      simp only [List.setIfInBounds_toArray, List.set]
      refine held_pure (i := 44) (v := (.slice (some ⟨yx, oy, none⟩) 7 cy)) rfl rfl (by kernel_rfl) (by kernel_rfl) (by kernel_rfl) (fun _ _ _ h => h) (Or.inl ⟨by rfl, fun w => by go_simp⟩) HS0 ?_
      simp only [List.setIfInBounds_toArray, List.set]
      refine held_pure (i := 45) (v := (.pointer (some ⟨yx, oy + 2, none⟩))) rfl rfl (by kernel_rfl) (by kernel_rfl) (by kernel_rfl) (fun _ _ _ h => h) (Or.inl ⟨by rfl, fun w => by go_simp⟩) HS0 ?_
      simp only [List.setIfInBounds_toArray, List.set]
      refine held_take (i := 46) (v := (.bool true)) rfl rfl (by kernel_rfl) (by kernel_rfl) (by kernel_rfl) (fun _ _ _ h => h) (Or.inl ⟨by rfl, fun w hS => by have hc := HY2.out w hS; go_simp⟩) HS0 ?_
      simp only [List.setIfInBounds_toArray, List.set]
      refine held_pure (i := 47) (v := (.bool true)) rfl rfl (by kernel_rfl) (by kernel_rfl) (by kernel_rfl) (fun _ _ _ h => h) (Or.inl ⟨by rfl, fun w => by go_simp⟩) HS0 ?_
      simp only [List.setIfInBounds_toArray, List.set]
      refine held_pure (i := 48) (v := (.bool true)) rfl rfl (by kernel_rfl) (by kernel_rfl) (by kernel_rfl) (fun _ _ _ h => h) (Or.inl ⟨by rfl, fun w => by go_simp⟩) HS0 ?_
      simp only [List.setIfInBounds_toArray, List.set]
      refine held_pure (i := 49) (v := (.slice (some ⟨yx, oy, none⟩) 7 cy)) rfl rfl (by kernel_rfl) (by kernel_rfl) (by kernel_rfl) (fun _ _ _ h => h) (Or.inl ⟨by rfl, fun w => by go_simp⟩) HS0 ?_
      simp only [List.setIfInBounds_toArray, List.set]
      refine held_pure (i := 50) (v := (.pointer (some ⟨yx, oy + 5, none⟩))) rfl rfl (by kernel_rfl) (by kernel_rfl) (by kernel_rfl) (fun _ _ _ h => h) (Or.inl ⟨by rfl, fun w => by go_simp⟩) HS0 ?_
      simp only [List.setIfInBounds_toArray, List.set]
      refine held_take (i := 51) (v := (.bool false)) rfl rfl (by kernel_rfl) (by kernel_rfl) (by kernel_rfl) (fun _ _ _ h => h) (Or.inl ⟨by rfl, fun w hS => by have hc := HY5.out w hS; go_simp⟩) HS0 ?_
      simp only [List.setIfInBounds_toArray, List.set]
      refine held_pure (i := 52) (v := (.bool true)) rfl rfl (by kernel_rfl) (by kernel_rfl) (by kernel_rfl) (fun _ _ _ h => h) (Or.inl ⟨by rfl, fun w => by go_simp⟩) HS0 ?_
      simp only [List.setIfInBounds_toArray, List.set]
      refine held_pure (i := 53) (v := (.bool true)) rfl rfl (by kernel_rfl) (by kernel_rfl) (by kernel_rfl) (fun _ _ _ h => h) (Or.inl ⟨by rfl, fun w => by go_simp⟩) HS0 ?_
      simp only [List.setIfInBounds_toArray, List.set]
      refine held_pure (i := 54) (v := (.bool true)) rfl rfl (by kernel_rfl) (by kernel_rfl) (by kernel_rfl) (fun _ _ _ h => h) (Or.inl ⟨by rfl, fun w => by go_simp⟩) HS0 ?_
      simp only [List.setIfInBounds_toArray, List.set]
      refine held_pure (i := 55) (v := (.slice (some ⟨w.heap.size, 0, none⟩) 7 7)) rfl rfl (by kernel_rfl) (by kernel_rfl) (by kernel_rfl) (fun _ _ _ h => h) (Or.inl ⟨by rfl, fun w => by go_simp⟩) HS0 ?_
      simp only [List.setIfInBounds_toArray, List.set]
      refine held_pure (i := 56) (v := v2) rfl rfl (by kernel_rfl) (by kernel_rfl) (by kernel_rfl) (fun _ _ _ h => h) (Or.inl ⟨by rfl, fun w => by go_simp⟩) HS0 ?_
      simp only [List.setIfInBounds_toArray, List.set]
      refine held_pure (i := 59) (v := (.bool true)) rfl rfl (by kernel_rfl) (by kernel_rfl) (by kernel_rfl) (fun _ _ _ h => h) (Or.inl ⟨by rfl, fun w => by go_simp⟩) HS0 ?_
      simp only [List.setIfInBounds_toArray, List.set]
      refine held_one (j := 57) (by kernel_rfl) ?_
      refine op_callx (j := 57) rfl rfl (by rfl) Try.func19 (by kernel_rfl) rfl rfl [(.slice (some ⟨w.heap.size, 0, none⟩) 7 7), v2] rfl HAT.out ?_
      rintro e w6 ⟨av, rfl, hi6, h6⟩
      obtain ⟨aa, ac, rfl, hca, hma⟩ := hi6.val
      rw [HA.out]
      have HS6 : Only (fun _ => False) w5 w6 := HS0.trans h6
      refine ⟨_, rfl, HS6, ?_⟩
      simp only [List.setIfInBounds_toArray, List.set]
      refine held_pure (i := 58) (v := (.int .i64 0)) rfl rfl (by kernel_rfl) (by kernel_rfl) (by kernel_rfl) (fun _ _ _ h => h) (Or.inl ⟨by rfl, fun w => by go_simp⟩) HS6 ?_
      simp only [List.setIfInBounds_toArray, List.set]
      refine held_pure (i := 60) (v := (.bool true)) rfl rfl (by kernel_rfl) (by kernel_rfl) (by kernel_rfl) (fun _ _ _ h => h) (Or.inl ⟨by rfl, fun w => by go_simp⟩) HS6 ?_
      simp only [List.setIfInBounds_toArray, List.set]
      refine held_pure (i := 61) (v := (.bool false)) rfl rfl (by kernel_rfl) (by kernel_rfl) (by kernel_rfl) (fun _ _ _ h => h) (Or.inl ⟨by rfl, fun w => by go_simp⟩) HS6 ?_
      simp only [List.setIfInBounds_toArray, List.set]
      refine held_pure (i := 62) (v := (.bool false)) rfl rfl (by kernel_rfl) (by kernel_rfl) (by kernel_rfl) (fun _ _ _ h => h) (Or.inl ⟨by rfl, fun w => by go_simp⟩) HS6 ?_
      simp only [List.setIfInBounds_toArray, List.set]
      refine held_call (j := 63) (by kernel_rfl) rfl rfl (by rfl) Try.func22 (by kernel_rfl) rfl rfl [(.bool false)] rfl (number_f _) ?_
      rintro w8 rfl
      refine ⟨HS6, ?_⟩
      simp only [List.setIfInBounds_toArray, List.set]
      refine held_pure (i := 64) (v := (.int .i64 0)) rfl rfl (by kernel_rfl) (by kernel_rfl) (by kernel_rfl) (fun _ _ _ h => h) (Or.inl ⟨by rfl, fun w => by go_simp⟩) HS6 ?_
      simp only [List.setIfInBounds_toArray, List.set]
      refine held_pure (i := 65) (v := (.bool true)) rfl rfl (by kernel_rfl) (by kernel_rfl) (by kernel_rfl) (fun _ _ _ h => h) (Or.inl ⟨by rfl, fun w => by go_simp⟩) HS6 ?_
      simp only [List.setIfInBounds_toArray, List.set]
      refine held_pure (i := 66) (v := (.bool true)) rfl rfl (by kernel_rfl) (by kernel_rfl) (by kernel_rfl) (fun _ _ _ h => h) (Or.inl ⟨by rfl, fun w => by go_simp⟩) HS6 ?_
      simp only [List.setIfInBounds_toArray, List.set]
      refine held_pure (i := 67) (v := (.bool true)) rfl rfl (by kernel_rfl) (by kernel_rfl) (by kernel_rfl) (fun _ _ _ h => h) (Or.inl ⟨by rfl, fun w => by go_simp⟩) HS6 ?_
      simp only [List.setIfInBounds_toArray, List.set]
      refine held_call (j := 68) (by kernel_rfl) rfl rfl (by rfl) Try.func9 (by kernel_rfl) rfl rfl [] rfl (HSH.out _) ?_
      intro w7 h7
      have HS7 : Only (fun _ => False) w5 w7 := HS6.trans h7
      refine ⟨HS7, ?_⟩
      simp only [List.setIfInBounds_toArray, List.set]
      refine held_pure (i := 69) (v := (.bool true)) rfl rfl (by kernel_rfl) (by kernel_rfl) (by kernel_rfl) (fun _ _ _ h => h) (Or.inl ⟨by rfl, fun w => by go_simp⟩) HS7 ?_
      simp only [List.setIfInBounds_toArray, List.set]
      refine held_pure (i := 70) (v := (.bool true)) rfl rfl (by kernel_rfl) (by kernel_rfl) (by kernel_rfl) (fun _ _ _ h => h) (Or.inl ⟨by rfl, fun w => by go_simp⟩) HS7 ?_
      simp only [List.setIfInBounds_toArray, List.set]
      refine wpAnyH_done (by kernel_rfl) ?_ _
      have HS8 := Lib.hid HS7
      go_wp2_with fail
      go_ret
      exact ⟨rfl, ((((HVO.out.trans HO3.out).trans HO8.out).trans HO5.out).trans HS8.out).below (fun _ h => h.elim)⟩
    · obtain ⟨v2, W2, V2, hb, hr, hf, ho⟩ := snoc_int HF1.out HO1.out.size 3 (by decide)
      have HB2 := Lib.hid hb
      have HR2 := Lib.hid hr
      have HF2 := Lib.hid hf
      have HO2 := Lib.hid (fresh_only HO1.out ho (fun j hj => hj))
      clear hb hr hf ho
      obtain ⟨v3, W3, V3, hb, hr, hf, ho⟩ := snoc_int HF2.out HO2.out.size 4 (by decide)
      have HB3 := Lib.hid hb
      have HR3 := Lib.hid hr
      have HF3 := Lib.hid hf
      have HO3 := Lib.hid (fresh_only HO2.out ho (fun j hj => hj))
      clear hb hr hf ho
      have HKN : Hid (FL V3 V.heap.size _ (pK true true)) := HF3.out
      have HX := Lib.hid (pL_x HH.out.1 HH.out.2 true true)
      have HY := Lib.hid (pL_y HH.out.1 HH.out.2)
      have HA := Lib.hid (pL_atoms HH.out.1 HH.out.2 true true)
      have HC1 := Lib.hid (knows_any (pL a b) (pK true true) _ _ V3 (HNL.out.keep HO3.out) HKN.out.il HWF.out (by show 7 ≤ 1000000; omega) (by decide))
      rw [HX.out] at HC1
      go_upto_region 8 with (first | (refine wpList_bs_g rfl 23 1 #[(0, .const (.int .i64 6))] (by with_reducible rfl) [(0, .int .i64 6)] rfl _ HB1.out ?_) | (refine wpList_bs_g rfl 23 1 #[(0, .const (.int .i64 3))] (by with_reducible rfl) [(0, .int .i64 3)] rfl _ HB2.out ?_) | (at_builtin; refine wpList_app_g rfl (.tmp 28) (.tmp 29) 23 (by with_reducible rfl) _ _ _ rfl rfl HR2.out ?_) | (refine wpList_bs_g rfl 23 1 #[(0, .const (.int .i64 4))] (by with_reducible rfl) [(0, .int .i64 4)] rfl _ HB3.out ?_) | (at_builtin; refine wpList_app_g rfl (.tmp 32) (.tmp 33) 23 (by with_reducible rfl) _ _ _ rfl rfl HR3.out ?_) | (go_at_call 10; refine HC1.out.mono ?_; rintro e w3 ⟨bv, rfl, hb3, h3⟩))
      have HO3b := Lib.hid h3
      have HBX := Lib.hid hb3
      have HO3 := Lib.hid (HO3.out.trans h3)
      obtain ⟨bx, ox, cx, rfl, hcx, hmx, _⟩ := hb3.at (i := 0) (by decide)
      clear hb3 h3 HC1
      have HB8 := Lib.hid (build_f2 0 1 w3)
      have HI8 : Hid (IL (w3.alloc (.cells #[.int .i64 0, .int .i64 1] 3)) (.slice (some ⟨w3.heap.size, 0, none⟩) 2 2) [0, 1]) := IL.of_row (l := [0, 1]) (cap := 2) (heap_alloc_new _ _) (Nat.le_refl 2) (by unfold maxLen; omega) (fun i u h => by simpa using h)
      have HO8 : Hid (Only (fun _ => False) w3 (w3.alloc (.cells #[.int .i64 0, .int .i64 1] 3))) := (Only.refl _ _).alloc _
      generalize w3.alloc (.cells #[.int .i64 0, .int .i64 1] 3) = V8 at *
      have HC2 := Lib.hid (knows_any (pL a b) [0, 1] _ _ V8 (HNL.out.keep (HO3.out.trans HO8.out)) HI8.out HWF.out (by show 7 ≤ 1000000; omega) (by decide))
      rw [HY.out] at HC2
      have HSH := Lib.hid shown_any
      go_upto_region 9 with (first | (refine wpList_bs_g rfl 23 2 #[(0, .const (.int .i64 0)), (1, .const (.int .i64 1))] (by with_reducible rfl) [(0, .int .i64 0), (1, .int .i64 1)] rfl _ HB8.out ?_) | (go_at_call 10; refine HC2.out.mono ?_; rintro e w5 ⟨yv, rfl, hb5, h5⟩))
      have HO5 := Lib.hid h5
      obtain ⟨yx, oy, cy, rfl, hcy, hmy, _⟩ := hb5.at (i := 0) (by decide)
      have HBY := Lib.hid hb5
      have HQ := Lib.hid (HO8.out.trans h5)
      have HAT := Lib.hid (atoms_any (pL a b) (pK true true) _ _ (World.drew w5) (HNL.out.keep ((HO3.out.trans HQ.out).drew)) (HKN.out.il.keep ((HO3b.out.trans HQ.out).drew)) HWF.out (by show 7 ≤ 100000; omega) (by decide))
      have HX0 : Hid (∀ W, Only (fun _ => False) w5 W → W.cell? ⟨bx, ox, none⟩ = some (.bool true)) := fun W o => cellB (HBX.out.keep (HQ.out.trans o)) 0 (by decide)
      have HX1 : Hid (∀ W, Only (fun _ => False) w5 W → W.cell? ⟨bx, ox + 1, none⟩ = some (.bool true)) := fun W o => cellB (HBX.out.keep (HQ.out.trans o)) 1 (by decide)
      have HX2 : Hid (∀ W, Only (fun _ => False) w5 W → W.cell? ⟨bx, ox + 2, none⟩ = some (.bool true)) := fun W o => cellB (HBX.out.keep (HQ.out.trans o)) 2 (by decide)
      have HX5 : Hid (∀ W, Only (fun _ => False) w5 W → W.cell? ⟨bx, ox + 5, none⟩ = some (.bool true)) := fun W o => cellB (HBX.out.keep (HQ.out.trans o)) 5 (by decide)
      have HY2 : Hid (∀ W, Only (fun _ => False) w5 W → W.cell? ⟨yx, oy + 2, none⟩ = some (.bool true)) := fun W o => cellB (HBY.out.keep o) 2 (by decide)
      have HY5 : Hid (∀ W, Only (fun _ => False) w5 W → W.cell? ⟨yx, oy + 5, none⟩ = some (.bool false)) := fun W o => cellB (HBY.out.keep o) 5 (by decide)
      clear hb5 h5 HC2
      have hwn : IntKind.i64.wrap 2 = 2 := by decide
      refine wp_region_held (S := fun W => Only (fun _ => False) w5 W) (by kernel_rfl) ?_
      change wpAnyH _ _ _ _ _ _ _ _ (World.drew _)
      have HS0 : Only (fun _ => False) w5 (World.drew w5) := (Only.refl _ _).drew
      refine held_pure (i := 0) (v := (.slice (some ⟨bx, ox, none⟩) 7 cx)) rfl rfl (by kernel_rfl) (by kernel_rfl) (by kernel_rfl) (fun _ _ _ h => h) (Or.inl ⟨by rfl, fun w => by go_simp⟩) HS0 ?_
      simp only [List.setIfInBounds_toArray, List.set]
      refine held_pure (i := 1) (v := (.int .i64 7)) rfl rfl (by kernel_rfl) (by kernel_rfl) (by kernel_rfl) (fun _ _ _ h => h) (Or.inl ⟨by rfl, fun w => by go_simp⟩) HS0 ?_
      simp only [List.setIfInBounds_toArray, List.set]
      refine held_pure (i := 2) (v := (.bool true)) rfl rfl (by kernel_rfl) (by kernel_rfl) (by kernel_rfl) (fun _ _ _ h => h) (Or.inl ⟨by rfl, fun w => by go_simp⟩) HS0 ?_
      simp only [List.setIfInBounds_toArray, List.set]
      refine held_pure (i := 3) (v := (.bool true)) rfl rfl (by kernel_rfl) (by kernel_rfl) (by kernel_rfl) (fun _ _ _ h => h) (Or.inl ⟨by rfl, fun w => by go_simp⟩) HS0 ?_
      simp only [List.setIfInBounds_toArray, List.set]
      refine held_pure (i := 4) (v := (.slice (some ⟨yx, oy, none⟩) 7 cy)) rfl rfl (by kernel_rfl) (by kernel_rfl) (by kernel_rfl) (fun _ _ _ h => h) (Or.inl ⟨by rfl, fun w => by go_simp⟩) HS0 ?_
      simp only [List.setIfInBounds_toArray, List.set]
      refine held_pure (i := 5) (v := (.int .i64 7)) rfl rfl (by kernel_rfl) (by kernel_rfl) (by kernel_rfl) (fun _ _ _ h => h) (Or.inl ⟨by rfl, fun w => by go_simp⟩) HS0 ?_
      simp only [List.setIfInBounds_toArray, List.set]
      refine held_pure (i := 6) (v := (.bool true)) rfl rfl (by kernel_rfl) (by kernel_rfl) (by kernel_rfl) (fun _ _ _ h => h) (Or.inl ⟨by rfl, fun w => by go_simp⟩) HS0 ?_
      simp only [List.setIfInBounds_toArray, List.set]
      refine held_pure (i := 7) (v := (.bool true)) rfl rfl (by kernel_rfl) (by kernel_rfl) (by kernel_rfl) (fun _ _ _ h => h) (Or.inl ⟨by rfl, fun w => by go_simp⟩) HS0 ?_
      simp only [List.setIfInBounds_toArray, List.set]
      refine held_pure (i := 8) (v := (.bool true)) rfl rfl (by kernel_rfl) (by kernel_rfl) (by kernel_rfl) (fun _ _ _ h => h) (Or.inl ⟨by rfl, fun w => by go_simp⟩) HS0 ?_
      simp only [List.setIfInBounds_toArray, List.set]
      refine held_pure (i := 9) (v := (.slice (some ⟨bx, ox, none⟩) 7 cx)) rfl rfl (by kernel_rfl) (by kernel_rfl) (by kernel_rfl) (fun _ _ _ h => h) (Or.inl ⟨by rfl, fun w => by go_simp⟩) HS0 ?_
      simp only [List.setIfInBounds_toArray, List.set]
      refine held_pure (i := 10) (v := (.pointer (some ⟨bx, ox + 5, none⟩))) rfl rfl (by kernel_rfl) (by kernel_rfl) (by kernel_rfl) (fun _ _ _ h => h) (Or.inl ⟨by rfl, fun w => by go_simp⟩) HS0 ?_
      simp only [List.setIfInBounds_toArray, List.set]
      refine held_take (i := 11) (v := (.bool true)) rfl rfl (by kernel_rfl) (by kernel_rfl) (by kernel_rfl) (fun _ _ _ h => h) (Or.inl ⟨by rfl, fun w hS => by have hc := HX5.out w hS; go_simp⟩) HS0 ?_
      simp only [List.setIfInBounds_toArray, List.set]
      refine held_pure (i := 12) (v := (.bool true)) rfl rfl (by kernel_rfl) (by kernel_rfl) (by kernel_rfl) (fun _ _ _ h => h) (Or.inl ⟨by rfl, fun w => by go_simp⟩) HS0 ?_
      simp only [List.setIfInBounds_toArray, List.set]
      refine held_pure (i := 13) (v := (.bool true)) rfl rfl (by kernel_rfl) (by kernel_rfl) (by kernel_rfl) (fun _ _ _ h => h) (Or.inl ⟨by rfl, fun w => by go_simp⟩) HS0 ?_
      simp only [List.setIfInBounds_toArray, List.set]
      refine held_pure (i := 14) (v := (.bool true)) rfl rfl (by kernel_rfl) (by kernel_rfl) (by kernel_rfl) (fun _ _ _ h => h) (Or.inl ⟨by rfl, fun w => by go_simp⟩) HS0 ?_
      simp only [List.setIfInBounds_toArray, List.set]
      refine held_pure (i := 15) (v := (.bool true)) rfl rfl (by kernel_rfl) (by kernel_rfl) (by kernel_rfl) (fun _ _ _ h => h) (Or.inl ⟨by rfl, fun w => by go_simp⟩) HS0 ?_
      simp only [List.setIfInBounds_toArray, List.set]
      refine held_pure (i := 16) (v := (.slice (some ⟨bx, ox, none⟩) 7 cx)) rfl rfl (by kernel_rfl) (by kernel_rfl) (by kernel_rfl) (fun _ _ _ h => h) (Or.inl ⟨by rfl, fun w => by go_simp⟩) HS0 ?_
      simp only [List.setIfInBounds_toArray, List.set]
      refine held_pure (i := 17) (v := (.pointer (some ⟨bx, ox + 2, none⟩))) rfl rfl (by kernel_rfl) (by kernel_rfl) (by kernel_rfl) (fun _ _ _ h => h) (Or.inl ⟨by rfl, fun w => by go_simp⟩) HS0 ?_
      simp only [List.setIfInBounds_toArray, List.set]
      refine held_take (i := 18) (v := (.bool true)) rfl rfl (by kernel_rfl) (by kernel_rfl) (by kernel_rfl) (fun _ _ _ h => h) (Or.inl ⟨by rfl, fun w hS => by have hc := HX2.out w hS; go_simp⟩) HS0 ?_
      simp only [List.setIfInBounds_toArray, List.set]
      refine held_pure (i := 19) (v := (.bool true)) rfl rfl (by kernel_rfl) (by kernel_rfl) (by kernel_rfl) (fun _ _ _ h => h) (Or.inl ⟨by rfl, fun w => by go_simp⟩) HS0 ?_
      simp only [List.setIfInBounds_toArray, List.set]
      refine held_pure (i := 20) (v := (.bool true)) rfl rfl (by kernel_rfl) (by kernel_rfl) (by kernel_rfl) (fun _ _ _ h => h) (Or.inl ⟨by rfl, fun w => by go_simp⟩) HS0 ?_
      simp only [List.setIfInBounds_toArray, List.set]
      refine held_pure (i := 21) (v := (.bool true)) rfl rfl (by kernel_rfl) (by kernel_rfl) (by kernel_rfl) (fun _ _ _ h => h) (Or.inl ⟨by rfl, fun w => by go_simp⟩) HS0 ?_
      simp only [List.setIfInBounds_toArray, List.set]
      refine held_pure (i := 22) (v := (.bool true)) rfl rfl (by kernel_rfl) (by kernel_rfl) (by kernel_rfl) (fun _ _ _ h => h) (Or.inl ⟨by rfl, fun w => by go_simp⟩) HS0 ?_
      simp only [List.setIfInBounds_toArray, List.set]
      refine held_pure (i := 23) (v := (.bool true)) rfl rfl (by kernel_rfl) (by kernel_rfl) (by kernel_rfl) (fun _ _ _ h => h) (Or.inl ⟨by rfl, fun w => by go_simp⟩) HS0 ?_
      simp only [List.setIfInBounds_toArray, List.set]
      refine held_pure (i := 24) (v := (.bool true)) rfl rfl (by kernel_rfl) (by kernel_rfl) (by kernel_rfl) (fun _ _ _ h => h) (Or.inl ⟨by rfl, fun w => by go_simp⟩) HS0 ?_
      simp only [List.setIfInBounds_toArray, List.set]
      refine held_pure (i := 25) (v := (.bool true)) rfl rfl (by kernel_rfl) (by kernel_rfl) (by kernel_rfl) (fun _ _ _ h => h) (Or.inl ⟨by rfl, fun w => by go_simp⟩) HS0 ?_
      simp only [List.setIfInBounds_toArray, List.set]
      refine held_pure (i := 26) (v := (.slice (some ⟨bx, ox, none⟩) 7 cx)) rfl rfl (by kernel_rfl) (by kernel_rfl) (by kernel_rfl) (fun _ _ _ h => h) (Or.inl ⟨by rfl, fun w => by go_simp⟩) HS0 ?_
      simp only [List.setIfInBounds_toArray, List.set]
      refine held_pure (i := 27) (v := (.pointer (some ⟨bx, ox, none⟩))) rfl rfl (by kernel_rfl) (by kernel_rfl) (by kernel_rfl) (fun _ _ _ h => h) (Or.inl ⟨by rfl, fun w => by go_simp⟩) HS0 ?_
      simp only [List.setIfInBounds_toArray, List.set]
      refine held_take (i := 28) (v := (.bool true)) rfl rfl (by kernel_rfl) (by kernel_rfl) (by kernel_rfl) (fun _ _ _ h => h) (Or.inl ⟨by rfl, fun w hS => by have hc := HX0.out w hS; go_simp⟩) HS0 ?_
      simp only [List.setIfInBounds_toArray, List.set]
      refine held_pure (i := 29) (v := (.slice (some ⟨bx, ox, none⟩) 7 cx)) rfl rfl (by kernel_rfl) (by kernel_rfl) (by kernel_rfl) (fun _ _ _ h => h) (Or.inl ⟨by rfl, fun w => by go_simp⟩) HS0 ?_
      simp only [List.setIfInBounds_toArray, List.set]
      refine held_pure (i := 30) (v := (.pointer (some ⟨bx, ox + 2, none⟩))) rfl rfl (by kernel_rfl) (by kernel_rfl) (by kernel_rfl) (fun _ _ _ h => h) (Or.inl ⟨by rfl, fun w => by go_simp⟩) HS0 ?_
      simp only [List.setIfInBounds_toArray, List.set]
      refine held_take (i := 31) (v := (.bool true)) rfl rfl (by kernel_rfl) (by kernel_rfl) (by kernel_rfl) (fun _ _ _ h => h) (Or.inl ⟨by rfl, fun w hS => by have hc := HX2.out w hS; go_simp⟩) HS0 ?_
      simp only [List.setIfInBounds_toArray, List.set]
      refine held_pure (i := 32) (v := (.bool true)) rfl rfl (by kernel_rfl) (by kernel_rfl) (by kernel_rfl) (fun _ _ _ h => h) (Or.inl ⟨by rfl, fun w => by go_simp⟩) HS0 ?_
      simp only [List.setIfInBounds_toArray, List.set]
      refine held_pure (i := 33) (v := (.bool true)) rfl rfl (by kernel_rfl) (by kernel_rfl) (by kernel_rfl) (fun _ _ _ h => h) (Or.inl ⟨by rfl, fun w => by go_simp⟩) HS0 ?_
      simp only [List.setIfInBounds_toArray, List.set]
      refine held_pure (i := 34) (v := (.bool true)) rfl rfl (by kernel_rfl) (by kernel_rfl) (by kernel_rfl) (fun _ _ _ h => h) (Or.inl ⟨by rfl, fun w => by go_simp⟩) HS0 ?_
      simp only [List.setIfInBounds_toArray, List.set]
      refine held_pure (i := 35) (v := (.slice (some ⟨bx, ox, none⟩) 7 cx)) rfl rfl (by kernel_rfl) (by kernel_rfl) (by kernel_rfl) (fun _ _ _ h => h) (Or.inl ⟨by rfl, fun w => by go_simp⟩) HS0 ?_
      simp only [List.setIfInBounds_toArray, List.set]
      refine held_pure (i := 36) (v := (.pointer (some ⟨bx, ox + 1, none⟩))) rfl rfl (by kernel_rfl) (by kernel_rfl) (by kernel_rfl) (fun _ _ _ h => h) (Or.inl ⟨by rfl, fun w => by go_simp⟩) HS0 ?_
      simp only [List.setIfInBounds_toArray, List.set]
      refine held_take (i := 37) (v := (.bool true)) rfl rfl (by kernel_rfl) (by kernel_rfl) (by kernel_rfl) (fun _ _ _ h => h) (Or.inl ⟨by rfl, fun w hS => by have hc := HX1.out w hS; go_simp⟩) HS0 ?_
      simp only [List.setIfInBounds_toArray, List.set]
      refine held_pure (i := 38) (v := (.slice (some ⟨bx, ox, none⟩) 7 cx)) rfl rfl (by kernel_rfl) (by kernel_rfl) (by kernel_rfl) (fun _ _ _ h => h) (Or.inl ⟨by rfl, fun w => by go_simp⟩) HS0 ?_
      simp only [List.setIfInBounds_toArray, List.set]
      refine held_pure (i := 39) (v := (.pointer (some ⟨bx, ox + 2, none⟩))) rfl rfl (by kernel_rfl) (by kernel_rfl) (by kernel_rfl) (fun _ _ _ h => h) (Or.inl ⟨by rfl, fun w => by go_simp⟩) HS0 ?_
      simp only [List.setIfInBounds_toArray, List.set]
      refine held_take (i := 40) (v := (.bool true)) rfl rfl (by kernel_rfl) (by kernel_rfl) (by kernel_rfl) (fun _ _ _ h => h) (Or.inl ⟨by rfl, fun w hS => by have hc := HX2.out w hS; go_simp⟩) HS0 ?_
      simp only [List.setIfInBounds_toArray, List.set]
      refine held_pure (i := 41) (v := (.bool true)) rfl rfl (by kernel_rfl) (by kernel_rfl) (by kernel_rfl) (fun _ _ _ h => h) (Or.inl ⟨by rfl, fun w => by go_simp⟩) HS0 ?_
      simp only [List.setIfInBounds_toArray, List.set]
      refine held_pure (i := 42) (v := (.bool true)) rfl rfl (by kernel_rfl) (by kernel_rfl) (by kernel_rfl) (fun _ _ _ h => h) (Or.inl ⟨by rfl, fun w => by go_simp⟩) HS0 ?_
      simp only [List.setIfInBounds_toArray, List.set]
      refine held_pure (i := 43) (v := (.bool true)) rfl rfl (by kernel_rfl) (by kernel_rfl) (by kernel_rfl) (fun _ _ _ h => h) (Or.inl ⟨by rfl, fun w => by go_simp⟩) HS0 ?_
      simp only [List.setIfInBounds_toArray, List.set]
      refine held_pure (i := 44) (v := (.slice (some ⟨yx, oy, none⟩) 7 cy)) rfl rfl (by kernel_rfl) (by kernel_rfl) (by kernel_rfl) (fun _ _ _ h => h) (Or.inl ⟨by rfl, fun w => by go_simp⟩) HS0 ?_
      simp only [List.setIfInBounds_toArray, List.set]
      refine held_pure (i := 45) (v := (.pointer (some ⟨yx, oy + 2, none⟩))) rfl rfl (by kernel_rfl) (by kernel_rfl) (by kernel_rfl) (fun _ _ _ h => h) (Or.inl ⟨by rfl, fun w => by go_simp⟩) HS0 ?_
      simp only [List.setIfInBounds_toArray, List.set]
      refine held_take (i := 46) (v := (.bool true)) rfl rfl (by kernel_rfl) (by kernel_rfl) (by kernel_rfl) (fun _ _ _ h => h) (Or.inl ⟨by rfl, fun w hS => by have hc := HY2.out w hS; go_simp⟩) HS0 ?_
      simp only [List.setIfInBounds_toArray, List.set]
      refine held_pure (i := 47) (v := (.bool true)) rfl rfl (by kernel_rfl) (by kernel_rfl) (by kernel_rfl) (fun _ _ _ h => h) (Or.inl ⟨by rfl, fun w => by go_simp⟩) HS0 ?_
      simp only [List.setIfInBounds_toArray, List.set]
      refine held_pure (i := 48) (v := (.bool true)) rfl rfl (by kernel_rfl) (by kernel_rfl) (by kernel_rfl) (fun _ _ _ h => h) (Or.inl ⟨by rfl, fun w => by go_simp⟩) HS0 ?_
      simp only [List.setIfInBounds_toArray, List.set]
      refine held_pure (i := 49) (v := (.slice (some ⟨yx, oy, none⟩) 7 cy)) rfl rfl (by kernel_rfl) (by kernel_rfl) (by kernel_rfl) (fun _ _ _ h => h) (Or.inl ⟨by rfl, fun w => by go_simp⟩) HS0 ?_
      simp only [List.setIfInBounds_toArray, List.set]
      refine held_pure (i := 50) (v := (.pointer (some ⟨yx, oy + 5, none⟩))) rfl rfl (by kernel_rfl) (by kernel_rfl) (by kernel_rfl) (fun _ _ _ h => h) (Or.inl ⟨by rfl, fun w => by go_simp⟩) HS0 ?_
      simp only [List.setIfInBounds_toArray, List.set]
      refine held_take (i := 51) (v := (.bool false)) rfl rfl (by kernel_rfl) (by kernel_rfl) (by kernel_rfl) (fun _ _ _ h => h) (Or.inl ⟨by rfl, fun w hS => by have hc := HY5.out w hS; go_simp⟩) HS0 ?_
      simp only [List.setIfInBounds_toArray, List.set]
      refine held_pure (i := 52) (v := (.bool true)) rfl rfl (by kernel_rfl) (by kernel_rfl) (by kernel_rfl) (fun _ _ _ h => h) (Or.inl ⟨by rfl, fun w => by go_simp⟩) HS0 ?_
      simp only [List.setIfInBounds_toArray, List.set]
      refine held_pure (i := 53) (v := (.bool true)) rfl rfl (by kernel_rfl) (by kernel_rfl) (by kernel_rfl) (fun _ _ _ h => h) (Or.inl ⟨by rfl, fun w => by go_simp⟩) HS0 ?_
      simp only [List.setIfInBounds_toArray, List.set]
      refine held_pure (i := 54) (v := (.bool true)) rfl rfl (by kernel_rfl) (by kernel_rfl) (by kernel_rfl) (fun _ _ _ h => h) (Or.inl ⟨by rfl, fun w => by go_simp⟩) HS0 ?_
      simp only [List.setIfInBounds_toArray, List.set]
      refine held_pure (i := 55) (v := (.slice (some ⟨w.heap.size, 0, none⟩) 7 7)) rfl rfl (by kernel_rfl) (by kernel_rfl) (by kernel_rfl) (fun _ _ _ h => h) (Or.inl ⟨by rfl, fun w => by go_simp⟩) HS0 ?_
      simp only [List.setIfInBounds_toArray, List.set]
      refine held_pure (i := 56) (v := v3) rfl rfl (by kernel_rfl) (by kernel_rfl) (by kernel_rfl) (fun _ _ _ h => h) (Or.inl ⟨by rfl, fun w => by go_simp⟩) HS0 ?_
      simp only [List.setIfInBounds_toArray, List.set]
      refine held_pure (i := 59) (v := (.bool true)) rfl rfl (by kernel_rfl) (by kernel_rfl) (by kernel_rfl) (fun _ _ _ h => h) (Or.inl ⟨by rfl, fun w => by go_simp⟩) HS0 ?_
      simp only [List.setIfInBounds_toArray, List.set]
      refine held_one (j := 57) (by kernel_rfl) ?_
      refine op_callx (j := 57) rfl rfl (by rfl) Try.func19 (by kernel_rfl) rfl rfl [(.slice (some ⟨w.heap.size, 0, none⟩) 7 7), v3] rfl HAT.out ?_
      rintro e w6 ⟨av, rfl, hi6, h6⟩
      obtain ⟨aa, ac, rfl, hca, hma⟩ := hi6.val
      rw [HA.out]
      have HS6 : Only (fun _ => False) w5 w6 := HS0.trans h6
      refine ⟨_, rfl, HS6, ?_⟩
      simp only [List.setIfInBounds_toArray, List.set]
      refine held_pure (i := 58) (v := (.int .i64 2)) rfl rfl (by kernel_rfl) (by kernel_rfl) (by kernel_rfl) (fun _ _ _ h => h) (Or.inl ⟨by rfl, fun w => by go_simp⟩) HS6 ?_
      simp only [List.setIfInBounds_toArray, List.set]
      refine held_pure (i := 60) (v := (.bool true)) rfl rfl (by kernel_rfl) (by kernel_rfl) (by kernel_rfl) (fun _ _ _ h => h) (Or.inl ⟨by rfl, fun w => by go_simp⟩) HS6 ?_
      simp only [List.setIfInBounds_toArray, List.set]
      refine held_pure (i := 61) (v := (.bool true)) rfl rfl (by kernel_rfl) (by kernel_rfl) (by kernel_rfl) (fun _ _ _ h => h) (Or.inl ⟨by rfl, fun w => by go_simp⟩) HS6 ?_
      simp only [List.setIfInBounds_toArray, List.set]
      refine held_pure (i := 62) (v := (.bool true)) rfl rfl (by kernel_rfl) (by kernel_rfl) (by kernel_rfl) (fun _ _ _ h => h) (Or.inl ⟨by rfl, fun w => by go_simp⟩) HS6 ?_
      simp only [List.setIfInBounds_toArray, List.set]
      refine held_call (j := 63) (by kernel_rfl) rfl rfl (by rfl) Try.func22 (by kernel_rfl) rfl rfl [(.bool true)] rfl (number_t _) ?_
      rintro w8 rfl
      refine ⟨HS6, ?_⟩
      simp only [List.setIfInBounds_toArray, List.set]
      refine held_pure (i := 64) (v := (.int .i64 2)) rfl rfl (by kernel_rfl) (by kernel_rfl) (by kernel_rfl) (fun _ _ _ h => h) (Or.inl ⟨by rfl, fun w => by go_simp⟩) HS6 ?_
      simp only [List.setIfInBounds_toArray, List.set]
      refine held_pure (i := 65) (v := (.bool true)) rfl rfl (by kernel_rfl) (by kernel_rfl) (by kernel_rfl) (fun _ _ _ h => h) (Or.inl ⟨by rfl, fun w => by go_simp⟩) HS6 ?_
      simp only [List.setIfInBounds_toArray, List.set]
      refine held_pure (i := 66) (v := (.bool true)) rfl rfl (by kernel_rfl) (by kernel_rfl) (by kernel_rfl) (fun _ _ _ h => h) (Or.inl ⟨by rfl, fun w => by go_simp⟩) HS6 ?_
      simp only [List.setIfInBounds_toArray, List.set]
      refine held_pure (i := 67) (v := (.bool true)) rfl rfl (by kernel_rfl) (by kernel_rfl) (by kernel_rfl) (fun _ _ _ h => h) (Or.inl ⟨by rfl, fun w => by go_simp⟩) HS6 ?_
      simp only [List.setIfInBounds_toArray, List.set]
      refine held_call (j := 68) (by kernel_rfl) rfl rfl (by rfl) Try.func9 (by kernel_rfl) rfl rfl [] rfl (HSH.out _) ?_
      intro w7 h7
      have HS7 : Only (fun _ => False) w5 w7 := HS6.trans h7
      refine ⟨HS7, ?_⟩
      simp only [List.setIfInBounds_toArray, List.set]
      refine held_pure (i := 69) (v := (.bool true)) rfl rfl (by kernel_rfl) (by kernel_rfl) (by kernel_rfl) (fun _ _ _ h => h) (Or.inl ⟨by rfl, fun w => by go_simp⟩) HS7 ?_
      simp only [List.setIfInBounds_toArray, List.set]
      refine held_pure (i := 70) (v := (.bool true)) rfl rfl (by kernel_rfl) (by kernel_rfl) (by kernel_rfl) (fun _ _ _ h => h) (Or.inl ⟨by rfl, fun w => by go_simp⟩) HS7 ?_
      simp only [List.setIfInBounds_toArray, List.set]
      refine wpAnyH_done (by kernel_rfl) ?_ _
      have HS8 := Lib.hid HS7
      go_wp2_with fail
      go_ret
      exact ⟨rfl, ((((HVO.out.trans HO3.out).trans HO8.out).trans HO5.out).trans HS8.out).below (fun _ h => h.elim)⟩
end Go.Proofs.Ytnppjkekbdapkaa
