/-
  May.
-/
import Derived.Test.YtnppjkekbdapkaaDoorNds
set_option linter.unusedVariables false
namespace Go.Proofs.YtnppjkekbdapkaaDoor
open Go.RowKit

def nd0 : Nd := ⟨0, 0, 0⟩
def rightAt (l : List Nd) (i : Nat) : Bool := rightB (l.take i) (l.getD i nd0)
def mayB (l : List Nd) : Bool := (List.range l.length).all (rightAt l) && decide (l.length ≤ 200)
theorem may_bad {l : List Nd} {i : Nat} (hi : i < l.length) (h : rightAt l i = false) : mayB l = false := by
  have : (List.range l.length).all (rightAt l) = false := by
    rw [List.all_eq_false]
    exact ⟨i, List.mem_range.2 hi, by rw [h]; simp⟩
  rw [mayB, this]
  rfl
theorem may_end {l : List Nd} (h : ∀ i, i < l.length → rightAt l i = true) : mayB l = decide (l.length ≤ 200) := by
  have : (List.range l.length).all (rightAt l) = true := by
    rw [List.all_eq_true]
    exact fun i hi => h i (List.mem_range.1 hi)
  rw [mayB, this]
  simp

theorem load34 {w : World} {g : Nat} {x y z : Value} (h : w.heap[g]? = some (.cells #[x, y, z] 27 (0, 0))) : (loadVar 27 ⟨g, 0, none⟩).run Tryd.prog w = .ok (.agg #[x, y, z]) w := by
  have hl := run_loadCells_list (P := Tryd.prog) w ⟨g, 0, none⟩ [x, y, z] (fun j v hv => by
    have := cell_of_row w g j _ _ _ h
    have hadd : (⟨g, 0, none⟩ : Addr).add j = ⟨g, j, none⟩ := by unfold Addr.add; split <;> simp_all
    rw [hadd, this]
    simpa using hv)
  have hq : (Tryd.prog.info? 27).map (·.size) = some 3 := by kernel_rfl
  cases hi : Tryd.prog.info? 27 with
  | none => simp [hi] at hq
  | some i =>
    have hs : i.size = 3 := by simpa [hi] using hq
    simp [loadVar, Sem.run_bind, isAgg_run (P := Tryd.prog) Tryd.underlying27 rfl, sizeOf, typeInfo, hi, hs]
    simp at hl
    simp [hl]

set_option maxHeartbeats 4000000 in
theorem may_any (l : List Nd) (v : Value) (w : World) (hl : NL w v l) (hlen : l.length ≤ 1000000) : Calls Tryd.prog 7 #[v] w fun e w' => e = .returned (.bool (mayB l)) ∧ Below w.heap.size w w' := by
  have HL := Lib.hid hl
  obtain ⟨ad, cap, rfl, hrow⟩ := hl
  have HR0 : Hid (Only (fun _ => False) w w) := Only.refl _ w
  clear hrow
  go_enter Tryd.func7, Tryd.ntmps7
  go_wp2_with fail
  go_loopw [7] (fun i wr => ∃ k : Nat, k ≤ l.length ∧ i = .int .i64 k ∧ Hid (∀ j, j < k → rightAt l j = true) ∧ Hid (Only (fun _ => False) w wr)) (fun i _ => l.length - (intOf i).toNat)
  case atStart => exact ⟨0, by omega, rfl, fun j hj => absurd hj (Nat.not_lt_zero j), HR0.out⟩
  case round =>
    obtain ⟨k, hk, rfl, hS, hO⟩ := hrel
    by_cases hlt : k < l.length
    · have hlt' : (k : Int) < (l.length : Int) := by omega
      have hNL := HL.out.keep hO.out
      obtain ⟨gb, go, gc, he, hgc, _, _, _, _, hld⟩ := hNL.at hlt
      cases he
      have HNL := Lib.hid hNL
      have HLD := Lib.hid hld
      have HGE : Hid (l.getD k nd0 = l[k]) := show l.getD k nd0 = l[k] by
        rw [List.getD_eq_getElem?_getD, List.getElem?_eq_getElem hlt]
        rfl
      clear hNL hld
      generalize l[k] = x at *
      obtain ⟨op, a, b⟩ := x
      have HLD2 : Hid ((loadVar 27 ⟨gb, go + k * 3, none⟩).run Tryd.prog wr = .ok (.agg #[.int .i64 op, .int .i64 a, .int .i64 b]) wr) := HLD.out
      go_wp2_with (((with_reducible refine wpList_load_at ?_ 27 (.tmp 10) ?_ _ ?_ _ HLD2.out ?_); rfl; rfl; rfl))
      obtain ⟨X, hX⟩ : ∃ X, X = wr.alloc (.cells #[.int .i64 op, .int .i64 a, .int .i64 b] 27) := ⟨_, rfl⟩
      have hO1 : Only (fun _ => False) wr X := by rw [hX]; exact (Only.refl _ _).alloc _
      have hg1 : X.heap[wr.heap.size]? = some (.cells #[.int .i64 op, .int .i64 a, .int .i64 b] 27 (0, 0)) := by rw [hX]; exact heap_alloc_new _ _
      have HRT := Lib.hid (fun W (o : Only (fun _ => False) wr W) => right_any ⟨op, a, b⟩ (l.take k) _ W ((HNL.out.take (Nat.le_of_lt hlt)).keep o) (by simp; omega))
      have HRA : Hid (rightB (l.take k) ⟨op, a, b⟩ = rightAt l k) := by
        show rightB (l.take k) ⟨op, a, b⟩ = rightB (l.take k) (l.getD k nd0)
        rw [HGE.out]
      rw [← hX]
      clear hX
      have HO1 := Lib.hid hO1
      have HO2 := Lib.hid (hO.out.trans hO1)
      have hkc : (k : Int) ≤ (cap : Int) := by omega
      refine wp_region_held (S := fun W => W.heap[wr.heap.size]? = some (.cells #[.int .i64 op, .int .i64 a, .int .i64 b] 27 (0, 0))) (by kernel_rfl) ?_
      change wpAnyH _ _ _ _ _ _ _ _ (World.drew _)
      have HS0 : (World.drew X).heap[wr.heap.size]? = some (.cells #[.int .i64 op, .int .i64 a, .int .i64 b] 27 (0, 0)) := hg1
      have HLa : Hid (∀ W : World, W.heap[wr.heap.size]? = some (.cells #[.int .i64 op, .int .i64 a, .int .i64 b] 27 (0, 0)) → (loadVar 27 ⟨wr.heap.size, 0, none⟩).run Tryd.prog W = .ok (.agg #[.int .i64 op, .int .i64 a, .int .i64 b]) W) := fun W h => load34 h
      clear hO1 hg1
      refine held_take (i := 0) (v := .agg #[.int .i64 op, .int .i64 a, .int .i64 b]) rfl rfl (by kernel_rfl) (by kernel_rfl) (by kernel_rfl) (fun _ _ _ h => h) (yields_load_w (by rfl) 27 (.tmp 4) rfl _ rfl _ HLa.out) HS0 ?_
      simp only [List.setIfInBounds_toArray, List.set]
      refine held_pure (i := 1) (v := (.slice (some ⟨gb, go, none⟩) l.length cap)) rfl rfl (by kernel_rfl) (by kernel_rfl) (by kernel_rfl) (fun _ _ _ h => h) (Or.inl ⟨by rfl, fun w => by go_simp⟩) HS0 ?_
      simp only [List.setIfInBounds_toArray, List.set]
      refine held_pure (i := 2) (v := (.int .i64 (k : Int))) rfl rfl (by kernel_rfl) (by kernel_rfl) (by kernel_rfl) (fun _ _ _ h => h) (Or.inl ⟨by rfl, fun w => by go_simp⟩) HS0 ?_
      simp only [List.setIfInBounds_toArray, List.set]
      refine held_pure (i := 3) (v := (.slice (some ⟨gb, go, none⟩) k cap)) rfl rfl (by kernel_rfl) (by kernel_rfl) (by kernel_rfl) (fun _ _ _ h => h) (Or.inl ⟨by rfl, fun w => by go_simp⟩) HS0 ?_
      simp only [List.setIfInBounds_toArray, List.set]
      refine held_call (j := 4) (by kernel_rfl) rfl rfl (by rfl) Tryd.func20 (by kernel_rfl) rfl rfl [.agg #[.int .i64 op, .int .i64 a, .int .i64 b], .slice (some ⟨gb, go, none⟩) k cap] rfl (HRT.out _ (HO1.out.drew)) ?_
      intro w6 h6
      have o6 : Only (fun _ => False) (World.drew X) w6 := Only.of_below h6
      have HS1 : w6.heap[wr.heap.size]? = some (.cells #[.int .i64 op, .int .i64 a, .int .i64 b] 27 (0, 0)) := keepRow o6 HS0 (fun x => x)
      have HO6 := Lib.hid (HO2.out.drew.trans o6)
      refine ⟨HS1, ?_⟩
      simp only [List.setIfInBounds_toArray, List.set]
      rw [HRA.out]
      cases hra : rightAt l k
      · refine held_pure (i := 5) (v := .bool true) rfl rfl (by kernel_rfl) (by kernel_rfl) (by kernel_rfl) (fun _ _ _ h => h) (Or.inl ⟨by rfl, fun w => by go_simp⟩) HS1 ?_
        simp only [List.setIfInBounds_toArray, List.set]
        refine wpAnyH_done (by kernel_rfl) ?_ _
        have HB := Lib.hid (HO6.out.below (fun _ h => h.elim))
        have HMB := Lib.hid (may_bad hlt hra)
        clear HS0 HS1 h6 o6
        go_wp2_with fail
        go_ret
        exact ⟨by rw [HMB.out]; rfl, HB.out⟩
      · refine held_pure (i := 5) (v := .bool false) rfl rfl (by kernel_rfl) (by kernel_rfl) (by kernel_rfl) (fun _ _ _ h => h) (Or.inl ⟨by rfl, fun w => by go_simp⟩) HS1 ?_
        simp only [List.setIfInBounds_toArray, List.set]
        refine wpAnyH_done (by kernel_rfl) ?_ _
        have HS' : Hid (∀ j, j < k + 1 → rightAt l j = true) := by
          intro j hj
          by_cases hjk : j < k
          · exact hS.out j hjk
          · obtain rfl : j = k := by omega
            exact hra
        clear HS0 HS1 h6 o6
        go_wp2_with fail
        go_roundw
        case rel => exact ⟨k + 1, by omega, by go_num, HS'.out, HO6.out⟩
        case measure => simp [intOf]; omega
    · obtain rfl : k = l.length := by omega
      have hr := may_end hS.out
      have HR := Lib.hid hr
      clear hr
      have HB := Lib.hid (hO.out.below (fun _ h => h.elim))
      by_cases h2 : l.length ≤ 200
      · have h2' : (l.length : Int) ≤ 200 := by omega
        go_wp2_with fail
        go_ret
        exact ⟨by rw [HR.out, decide_eq_true h2]; rfl, HB.out⟩
      · have h2' : ¬ (l.length : Int) ≤ 200 := by omega
        go_wp2_with fail
        go_ret
        exact ⟨by rw [HR.out, decide_eq_false h2]; rfl, HB.out⟩
end Go.Proofs.YtnppjkekbdapkaaDoor
