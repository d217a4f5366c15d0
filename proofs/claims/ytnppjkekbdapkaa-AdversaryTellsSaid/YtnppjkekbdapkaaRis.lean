/-
  rising: sorted, each once.
-/
import Derived.Test.YtnppjkekbdapkaaRip
import Derived.Test.YtnppjkekbdapkaaShelf
set_option linter.unusedVariables false
namespace Go.Proofs.Ytnppjkekbdapkaa
open Go.RowKit Go.Sort

theorem put_only (w : World) (g off : Nat) (d : Array Int) : Only (fun k => k = g) w (putRow (Value.int .i64) w g off d) := by
  refine ⟨rfl, rfl, rfl, by simp [putRow, mapBlock], fun k hk hn => ?_⟩
  simp only [putRow, mapBlock, Array.getElem?_modify]
  rw [if_neg (fun h => hn h.symm)]
theorem ahead_only (w : World) (n : Nat) : Only (fun _ => False) w (Sort.ahead w n) := ⟨rfl, rfl, rfl, Nat.le_refl _, fun _ _ _ => rfl⟩
theorem grow_only (w : World) (os : Array Obj) : Only (fun _ => False) w (grow w os) := ⟨rfl, rfl, rfl, by simp, fun k hk _ => heap_grow_old w os hk⟩

set_option maxHeartbeats 4000000 in
theorem rising_any {w : World} {base : Nat} {v : Value} {zs : List Int} (h : FL w base v zs) (hn : zs.length ≤ 1000000) :
    Calls Try.prog 29 #[v] w fun e w' => ∃ v', e = .returned v' ∧ IL w' v' (rise zs) ∧ Only (fun k => base ≤ k) w w' := by
  obtain ⟨hl, ⟨rfl, h0⟩ | ⟨g, cap, cur, rfl, hg, hb, h1, h2, h3, h4⟩⟩ := h
  · obtain rfl : zs = [] := List.eq_nil_of_length_eq_zero h0
    have HA := Lib.hid (Try.slices_Sort_int_none none 0 w)
    have HB := Lib.hid (Try.slices_Compact_int_empty none 0 w)
    go_enter Try.func29, Try.ntmps29
    go_wp2_with (first | (go_at_call 34; refine HA.out.mono ?_; rintro e w1 ⟨rfl, rfl⟩) | (go_at_call 35; refine HB.out.mono ?_; rintro e w2 ⟨rfl, rfl⟩))
    go_ret
    refine ⟨_, rfl, ?_, Only.refl _ _⟩
    rw [show rise [] = [] by simp [rise, Lib.compact, Lib.compactUpTo]]
    exact ⟨none, 0, rfl, Nat.le_refl _, Nat.zero_le _, fun i u hu => by simp at hu⟩
  · obtain ⟨ms, hms⟩ : ∃ ms, (zs.mergeSort fun x y => decide (x ≤ y)) = ms := ⟨_, rfl⟩
    have hml : ms.length = zs.length := by rw [← hms, List.length_mergeSort]
    have hlt : g < w.heap.size := (Array.getElem?_eq_some_iff.1 hb).1
    have hH : Holds (Value.int .i64) w g 0 zs.toArray := fun j hj => by
      have hj' : j < zs.length := by simpa using hj
      refine ⟨?_, frozen_of_row w g _ _ _ hb⟩
      rw [Nat.zero_add, cell_of_row w g j _ _ _ hb, getElem!_pos zs.toArray j hj]
      have e1 : (zs.map (Value.int .i64))[j]? = some (.int .i64 zs[j]) := by simp [hj']
      rw [← h4, List.getElem?_take] at e1
      split at e1
      · simpa using e1
      · cases e1
    have hA := Try.slices_Sort_int g 0 cap zs w hH hlt (by omega)
    rw [hms] at hA
    have HA := Lib.hid hA
    have HC : Hid (∀ w1, (∃ n os, w1 = grow (putRow (Value.int .i64) (Sort.ahead w n) g 0 ms.toArray) os) → Only (fun k => k = g) w w1 ∧ Holds (Value.int .i64) w1 g 0 ms.toArray ∧ g < w1.heap.size) := by
      rintro w1 ⟨n, os, rfl⟩
      have hz : (putRow (Value.int .i64) (Sort.ahead w n) g 0 ms.toArray).heap.size = w.heap.size := by simp [putRow, mapBlock]
      refine ⟨(((ahead_only w n).mono (fun _ x => x.elim)).trans (put_only _ _ _ _)).trans ((grow_only _ _).mono (fun _ x => x.elim)), ?_, by simp [putRow, mapBlock]; omega⟩
      exact holds_grow _ _ _ _ _ _ (by rw [hz]; exact hlt) (holds_putRow _ _ _ _ _ _ (holds_ahead _ _ _ _ _ _ hH) (by simp [hml]))
    have HR : Hid (rise zs = Lib.compact ms) := by unfold rise; rw [hms]; rfl
    have hcl : (Lib.compact ms).length ≤ ms.length := by
      have := rise_len zs
      rw [HR.out] at this
      omega
    have HZ : Hid (zs.length ≤ cap ∧ cap ≤ maxLen ∧ ms.length = zs.length ∧ (Lib.compact ms).length ≤ ms.length) := ⟨h1, h2, hml, hcl⟩
    have HG := Lib.hid hg
    clear hl hb h3 h4 hH hA hcl hms hg
    go_enter Try.func29, Try.ntmps29
    go_upto_region 2 with (go_at_call 34; refine HA.out.mono ?_; rintro e w1 ⟨rfl, hw1⟩)
    obtain ⟨o1, hH1, hlt1⟩ := HC.out w1 hw1
    have hB := Try.slices_Compact_int g 0 cap ms w1 hH1 (by omega) (by omega)
    rw [hml] at hB
    have HB := Lib.hid hB
    have HH1 := Lib.hid hH1
    have HO1 := Lib.hid o1
    clear hw1 o1 hH1 hB HA HC hml
    go_wp2_with (go_at_call 35; refine HB.out.mono ?_; rintro e w2 ⟨rfl, hw2⟩)
    go_ret
    obtain ⟨q, rfl⟩ := hw2
    obtain ⟨z1, z2, z3, z4⟩ := HZ.out
    refine ⟨_, rfl, ?_, (HO1.out.mono (fun k hk => by rw [hk]; exact HG.out)).trans (((ahead_only w1 q).mono (fun _ x => x.elim)).trans ((put_only _ _ _ _).mono (fun k hk => by rw [hk]; exact HG.out)))⟩
    rw [HR.out]
    refine ⟨some ⟨g, 0, none⟩, cap, by rw [List.length_map]; rfl, by rw [List.length_map]; omega, z2, fun i u hu => ⟨g, 0, rfl, ?_⟩⟩
    rw [List.getElem?_map] at hu
    obtain ⟨z, hz, rfl⟩ := Option.map_eq_some_iff.1 hu
    have hi : i < (Lib.compact ms).length := (List.getElem?_eq_some_iff.1 hz).1
    have hsz : (Lib.compact ms ++ List.replicate (zs.length - (Lib.compact ms).length) 0).toArray.size = ms.toArray.size := by simp; omega
    have := cell?_putRow (Value.int .i64) (Sort.ahead w1 q) g 0 ms.toArray (Lib.compact ms ++ List.replicate (zs.length - (Lib.compact ms).length) 0).toArray (holds_ahead _ _ _ _ _ _ HH1.out) hsz i (by rw [hsz]; simp; omega)
    rw [this, getElem!_pos _ i (by rw [hsz]; simp; omega)]
    simp only [List.getElem_toArray]
    rw [List.getElem_append_left hi]
    have := (List.getElem?_eq_some_iff.1 hz).2
    rw [this]
end Go.Proofs.Ytnppjkekbdapkaa
