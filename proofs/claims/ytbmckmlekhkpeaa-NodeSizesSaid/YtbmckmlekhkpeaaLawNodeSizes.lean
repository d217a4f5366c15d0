/-
  NodeSizes: the walk.
-/
import Derived.Test.YtbmckmlekhkpeaaShn
import Derived.Test.YtbmckmlekhkpeaaPla
import Derived.Test.YtbmckmlekhkpeaaOpn
set_option linter.unusedVariables false
namespace Go.Proofs.Ytbmckmlekhkpeaa
open Go.RowKit

def wantP (n : Nd) (k : Nat) : Nat := 5 + ((n.cs.take k).map fun c => if c.has = true then (if n.leaf = true then 34 else 18) else 0).sum
theorem wantP_succ {n : Nd} (h : n.Ok) {k : Nat} (hk : k < 4) : wantP n (k + 1) = wantP n k + (if (n.get k).has = true then (if n.leaf = true then 34 else 18) else 0) := by
  have hl : k < n.cs.length := by rw [h.len]; exact hk
  have e : n.get k = n.cs[k] := by unfold Nd.get; rw [List.getD_eq_getElem?_getD, List.getElem?_eq_getElem hl]; rfl
  unfold wantP
  rw [e, ← List.take_append_getElem hl, List.map_append, List.sum_append]
  simp only [List.map_cons, List.map_nil, List.sum_cons, List.sum_nil]
  omega
theorem wantP_le {n : Nd} (h : n.Ok) : ∀ k, k ≤ 4 → wantP n k ≤ 5 + 34 * k
  | 0, _ => by simp [wantP]
  | k + 1, hk => by
    have := wantP_le h k (by omega)
    rw [wantP_succ h (by omega)]
    split
    · split <;> omega
    · omega
theorem encP_want {n : Nd} (h : n.Ok) : ∀ k, k ≤ 4 → (encP n k).length + (4 - k) = wantP n k
  | 0, _ => by simp [wantP, encP, flagB]
  | k + 1, hk => by
    have ih := encP_want h k (by omega)
    have hl := (h.get_ok k).len
    have := leBytes_len (n.get k).ex.toNat 8
    have := leBytes_len (n.get k).ver.toNat 8
    rw [wantP_succ h (by omega), encP_succ h (by omega), List.length_append]
    have hc : (encC n.leaf (n.get k)).length = 1 + (if (n.get k).has = true then (if n.leaf = true then 34 else 18) else 0) := by
      unfold encC flagB
      cases (n.get k).has <;> cases n.leaf <;> simp_all
    omega

set_option maxHeartbeats 2000000 in
theorem sizes_bad (w : World) (n : Nd) (h : n.Ok) (hm : mayN n = false) :
    Calls Try.prog 4 #[.agg (ndA n)] w fun e w' => e = .returned (.bool true) ∧ Below w.heap.size w w' := by
  have hg : (w.alloc (.cells (ndA n) 30)).heap[w.heap.size]? = some (.cells (ndA n) 30 (0, 0)) := heap_alloc_new w _
  have HL := Lib.hid (load30 (ndA_size h) hg)
  have hc := encode_any n (w.alloc (.cells (ndA n) 30)) h
  rw [encV, encS, encE, if_neg (by simp [hm]), if_neg (by simp [hm])] at hc
  have HC := Lib.hid hc
  have HG := Lib.hid hg
  have HB : Hid (Only (fun _ => False) w (w.alloc (.cells (ndA n) 30))) := (Only.refl _ w).alloc _
  have HMY := Lib.hid (fun W => may_any n W h)
  rw [hm] at HMY
  have HSZ := Lib.hid (ndA_size h)
  clear hc hg h hm
  generalize ndA n = A at *
  go_enter Try.func4, Try.ntmps4
  go_wp2_with (((with_reducible refine wpList_load_at ?_ 30 (.tmp 1) ?_ _ ?_ _ HL.out ?_); rfl; rfl; rfl))
  refine HC.out.mono ?_
  rintro e w1 ⟨rfl, h1⟩
  have O1 := Lib.hid (HB.out.trans (Only.of_below (S := fun _ => False) h1))
  have HL1 := Lib.hid (load30 HSZ.out ((Only.of_below (S := fun _ => False) h1).row HG.out (fun x => x)))
  clear h1
  go_wp2_with (((with_reducible refine wpList_load_at ?_ 30 (.tmp 1) ?_ _ ?_ _ HL1.out ?_); rfl; rfl; rfl))
  refine (HMY.out _).mono ?_
  rintro e w2 ⟨rfl, h2⟩
  have O2 := Lib.hid (O1.out.trans (Only.of_below h2))
  clear h2
  go_wp2_with fail
  refine (shown_any _).mono ?_
  rintro e w3 ⟨rfl, h3⟩
  have O3 := Lib.hid (O2.out.trans (Only.of_below h3))
  clear h3
  go_wp2_with fail
  go_ret
  exact ⟨rfl, O3.out.below0⟩

set_option maxHeartbeats 4000000 in
theorem sizes_ok (w : World) (n : Nd) (h : n.Ok) (hm : mayN n = true) :
    Calls Try.prog 4 #[.agg (ndA n)] w fun e w' => e = .returned (.bool true) ∧ Below w.heap.size w w' := by
  have hg : (w.alloc (.cells (ndA n) 30)).heap[w.heap.size]? = some (.cells (ndA n) 30 (0, 0)) := heap_alloc_new w _
  have HL := Lib.hid (load30 (ndA_size h) hg)
  have hc := encode_any n (w.alloc (.cells (ndA n) 30)) h
  rw [encV, encS, encE, if_pos hm, if_pos hm] at hc
  have HC := Lib.hid hc
  have HG := Lib.hid hg
  have HB : Hid (Only (fun _ => False) w (w.alloc (.cells (ndA n) 30))) := (Only.refl _ w).alloc _
  have HLF := Lib.hid (nd_leaf n)
  have HHS := Lib.hid (fun i (hi : i < 4) => nd_has h hi)
  have HSU := Lib.hid (fun k (hk : k < 4) => wantP_succ h hk)
  have HLE := Lib.hid (fun k (hk : k ≤ 4) => wantP_le h k hk)
  have hend : (⟨(encN n).toArray⟩ : ByteArray).size = wantP n 4 := by
    have := encP_want h 4 (by omega)
    rw [sb_size, ← this]
    rfl
  have HW0 : Hid (wantP n 0 = 5) := by simp [Hid, wantP]
  have HEND := Lib.hid hend
  clear hc hg h hm hend
  generalize ndA n = A at *
  generalize (⟨(encN n).toArray⟩ : ByteArray) = S at *
  generalize hleaf : n.leaf = leaf at *
  have HLQ := Lib.hid hleaf
  clear hleaf
  generalize hwf : wantP n = wf at *
  go_enter Try.func4, Try.ntmps4
  go_wp2_with (((with_reducible refine wpList_load_at ?_ 30 (.tmp 1) ?_ _ ?_ _ HL.out ?_); rfl; rfl; rfl))
  refine HC.out.mono ?_
  rintro e w1 ⟨rfl, h1⟩
  have O1 := Lib.hid (HB.out.trans (Only.of_below (S := fun _ => False) h1))
  have G1 := Lib.hid ((Only.of_below (S := fun _ => False) h1).row HG.out (fun x => x))
  have c0 := (cell_of_row _ _ 0 _ _ _ G1.out).trans HLF.out
  clear h1 hwf
  go_wp2_with fail
  go_loop [5, 6] (fun t i => ∃ k : Nat, k ≤ 4 ∧ i = .int .i64 k ∧ t = .int .i64 (wf k : Nat)) (fun _ i => 4 - (intOf i).toNat)
  case atStart => exact ⟨0, by omega, rfl, by rw [HW0.out]; rfl⟩
  case round =>
    obtain ⟨k, hk, rfl, rfl⟩ := hrel
    have hle := HLE.out k hk
    by_cases hlt : k < 4
    · have c1 := (cell_of_row _ _ (1 + k * 21) _ _ _ G1.out).trans (HHS.out k hlt)
      have hsu := HSU.out k hlt
      cases hb : (n.get k).has
      · rw [hb] at hsu c1
        have HS := Lib.hid hsu
        clear hb hsu
        cases leaf
        all_goals
          go_wp2_with fail
          go_round
          case rel => exact ⟨k + 1, by omega, by go_num, by rw [HS.out]; simp⟩
          case measure => simp [intOf]; omega
      · rw [hb] at hsu c1
        have HS := Lib.hid hsu
        clear hb hsu
        cases leaf
        all_goals
          go_wp2_with fail
          go_round
          case rel => exact ⟨k + 1, by omega, by go_num, by rw [HS.out]; simp⟩
          case measure => simp [intOf]; omega
    · obtain rfl : k = 4 := by omega
      have hs : S.size = wf 4 := HEND.out
      go_wp2_with fail
      refine (shown_any _).mono ?_
      rintro e w3 ⟨rfl, h3⟩
      have O3 := Lib.hid (O1.out.trans (Only.of_below h3))
      clear h3
      go_wp2_with fail
      go_ret
      exact ⟨rfl, O3.out.below0⟩

theorem nodeSizes_walk (w : World) (n : Nd) (h : n.Ok) :
    Calls Try.prog 4 #[.agg (ndA n)] w fun e w' => e = .returned (.bool true) ∧ Below w.heap.size w w' := by
  cases hm : mayN n
  · exact sizes_bad w n h hm
  · exact sizes_ok w n h hm
end Go.Proofs.Ytbmckmlekhkpeaa
