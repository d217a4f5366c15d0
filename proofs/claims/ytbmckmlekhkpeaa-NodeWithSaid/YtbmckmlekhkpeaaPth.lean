/-
  The path of a number, the program's and the reference's.
-/
import Derived.Test.YtbmckmlekhkpeaaRdr
set_option linter.unusedVariables false
namespace Go.Proofs.Ytbmckmlekhkpeaa
open Go.RowKit

theorem info48s : (Try.prog.info? 48).map (·.size) = some 4 := by kernel_rfl
def paZ : Array Value := #[.int .i64 0, .int .i64 0, .int .i64 0, .int .i64 0]
def paA (id : Int) : Array Value := #[.int .i64 (id / 64), .int .i64 (id / 16 % 4), .int .i64 (id / 4 % 4), .int .i64 (id % 4)]
theorem load48 {w : World} {g : Nat} {A : Array Value} {t : TypeId} (hs : A.size = 4) (hg : w.heap[g]? = some (.cells A t (0, 0))) : (loadVar 48 ⟨g, 0, none⟩).run Try.prog w = .ok (.agg A) w :=
  run_loadVar_row (P := Try.prog) w g t 48 A (0, 0) _ hg Try.underlying48 rfl (by rw [info48s, hs])
theorem zero48 (w : World) : (zeroValue 48).run Try.prog w = .ok (.agg paZ) w := by kernel_rfl
theorem build48z (w : World) : (Instr.build 48 #[]).run Try.prog w = .ok (.agg paZ) w := run_build w 48 _ _ (by kernel_rfl)
theorem build48 (a b c d : Int) (w : World) : (Instr.build 48 #[(0, .int .i64 a), (1, .int .i64 b), (2, .int .i64 c), (3, .int .i64 d)]).run Try.prog w = .ok (.agg #[.int .i64 a, .int .i64 b, .int .i64 c, .int .i64 d]) w := run_build w 48 _ _ (by kernel_rfl)
theorem pa_one (a b c d : Int) : ∀ v ∈ (#[Value.int .i64 a, .int .i64 b, .int .i64 c, .int .i64 d]).toList, v.oneCell' = true := by
  intro v hv
  simp only [List.mem_cons, List.not_mem_nil, or_false] at hv
  rcases hv with rfl | rfl | rfl | rfl <;> rfl

set_option maxHeartbeats 1000000 in
theorem rpath_ok (id : Int) (w : World) (h0 : 0 ≤ id) (h1 : id ≤ 255) :
    Calls Try.prog 22 #[.int .i64 id] w fun e w' => e = .returned (.tuple #[.agg (paA id), .int .i64 0]) ∧ Below w.heap.size w w' := by
  have hz := zero48
  obtain ⟨W2, hst, g2, o2, _⟩ := store_row (w.alloc (.cells paZ 48)) (B := paA id) (heap_alloc_new w _) info48s rfl rfl (pa_one _ _ _ _)
  have HST := Lib.hid hst
  have HL := Lib.hid (load48 (A := paA id) rfl g2)
  have O2 := Lib.hid (((Only.refl (fun _ => False) w).alloc (.cells paZ 48)).fresh o2 (by intro j hj; omega))
  have HB := Lib.hid (build48 (id / 64) (id / 16 % 4) (id / 4 % 4) (id % 4))
  unfold paA at HST
  clear hst g2 o2
  generalize paZ = Z at *
  go_enter Try.func22, Try.ntmps22
  go_wp2_with (first | ((with_reducible refine wpList_build_at ?_ 48 #[(0, .tmp 12), (1, .tmp 15), (2, .tmp 18), (3, .tmp 20)] ?_ [(0, .int .i64 (id / 64)), (1, .int .i64 (id / 16 % 4)), (2, .int .i64 (id / 4 % 4)), (3, .int .i64 (id % 4))] ?_ _ (HB.out _) ?_); rfl; rfl; rfl) | ((with_reducible refine wpList_store_at ?_ 48 (.tmp 2) (.tmp 21) ?_ _ ?_ _ ?_ HST.out ?_); rfl; rfl; rfl; rfl))
  refine bodyPost_ret (v := .tuple #[.agg (paA id), .int .i64 0]) ?_ rfl ⟨rfl, O2.out.below0⟩
  have := HL.out
  simp [results, Try.results22, asAddr, this]

set_option maxHeartbeats 1000000 in
theorem rpath_bad (id : Int) (w : World) (h : id < 0 ∨ 255 < id) :
    Calls Try.prog 22 #[.int .i64 id] w fun e w' => e = .returned (.tuple #[.agg paZ, .int .i64 1]) ∧ Below w.heap.size w w' := by
  have hz := zero48
  have hg := heap_alloc_new w (.cells paZ 48)
  have HST := Lib.hid (same_row (w.alloc (.cells paZ 48)) (ty := 48) hg info48s rfl (pa_one _ _ _ _))
  have HL := Lib.hid (load48 (A := paZ) rfl hg)
  have O2 : Hid (Only (fun _ => False) w (w.alloc (.cells paZ 48))) := (Only.refl _ w).alloc _
  have HB := Lib.hid build48z
  clear hg
  generalize paZ = Z at *
  rcases h with h | h
  all_goals
    go_enter Try.func22, Try.ntmps22
    go_wp2_with (first | ((with_reducible refine wpList_build_at ?_ 48 #[] ?_ [] ?_ _ (HB.out _) ?_); rfl; rfl; rfl) | ((with_reducible refine wpList_store_at ?_ 48 (.tmp 2) (.tmp 10) ?_ _ ?_ _ ?_ HST.out ?_); rfl; rfl; rfl; rfl))
    refine bodyPost_ret (v := .tuple #[.agg Z, .int .i64 1]) ?_ rfl ⟨rfl, O2.out.below0⟩
    have := HL.out
    simp [results, Try.results22, asAddr, this]

set_option maxHeartbeats 1000000 in
theorem path_bad (id : Int) (w : World) (h : id < 0 ∨ 255 < id) :
    Calls Try.prog 20 #[.int .i64 id] w fun e w' => e = .returned (.tuple #[.agg paZ, .int .i64 1]) ∧ Below w.heap.size w w' := by
  have hz := zero48
  have hg := heap_alloc_new w (.cells paZ 48)
  have HST := Lib.hid (same_row (w.alloc (.cells paZ 48)) (ty := 48) hg info48s rfl (pa_one _ _ _ _))
  have HL := Lib.hid (load48 (A := paZ) rfl hg)
  have O2 : Hid (Only (fun _ => False) w (w.alloc (.cells paZ 48))) := (Only.refl _ w).alloc _
  clear hg
  generalize paZ = Z at *
  rcases h with h | h
  all_goals
    go_enter Try.func20, Try.ntmps20
    go_wp2_with (first | ((with_reducible refine wpList_load_at ?_ 48 (.tmp 2) ?_ _ ?_ _ HL.out ?_); rfl; rfl; rfl) | ((with_reducible refine wpList_store_at ?_ 48 (.tmp 2) (.tmp 11) ?_ _ ?_ _ ?_ HST.out ?_); rfl; rfl; rfl; rfl))
    refine bodyPost_ret (v := .tuple #[.agg Z, .int .i64 1]) ?_ rfl ⟨rfl, O2.out.below0⟩
    have := HL.out
    simp [results, Try.results20, asAddr, this]

/-- The path, so many of its digits laid. -/
def paC (id : Int) (k : Nat) : Array Value := #[.int .i64 (if 4 ≤ k then id / 64 else 0), .int .i64 (if 3 ≤ k then id / 16 % 4 else 0), .int .i64 (if 2 ≤ k then id / 4 % 4 else 0), .int .i64 (if 1 ≤ k then id % 4 else 0)]

theorem and3 (x : Int) (h0 : 0 ≤ x) (h1 : x ≤ 255) : bits .and .i64 x 3 = x % 4 := by
  obtain ⟨n, rfl⟩ := Int.eq_ofNat_of_zero_le h0
  have hn : n < 256 := by omega
  show IntKind.i64.wrap ((BitVec.ofInt 64 (n : Int) &&& BitVec.ofInt 64 3).toNat : Int) = _
  have e : (BitVec.ofInt 64 (n : Int)).toNat = n := by
    rw [BitVec.ofInt_natCast, BitVec.toNat_ofNat]; exact Nat.mod_eq_of_lt (by omega)
  have e3 : (BitVec.ofInt 64 3).toNat = 2 ^ 2 - 1 := rfl
  rw [BitVec.toNat_and, e, e3, Nat.and_two_pow_sub_one_eq_mod, IntKind.wrap_i64]
  omega

set_option maxHeartbeats 2000000 in
theorem path_ok (id : Int) (w : World) (h0 : 0 ≤ id) (h1 : id ≤ 255) :
    Calls Try.prog 20 #[.int .i64 id] w fun e w' => e = .returned (.tuple #[.agg (paA id), .int .i64 0]) ∧ Below w.heap.size w w' := by
  have hz := zero48
  have hg := heap_alloc_new w (.cells paZ 48)
  have HG : Hid ((w.alloc (.cells paZ 48)).heap[w.heap.size]? = some (.cells (paC id 0) 48 (0, 0))) := hg
  have O2 : Hid (Only (fun _ => False) w (w.alloc (.cells paZ 48))) := (Only.refl _ w).alloc _
  clear hg
  generalize paZ = Z at *
  have q0 := and3 id h0 h1
  have q1 := and3 (id / 4) (by omega) (by omega)
  have q2 := and3 (id / 16) (by omega) (by omega)
  have q3 := and3 (id / 64) (by omega) (by omega)
  have q4 : id / 64 % 4 = id / 64 := by omega
  rw [q4] at q3
  clear q4
  go_enter Try.func20, Try.ntmps20
  go_wp2_with fail
  go_loopw [12] (fun i wr => ∃ k : Nat, k ≤ 4 ∧ i = .int .i64 k ∧ Hid (wr.heap[w.heap.size]? = some (.cells (paC id k) 48 (0, 0))) ∧ Hid (Only (fun _ => False) w wr)) (fun i _ => 4 - (intOf i).toNat)
  case atStart => exact ⟨0, by omega, rfl, HG.out, O2.out⟩
  case round =>
    obtain ⟨k, hk, rfl, hg, ho⟩ := hrel
    by_cases hlt : k < 4
    · obtain rfl | rfl | rfl | rfl : k = 0 ∨ k = 1 ∨ k = 2 ∨ k = 3 := by omega
      · have c3 := cell_of_row _ _ 3 _ _ _ hg.out
        have f3 := frozen_of_row _ _ 3 _ _ hg.out
        have g2 : (wr.setCell ⟨w.heap.size, 3, none⟩ (.int .i64 (id % 4))).heap[w.heap.size]? = some (.cells (paC id 1) 48 (0, 0)) := heap_setCell_same wr w.heap.size 3 _ 48 _ hg.out
        have G2 := Lib.hid g2
        have O3 := Lib.hid (ho.out.fresh (Only.setCell (S := fun k => k = w.heap.size) (Only.refl _ wr) (p := ⟨w.heap.size, 3, none⟩) rfl (.int .i64 (id % 4))) (by intro j hj; omega))
        clear g2
        go_wp2_with fail
        go_roundw
        case rel => exact ⟨1, by omega, rfl, G2.out, O3.out⟩
        case measure => simp [intOf]
      · have c3 := cell_of_row _ _ 2 _ _ _ hg.out
        have f3 := frozen_of_row _ _ 2 _ _ hg.out
        have g2 : (wr.setCell ⟨w.heap.size, 2, none⟩ (.int .i64 (id / 4 % 4))).heap[w.heap.size]? = some (.cells (paC id 2) 48 (0, 0)) := heap_setCell_same wr w.heap.size 2 _ 48 _ hg.out
        have G2 := Lib.hid g2
        have O3 := Lib.hid (ho.out.fresh (Only.setCell (S := fun k => k = w.heap.size) (Only.refl _ wr) (p := ⟨w.heap.size, 2, none⟩) rfl (.int .i64 (id / 4 % 4))) (by intro j hj; omega))
        clear g2
        go_wp2_with fail
        go_roundw
        case rel => exact ⟨2, by omega, rfl, G2.out, O3.out⟩
        case measure => simp [intOf]
      · have c3 := cell_of_row _ _ 1 _ _ _ hg.out
        have f3 := frozen_of_row _ _ 1 _ _ hg.out
        have g2 : (wr.setCell ⟨w.heap.size, 1, none⟩ (.int .i64 (id / 16 % 4))).heap[w.heap.size]? = some (.cells (paC id 3) 48 (0, 0)) := heap_setCell_same wr w.heap.size 1 _ 48 _ hg.out
        have G2 := Lib.hid g2
        have O3 := Lib.hid (ho.out.fresh (Only.setCell (S := fun k => k = w.heap.size) (Only.refl _ wr) (p := ⟨w.heap.size, 1, none⟩) rfl (.int .i64 (id / 16 % 4))) (by intro j hj; omega))
        clear g2
        go_wp2_with fail
        go_roundw
        case rel => exact ⟨3, by omega, rfl, G2.out, O3.out⟩
        case measure => simp [intOf]
      · have c3 := cell_of_row _ _ 0 _ _ _ hg.out
        have f3 := frozen_of_row _ _ 0 _ _ hg.out
        have g2 : (wr.setCell ⟨w.heap.size, 0, none⟩ (.int .i64 (id / 64))).heap[w.heap.size]? = some (.cells (paC id 4) 48 (0, 0)) := heap_setCell_same wr w.heap.size 0 _ 48 _ hg.out
        have G2 := Lib.hid g2
        have O3 := Lib.hid (ho.out.fresh (Only.setCell (S := fun k => k = w.heap.size) (Only.refl _ wr) (p := ⟨w.heap.size, 0, none⟩) rfl (.int .i64 (id / 64))) (by intro j hj; omega))
        clear g2
        go_wp2_with fail
        go_roundw
        case rel => exact ⟨4, by omega, rfl, G2.out, O3.out⟩
        case measure => simp [intOf]
    · obtain rfl : k = 4 := by omega
      have hr : paC id 4 = paA id := rfl
      rw [hr] at hg
      have HL := Lib.hid (load48 (A := paA id) rfl hg.out)
      have HST := Lib.hid (same_row wr (ty := 48) hg.out info48s rfl (pa_one _ _ _ _))
      clear q0 q1 q2 q3
      go_wp2_with (first | ((with_reducible refine wpList_load_at ?_ 48 (.tmp 2) ?_ _ ?_ _ HL.out ?_); rfl; rfl; rfl) | ((with_reducible refine wpList_store_at ?_ 48 (.tmp 2) (.tmp 24) ?_ _ ?_ _ ?_ HST.out ?_); rfl; rfl; rfl; rfl))
      refine bodyPost_ret (v := .tuple #[.agg (paA id), .int .i64 0]) ?_ rfl ⟨rfl, ho.out.below0⟩
      have := HL.out
      simp [results, Try.results20, asAddr, this]
end Go.Proofs.Ytbmckmlekhkpeaa
