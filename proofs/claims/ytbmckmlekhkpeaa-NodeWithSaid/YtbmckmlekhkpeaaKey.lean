/-
  TakeKey, the program's and the reference's.
-/
import Derived.Test.YtbmckmlekhkpeaaFn
import Derived.Test.YtbmckmlekhkpeaaBlk
import Derived.Stop.BytesEq
set_option linter.unusedVariables false
namespace Go.Proofs.Ytbmckmlekhkpeaa
open Go.RowKit

/-- The cells of a key. -/
def kyC (l : List UInt8) : Array Value := (l.map fun b => Value.int .u8 b.toNat).toArray
def ky0 : Array Value := #[.int .u8 0, .int .u8 0, .int .u8 0, .int .u8 0, .int .u8 0, .int .u8 0, .int .u8 0, .int .u8 0, .int .u8 0, .int .u8 0, .int .u8 0, .int .u8 0, .int .u8 0, .int .u8 0, .int .u8 0, .int .u8 0]
theorem info5s : (Try.prog.info? 5).map (·.size) = some 1 := by kernel_rfl
theorem info24s : (Try.prog.info? 24).map (·.size) = some 16 := by kernel_rfl

theorem kyC_size {l : List UInt8} (h : l.length = 16) : (kyC l).size = 16 := by simp only [kyC, List.size_toArray, List.length_map, h]
theorem kyC_one (l : List UInt8) : ∀ v ∈ (kyC l).toList, v.oneCell' = true := by
  intro v hv
  simp only [kyC, List.mem_map] at hv
  obtain ⟨b, _, rfl⟩ := hv
  rfl

theorem below_row {B g : Nat} {w0 w : World} (hb : Below B w0 w) (hg : B ≤ g) (cs : Array Value) : Below B w0 (w.setRow g cs) :=
  hb.trans ⟨rfl, rfl, rfl, by simp, fun k hk => setRow_other w g k cs (by omega)⟩

set_option maxHeartbeats 1000000 in
theorem key_ok (s : ByteArray) (w : World) (hs : s.size ≤ 140737488351232) (h : 16 ≤ s.size) :
    Calls Try.prog 45 #[.string s] w fun e w' => e = .returned (.tuple #[.agg (kyC (s.data.toList.take 16)), .string (s.extract 16 s.size), .int .i64 0]) ∧ Below w.heap.size w w' := by
  have hsz : (kyC (s.data.toList.take 16)).size = 16 := by
    have : s.data.toList.length = s.size := by simp
    simp [kyC, this]; omega
  have hg0 : (w.alloc (.cells ky0 24)).heap[w.heap.size]? = some (.cells ky0 24 (0, 0)) := heap_alloc_new w _
  have hcopy := copy_string_at (P := Try.prog) (w.alloc (.cells ky0 24)) 66 9 3 5 w.heap.size 0 16 16 s ky0 24 Try.underlying66 info5s hg0 h (by decide)
  rw [show splice ky0 0 ((s.data.toList.take 16).map fun b => Value.int .u8 b.toNat).toArray = kyC (s.data.toList.take 16) from splice_all hsz] at hcopy
  have hb1 : Below w.heap.size w ((w.alloc (.cells ky0 24)).setRow w.heap.size (kyC (s.data.toList.take 16))) := below_row (below_alloc (Below.refl _ _) (Nat.le_refl _) _) (Nat.le_refl _) _
  have hg1 : ((w.alloc (.cells ky0 24)).setRow w.heap.size (kyC (s.data.toList.take 16))).heap[w.heap.size]? = some (.cells (kyC (s.data.toList.take 16)) 24 (0, 0)) := setRow_heap _ _ _ _ _ _ hg0
  generalize (w.alloc (.cells ky0 24)).setRow w.heap.size (kyC (s.data.toList.take 16)) = w1 at hcopy hb1 hg1
  unfold ky0 at hcopy
  have HB := Lib.hid hb1
  have HG := Lib.hid hg1
  clear hb1 hg1 hg0
  have HO : Hid (∀ v ∈ (kyC (s.data.toList.take 16)).toList, v.oneCell' = true) := by
    intro v hv
    simp only [kyC, List.mem_map] at hv
    obtain ⟨b, _, rfl⟩ := hv
    rfl
  generalize kyC (s.data.toList.take 16) = K at *
  go_enter Try.func45, Try.ntmps45
  go_wp2_with fail
  have HL : Hid (∀ W, (∃ n, W = w1.drewN n) → (loadVar 24 ⟨w.heap.size, 0, none⟩).run Try.prog W = .ok (.agg K) W) := by
    rintro _ ⟨n, rfl⟩
    exact run_loadVar_row (P := Try.prog) (w1.drewN n) w.heap.size 24 24 K (0, 0) _ HG.out Try.underlying24 rfl (by rw [info24s, hsz])
  have HST : Hid (∀ W, (∃ n, W = w1.drewN n) → (storeVar 24 ⟨w.heap.size, 0, none⟩ (.agg K)).run Try.prog W = .ok () W) := by
    rintro _ ⟨n, rfl⟩
    have := storeVar_at (P := Try.prog) (w1.drewN n) w.heap.size 0 24 24 K K 16 HG.out info24s hsz (by omega) HO.out
    rw [splice_all rfl, setRow_self (w1.drewN n) w.heap.size K 24 (0, 0) HG.out] at this
    exact this
  have h16 : (16 : Int) ≤ (s.size : Int) := by omega
  refine wp_region_quiet_lit (by kernel_rfl) (by kernel_rfl) ?_
  refine quiet_load_at rfl 24 (.tmp 2) rfl _ rfl _ HL.out ?_
  quiet_step (fail)
  quiet_step (fail)
  refine quiet_store_at rfl 24 (.tmp 2) (.tmp 12) rfl _ rfl _ rfl HST.out ?_
  quiet_step (fail)
  quiet_step (fail)
  refine wpQuiet_nil ?_
  rintro _ ⟨nq, rfl⟩
  go_wp2
  refine bodyPost_ret (v := .tuple #[.agg K, .string (s.extract 16 s.size), .int .i64 0]) ?_ rfl ⟨rfl, bdrewN HB.out _⟩
  have := HL.out _ ⟨nq, rfl⟩
  simp [results, Try.results45, asAddr, this]

theorem ky0_one : ∀ v ∈ ky0.toList, v.oneCell' = true := by
  intro v hv
  simp only [ky0, List.mem_cons] at hv
  rcases hv with rfl | rfl | rfl | rfl | rfl | rfl | rfl | rfl | rfl | rfl | rfl | rfl | rfl | rfl | rfl | rfl | h <;> first | rfl | cases h

set_option maxHeartbeats 1000000 in
theorem key_bad (s : ByteArray) (w : World) (hs : s.size ≤ 140737488351232) (h : s.size < 16) :
    Calls Try.prog 45 #[.string s] w fun e w' => e = .returned (.tuple #[.agg ky0, .string ⟨#[]⟩, .int .i64 10]) ∧ Below w.heap.size w w' := by
  have hg0 : (w.alloc (.cells ky0 24)).heap[w.heap.size]? = some (.cells ky0 24 (0, 0)) := heap_alloc_new w _
  have hl : (loadVar 24 ⟨w.heap.size, 0, none⟩).run Try.prog (w.alloc (.cells ky0 24)) = .ok (.agg ky0) (w.alloc (.cells ky0 24)) :=
    run_loadVar_row (P := Try.prog) _ w.heap.size 24 24 ky0 (0, 0) _ hg0 Try.underlying24 rfl (by rw [info24s]; rfl)
  have hst : (storeVar 24 ⟨w.heap.size, 0, none⟩ (.agg ky0)).run Try.prog (w.alloc (.cells ky0 24)) = .ok () (w.alloc (.cells ky0 24)) := by
    have := storeVar_at (P := Try.prog) _ w.heap.size 0 24 24 ky0 ky0 16 hg0 info24s rfl (by decide) ky0_one
    rw [splice_all rfl, setRow_self _ w.heap.size ky0 24 (0, 0) hg0] at this
    exact this
  have HL := Lib.hid hl
  have HST := Lib.hid hst
  clear hl hst hg0
  go_enter Try.func45, Try.ntmps45
  go_wp2_with (first | (refine wpList_load_at rfl 24 (.tmp 2) rfl _ rfl _ HL.out ?_) | (refine wpList_store_at rfl 24 (.tmp 2) (.tmp 8) rfl _ rfl _ rfl HST.out ?_))
  refine bodyPost_ret (v := .tuple #[.agg ky0, .string ⟨#[]⟩, .int .i64 10]) ?_ rfl ⟨rfl, below_alloc (Below.refl _ _) (Nat.le_refl _) _⟩
  have := HL.out
  unfold ky0 at this
  simp [results, Try.results45, asAddr, this, ky0]

/-- The reference's key, so many bytes of it taken. -/
def kyP (l : List UInt8) (k : Nat) : Array Value := ((l.take k).map (fun b : UInt8 => Value.int .u8 b.toNat) ++ List.replicate (16 - k) (Value.int .u8 0)).toArray
theorem kyP_size (l : List UInt8) (hl : l.length = 16) (k : Nat) (hk : k ≤ 16) : (kyP l k).size = 16 := by simp [kyP]; omega
theorem kyP_zero (l : List UInt8) : kyP l 0 = ky0 := by simp [kyP, ky0]
theorem kyP_all (l : List UInt8) (hl : l.length = 16) : kyP l 16 = kyC l := by simp [kyP, kyC, List.take_of_length_le (Nat.le_of_eq hl)]
theorem kyP_set (l : List UInt8) (hl : l.length = 16) (k : Nat) (hk : k < 16) : (kyP l k).setIfInBounds k (.int .u8 (l[k]'(by omega)).toNat) = kyP l (k + 1) := by
  apply Array.toList_inj.1
  have hz : 16 - k = (16 - (k + 1)) + 1 := by omega
  have e : ((l.take k).map (fun b : UInt8 => Value.int .u8 (b.toNat : Int))).length = k := by simp; omega
  simp only [kyP, Array.toList_setIfInBounds]
  rw [List.set_append_right _ _ (by omega), e, Nat.sub_self, hz, List.replicate_succ, List.set_cons_zero, List.take_add_one, List.getElem?_eq_getElem (by omega : k < l.length), List.map_append, Option.toList_some, List.map_cons, List.map_nil, List.append_assoc]
  rfl

set_option maxHeartbeats 2000000 in
theorem rkey_ok (s : ByteArray) (w : World) (hs : s.size ≤ 140737488351232) (h : 16 ≤ s.size) :
    Calls Try.prog 40 #[.string s] w fun e w' => e = .returned (.tuple #[.agg (kyC (s.data.toList.take 16)), .string (s.extract 16 s.size), .int .i64 0]) ∧ Below w.heap.size w w' := by
  have hll : (s.data.toList.take 16).length = 16 := by
    have : s.data.toList.length = s.size := by simp
    simp [this]; omega
  have HLL := Lib.hid hll
  clear hll
  have hg1 : ((w.alloc (.cells ky0 24)).alloc (.cells ky0 24)).heap[w.heap.size + 1]? = some (.cells ky0 24 (0, 0)) := heap_alloc2_new w _ _
  have hg0 : ((w.alloc (.cells ky0 24)).alloc (.cells ky0 24)).heap[w.heap.size]? = some (.cells ky0 24 (0, 0)) := heap_alloc2_old w _ _
  have hst : (storeVar 24 ⟨w.heap.size + 1, 0, none⟩ (.agg ky0)).run Try.prog ((w.alloc (.cells ky0 24)).alloc (.cells ky0 24)) = .ok () ((w.alloc (.cells ky0 24)).alloc (.cells ky0 24)) := by
    have := storeVar_at (P := Try.prog) _ (w.heap.size + 1) 0 24 24 ky0 ky0 16 hg1 info24s rfl (by decide) ky0_one
    rw [splice_all rfl, setRow_self _ _ ky0 24 (0, 0) hg1] at this
    exact this
  have HST := Lib.hid hst
  have HG1 := Lib.hid hg1
  have HG0 := Lib.hid hg0
  clear hst hg1 hg0
  go_enter Try.func40, Try.ntmps40
  go_wp2_with (refine wpList_store_at rfl 24 (.tmp 5) (.tmp 7) rfl _ rfl _ rfl HST.out ?_)
  go_loopw [6] (fun i wr => ∃ k : Nat, k ≤ 16 ∧ i = .int .i64 k ∧ Hid (wr.heap[w.heap.size + 1]? = some (.cells (kyP (s.data.toList.take 16) k) 24 (0, 0))) ∧ Hid (wr.heap[w.heap.size]? = some (.cells ky0 24 (0, 0))) ∧ Below w.heap.size w wr) (fun i _ => 16 - (intOf i).toNat)
  case atStart => exact ⟨0, by omega, rfl, by rw [kyP_zero]; exact HG1.out, HG0.out, below_alloc (below_alloc (Below.refl _ _) (Nat.le_refl _) _) (Nat.le_refl _) _⟩
  case round =>
    obtain ⟨k, hk, rfl, hg1, hg0, hbel⟩ := hrel
    by_cases hlt : k < 16
    · have hks : k < s.size := by omega
      have hcell : ∃ v, wr.cell? ⟨w.heap.size + 1, k, none⟩ = some v := by
        have := cell_of_row wr (w.heap.size + 1) k _ _ _ hg1.out
        have hs2 := kyP_size (s.data.toList.take 16) HLL.out k hk
        exact ⟨_, this.trans (Array.getElem?_eq_getElem (by omega))⟩
      obtain ⟨v, hc⟩ := hcell
      have hf := frozen_of_row wr (w.heap.size + 1) k _ _ hg1.out
      go_wp2_with fail
      have hs2 : (s.data.toList.take 16)[k]'(by rw [HLL.out]; exact hlt) = s[k] := by simp [ByteArray.getElem_eq_getElem_data]
      have n1 : Hid ((wr.setCell ⟨w.heap.size + 1, k, none⟩ (.int .u8 s[k].toNat)).heap[w.heap.size + 1]? = some (.cells (kyP (s.data.toList.take 16) (k + 1)) 24 (0, 0))) := by
        have := heap_setCell_same wr (w.heap.size + 1) k _ 24 (.int .u8 s[k].toNat) hg1.out
        rw [← hs2, kyP_set _ HLL.out k hlt, hs2] at this
        exact this
      have n0 : Hid ((wr.setCell ⟨w.heap.size + 1, k, none⟩ (.int .u8 s[k].toNat)).heap[w.heap.size]? = some (.cells ky0 24 (0, 0))) :=
        (heap_setCell_other wr ⟨w.heap.size + 1, k, none⟩ w.heap.size _ (by simp)).trans hg0.out
      go_roundw
      case rel => exact ⟨k + 1, by omega, by go_num, n1, n0, hbel.setCell (by simp) _⟩
      case measure => simp [intOf]; omega
    · obtain rfl : k = 16 := by omega
      have hks : (16 : Int) ≤ (s.size : Int) := by omega
      rw [kyP_all _ HLL.out] at hg1
      have hsz : (kyC (s.data.toList.take 16)).size = 16 := kyC_size HLL.out
      have HO := Lib.hid (kyC_one (s.data.toList.take 16))
      generalize hKe : kyC (s.data.toList.take 16) = K at *
      have HK := Lib.hid hKe
      clear hKe
      have hl : (loadVar 24 ⟨w.heap.size + 1, 0, none⟩).run Try.prog wr.drew = .ok (.agg K) wr.drew :=
        run_loadVar_row (P := Try.prog) wr.drew (w.heap.size + 1) 24 24 K (0, 0) _ hg1.out Try.underlying24 rfl (by rw [info24s, hsz])
      have HL := Lib.hid hl
      have HST2 : Hid ((storeVar 24 ⟨w.heap.size, 0, none⟩ (.agg K)).run Try.prog wr.drew = .ok () (wr.drew.setRow w.heap.size K)) := by
        have := storeVar_at (P := Try.prog) wr.drew w.heap.size 0 24 24 ky0 K 16 hg0.out info24s hsz (by decide) HO.out
        rw [splice_all (by rw [hsz]; rfl)] at this
        exact this
      clear hl
      go_wp2_with fail
      refine wp_region_any (by kernel_rfl) ?_
      change wpAny _ _ _ _ _ _ _ (World.drew wr)
      refine wpAny_take (i := 1) (v := .string s) rfl (by kernel_rfl) (by kernel_rfl) (by kernel_rfl) (fun _ _ _ h => h) (Or.inl ⟨by rfl, fun w => by go_simp⟩) ?_
      refine wpAny_take (i := 2) (v := .string (s.extract 16 s.size)) rfl (by kernel_rfl) (by kernel_rfl) (by kernel_rfl) (fun _ _ _ h => h) (Or.inl ⟨by rfl, fun w => by go_simp⟩) ?_
      refine wpAny_ready (rs := [0]) (by kernel_rfl) (by simp) ?_
      refine AllReady.cons rfl (fun K0 hK0 => ?_) AllReady.nil
      refine step_load_at rfl 24 (.tmp 5) rfl _ rfl _ HL.out ?_
      refine hK0 _ _ ?_
      clear hK0 K0
      refine wpAny_ready (rs := [3]) (by kernel_rfl) (by simp) ?_
      refine AllReady.cons rfl (fun K0 hK0 => ?_) AllReady.nil
      refine step_store_at rfl 24 (.tmp 2) (.tmp 21) rfl _ rfl _ rfl HST2.out ?_
      refine hK0 _ _ ?_
      clear hK0 K0
      refine wpAny_take (i := 4) (v := .string (s.extract 16 s.size)) rfl (by kernel_rfl) (by kernel_rfl) (by kernel_rfl) (fun _ _ _ h => h) (Or.inl ⟨by rfl, fun w => by go_simp⟩) ?_
      refine wpAny_take (i := 5) (v := .int .i64 0) rfl (by kernel_rfl) (by kernel_rfl) (by kernel_rfl) (fun _ _ _ h => h) (Or.inl ⟨by rfl, fun w => by go_simp⟩) ?_
      refine wpAny_done (by kernel_rfl) ?_ _
      go_wp2
      refine bodyPost_ret (v := .tuple #[.agg K, .string (s.extract 16 s.size), .int .i64 0]) ?_ rfl ⟨by rw [HK.out], below_row hbel.drew (Nat.le_refl _) _⟩
      have h2 := run_loadVar_row (P := Try.prog) (wr.drew.setRow w.heap.size K) w.heap.size 24 24 K (0, 0) _ (setRow_heap _ _ _ _ _ _ hg0.out) Try.underlying24 rfl (by rw [info24s, hsz])
      simp [results, Try.results40, asAddr, Act.put, h2]

set_option maxHeartbeats 1000000 in
theorem rkey_bad (s : ByteArray) (w : World) (hs : s.size ≤ 140737488351232) (h : s.size < 16) :
    Calls Try.prog 40 #[.string s] w fun e w' => e = .returned (.tuple #[.agg ky0, .string ⟨#[]⟩, .int .i64 10]) ∧ Below w.heap.size w w' := by
  have hg1 : ((w.alloc (.cells ky0 24)).alloc (.cells ky0 24)).heap[w.heap.size + 1]? = some (.cells ky0 24 (0, 0)) := heap_alloc2_new w _ _
  have hg0 : ((w.alloc (.cells ky0 24)).alloc (.cells ky0 24)).heap[w.heap.size]? = some (.cells ky0 24 (0, 0)) := heap_alloc2_old w _ _
  have hst : ∀ g, (g = w.heap.size ∨ g = w.heap.size + 1) → (storeVar 24 ⟨g, 0, none⟩ (.agg ky0)).run Try.prog ((w.alloc (.cells ky0 24)).alloc (.cells ky0 24)) = .ok () ((w.alloc (.cells ky0 24)).alloc (.cells ky0 24)) := by
    intro g hg
    have hgg : ((w.alloc (.cells ky0 24)).alloc (.cells ky0 24)).heap[g]? = some (.cells ky0 24 (0, 0)) := by rcases hg with rfl | rfl <;> assumption
    have := storeVar_at (P := Try.prog) _ g 0 24 24 ky0 ky0 16 hgg info24s rfl (by decide) ky0_one
    rw [splice_all rfl, setRow_self _ _ ky0 24 (0, 0) hgg] at this
    exact this
  have hl : ∀ g, (g = w.heap.size ∨ g = w.heap.size + 1) → (loadVar 24 ⟨g, 0, none⟩).run Try.prog ((w.alloc (.cells ky0 24)).alloc (.cells ky0 24)) = .ok (.agg ky0) ((w.alloc (.cells ky0 24)).alloc (.cells ky0 24)) := by
    intro g hg
    have hgg : ((w.alloc (.cells ky0 24)).alloc (.cells ky0 24)).heap[g]? = some (.cells ky0 24 (0, 0)) := by rcases hg with rfl | rfl <;> assumption
    exact run_loadVar_row (P := Try.prog) _ g 24 24 ky0 (0, 0) _ hgg Try.underlying24 rfl (by rw [info24s]; rfl)
  have HST0 := Lib.hid (hst _ (.inl rfl))
  have HST1 := Lib.hid (hst _ (.inr rfl))
  have HL0 := Lib.hid (hl _ (.inl rfl))
  have HL1 := Lib.hid (hl _ (.inr rfl))
  clear hst hl hg1 hg0
  go_enter Try.func40, Try.ntmps40
  go_wp2_with (first | (refine wpList_store_at rfl 24 (.tmp 5) (.tmp 7) rfl _ rfl _ rfl HST1.out ?_) | (refine wpList_load_at rfl 24 (.tmp 5) rfl _ rfl _ HL1.out ?_) | (refine wpList_store_at rfl 24 (.tmp 2) (.tmp 11) rfl _ rfl _ rfl HST0.out ?_))
  refine bodyPost_ret (v := .tuple #[.agg ky0, .string ⟨#[]⟩, .int .i64 10]) ?_ rfl ⟨rfl, below_alloc (below_alloc (Below.refl _ _) (Nat.le_refl _) _) (Nat.le_refl _) _⟩
  have := HL0.out
  unfold ky0 at this
  simp [results, Try.results40, asAddr, this, ky0]

/-- What TakeKey answers. -/
def tyK (s : ByteArray) : List UInt8 := if 16 ≤ s.size then s.data.toList.take 16 else List.replicate 16 0
def tyR (s : ByteArray) : ByteArray := if 16 ≤ s.size then s.extract 16 s.size else ⟨#[]⟩
def tyE (s : ByteArray) : Int := if 16 ≤ s.size then 0 else 10
def tyV (s : ByteArray) : Value := .tuple #[.agg (kyC (tyK s)), .string (tyR s), .int .i64 (tyE s)]
theorem tyK_len (s : ByteArray) : (tyK s).length = 16 := by
  unfold tyK
  split
  · have : s.data.toList.length = s.size := by simp
    simp [this]; omega
  · simp
theorem key_any (s : ByteArray) (w : World) (hs : s.size ≤ 140737488351232) :
    Calls Try.prog 45 #[.string s] w fun e w' => e = .returned (tyV s) ∧ Below w.heap.size w w' := by
  by_cases h : 16 ≤ s.size
  · have e1 : tyV s = .tuple #[.agg (kyC (s.data.toList.take 16)), .string (s.extract 16 s.size), .int .i64 0] := by
      rw [tyV, tyK, tyR, tyE, if_pos h, if_pos h, if_pos h]
    rw [e1]; exact key_ok s w hs h
  · have e1 : tyV s = .tuple #[.agg ky0, .string ⟨#[]⟩, .int .i64 10] := by
      rw [tyV, tyK, tyR, tyE, if_neg h, if_neg h, if_neg h]; rfl
    rw [e1]; exact key_bad s w hs (by omega)
theorem rkey_any (s : ByteArray) (w : World) (hs : s.size ≤ 140737488351232) :
    Calls Try.prog 40 #[.string s] w fun e w' => e = .returned (tyV s) ∧ Below w.heap.size w w' := by
  by_cases h : 16 ≤ s.size
  · have e1 : tyV s = .tuple #[.agg (kyC (s.data.toList.take 16)), .string (s.extract 16 s.size), .int .i64 0] := by
      rw [tyV, tyK, tyR, tyE, if_pos h, if_pos h, if_pos h]
    rw [e1]; exact rkey_ok s w hs h
  · have e1 : tyV s = .tuple #[.agg ky0, .string ⟨#[]⟩, .int .i64 10] := by
      rw [tyV, tyK, tyR, tyE, if_neg h, if_neg h, if_neg h]; rfl
    rw [e1]; exact rkey_bad s w hs (by omega)

theorem size5 (w : World) : (sizeOf 5).run Try.prog w = .ok 1 w := by
  simp [sizeOf, typeInfo]
  rfl
theorem key_self (l : List UInt8) (h : l.length = 16) (w : World) : (Op.equalIn 10000 24 (.agg (kyC l)) (.agg (kyC l))).run Try.prog w = .ok true w := by
  have := run_equalIn_bytes (P := Try.prog) w 9998 24 5 16 (Try.underlying24.trans (by kernel_rfl)) Try.underlying5 size5 l l h h
  rw [beq_self_eq_true] at this
  exact this
end Go.Proofs.Ytbmckmlekhkpeaa
