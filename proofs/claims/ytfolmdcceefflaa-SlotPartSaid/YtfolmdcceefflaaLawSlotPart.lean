/-
  SlotPart: the walk.
-/
import Derived.Test.YtfolmdcceefflaaLawSlotErrors
set_option linter.unusedVariables false
namespace Go.Proofs.Ytfolmdcceefflaa
open Go.RowKit

theorem pone_ok (q : Int) : Pw.Ok ⟨false, 1, q, 0⟩ := ⟨by show (0 : Int) ≤ 1; decide, by show (1 : Int) ≤ _; decide⟩
theorem pgone_ok (q : Int) : Pw.Ok ⟨true, 0, q, 0⟩ := ⟨by show (0 : Int) ≤ 0; decide, by show (0 : Int) ≤ _; decide⟩
theorem pback_ok (q : Int) : Pw.Ok ⟨false, 0, q, 0⟩ := ⟨by show (0 : Int) ≤ 0; decide, by show (0 : Int) ≤ _; decide⟩
theorem up_is (gs gp : Nat) (s : St) (w : World) (h : Is gs gp s w) : Calls Try.prog 16 #[.pointer (some ⟨gp, 0, none⟩)] w fun e w' => e = .returned (.bool (!s.p.off)) ∧ w = w' := up_any gp s.p w h.pw

set_option maxHeartbeats 4000000 in
theorem part_eo (w : World) (k : List UInt8) (hk : k.length = 16) (n q : Int) (h0 : 0 ≤ q) (h255 : q ≤ 255) (hq : q.tmod 2 = 1) :
    Calls Try.prog 4 #[.agg (kyA k), .int .u64 n, .int .u8 q, .bool true] w fun e w' => e = .returned (.bool true) ∧ Below w.heap.size w w' := by
  have hpw := Lib.hid (b1_power w k)
  have hnw := Lib.hid (b1_new w k)
  have HE := Lib.hid (b1_env w k)
  have HF := Lib.hid (b1_far w)
  have hne : w.heap.size + 2 ≠ w.heap.size + 1 := by omega
  have hlk := Lib.hid (fun (g : Nat) (W : World) (h : W.heap[g]? = some (Obj.cells (kyA k) 23 (0, 0))) => load_ky (k := k) h hk)
  have hlz := Lib.hid (fun (g : Nat) (W : World) (h : W.heap[g]? = some (Obj.cells (kyA ky0) 23 (0, 0))) => load_ky (k := ky0) h rfl)
  have hs1 : Hid (∀ W, Is (w.heap.size + 2) (w.heap.size + 1) st0 W → Calls Try.prog 11 #[.pointer (some ⟨w.heap.size + 2, 0, none⟩), .int .i64 0, .agg (kyA k), .int .u64 n] W fun e w' => e = .returned (.int .i64 0) ∧ Is (w.heap.size + 2) (w.heap.size + 1) ⟨p0, ⟨true, k, n⟩, Ce.zero⟩ w' ∧ Only (Two (w.heap.size + 2) (w.heap.size + 1)) W w') :=
    fun W h => write_any _ _ st0 0 n k W h st0_ok hne hk
  have hfu : Hid (∀ W, Is (w.heap.size + 2) (w.heap.size + 1) ⟨p0, ⟨true, k, n⟩, Ce.zero⟩ W → Calls Try.prog 15 #[.pointer (some ⟨w.heap.size + 1, 0, none⟩), .int .i64 1, .int .i64 q, .int .u8 0] W fun e w' => e = .returned (.tuple #[]) ∧ Is (w.heap.size + 2) (w.heap.size + 1) ⟨⟨false, 1, q, 0⟩, ⟨true, k, n⟩, Ce.zero⟩ w' ∧ Only (Two (w.heap.size + 2) (w.heap.size + 1)) W w') := by
    intro W h
    have := fuse_is _ _ ⟨p0, ⟨true, k, n⟩, Ce.zero⟩ 1 q 0 W h hne
    rw [show max q 0 = q by omega] at this
    exact this
  have hac : Hid (∀ W, Is (w.heap.size + 2) (w.heap.size + 1) ⟨⟨false, 1, q, 0⟩, ⟨true, k, n⟩, Ce.zero⟩ W → Calls Try.prog 12 #[.pointer (some ⟨w.heap.size + 2, 0, none⟩), .int .i64 0] W fun e w' => e = .returned (.int .i64 4) ∧ Is (w.heap.size + 2) (w.heap.size + 1) ⟨⟨true, 0, q, 0⟩, Ce.zero, Ce.zero⟩ w' ∧ Only (Two (w.heap.size + 2) (w.heap.size + 1)) W w') := by
    intro W h
    have := erase_any _ _ ⟨⟨false, 1, q, 0⟩, ⟨true, k, n⟩, Ce.zero⟩ 0 W h ⟨pone_ok q, made_ok k hk n, ce_zero_ok⟩ hne
    rw [show St.eraseE ⟨⟨false, 1, q, 0⟩, ⟨true, k, n⟩, Ce.zero⟩ 0 = 4 from rfl, show St.erase ⟨⟨false, 1, q, 0⟩, ⟨true, k, n⟩, Ce.zero⟩ 0 = ⟨⟨true, 0, q, 0⟩, Ce.zero, Ce.zero⟩ from by simp [St.erase, St.wrong, St.put, Pw.set, Pw.whole, Pw.next, Ce.zero, hq]] at this
    exact this
  have hup : Hid (∀ W, Is (w.heap.size + 2) (w.heap.size + 1) ⟨⟨true, 0, q, 0⟩, Ce.zero, Ce.zero⟩ W → Calls Try.prog 16 #[.pointer (some ⟨w.heap.size + 1, 0, none⟩)] W fun e w' => e = .returned (.bool false) ∧ W = w') :=
    fun W h => up_is _ _ ⟨⟨true, 0, q, 0⟩, Ce.zero, Ce.zero⟩ W h
  have hon : Hid (∀ W, Is (w.heap.size + 2) (w.heap.size + 1) ⟨⟨true, 0, q, 0⟩, Ce.zero, Ce.zero⟩ W → Calls Try.prog 17 #[.pointer (some ⟨w.heap.size + 1, 0, none⟩)] W fun e w' => e = .returned (.tuple #[]) ∧ Is (w.heap.size + 2) (w.heap.size + 1) ⟨⟨false, 0, q, 0⟩, Ce.zero, Ce.zero⟩ w' ∧ Only (Two (w.heap.size + 2) (w.heap.size + 1)) W w') :=
    fun W h => on_is _ _ ⟨⟨true, 0, q, 0⟩, Ce.zero, Ce.zero⟩ W h hne
  have hrd : Hid (∀ W, Is (w.heap.size + 2) (w.heap.size + 1) ⟨⟨false, 0, q, 0⟩, Ce.zero, Ce.zero⟩ W → Calls Try.prog 14 #[.pointer (some ⟨w.heap.size + 2, 0, none⟩), .int .i64 0] W fun x w' => x = .returned (.tuple #[.agg (kyA ky0), .int .u64 0, .int .i64 110]) ∧ Only (fun _ => False) W w') :=
    fun W h => read_any _ _ ⟨⟨false, 0, q, 0⟩, Ce.zero, Ce.zero⟩ 0 W h ⟨pback_ok q, ce_zero_ok, ce_zero_ok⟩
  have hkc := Lib.hid (fun W => key_cell W (k := ky0) rfl)
  have hke := Lib.hid (fun W => key_eq 9998 ky0 ky0 rfl rfl W)
  rw [beq_self_eq_true] at hke
  rw [kyA_zero] at hkc hke hrd
  clear hne
  go_enter Try.func4, Try.ntmps4
  go_wp2_with fail
  refine hpw.out.mono ?_
  rintro e w1 ⟨rfl, rfl⟩
  go_wp2_with fail
  refine hnw.out.mono ?_
  rintro e w1 ⟨rfl, rfl⟩
  generalize W0 (B1 w k) = X at *
  go_wp2_with fail
  refine (shown_any X).mono ?_
  rintro e x1 ⟨rfl, o1⟩
  have HE1 := Lib.hid (HE.out.still o1)
  clear o1
  have L3 := Lib.hid (hlk.out _ x1 HE1.out.keys.k)
  go_wp2_with (refine wpList_load_w (by rfl) 23 _ rfl _ rfl _ L3.out ?_)
  refine (hs1.out x1 HE1.out.is).mono ?_
  rintro e x2 ⟨rfl, i2, o2⟩
  have HE2 := Lib.hid (HE1.out.step HF.out i2 o2)
  clear i2 o2
  go_wp2_with fail
  refine (hfu.out x2 HE2.out.is).mono ?_
  rintro e x3 ⟨rfl, i3, o3⟩
  have HE3 := Lib.hid (HE2.out.step HF.out i3 o3)
  clear i3 o3
  have L4 := Lib.hid (hlk.out _ x3 HE3.out.keys.k)
  go_wp2_with (refine wpList_load_w (by rfl) 23 _ rfl _ rfl _ L4.out ?_)
  refine (hac.out x3 HE3.out.is).mono ?_
  rintro e x4 ⟨rfl, i4, o4⟩
  have HE4 := Lib.hid (HE3.out.step HF.out i4 o4)
  clear i4 o4
  go_wp2_with fail
  refine (hup.out x4 HE4.out.is).mono ?_
  rintro e x5 ⟨rfl, rfl⟩
  go_wp2_with fail
  refine (hon.out x4 HE4.out.is).mono ?_
  rintro e x5 ⟨rfl, i5, o5⟩
  have HE5 := Lib.hid (HE4.out.step HF.out i5 o5)
  clear i5 o5
  go_wp2_with fail
  refine (hrd.out x5 HE5.out.is).mono ?_
  rintro e x6 ⟨rfl, o6⟩
  obtain ⟨x7, hst, hg7, o7⟩ := hkc.out x6
  have HST := Lib.hid hst
  have HE7 := Lib.hid (HE5.out.still (o6.trans o7))
  have L7 := Lib.hid (hlz.out _ x7 hg7)
  have L8 := Lib.hid (hlk.out _ x7 HE7.out.keys.k)
  have E7 := Lib.hid (hke.out x7)
  clear hst hg7 o6 o7
  rw [kyA_zero] at L7
  go_wp2_with (first | (refine wpList_store_at rfl 23 _ _ rfl _ rfl _ rfl HST.out ?_) | (refine wpList_load_w (by rfl) 23 _ rfl _ rfl _ L7.out ?_) | (refine wpList_load_w (by rfl) 23 _ rfl _ rfl _ L8.out ?_) | (refine wpList_eql_w (by rfl) 23 _ _ _ _ _ _ rfl rfl rfl (by kernel_rfl) E7.out ?_))
  go_ret
  exact ⟨rfl, HE7.out.only.below0⟩

set_option maxHeartbeats 4000000 in
theorem part_ee (w : World) (k : List UInt8) (hk : k.length = 16) (n q : Int) (h0 : 0 ≤ q) (h255 : q ≤ 255) (hq : q.tmod 2 = 0) :
    Calls Try.prog 4 #[.agg (kyA k), .int .u64 n, .int .u8 q, .bool true] w fun e w' => e = .returned (.bool true) ∧ Below w.heap.size w w' := by
  have hpw := Lib.hid (b1_power w k)
  have hnw := Lib.hid (b1_new w k)
  have HE := Lib.hid (b1_env w k)
  have HF := Lib.hid (b1_far w)
  have hne : w.heap.size + 2 ≠ w.heap.size + 1 := by omega
  have hlk := Lib.hid (fun (g : Nat) (W : World) (h : W.heap[g]? = some (Obj.cells (kyA k) 23 (0, 0))) => load_ky (k := k) h hk)
  have hlz := Lib.hid (fun (g : Nat) (W : World) (h : W.heap[g]? = some (Obj.cells (kyA ky0) 23 (0, 0))) => load_ky (k := ky0) h rfl)
  have hs1 : Hid (∀ W, Is (w.heap.size + 2) (w.heap.size + 1) st0 W → Calls Try.prog 11 #[.pointer (some ⟨w.heap.size + 2, 0, none⟩), .int .i64 0, .agg (kyA k), .int .u64 n] W fun e w' => e = .returned (.int .i64 0) ∧ Is (w.heap.size + 2) (w.heap.size + 1) ⟨p0, ⟨true, k, n⟩, Ce.zero⟩ w' ∧ Only (Two (w.heap.size + 2) (w.heap.size + 1)) W w') :=
    fun W h => write_any _ _ st0 0 n k W h st0_ok hne hk
  have hfu : Hid (∀ W, Is (w.heap.size + 2) (w.heap.size + 1) ⟨p0, ⟨true, k, n⟩, Ce.zero⟩ W → Calls Try.prog 15 #[.pointer (some ⟨w.heap.size + 1, 0, none⟩), .int .i64 1, .int .i64 q, .int .u8 0] W fun e w' => e = .returned (.tuple #[]) ∧ Is (w.heap.size + 2) (w.heap.size + 1) ⟨⟨false, 1, q, 0⟩, ⟨true, k, n⟩, Ce.zero⟩ w' ∧ Only (Two (w.heap.size + 2) (w.heap.size + 1)) W w') := by
    intro W h
    have := fuse_is _ _ ⟨p0, ⟨true, k, n⟩, Ce.zero⟩ 1 q 0 W h hne
    rw [show max q 0 = q by omega] at this
    exact this
  have hac : Hid (∀ W, Is (w.heap.size + 2) (w.heap.size + 1) ⟨⟨false, 1, q, 0⟩, ⟨true, k, n⟩, Ce.zero⟩ W → Calls Try.prog 12 #[.pointer (some ⟨w.heap.size + 2, 0, none⟩), .int .i64 0] W fun e w' => e = .returned (.int .i64 4) ∧ Is (w.heap.size + 2) (w.heap.size + 1) ⟨⟨true, 0, q, 0⟩, ⟨true, k, n⟩, Ce.zero⟩ w' ∧ Only (Two (w.heap.size + 2) (w.heap.size + 1)) W w') := by
    intro W h
    have := erase_any _ _ ⟨⟨false, 1, q, 0⟩, ⟨true, k, n⟩, Ce.zero⟩ 0 W h ⟨pone_ok q, made_ok k hk n, ce_zero_ok⟩ hne
    rw [show St.eraseE ⟨⟨false, 1, q, 0⟩, ⟨true, k, n⟩, Ce.zero⟩ 0 = 4 from rfl, show St.erase ⟨⟨false, 1, q, 0⟩, ⟨true, k, n⟩, Ce.zero⟩ 0 = ⟨⟨true, 0, q, 0⟩, ⟨true, k, n⟩, Ce.zero⟩ from by simp [St.erase, St.wrong, St.put, Pw.set, Pw.whole, Pw.next, Ce.zero, hq]] at this
    exact this
  have hup : Hid (∀ W, Is (w.heap.size + 2) (w.heap.size + 1) ⟨⟨true, 0, q, 0⟩, ⟨true, k, n⟩, Ce.zero⟩ W → Calls Try.prog 16 #[.pointer (some ⟨w.heap.size + 1, 0, none⟩)] W fun e w' => e = .returned (.bool false) ∧ W = w') :=
    fun W h => up_is _ _ ⟨⟨true, 0, q, 0⟩, ⟨true, k, n⟩, Ce.zero⟩ W h
  have hon : Hid (∀ W, Is (w.heap.size + 2) (w.heap.size + 1) ⟨⟨true, 0, q, 0⟩, ⟨true, k, n⟩, Ce.zero⟩ W → Calls Try.prog 17 #[.pointer (some ⟨w.heap.size + 1, 0, none⟩)] W fun e w' => e = .returned (.tuple #[]) ∧ Is (w.heap.size + 2) (w.heap.size + 1) ⟨⟨false, 0, q, 0⟩, ⟨true, k, n⟩, Ce.zero⟩ w' ∧ Only (Two (w.heap.size + 2) (w.heap.size + 1)) W w') :=
    fun W h => on_is _ _ ⟨⟨true, 0, q, 0⟩, ⟨true, k, n⟩, Ce.zero⟩ W h hne
  have hrd : Hid (∀ W, Is (w.heap.size + 2) (w.heap.size + 1) ⟨⟨false, 0, q, 0⟩, ⟨true, k, n⟩, Ce.zero⟩ W → Calls Try.prog 14 #[.pointer (some ⟨w.heap.size + 2, 0, none⟩), .int .i64 0] W fun x w' => x = .returned (.tuple #[.agg (kyA k), .int .u64 n, .int .i64 0]) ∧ Only (fun _ => False) W w') :=
    fun W h => read_any _ _ ⟨⟨false, 0, q, 0⟩, ⟨true, k, n⟩, Ce.zero⟩ 0 W h ⟨pback_ok q, made_ok k hk n, ce_zero_ok⟩
  have hkc := Lib.hid (fun W => key_cell W (k := k) hk)
  have hke := Lib.hid (fun W => key_eq 9998 k k hk hk W)
  rw [beq_self_eq_true] at hke
  rw [kyA_zero] at hkc 
  clear hne
  go_enter Try.func4, Try.ntmps4
  go_wp2_with fail
  refine hpw.out.mono ?_
  rintro e w1 ⟨rfl, rfl⟩
  go_wp2_with fail
  refine hnw.out.mono ?_
  rintro e w1 ⟨rfl, rfl⟩
  generalize W0 (B1 w k) = X at *
  go_wp2_with fail
  refine (shown_any X).mono ?_
  rintro e x1 ⟨rfl, o1⟩
  have HE1 := Lib.hid (HE.out.still o1)
  clear o1
  have L3 := Lib.hid (hlk.out _ x1 HE1.out.keys.k)
  go_wp2_with (refine wpList_load_w (by rfl) 23 _ rfl _ rfl _ L3.out ?_)
  refine (hs1.out x1 HE1.out.is).mono ?_
  rintro e x2 ⟨rfl, i2, o2⟩
  have HE2 := Lib.hid (HE1.out.step HF.out i2 o2)
  clear i2 o2
  go_wp2_with fail
  refine (hfu.out x2 HE2.out.is).mono ?_
  rintro e x3 ⟨rfl, i3, o3⟩
  have HE3 := Lib.hid (HE2.out.step HF.out i3 o3)
  clear i3 o3
  have L4 := Lib.hid (hlk.out _ x3 HE3.out.keys.k)
  go_wp2_with (refine wpList_load_w (by rfl) 23 _ rfl _ rfl _ L4.out ?_)
  refine (hac.out x3 HE3.out.is).mono ?_
  rintro e x4 ⟨rfl, i4, o4⟩
  have HE4 := Lib.hid (HE3.out.step HF.out i4 o4)
  clear i4 o4
  go_wp2_with fail
  refine (hup.out x4 HE4.out.is).mono ?_
  rintro e x5 ⟨rfl, rfl⟩
  go_wp2_with fail
  refine (hon.out x4 HE4.out.is).mono ?_
  rintro e x5 ⟨rfl, i5, o5⟩
  have HE5 := Lib.hid (HE4.out.step HF.out i5 o5)
  clear i5 o5
  go_wp2_with fail
  refine (hrd.out x5 HE5.out.is).mono ?_
  rintro e x6 ⟨rfl, o6⟩
  obtain ⟨x7, hst, hg7, o7⟩ := hkc.out x6
  have HST := Lib.hid hst
  have HE7 := Lib.hid (HE5.out.still (o6.trans o7))
  have L7 := Lib.hid (hlk.out _ x7 hg7)
  have L8 := Lib.hid (hlk.out _ x7 HE7.out.keys.k)
  have E7 := Lib.hid (hke.out x7)
  clear hst hg7 o6 o7
  
  go_wp2_with (first | (refine wpList_store_at rfl 23 _ _ rfl _ rfl _ rfl HST.out ?_) | (refine wpList_load_w (by rfl) 23 _ rfl _ rfl _ L7.out ?_) | (refine wpList_load_w (by rfl) 23 _ rfl _ rfl _ L8.out ?_) | (refine wpList_eql_w (by rfl) 23 _ _ _ _ _ _ rfl rfl rfl (by kernel_rfl) E7.out ?_))
  go_ret
  exact ⟨rfl, HE7.out.only.below0⟩

set_option maxHeartbeats 4000000 in
theorem part_wo (w : World) (k : List UInt8) (hk : k.length = 16) (n q : Int) (h0 : 0 ≤ q) (h255 : q ≤ 255) (hq : q.tmod 2 = 1) :
    Calls Try.prog 4 #[.agg (kyA k), .int .u64 n, .int .u8 q, .bool false] w fun e w' => e = .returned (.bool true) ∧ Below w.heap.size w w' := by
  have hpw := Lib.hid (b1_power w k)
  have hnw := Lib.hid (b1_new w k)
  have HE := Lib.hid (b1_env w k)
  have HF := Lib.hid (b1_far w)
  have hne : w.heap.size + 2 ≠ w.heap.size + 1 := by omega
  have hlk := Lib.hid (fun (g : Nat) (W : World) (h : W.heap[g]? = some (Obj.cells (kyA k) 23 (0, 0))) => load_ky (k := k) h hk)
  have hlz := Lib.hid (fun (g : Nat) (W : World) (h : W.heap[g]? = some (Obj.cells (kyA ky0) 23 (0, 0))) => load_ky (k := ky0) h rfl)
  have hs1 : Hid (∀ W, Is (w.heap.size + 2) (w.heap.size + 1) st0 W → Calls Try.prog 11 #[.pointer (some ⟨w.heap.size + 2, 0, none⟩), .int .i64 0, .agg (kyA k), .int .u64 n] W fun e w' => e = .returned (.int .i64 0) ∧ Is (w.heap.size + 2) (w.heap.size + 1) ⟨p0, ⟨true, k, n⟩, Ce.zero⟩ w' ∧ Only (Two (w.heap.size + 2) (w.heap.size + 1)) W w') :=
    fun W h => write_any _ _ st0 0 n k W h st0_ok hne hk
  have hfu : Hid (∀ W, Is (w.heap.size + 2) (w.heap.size + 1) ⟨p0, Ce.zero, Ce.zero⟩ W → Calls Try.prog 15 #[.pointer (some ⟨w.heap.size + 1, 0, none⟩), .int .i64 1, .int .i64 q, .int .u8 0] W fun e w' => e = .returned (.tuple #[]) ∧ Is (w.heap.size + 2) (w.heap.size + 1) ⟨⟨false, 1, q, 0⟩, Ce.zero, Ce.zero⟩ w' ∧ Only (Two (w.heap.size + 2) (w.heap.size + 1)) W w') := by
    intro W h
    have := fuse_is _ _ ⟨p0, Ce.zero, Ce.zero⟩ 1 q 0 W h hne
    rw [show max q 0 = q by omega] at this
    exact this
  have hac : Hid (∀ W, Is (w.heap.size + 2) (w.heap.size + 1) ⟨⟨false, 1, q, 0⟩, Ce.zero, Ce.zero⟩ W → Calls Try.prog 11 #[.pointer (some ⟨w.heap.size + 2, 0, none⟩), .int .i64 0, .agg (kyA k), .int .u64 n] W fun e w' => e = .returned (.int .i64 4) ∧ Is (w.heap.size + 2) (w.heap.size + 1) ⟨⟨true, 0, q, 0⟩, ⟨true, k, n⟩, Ce.zero⟩ w' ∧ Only (Two (w.heap.size + 2) (w.heap.size + 1)) W w') := by
    intro W h
    have := write_any _ _ ⟨⟨false, 1, q, 0⟩, Ce.zero, Ce.zero⟩ 0 n k W h ⟨pone_ok q, ce_zero_ok, ce_zero_ok⟩ hne hk
    rw [show St.writeE ⟨⟨false, 1, q, 0⟩, Ce.zero, Ce.zero⟩ 0 = 4 from rfl, show St.write ⟨⟨false, 1, q, 0⟩, Ce.zero, Ce.zero⟩ 0 k n = ⟨⟨true, 0, q, 0⟩, ⟨true, k, n⟩, Ce.zero⟩ from by simp [St.write, St.wrong, St.at, St.put, Pw.set, Pw.whole, Pw.next, Ce.zero, hq]] at this
    exact this
  have hup : Hid (∀ W, Is (w.heap.size + 2) (w.heap.size + 1) ⟨⟨true, 0, q, 0⟩, ⟨true, k, n⟩, Ce.zero⟩ W → Calls Try.prog 16 #[.pointer (some ⟨w.heap.size + 1, 0, none⟩)] W fun e w' => e = .returned (.bool false) ∧ W = w') :=
    fun W h => up_is _ _ ⟨⟨true, 0, q, 0⟩, ⟨true, k, n⟩, Ce.zero⟩ W h
  have hon : Hid (∀ W, Is (w.heap.size + 2) (w.heap.size + 1) ⟨⟨true, 0, q, 0⟩, ⟨true, k, n⟩, Ce.zero⟩ W → Calls Try.prog 17 #[.pointer (some ⟨w.heap.size + 1, 0, none⟩)] W fun e w' => e = .returned (.tuple #[]) ∧ Is (w.heap.size + 2) (w.heap.size + 1) ⟨⟨false, 0, q, 0⟩, ⟨true, k, n⟩, Ce.zero⟩ w' ∧ Only (Two (w.heap.size + 2) (w.heap.size + 1)) W w') :=
    fun W h => on_is _ _ ⟨⟨true, 0, q, 0⟩, ⟨true, k, n⟩, Ce.zero⟩ W h hne
  have hrd : Hid (∀ W, Is (w.heap.size + 2) (w.heap.size + 1) ⟨⟨false, 0, q, 0⟩, ⟨true, k, n⟩, Ce.zero⟩ W → Calls Try.prog 14 #[.pointer (some ⟨w.heap.size + 2, 0, none⟩), .int .i64 0] W fun x w' => x = .returned (.tuple #[.agg (kyA k), .int .u64 n, .int .i64 0]) ∧ Only (fun _ => False) W w') :=
    fun W h => read_any _ _ ⟨⟨false, 0, q, 0⟩, ⟨true, k, n⟩, Ce.zero⟩ 0 W h ⟨pback_ok q, made_ok k hk n, ce_zero_ok⟩
  have hkc := Lib.hid (fun W => key_cell W (k := k) hk)
  have hke := Lib.hid (fun W => key_eq 9998 k k hk hk W)
  rw [beq_self_eq_true] at hke
  rw [kyA_zero] at hkc 
  clear hne
  go_enter Try.func4, Try.ntmps4
  go_wp2_with fail
  refine hpw.out.mono ?_
  rintro e w1 ⟨rfl, rfl⟩
  go_wp2_with fail
  refine hnw.out.mono ?_
  rintro e w1 ⟨rfl, rfl⟩
  generalize W0 (B1 w k) = X at *
  go_wp2_with fail
  refine (shown_any X).mono ?_
  rintro e x1 ⟨rfl, o1⟩
  have HE1 := Lib.hid (HE.out.still o1)
  clear o1
  have HE2 := HE1
  generalize x1 = x2 at *
  go_wp2_with fail
  refine (hfu.out x2 HE2.out.is).mono ?_
  rintro e x3 ⟨rfl, i3, o3⟩
  have HE3 := Lib.hid (HE2.out.step HF.out i3 o3)
  clear i3 o3
  have L4 := Lib.hid (hlk.out _ x3 HE3.out.keys.k)
  go_wp2_with (refine wpList_load_w (by rfl) 23 _ rfl _ rfl _ L4.out ?_)
  refine (hac.out x3 HE3.out.is).mono ?_
  rintro e x4 ⟨rfl, i4, o4⟩
  have HE4 := Lib.hid (HE3.out.step HF.out i4 o4)
  clear i4 o4
  go_wp2_with fail
  refine (hup.out x4 HE4.out.is).mono ?_
  rintro e x5 ⟨rfl, rfl⟩
  go_wp2_with fail
  refine (hon.out x4 HE4.out.is).mono ?_
  rintro e x5 ⟨rfl, i5, o5⟩
  have HE5 := Lib.hid (HE4.out.step HF.out i5 o5)
  clear i5 o5
  go_wp2_with fail
  refine (hrd.out x5 HE5.out.is).mono ?_
  rintro e x6 ⟨rfl, o6⟩
  obtain ⟨x7, hst, hg7, o7⟩ := hkc.out x6
  have HST := Lib.hid hst
  have HE7 := Lib.hid (HE5.out.still (o6.trans o7))
  have L7 := Lib.hid (hlk.out _ x7 hg7)
  have L8 := Lib.hid (hlk.out _ x7 HE7.out.keys.k)
  have E7 := Lib.hid (hke.out x7)
  clear hst hg7 o6 o7
  
  go_wp2_with (first | (refine wpList_store_at rfl 23 _ _ rfl _ rfl _ rfl HST.out ?_) | (refine wpList_load_w (by rfl) 23 _ rfl _ rfl _ L7.out ?_) | (refine wpList_load_w (by rfl) 23 _ rfl _ rfl _ L8.out ?_) | (refine wpList_eql_w (by rfl) 23 _ _ _ _ _ _ rfl rfl rfl (by kernel_rfl) E7.out ?_))
  go_ret
  exact ⟨rfl, HE7.out.only.below0⟩

set_option maxHeartbeats 4000000 in
theorem part_we (w : World) (k : List UInt8) (hk : k.length = 16) (n q : Int) (h0 : 0 ≤ q) (h255 : q ≤ 255) (hq : q.tmod 2 = 0) :
    Calls Try.prog 4 #[.agg (kyA k), .int .u64 n, .int .u8 q, .bool false] w fun e w' => e = .returned (.bool true) ∧ Below w.heap.size w w' := by
  have hpw := Lib.hid (b1_power w k)
  have hnw := Lib.hid (b1_new w k)
  have HE := Lib.hid (b1_env w k)
  have HF := Lib.hid (b1_far w)
  have hne : w.heap.size + 2 ≠ w.heap.size + 1 := by omega
  have hlk := Lib.hid (fun (g : Nat) (W : World) (h : W.heap[g]? = some (Obj.cells (kyA k) 23 (0, 0))) => load_ky (k := k) h hk)
  have hlz := Lib.hid (fun (g : Nat) (W : World) (h : W.heap[g]? = some (Obj.cells (kyA ky0) 23 (0, 0))) => load_ky (k := ky0) h rfl)
  have hs1 : Hid (∀ W, Is (w.heap.size + 2) (w.heap.size + 1) st0 W → Calls Try.prog 11 #[.pointer (some ⟨w.heap.size + 2, 0, none⟩), .int .i64 0, .agg (kyA k), .int .u64 n] W fun e w' => e = .returned (.int .i64 0) ∧ Is (w.heap.size + 2) (w.heap.size + 1) ⟨p0, ⟨true, k, n⟩, Ce.zero⟩ w' ∧ Only (Two (w.heap.size + 2) (w.heap.size + 1)) W w') :=
    fun W h => write_any _ _ st0 0 n k W h st0_ok hne hk
  have hfu : Hid (∀ W, Is (w.heap.size + 2) (w.heap.size + 1) ⟨p0, Ce.zero, Ce.zero⟩ W → Calls Try.prog 15 #[.pointer (some ⟨w.heap.size + 1, 0, none⟩), .int .i64 1, .int .i64 q, .int .u8 0] W fun e w' => e = .returned (.tuple #[]) ∧ Is (w.heap.size + 2) (w.heap.size + 1) ⟨⟨false, 1, q, 0⟩, Ce.zero, Ce.zero⟩ w' ∧ Only (Two (w.heap.size + 2) (w.heap.size + 1)) W w') := by
    intro W h
    have := fuse_is _ _ ⟨p0, Ce.zero, Ce.zero⟩ 1 q 0 W h hne
    rw [show max q 0 = q by omega] at this
    exact this
  have hac : Hid (∀ W, Is (w.heap.size + 2) (w.heap.size + 1) ⟨⟨false, 1, q, 0⟩, Ce.zero, Ce.zero⟩ W → Calls Try.prog 11 #[.pointer (some ⟨w.heap.size + 2, 0, none⟩), .int .i64 0, .agg (kyA k), .int .u64 n] W fun e w' => e = .returned (.int .i64 4) ∧ Is (w.heap.size + 2) (w.heap.size + 1) ⟨⟨true, 0, q, 0⟩, Ce.zero, Ce.zero⟩ w' ∧ Only (Two (w.heap.size + 2) (w.heap.size + 1)) W w') := by
    intro W h
    have := write_any _ _ ⟨⟨false, 1, q, 0⟩, Ce.zero, Ce.zero⟩ 0 n k W h ⟨pone_ok q, ce_zero_ok, ce_zero_ok⟩ hne hk
    rw [show St.writeE ⟨⟨false, 1, q, 0⟩, Ce.zero, Ce.zero⟩ 0 = 4 from rfl, show St.write ⟨⟨false, 1, q, 0⟩, Ce.zero, Ce.zero⟩ 0 k n = ⟨⟨true, 0, q, 0⟩, Ce.zero, Ce.zero⟩ from by simp [St.write, St.wrong, St.at, St.put, Pw.set, Pw.whole, Pw.next, Ce.zero, hq]] at this
    exact this
  have hup : Hid (∀ W, Is (w.heap.size + 2) (w.heap.size + 1) ⟨⟨true, 0, q, 0⟩, Ce.zero, Ce.zero⟩ W → Calls Try.prog 16 #[.pointer (some ⟨w.heap.size + 1, 0, none⟩)] W fun e w' => e = .returned (.bool false) ∧ W = w') :=
    fun W h => up_is _ _ ⟨⟨true, 0, q, 0⟩, Ce.zero, Ce.zero⟩ W h
  have hon : Hid (∀ W, Is (w.heap.size + 2) (w.heap.size + 1) ⟨⟨true, 0, q, 0⟩, Ce.zero, Ce.zero⟩ W → Calls Try.prog 17 #[.pointer (some ⟨w.heap.size + 1, 0, none⟩)] W fun e w' => e = .returned (.tuple #[]) ∧ Is (w.heap.size + 2) (w.heap.size + 1) ⟨⟨false, 0, q, 0⟩, Ce.zero, Ce.zero⟩ w' ∧ Only (Two (w.heap.size + 2) (w.heap.size + 1)) W w') :=
    fun W h => on_is _ _ ⟨⟨true, 0, q, 0⟩, Ce.zero, Ce.zero⟩ W h hne
  have hrd : Hid (∀ W, Is (w.heap.size + 2) (w.heap.size + 1) ⟨⟨false, 0, q, 0⟩, Ce.zero, Ce.zero⟩ W → Calls Try.prog 14 #[.pointer (some ⟨w.heap.size + 2, 0, none⟩), .int .i64 0] W fun x w' => x = .returned (.tuple #[.agg (kyA ky0), .int .u64 0, .int .i64 110]) ∧ Only (fun _ => False) W w') :=
    fun W h => read_any _ _ ⟨⟨false, 0, q, 0⟩, Ce.zero, Ce.zero⟩ 0 W h ⟨pback_ok q, ce_zero_ok, ce_zero_ok⟩
  have hkc := Lib.hid (fun W => key_cell W (k := ky0) rfl)
  have hke := Lib.hid (fun W => key_eq 9998 ky0 ky0 rfl rfl W)
  rw [beq_self_eq_true] at hke
  rw [kyA_zero] at hkc hke hrd
  clear hne
  go_enter Try.func4, Try.ntmps4
  go_wp2_with fail
  refine hpw.out.mono ?_
  rintro e w1 ⟨rfl, rfl⟩
  go_wp2_with fail
  refine hnw.out.mono ?_
  rintro e w1 ⟨rfl, rfl⟩
  generalize W0 (B1 w k) = X at *
  go_wp2_with fail
  refine (shown_any X).mono ?_
  rintro e x1 ⟨rfl, o1⟩
  have HE1 := Lib.hid (HE.out.still o1)
  clear o1
  have HE2 := HE1
  generalize x1 = x2 at *
  go_wp2_with fail
  refine (hfu.out x2 HE2.out.is).mono ?_
  rintro e x3 ⟨rfl, i3, o3⟩
  have HE3 := Lib.hid (HE2.out.step HF.out i3 o3)
  clear i3 o3
  have L4 := Lib.hid (hlk.out _ x3 HE3.out.keys.k)
  go_wp2_with (refine wpList_load_w (by rfl) 23 _ rfl _ rfl _ L4.out ?_)
  refine (hac.out x3 HE3.out.is).mono ?_
  rintro e x4 ⟨rfl, i4, o4⟩
  have HE4 := Lib.hid (HE3.out.step HF.out i4 o4)
  clear i4 o4
  go_wp2_with fail
  refine (hup.out x4 HE4.out.is).mono ?_
  rintro e x5 ⟨rfl, rfl⟩
  go_wp2_with fail
  refine (hon.out x4 HE4.out.is).mono ?_
  rintro e x5 ⟨rfl, i5, o5⟩
  have HE5 := Lib.hid (HE4.out.step HF.out i5 o5)
  clear i5 o5
  go_wp2_with fail
  refine (hrd.out x5 HE5.out.is).mono ?_
  rintro e x6 ⟨rfl, o6⟩
  obtain ⟨x7, hst, hg7, o7⟩ := hkc.out x6
  have HST := Lib.hid hst
  have HE7 := Lib.hid (HE5.out.still (o6.trans o7))
  have L7 := Lib.hid (hlz.out _ x7 hg7)
  have L8 := Lib.hid (hlk.out _ x7 HE7.out.keys.k)
  have E7 := Lib.hid (hke.out x7)
  clear hst hg7 o6 o7
  rw [kyA_zero] at L7
  go_wp2_with (first | (refine wpList_store_at rfl 23 _ _ rfl _ rfl _ rfl HST.out ?_) | (refine wpList_load_w (by rfl) 23 _ rfl _ rfl _ L7.out ?_) | (refine wpList_load_w (by rfl) 23 _ rfl _ rfl _ L8.out ?_) | (refine wpList_eql_w (by rfl) 23 _ _ _ _ _ _ rfl rfl rfl (by kernel_rfl) E7.out ?_))
  go_ret
  exact ⟨rfl, HE7.out.only.below0⟩

theorem slotPart_walk (w : World) (k : List UInt8) (hk : k.length = 16) (n : Int) (hn : (Lit.int .u64 n).wf = true) (q : Int) (hq : (Lit.int .u8 q).wf = true) (er : Bool) :
    Calls Try.prog 4 #[.agg (kyA k), .int .u64 n, .int .u8 q, .bool er] w fun e w' => e = .returned (.bool true) ∧ Below w.heap.size w w' := by
  have hwb : 0 ≤ q ∧ q ≤ 255 := by
    simp [Lit.wf, IntKind.min, IntKind.max, IntKind.signed, IntKind.bits] at hq
    omega
  rcases (by rw [Int.tmod_eq_emod_of_nonneg hwb.1]; omega : q.tmod 2 = 0 ∨ q.tmod 2 = 1) with h | h <;> cases er
  · exact part_we w k hk n q hwb.1 hwb.2 h
  · exact part_ee w k hk n q hwb.1 hwb.2 h
  · exact part_wo w k hk n q hwb.1 hwb.2 h
  · exact part_eo w k hk n q hwb.1 hwb.2 h
end Go.Proofs.Ytfolmdcceefflaa
