/-
  SlotErrors: the walk.
-/
import Derived.Test.YtfolmdcceefflaaLawSlotGone
set_option linter.unusedVariables false
namespace Go.Proofs.Ytfolmdcceefflaa
open Go.RowKit

def B1 (w : World) (k : List UInt8) : World := w.alloc (.cells (kyA k) 23)
theorem b1_env (w : World) (k : List UInt8) : Env w (w.heap.size + 2) (w.heap.size + 1) w.heap.size w.heap.size k k st0 (W0 (B1 w k)) := by
  have hsz : (B1 w k).heap.size = w.heap.size + 1 := by simp [B1]
  have h1 := w0_is (B1 w k)
  rw [hsz] at h1
  have h2 : Keys2 (B1 w k) w.heap.size w.heap.size k k := ⟨heap_alloc_new w _, heap_alloc_new w _⟩
  exact ⟨h1, h2.keep (w0_only _) (fun h => h) (fun h => h), ((Only.refl _ w).alloc _).trans (w0_only _)⟩
theorem b1_far (w : World) : Far w (w.heap.size + 2) (w.heap.size + 1) w.heap.size w.heap.size := by
  refine ⟨?_, ?_, ?_⟩ <;> simp only [Two] <;> omega
theorem b1_power (w : World) (k : List UInt8) : Calls Try.prog 9 #[] (B1 w k) fun e w' => e = .returned (.pointer (some ⟨w.heap.size + 1, 0, none⟩)) ∧ (B1 w k).alloc (.cells #[.bool false, .int .i64 0, .int .i64 0, .int .u8 0] 74) = w' := by
  have := newPower_any (B1 w k)
  rw [show (B1 w k).heap.size = w.heap.size + 1 by simp [B1]] at this
  exact this
theorem b1_new (w : World) (k : List UInt8) : Calls Try.prog 8 #[.pointer (some ⟨w.heap.size + 1, 0, none⟩)] ((B1 w k).alloc (.cells #[.bool false, .int .i64 0, .int .i64 0, .int .u8 0] 74)) fun e w' => e = .returned (.pointer (some ⟨w.heap.size + 2, 0, none⟩)) ∧ W0 (B1 w k) = w' := by
  have := new_there (B1 w k)
  rw [show (B1 w k).heap.size = w.heap.size + 1 by simp [B1]] at this
  exact this

/-- The power's own turns, told of the slot's state. -/
theorem cut_is (gs gp : Nat) (s : St) (w : World) (h : Is gs gp s w) (hne : gs ≠ gp) :
    Calls Try.prog 18 #[.pointer (some ⟨gp, 0, none⟩)] w fun e w' => e = .returned (.tuple #[]) ∧ Is gs gp ⟨{ s.p with off := true }, s.c, s.d⟩ w' ∧ Only (Two gs gp) w w' := by
  refine (cut_any gp s.p w h.pw).mono ?_
  rintro e w' ⟨rfl, hp, o⟩
  exact ⟨rfl, ⟨h.sl.keep o hne, hp⟩, o.mono fun k hk => Or.inl hk⟩
theorem on_is (gs gp : Nat) (s : St) (w : World) (h : Is gs gp s w) (hne : gs ≠ gp) :
    Calls Try.prog 17 #[.pointer (some ⟨gp, 0, none⟩)] w fun e w' => e = .returned (.tuple #[]) ∧ Is gs gp ⟨{ s.p with off := false, left := 0 }, s.c, s.d⟩ w' ∧ Only (Two gs gp) w w' := by
  refine (on_any gp s.p w h.pw).mono ?_
  rintro e w' ⟨rfl, hp, o⟩
  exact ⟨rfl, ⟨h.sl.keep o hne, hp⟩, o.mono fun k hk => Or.inl hk⟩
theorem fuse_is (gs gp : Nat) (s : St) (n keep junk : Int) (w : World) (h : Is gs gp s w) (hne : gs ≠ gp) :
    Calls Try.prog 15 #[.pointer (some ⟨gp, 0, none⟩), .int .i64 n, .int .i64 keep, .int .u8 junk] w fun e w' => e = .returned (.tuple #[]) ∧ Is gs gp ⟨{ s.p with left := max n 0, keep := max keep 0, junk := junk }, s.c, s.d⟩ w' ∧ Only (Two gs gp) w w' := by
  refine (fuse_any gp s.p w n keep junk h.pw).mono ?_
  rintro e w' ⟨rfl, hp, o⟩
  exact ⟨rfl, ⟨h.sl.keep o hne, hp⟩, o.mono fun k hk => Or.inl hk⟩
theorem poff_ok : Pw.Ok ⟨true, 0, 0, 0⟩ := ⟨by decide, by decide⟩

set_option maxHeartbeats 4000000 in
theorem errors_offn (w : World) (i : Int) (hb0 : (i == 0) = false) (hb1 : (i == 1) = false) (k : List UInt8) (hk : k.length = 16) (n : Int) :
    Calls Try.prog 5 #[.int .i64 i, .bool true, .agg (kyA k), .int .u64 n] w fun e w' => e = .returned (.bool true) ∧ Below w.heap.size w w' := by
  have hpw := Lib.hid (b1_power w k)
  have hnw := Lib.hid (b1_new w k)
  have HE := Lib.hid (b1_env w k)
  have HF := Lib.hid (b1_far w)
  have hne : w.heap.size + 2 ≠ w.heap.size + 1 := by omega
  have hlk := Lib.hid (fun (g : Nat) (W : World) (h : W.heap[g]? = some (Obj.cells (kyA k) 23 (0, 0))) => load_ky (k := k) h hk)
  have hs1 : Hid (∀ W, Is (w.heap.size + 2) (w.heap.size + 1) st0 W → Calls Try.prog 11 #[.pointer (some ⟨w.heap.size + 2, 0, none⟩), .int .i64 0, .agg (kyA k), .int .u64 1] W fun e w' => e = .returned (.int .i64 0) ∧ Is (w.heap.size + 2) (w.heap.size + 1) ⟨p0, ⟨true, k, 1⟩, Ce.zero⟩ w' ∧ Only (Two (w.heap.size + 2) (w.heap.size + 1)) W w') :=
    fun W h => write_any _ _ st0 0 1 k W h st0_ok hne hk
  have hcut : Hid (∀ W, Is (w.heap.size + 2) (w.heap.size + 1) ⟨p0, ⟨true, k, 1⟩, Ce.zero⟩ W → Calls Try.prog 18 #[.pointer (some ⟨w.heap.size + 1, 0, none⟩)] W fun e w' => e = .returned (.tuple #[]) ∧ Is (w.heap.size + 2) (w.heap.size + 1) ⟨⟨true, 0, 0, 0⟩, ⟨true, k, 1⟩, Ce.zero⟩ w' ∧ Only (Two (w.heap.size + 2) (w.heap.size + 1)) W w') :=
    fun W h => cut_is _ _ ⟨p0, ⟨true, k, 1⟩, Ce.zero⟩ W h hne
  have hs2 : Hid (∀ W, Is (w.heap.size + 2) (w.heap.size + 1) ⟨⟨true, 0, 0, 0⟩, ⟨true, k, 1⟩, Ce.zero⟩ W → Calls Try.prog 11 #[.pointer (some ⟨w.heap.size + 2, 0, none⟩), .int .i64 i, .agg (kyA k), .int .u64 n] W fun e w' => e = .returned (.int .i64 4) ∧ Is (w.heap.size + 2) (w.heap.size + 1) ⟨⟨true, 0, 0, 0⟩, ⟨true, k, 1⟩, Ce.zero⟩ w' ∧ Only (Two (w.heap.size + 2) (w.heap.size + 1)) W w') := by
    intro W h
    have := write_any _ _ ⟨⟨true, 0, 0, 0⟩, ⟨true, k, 1⟩, Ce.zero⟩ i n k W h ⟨poff_ok, made_ok k hk 1, ce_zero_ok⟩ hne hk
    rw [show St.writeE ⟨⟨true, 0, 0, 0⟩, ⟨true, k, 1⟩, Ce.zero⟩ i = 4 from rfl, show St.write ⟨⟨true, 0, 0, 0⟩, ⟨true, k, 1⟩, Ce.zero⟩ i k n = ⟨⟨true, 0, 0, 0⟩, ⟨true, k, 1⟩, Ce.zero⟩ from rfl] at this
    exact this
  have hs3 : Hid (∀ W, Is (w.heap.size + 2) (w.heap.size + 1) ⟨⟨true, 0, 0, 0⟩, ⟨true, k, 1⟩, Ce.zero⟩ W → Calls Try.prog 12 #[.pointer (some ⟨w.heap.size + 2, 0, none⟩), .int .i64 i] W fun e w' => e = .returned (.int .i64 4) ∧ Is (w.heap.size + 2) (w.heap.size + 1) ⟨⟨true, 0, 0, 0⟩, ⟨true, k, 1⟩, Ce.zero⟩ w' ∧ Only (Two (w.heap.size + 2) (w.heap.size + 1)) W w') := by
    intro W h
    have := erase_any _ _ ⟨⟨true, 0, 0, 0⟩, ⟨true, k, 1⟩, Ce.zero⟩ i W h ⟨poff_ok, made_ok k hk 1, ce_zero_ok⟩ hne
    rw [show St.eraseE ⟨⟨true, 0, 0, 0⟩, ⟨true, k, 1⟩, Ce.zero⟩ i = 4 from rfl, show St.erase ⟨⟨true, 0, 0, 0⟩, ⟨true, k, 1⟩, Ce.zero⟩ i = ⟨⟨true, 0, 0, 0⟩, ⟨true, k, 1⟩, Ce.zero⟩ from rfl] at this
    exact this
  have hs4 : Hid (∀ W, Is (w.heap.size + 2) (w.heap.size + 1) ⟨⟨true, 0, 0, 0⟩, ⟨true, k, 1⟩, Ce.zero⟩ W → Calls Try.prog 14 #[.pointer (some ⟨w.heap.size + 2, 0, none⟩), .int .i64 i] W fun x w' => x = .returned (.tuple #[.agg (kyA ky0), .int .u64 0, .int .i64 4]) ∧ Only (fun _ => False) W w') := by
    intro W h
    have := read_any _ _ ⟨⟨true, 0, 0, 0⟩, ⟨true, k, 1⟩, Ce.zero⟩ i W h ⟨poff_ok, made_ok k hk 1, ce_zero_ok⟩
    rw [show St.readK ⟨⟨true, 0, 0, 0⟩, ⟨true, k, 1⟩, Ce.zero⟩ i = ky0 from rfl, show St.readN ⟨⟨true, 0, 0, 0⟩, ⟨true, k, 1⟩, Ce.zero⟩ i = 0 from rfl, show St.readE ⟨⟨true, 0, 0, 0⟩, ⟨true, k, 1⟩, Ce.zero⟩ i = 4 from rfl] at this
    exact this
  have hs5 : Hid (∀ W, Is (w.heap.size + 2) (w.heap.size + 1) ⟨⟨true, 0, 0, 0⟩, ⟨true, k, 1⟩, Ce.zero⟩ W → Calls Try.prog 13 #[.pointer (some ⟨w.heap.size + 2, 0, none⟩)] W fun x w' => ∃ v, x = .returned v ∧ w'.ownsRow W.heap.size 23 16 v ([k] : List (List UInt8)).length (flatK [k]) ∧ Only (fun _ => False) W w') :=
    fun W h => holds_any _ _ ⟨⟨true, 0, 0, 0⟩, ⟨true, k, 1⟩, Ce.zero⟩ W h ⟨poff_ok, made_ok k hk 1, ce_zero_ok⟩
  have hone := Lib.hid (fun W b v (h : World.ownsRow W b 23 16 v ([k] : List (List UInt8)).length (flatK [k])) => hold_one h hk)
  have hkc := Lib.hid (fun W => key_cell W (k := ky0) rfl)
  rw [kyA_zero] at hs4 hkc
  clear hne 
  go_enter Try.func5, Try.ntmps5
  go_wp2_with fail
  refine hpw.out.mono ?_
  rintro e w1 ⟨rfl, rfl⟩
  go_wp2_with fail
  refine hnw.out.mono ?_
  rintro e w1 ⟨rfl, rfl⟩
  generalize W0 (B1 w k) = X at *
  go_wp2_with fail
  refine (shown_any X).mono ?_
  rintro e x1 ⟨rfl, o1⟩
  have HE1 := Lib.hid (HE.out.still o1)
  clear o1
  have L3 := Lib.hid (hlk.out _ x1 HE1.out.keys.k)
  go_wp2_with (refine wpList_load_w (by rfl) 23 _ rfl _ rfl _ L3.out ?_)
  refine (hs1.out x1 HE1.out.is).mono ?_
  rintro e x2 ⟨rfl, i2, o2⟩
  have HE2 := Lib.hid (HE1.out.step HF.out i2 o2)
  clear i2 o2
  go_wp2_with fail
  refine (hcut.out x2 HE2.out.is).mono ?_
  rintro e x3 ⟨rfl, i3, o3⟩
  have HE3 := Lib.hid (HE2.out.step HF.out i3 o3)
  clear i3 o3
  have L4 := Lib.hid (hlk.out _ x3 HE3.out.keys.k)
  go_wp2_with (refine wpList_load_w (by rfl) 23 _ rfl _ rfl _ L4.out ?_)
  refine (hs2.out x3 HE3.out.is).mono ?_
  rintro e x4 ⟨rfl, i4, o4⟩
  have HE4 := Lib.hid (HE3.out.step HF.out i4 o4)
  clear i4 o4
  go_wp2_with fail
  refine (hs3.out x4 HE4.out.is).mono ?_
  rintro e x5 ⟨rfl, i5, o5⟩
  have HE5 := Lib.hid (HE4.out.step HF.out i5 o5)
  clear i5 o5
  go_wp2_with fail
  refine (hs4.out x5 HE5.out.is).mono ?_
  rintro e x6 ⟨rfl, o6⟩
  obtain ⟨x7, hst, hg7, o7⟩ := hkc.out x6
  have HST := Lib.hid hst
  have HE7 := Lib.hid (HE5.out.still (o6.trans o7))
  clear hst hg7 o6 o7
  go_wp2_with (refine wpList_store_at rfl 23 _ _ rfl _ rfl _ rfl HST.out ?_)
  refine (hs5.out x7 HE7.out.is).mono ?_
  rintro e x8 ⟨v, rfl, hown, o8⟩
  obtain ⟨g, cap, rfl, hlv⟩ := hone.out _ _ _ hown
  have HE8 := Lib.hid (HE7.out.still o8)
  clear hown o8
  go_wp2_with fail
  go_ret
  exact ⟨rfl, HE8.out.only.below0⟩

set_option maxHeartbeats 4000000 in
theorem errors_off0 (w : World) (i : Int)  (k : List UInt8) (hk : k.length = 16) (n : Int) :
    Calls Try.prog 5 #[.int .i64 0, .bool true, .agg (kyA k), .int .u64 n] w fun e w' => e = .returned (.bool true) ∧ Below w.heap.size w w' := by
  have hpw := Lib.hid (b1_power w k)
  have hnw := Lib.hid (b1_new w k)
  have HE := Lib.hid (b1_env w k)
  have HF := Lib.hid (b1_far w)
  have hne : w.heap.size + 2 ≠ w.heap.size + 1 := by omega
  have hlk := Lib.hid (fun (g : Nat) (W : World) (h : W.heap[g]? = some (Obj.cells (kyA k) 23 (0, 0))) => load_ky (k := k) h hk)
  have hs1 : Hid (∀ W, Is (w.heap.size + 2) (w.heap.size + 1) st0 W → Calls Try.prog 11 #[.pointer (some ⟨w.heap.size + 2, 0, none⟩), .int .i64 0, .agg (kyA k), .int .u64 1] W fun e w' => e = .returned (.int .i64 0) ∧ Is (w.heap.size + 2) (w.heap.size + 1) ⟨p0, ⟨true, k, 1⟩, Ce.zero⟩ w' ∧ Only (Two (w.heap.size + 2) (w.heap.size + 1)) W w') :=
    fun W h => write_any _ _ st0 0 1 k W h st0_ok hne hk
  have hcut : Hid (∀ W, Is (w.heap.size + 2) (w.heap.size + 1) ⟨p0, ⟨true, k, 1⟩, Ce.zero⟩ W → Calls Try.prog 18 #[.pointer (some ⟨w.heap.size + 1, 0, none⟩)] W fun e w' => e = .returned (.tuple #[]) ∧ Is (w.heap.size + 2) (w.heap.size + 1) ⟨⟨true, 0, 0, 0⟩, ⟨true, k, 1⟩, Ce.zero⟩ w' ∧ Only (Two (w.heap.size + 2) (w.heap.size + 1)) W w') :=
    fun W h => cut_is _ _ ⟨p0, ⟨true, k, 1⟩, Ce.zero⟩ W h hne
  have hs2 : Hid (∀ W, Is (w.heap.size + 2) (w.heap.size + 1) ⟨⟨true, 0, 0, 0⟩, ⟨true, k, 1⟩, Ce.zero⟩ W → Calls Try.prog 11 #[.pointer (some ⟨w.heap.size + 2, 0, none⟩), .int .i64 0, .agg (kyA k), .int .u64 n] W fun e w' => e = .returned (.int .i64 4) ∧ Is (w.heap.size + 2) (w.heap.size + 1) ⟨⟨true, 0, 0, 0⟩, ⟨true, k, 1⟩, Ce.zero⟩ w' ∧ Only (Two (w.heap.size + 2) (w.heap.size + 1)) W w') := by
    intro W h
    have := write_any _ _ ⟨⟨true, 0, 0, 0⟩, ⟨true, k, 1⟩, Ce.zero⟩ 0 n k W h ⟨poff_ok, made_ok k hk 1, ce_zero_ok⟩ hne hk
    rw [show St.writeE ⟨⟨true, 0, 0, 0⟩, ⟨true, k, 1⟩, Ce.zero⟩ 0 = 4 from rfl, show St.write ⟨⟨true, 0, 0, 0⟩, ⟨true, k, 1⟩, Ce.zero⟩ 0 k n = ⟨⟨true, 0, 0, 0⟩, ⟨true, k, 1⟩, Ce.zero⟩ from rfl] at this
    exact this
  have hs3 : Hid (∀ W, Is (w.heap.size + 2) (w.heap.size + 1) ⟨⟨true, 0, 0, 0⟩, ⟨true, k, 1⟩, Ce.zero⟩ W → Calls Try.prog 12 #[.pointer (some ⟨w.heap.size + 2, 0, none⟩), .int .i64 0] W fun e w' => e = .returned (.int .i64 4) ∧ Is (w.heap.size + 2) (w.heap.size + 1) ⟨⟨true, 0, 0, 0⟩, ⟨true, k, 1⟩, Ce.zero⟩ w' ∧ Only (Two (w.heap.size + 2) (w.heap.size + 1)) W w') := by
    intro W h
    have := erase_any _ _ ⟨⟨true, 0, 0, 0⟩, ⟨true, k, 1⟩, Ce.zero⟩ 0 W h ⟨poff_ok, made_ok k hk 1, ce_zero_ok⟩ hne
    rw [show St.eraseE ⟨⟨true, 0, 0, 0⟩, ⟨true, k, 1⟩, Ce.zero⟩ 0 = 4 from rfl, show St.erase ⟨⟨true, 0, 0, 0⟩, ⟨true, k, 1⟩, Ce.zero⟩ 0 = ⟨⟨true, 0, 0, 0⟩, ⟨true, k, 1⟩, Ce.zero⟩ from rfl] at this
    exact this
  have hs4 : Hid (∀ W, Is (w.heap.size + 2) (w.heap.size + 1) ⟨⟨true, 0, 0, 0⟩, ⟨true, k, 1⟩, Ce.zero⟩ W → Calls Try.prog 14 #[.pointer (some ⟨w.heap.size + 2, 0, none⟩), .int .i64 0] W fun x w' => x = .returned (.tuple #[.agg (kyA ky0), .int .u64 0, .int .i64 4]) ∧ Only (fun _ => False) W w') := by
    intro W h
    have := read_any _ _ ⟨⟨true, 0, 0, 0⟩, ⟨true, k, 1⟩, Ce.zero⟩ 0 W h ⟨poff_ok, made_ok k hk 1, ce_zero_ok⟩
    rw [show St.readK ⟨⟨true, 0, 0, 0⟩, ⟨true, k, 1⟩, Ce.zero⟩ 0 = ky0 from rfl, show St.readN ⟨⟨true, 0, 0, 0⟩, ⟨true, k, 1⟩, Ce.zero⟩ 0 = 0 from rfl, show St.readE ⟨⟨true, 0, 0, 0⟩, ⟨true, k, 1⟩, Ce.zero⟩ 0 = 4 from rfl] at this
    exact this
  have hs5 : Hid (∀ W, Is (w.heap.size + 2) (w.heap.size + 1) ⟨⟨true, 0, 0, 0⟩, ⟨true, k, 1⟩, Ce.zero⟩ W → Calls Try.prog 13 #[.pointer (some ⟨w.heap.size + 2, 0, none⟩)] W fun x w' => ∃ v, x = .returned v ∧ w'.ownsRow W.heap.size 23 16 v ([k] : List (List UInt8)).length (flatK [k]) ∧ Only (fun _ => False) W w') :=
    fun W h => holds_any _ _ ⟨⟨true, 0, 0, 0⟩, ⟨true, k, 1⟩, Ce.zero⟩ W h ⟨poff_ok, made_ok k hk 1, ce_zero_ok⟩
  have hone := Lib.hid (fun W b v (h : World.ownsRow W b 23 16 v ([k] : List (List UInt8)).length (flatK [k])) => hold_one h hk)
  have hkc := Lib.hid (fun W => key_cell W (k := ky0) rfl)
  rw [kyA_zero] at hs4 hkc
  clear hne 
  go_enter Try.func5, Try.ntmps5
  go_wp2_with fail
  refine hpw.out.mono ?_
  rintro e w1 ⟨rfl, rfl⟩
  go_wp2_with fail
  refine hnw.out.mono ?_
  rintro e w1 ⟨rfl, rfl⟩
  generalize W0 (B1 w k) = X at *
  go_wp2_with fail
  refine (shown_any X).mono ?_
  rintro e x1 ⟨rfl, o1⟩
  have HE1 := Lib.hid (HE.out.still o1)
  clear o1
  have L3 := Lib.hid (hlk.out _ x1 HE1.out.keys.k)
  go_wp2_with (refine wpList_load_w (by rfl) 23 _ rfl _ rfl _ L3.out ?_)
  refine (hs1.out x1 HE1.out.is).mono ?_
  rintro e x2 ⟨rfl, i2, o2⟩
  have HE2 := Lib.hid (HE1.out.step HF.out i2 o2)
  clear i2 o2
  go_wp2_with fail
  refine (hcut.out x2 HE2.out.is).mono ?_
  rintro e x3 ⟨rfl, i3, o3⟩
  have HE3 := Lib.hid (HE2.out.step HF.out i3 o3)
  clear i3 o3
  have L4 := Lib.hid (hlk.out _ x3 HE3.out.keys.k)
  go_wp2_with (refine wpList_load_w (by rfl) 23 _ rfl _ rfl _ L4.out ?_)
  refine (hs2.out x3 HE3.out.is).mono ?_
  rintro e x4 ⟨rfl, i4, o4⟩
  have HE4 := Lib.hid (HE3.out.step HF.out i4 o4)
  clear i4 o4
  go_wp2_with fail
  refine (hs3.out x4 HE4.out.is).mono ?_
  rintro e x5 ⟨rfl, i5, o5⟩
  have HE5 := Lib.hid (HE4.out.step HF.out i5 o5)
  clear i5 o5
  go_wp2_with fail
  refine (hs4.out x5 HE5.out.is).mono ?_
  rintro e x6 ⟨rfl, o6⟩
  obtain ⟨x7, hst, hg7, o7⟩ := hkc.out x6
  have HST := Lib.hid hst
  have HE7 := Lib.hid (HE5.out.still (o6.trans o7))
  clear hst hg7 o6 o7
  go_wp2_with (refine wpList_store_at rfl 23 _ _ rfl _ rfl _ rfl HST.out ?_)
  refine (hs5.out x7 HE7.out.is).mono ?_
  rintro e x8 ⟨v, rfl, hown, o8⟩
  obtain ⟨g, cap, rfl, hlv⟩ := hone.out _ _ _ hown
  have HE8 := Lib.hid (HE7.out.still o8)
  clear hown o8
  go_wp2_with fail
  go_ret
  exact ⟨rfl, HE8.out.only.below0⟩

set_option maxHeartbeats 4000000 in
theorem errors_off1 (w : World) (i : Int)  (k : List UInt8) (hk : k.length = 16) (n : Int) :
    Calls Try.prog 5 #[.int .i64 1, .bool true, .agg (kyA k), .int .u64 n] w fun e w' => e = .returned (.bool true) ∧ Below w.heap.size w w' := by
  have hpw := Lib.hid (b1_power w k)
  have hnw := Lib.hid (b1_new w k)
  have HE := Lib.hid (b1_env w k)
  have HF := Lib.hid (b1_far w)
  have hne : w.heap.size + 2 ≠ w.heap.size + 1 := by omega
  have hlk := Lib.hid (fun (g : Nat) (W : World) (h : W.heap[g]? = some (Obj.cells (kyA k) 23 (0, 0))) => load_ky (k := k) h hk)
  have hs1 : Hid (∀ W, Is (w.heap.size + 2) (w.heap.size + 1) st0 W → Calls Try.prog 11 #[.pointer (some ⟨w.heap.size + 2, 0, none⟩), .int .i64 0, .agg (kyA k), .int .u64 1] W fun e w' => e = .returned (.int .i64 0) ∧ Is (w.heap.size + 2) (w.heap.size + 1) ⟨p0, ⟨true, k, 1⟩, Ce.zero⟩ w' ∧ Only (Two (w.heap.size + 2) (w.heap.size + 1)) W w') :=
    fun W h => write_any _ _ st0 0 1 k W h st0_ok hne hk
  have hcut : Hid (∀ W, Is (w.heap.size + 2) (w.heap.size + 1) ⟨p0, ⟨true, k, 1⟩, Ce.zero⟩ W → Calls Try.prog 18 #[.pointer (some ⟨w.heap.size + 1, 0, none⟩)] W fun e w' => e = .returned (.tuple #[]) ∧ Is (w.heap.size + 2) (w.heap.size + 1) ⟨⟨true, 0, 0, 0⟩, ⟨true, k, 1⟩, Ce.zero⟩ w' ∧ Only (Two (w.heap.size + 2) (w.heap.size + 1)) W w') :=
    fun W h => cut_is _ _ ⟨p0, ⟨true, k, 1⟩, Ce.zero⟩ W h hne
  have hs2 : Hid (∀ W, Is (w.heap.size + 2) (w.heap.size + 1) ⟨⟨true, 0, 0, 0⟩, ⟨true, k, 1⟩, Ce.zero⟩ W → Calls Try.prog 11 #[.pointer (some ⟨w.heap.size + 2, 0, none⟩), .int .i64 1, .agg (kyA k), .int .u64 n] W fun e w' => e = .returned (.int .i64 4) ∧ Is (w.heap.size + 2) (w.heap.size + 1) ⟨⟨true, 0, 0, 0⟩, ⟨true, k, 1⟩, Ce.zero⟩ w' ∧ Only (Two (w.heap.size + 2) (w.heap.size + 1)) W w') := by
    intro W h
    have := write_any _ _ ⟨⟨true, 0, 0, 0⟩, ⟨true, k, 1⟩, Ce.zero⟩ 1 n k W h ⟨poff_ok, made_ok k hk 1, ce_zero_ok⟩ hne hk
    rw [show St.writeE ⟨⟨true, 0, 0, 0⟩, ⟨true, k, 1⟩, Ce.zero⟩ 1 = 4 from rfl, show St.write ⟨⟨true, 0, 0, 0⟩, ⟨true, k, 1⟩, Ce.zero⟩ 1 k n = ⟨⟨true, 0, 0, 0⟩, ⟨true, k, 1⟩, Ce.zero⟩ from rfl] at this
    exact this
  have hs3 : Hid (∀ W, Is (w.heap.size + 2) (w.heap.size + 1) ⟨⟨true, 0, 0, 0⟩, ⟨true, k, 1⟩, Ce.zero⟩ W → Calls Try.prog 12 #[.pointer (some ⟨w.heap.size + 2, 0, none⟩), .int .i64 1] W fun e w' => e = .returned (.int .i64 4) ∧ Is (w.heap.size + 2) (w.heap.size + 1) ⟨⟨true, 0, 0, 0⟩, ⟨true, k, 1⟩, Ce.zero⟩ w' ∧ Only (Two (w.heap.size + 2) (w.heap.size + 1)) W w') := by
    intro W h
    have := erase_any _ _ ⟨⟨true, 0, 0, 0⟩, ⟨true, k, 1⟩, Ce.zero⟩ 1 W h ⟨poff_ok, made_ok k hk 1, ce_zero_ok⟩ hne
    rw [show St.eraseE ⟨⟨true, 0, 0, 0⟩, ⟨true, k, 1⟩, Ce.zero⟩ 1 = 4 from rfl, show St.erase ⟨⟨true, 0, 0, 0⟩, ⟨true, k, 1⟩, Ce.zero⟩ 1 = ⟨⟨true, 0, 0, 0⟩, ⟨true, k, 1⟩, Ce.zero⟩ from rfl] at this
    exact this
  have hs4 : Hid (∀ W, Is (w.heap.size + 2) (w.heap.size + 1) ⟨⟨true, 0, 0, 0⟩, ⟨true, k, 1⟩, Ce.zero⟩ W → Calls Try.prog 14 #[.pointer (some ⟨w.heap.size + 2, 0, none⟩), .int .i64 1] W fun x w' => x = .returned (.tuple #[.agg (kyA ky0), .int .u64 0, .int .i64 4]) ∧ Only (fun _ => False) W w') := by
    intro W h
    have := read_any _ _ ⟨⟨true, 0, 0, 0⟩, ⟨true, k, 1⟩, Ce.zero⟩ 1 W h ⟨poff_ok, made_ok k hk 1, ce_zero_ok⟩
    rw [show St.readK ⟨⟨true, 0, 0, 0⟩, ⟨true, k, 1⟩, Ce.zero⟩ 1 = ky0 from rfl, show St.readN ⟨⟨true, 0, 0, 0⟩, ⟨true, k, 1⟩, Ce.zero⟩ 1 = 0 from rfl, show St.readE ⟨⟨true, 0, 0, 0⟩, ⟨true, k, 1⟩, Ce.zero⟩ 1 = 4 from rfl] at this
    exact this
  have hs5 : Hid (∀ W, Is (w.heap.size + 2) (w.heap.size + 1) ⟨⟨true, 0, 0, 0⟩, ⟨true, k, 1⟩, Ce.zero⟩ W → Calls Try.prog 13 #[.pointer (some ⟨w.heap.size + 2, 0, none⟩)] W fun x w' => ∃ v, x = .returned v ∧ w'.ownsRow W.heap.size 23 16 v ([k] : List (List UInt8)).length (flatK [k]) ∧ Only (fun _ => False) W w') :=
    fun W h => holds_any _ _ ⟨⟨true, 0, 0, 0⟩, ⟨true, k, 1⟩, Ce.zero⟩ W h ⟨poff_ok, made_ok k hk 1, ce_zero_ok⟩
  have hone := Lib.hid (fun W b v (h : World.ownsRow W b 23 16 v ([k] : List (List UInt8)).length (flatK [k])) => hold_one h hk)
  have hkc := Lib.hid (fun W => key_cell W (k := ky0) rfl)
  rw [kyA_zero] at hs4 hkc
  clear hne 
  go_enter Try.func5, Try.ntmps5
  go_wp2_with fail
  refine hpw.out.mono ?_
  rintro e w1 ⟨rfl, rfl⟩
  go_wp2_with fail
  refine hnw.out.mono ?_
  rintro e w1 ⟨rfl, rfl⟩
  generalize W0 (B1 w k) = X at *
  go_wp2_with fail
  refine (shown_any X).mono ?_
  rintro e x1 ⟨rfl, o1⟩
  have HE1 := Lib.hid (HE.out.still o1)
  clear o1
  have L3 := Lib.hid (hlk.out _ x1 HE1.out.keys.k)
  go_wp2_with (refine wpList_load_w (by rfl) 23 _ rfl _ rfl _ L3.out ?_)
  refine (hs1.out x1 HE1.out.is).mono ?_
  rintro e x2 ⟨rfl, i2, o2⟩
  have HE2 := Lib.hid (HE1.out.step HF.out i2 o2)
  clear i2 o2
  go_wp2_with fail
  refine (hcut.out x2 HE2.out.is).mono ?_
  rintro e x3 ⟨rfl, i3, o3⟩
  have HE3 := Lib.hid (HE2.out.step HF.out i3 o3)
  clear i3 o3
  have L4 := Lib.hid (hlk.out _ x3 HE3.out.keys.k)
  go_wp2_with (refine wpList_load_w (by rfl) 23 _ rfl _ rfl _ L4.out ?_)
  refine (hs2.out x3 HE3.out.is).mono ?_
  rintro e x4 ⟨rfl, i4, o4⟩
  have HE4 := Lib.hid (HE3.out.step HF.out i4 o4)
  clear i4 o4
  go_wp2_with fail
  refine (hs3.out x4 HE4.out.is).mono ?_
  rintro e x5 ⟨rfl, i5, o5⟩
  have HE5 := Lib.hid (HE4.out.step HF.out i5 o5)
  clear i5 o5
  go_wp2_with fail
  refine (hs4.out x5 HE5.out.is).mono ?_
  rintro e x6 ⟨rfl, o6⟩
  obtain ⟨x7, hst, hg7, o7⟩ := hkc.out x6
  have HST := Lib.hid hst
  have HE7 := Lib.hid (HE5.out.still (o6.trans o7))
  clear hst hg7 o6 o7
  go_wp2_with (refine wpList_store_at rfl 23 _ _ rfl _ rfl _ rfl HST.out ?_)
  refine (hs5.out x7 HE7.out.is).mono ?_
  rintro e x8 ⟨v, rfl, hown, o8⟩
  obtain ⟨g, cap, rfl, hlv⟩ := hone.out _ _ _ hown
  have HE8 := Lib.hid (HE7.out.still o8)
  clear hown o8
  go_wp2_with fail
  go_ret
  exact ⟨rfl, HE8.out.only.below0⟩

set_option maxHeartbeats 4000000 in
theorem errors_arg (w : World) (i : Int) (hi : i < 0 ∨ 2 ≤ i) (hb0 : (i == 0) = false) (hb1 : (i == 1) = false) (k : List UInt8) (hk : k.length = 16) (n : Int) :
    Calls Try.prog 5 #[.int .i64 i, .bool false, .agg (kyA k), .int .u64 n] w fun e w' => e = .returned (.bool true) ∧ Below w.heap.size w w' := by
  have hpw := Lib.hid (b1_power w k)
  have hnw := Lib.hid (b1_new w k)
  have HE := Lib.hid (b1_env w k)
  have HF := Lib.hid (b1_far w)
  have hne : w.heap.size + 2 ≠ w.heap.size + 1 := by omega
  have hlk := Lib.hid (fun (g : Nat) (W : World) (h : W.heap[g]? = some (Obj.cells (kyA k) 23 (0, 0))) => load_ky (k := k) h hk)
  have hs1 : Hid (∀ W, Is (w.heap.size + 2) (w.heap.size + 1) st0 W → Calls Try.prog 11 #[.pointer (some ⟨w.heap.size + 2, 0, none⟩), .int .i64 0, .agg (kyA k), .int .u64 1] W fun e w' => e = .returned (.int .i64 0) ∧ Is (w.heap.size + 2) (w.heap.size + 1) ⟨p0, ⟨true, k, 1⟩, Ce.zero⟩ w' ∧ Only (Two (w.heap.size + 2) (w.heap.size + 1)) W w') :=
    fun W h => write_any _ _ st0 0 1 k W h st0_ok hne hk
  have hcut : Hid (∀ W, Is (w.heap.size + 2) (w.heap.size + 1) ⟨p0, ⟨true, k, 1⟩, Ce.zero⟩ W → Calls Try.prog 18 #[.pointer (some ⟨w.heap.size + 1, 0, none⟩)] W fun e w' => e = .returned (.tuple #[]) ∧ Is (w.heap.size + 2) (w.heap.size + 1) ⟨⟨true, 0, 0, 0⟩, ⟨true, k, 1⟩, Ce.zero⟩ w' ∧ Only (Two (w.heap.size + 2) (w.heap.size + 1)) W w') :=
    fun W h => cut_is _ _ ⟨p0, ⟨true, k, 1⟩, Ce.zero⟩ W h hne
  have hs2 : Hid (∀ W, Is (w.heap.size + 2) (w.heap.size + 1) ⟨p0, ⟨true, k, 1⟩, Ce.zero⟩ W → Calls Try.prog 11 #[.pointer (some ⟨w.heap.size + 2, 0, none⟩), .int .i64 i, .agg (kyA k), .int .u64 n] W fun e w' => e = .returned (.int .i64 1) ∧ Is (w.heap.size + 2) (w.heap.size + 1) ⟨p0, ⟨true, k, 1⟩, Ce.zero⟩ w' ∧ Only (Two (w.heap.size + 2) (w.heap.size + 1)) W w') := by
    intro W h
    have := write_any _ _ ⟨p0, ⟨true, k, 1⟩, Ce.zero⟩ i n k W h ⟨p0_ok, made_ok k hk 1, ce_zero_ok⟩ hne hk
    rw [show St.writeE ⟨p0, ⟨true, k, 1⟩, Ce.zero⟩ i = 1 from (by have hw : St.wrong ⟨p0, ⟨true, k, 1⟩, Ce.zero⟩ i = 1 := (if_neg (by simp [p0])).trans (if_pos hi); simp [St.writeE, hw]), show St.write ⟨p0, ⟨true, k, 1⟩, Ce.zero⟩ i k n = ⟨p0, ⟨true, k, 1⟩, Ce.zero⟩ from (by have hw : St.wrong ⟨p0, ⟨true, k, 1⟩, Ce.zero⟩ i = 1 := (if_neg (by simp [p0])).trans (if_pos hi); simp [St.write, hw])] at this
    exact this
  have hs3 : Hid (∀ W, Is (w.heap.size + 2) (w.heap.size + 1) ⟨p0, ⟨true, k, 1⟩, Ce.zero⟩ W → Calls Try.prog 12 #[.pointer (some ⟨w.heap.size + 2, 0, none⟩), .int .i64 i] W fun e w' => e = .returned (.int .i64 1) ∧ Is (w.heap.size + 2) (w.heap.size + 1) ⟨p0, ⟨true, k, 1⟩, Ce.zero⟩ w' ∧ Only (Two (w.heap.size + 2) (w.heap.size + 1)) W w') := by
    intro W h
    have := erase_any _ _ ⟨p0, ⟨true, k, 1⟩, Ce.zero⟩ i W h ⟨p0_ok, made_ok k hk 1, ce_zero_ok⟩ hne
    rw [show St.eraseE ⟨p0, ⟨true, k, 1⟩, Ce.zero⟩ i = 1 from (by have hw : St.wrong ⟨p0, ⟨true, k, 1⟩, Ce.zero⟩ i = 1 := (if_neg (by simp [p0])).trans (if_pos hi); simp [St.eraseE, hw]), show St.erase ⟨p0, ⟨true, k, 1⟩, Ce.zero⟩ i = ⟨p0, ⟨true, k, 1⟩, Ce.zero⟩ from (by have hw : St.wrong ⟨p0, ⟨true, k, 1⟩, Ce.zero⟩ i = 1 := (if_neg (by simp [p0])).trans (if_pos hi); simp [St.erase, hw])] at this
    exact this
  have hs4 : Hid (∀ W, Is (w.heap.size + 2) (w.heap.size + 1) ⟨p0, ⟨true, k, 1⟩, Ce.zero⟩ W → Calls Try.prog 14 #[.pointer (some ⟨w.heap.size + 2, 0, none⟩), .int .i64 i] W fun x w' => x = .returned (.tuple #[.agg (kyA ky0), .int .u64 0, .int .i64 1]) ∧ Only (fun _ => False) W w') := by
    intro W h
    have := read_any _ _ ⟨p0, ⟨true, k, 1⟩, Ce.zero⟩ i W h ⟨p0_ok, made_ok k hk 1, ce_zero_ok⟩
    rw [show St.readK ⟨p0, ⟨true, k, 1⟩, Ce.zero⟩ i = ky0 from (by have hw : St.wrong ⟨p0, ⟨true, k, 1⟩, Ce.zero⟩ i = 1 := (if_neg (by simp [p0])).trans (if_pos hi); simp [St.readK, hw]), show St.readN ⟨p0, ⟨true, k, 1⟩, Ce.zero⟩ i = 0 from (by have hw : St.wrong ⟨p0, ⟨true, k, 1⟩, Ce.zero⟩ i = 1 := (if_neg (by simp [p0])).trans (if_pos hi); simp [St.readN, hw]), show St.readE ⟨p0, ⟨true, k, 1⟩, Ce.zero⟩ i = 1 from (by have hw : St.wrong ⟨p0, ⟨true, k, 1⟩, Ce.zero⟩ i = 1 := (if_neg (by simp [p0])).trans (if_pos hi); simp [St.readE, hw])] at this
    exact this
  have hs5 : Hid (∀ W, Is (w.heap.size + 2) (w.heap.size + 1) ⟨p0, ⟨true, k, 1⟩, Ce.zero⟩ W → Calls Try.prog 13 #[.pointer (some ⟨w.heap.size + 2, 0, none⟩)] W fun x w' => ∃ v, x = .returned v ∧ w'.ownsRow W.heap.size 23 16 v ([k] : List (List UInt8)).length (flatK [k]) ∧ Only (fun _ => False) W w') :=
    fun W h => holds_any _ _ ⟨p0, ⟨true, k, 1⟩, Ce.zero⟩ W h ⟨p0_ok, made_ok k hk 1, ce_zero_ok⟩
  have hone := Lib.hid (fun W b v (h : World.ownsRow W b 23 16 v ([k] : List (List UInt8)).length (flatK [k])) => hold_one h hk)
  have hkc := Lib.hid (fun W => key_cell W (k := ky0) rfl)
  rw [kyA_zero] at hs4 hkc
  clear hne hi
  go_enter Try.func5, Try.ntmps5
  go_wp2_with fail
  refine hpw.out.mono ?_
  rintro e w1 ⟨rfl, rfl⟩
  go_wp2_with fail
  refine hnw.out.mono ?_
  rintro e w1 ⟨rfl, rfl⟩
  generalize W0 (B1 w k) = X at *
  go_wp2_with fail
  refine (shown_any X).mono ?_
  rintro e x1 ⟨rfl, o1⟩
  have HE1 := Lib.hid (HE.out.still o1)
  clear o1
  have L3 := Lib.hid (hlk.out _ x1 HE1.out.keys.k)
  go_wp2_with (refine wpList_load_w (by rfl) 23 _ rfl _ rfl _ L3.out ?_)
  refine (hs1.out x1 HE1.out.is).mono ?_
  rintro e x2 ⟨rfl, i2, o2⟩
  have HE2 := Lib.hid (HE1.out.step HF.out i2 o2)
  clear i2 o2
  have HE3 := HE2
  generalize x2 = x3 at *
  have L4 := Lib.hid (hlk.out _ x3 HE3.out.keys.k)
  go_wp2_with (refine wpList_load_w (by rfl) 23 _ rfl _ rfl _ L4.out ?_)
  refine (hs2.out x3 HE3.out.is).mono ?_
  rintro e x4 ⟨rfl, i4, o4⟩
  have HE4 := Lib.hid (HE3.out.step HF.out i4 o4)
  clear i4 o4
  go_wp2_with fail
  refine (hs3.out x4 HE4.out.is).mono ?_
  rintro e x5 ⟨rfl, i5, o5⟩
  have HE5 := Lib.hid (HE4.out.step HF.out i5 o5)
  clear i5 o5
  go_wp2_with fail
  refine (hs4.out x5 HE5.out.is).mono ?_
  rintro e x6 ⟨rfl, o6⟩
  obtain ⟨x7, hst, hg7, o7⟩ := hkc.out x6
  have HST := Lib.hid hst
  have HE7 := Lib.hid (HE5.out.still (o6.trans o7))
  clear hst hg7 o6 o7
  go_wp2_with (refine wpList_store_at rfl 23 _ _ rfl _ rfl _ rfl HST.out ?_)
  refine (hs5.out x7 HE7.out.is).mono ?_
  rintro e x8 ⟨v, rfl, hown, o8⟩
  obtain ⟨g, cap, rfl, hlv⟩ := hone.out _ _ _ hown
  have HE8 := Lib.hid (HE7.out.still o8)
  clear hown o8
  go_wp2_with fail
  go_ret
  exact ⟨rfl, HE8.out.only.below0⟩

set_option maxHeartbeats 4000000 in
theorem errors_used (w : World) (i : Int)  (k : List UInt8) (hk : k.length = 16) (n : Int) :
    Calls Try.prog 5 #[.int .i64 0, .bool false, .agg (kyA k), .int .u64 n] w fun e w' => e = .returned (.bool true) ∧ Below w.heap.size w w' := by
  have hpw := Lib.hid (b1_power w k)
  have hnw := Lib.hid (b1_new w k)
  have HE := Lib.hid (b1_env w k)
  have HF := Lib.hid (b1_far w)
  have hne : w.heap.size + 2 ≠ w.heap.size + 1 := by omega
  have hlk := Lib.hid (fun (g : Nat) (W : World) (h : W.heap[g]? = some (Obj.cells (kyA k) 23 (0, 0))) => load_ky (k := k) h hk)
  have hs1 : Hid (∀ W, Is (w.heap.size + 2) (w.heap.size + 1) st0 W → Calls Try.prog 11 #[.pointer (some ⟨w.heap.size + 2, 0, none⟩), .int .i64 0, .agg (kyA k), .int .u64 1] W fun e w' => e = .returned (.int .i64 0) ∧ Is (w.heap.size + 2) (w.heap.size + 1) ⟨p0, ⟨true, k, 1⟩, Ce.zero⟩ w' ∧ Only (Two (w.heap.size + 2) (w.heap.size + 1)) W w') :=
    fun W h => write_any _ _ st0 0 1 k W h st0_ok hne hk
  have hcut : Hid (∀ W, Is (w.heap.size + 2) (w.heap.size + 1) ⟨p0, ⟨true, k, 1⟩, Ce.zero⟩ W → Calls Try.prog 18 #[.pointer (some ⟨w.heap.size + 1, 0, none⟩)] W fun e w' => e = .returned (.tuple #[]) ∧ Is (w.heap.size + 2) (w.heap.size + 1) ⟨⟨true, 0, 0, 0⟩, ⟨true, k, 1⟩, Ce.zero⟩ w' ∧ Only (Two (w.heap.size + 2) (w.heap.size + 1)) W w') :=
    fun W h => cut_is _ _ ⟨p0, ⟨true, k, 1⟩, Ce.zero⟩ W h hne
  have hs2 : Hid (∀ W, Is (w.heap.size + 2) (w.heap.size + 1) ⟨p0, ⟨true, k, 1⟩, Ce.zero⟩ W → Calls Try.prog 11 #[.pointer (some ⟨w.heap.size + 2, 0, none⟩), .int .i64 0, .agg (kyA k), .int .u64 n] W fun e w' => e = .returned (.int .i64 100) ∧ Is (w.heap.size + 2) (w.heap.size + 1) ⟨p0, ⟨true, k, 1⟩, Ce.zero⟩ w' ∧ Only (Two (w.heap.size + 2) (w.heap.size + 1)) W w') := by
    intro W h
    have := write_any _ _ ⟨p0, ⟨true, k, 1⟩, Ce.zero⟩ 0 n k W h ⟨p0_ok, made_ok k hk 1, ce_zero_ok⟩ hne hk
    rw [show St.writeE ⟨p0, ⟨true, k, 1⟩, Ce.zero⟩ 0 = 100 from rfl, show St.write ⟨p0, ⟨true, k, 1⟩, Ce.zero⟩ 0 k n = ⟨p0, ⟨true, k, 1⟩, Ce.zero⟩ from rfl] at this
    exact this
  have hs3 : Hid (∀ W, Is (w.heap.size + 2) (w.heap.size + 1) ⟨p0, ⟨true, k, 1⟩, Ce.zero⟩ W → Calls Try.prog 12 #[.pointer (some ⟨w.heap.size + 2, 0, none⟩), .int .i64 0] W fun e w' => e = .returned (.int .i64 0) ∧ Is (w.heap.size + 2) (w.heap.size + 1) ⟨p0, Ce.zero, Ce.zero⟩ w' ∧ Only (Two (w.heap.size + 2) (w.heap.size + 1)) W w') := by
    intro W h
    have := erase_any _ _ ⟨p0, ⟨true, k, 1⟩, Ce.zero⟩ 0 W h ⟨p0_ok, made_ok k hk 1, ce_zero_ok⟩ hne
    rw [show St.eraseE ⟨p0, ⟨true, k, 1⟩, Ce.zero⟩ 0 = 0 from rfl, show St.erase ⟨p0, ⟨true, k, 1⟩, Ce.zero⟩ 0 = ⟨p0, Ce.zero, Ce.zero⟩ from rfl] at this
    exact this
  have hs4 : Hid (∀ W, Is (w.heap.size + 2) (w.heap.size + 1) ⟨p0, Ce.zero, Ce.zero⟩ W → Calls Try.prog 14 #[.pointer (some ⟨w.heap.size + 2, 0, none⟩), .int .i64 0] W fun x w' => x = .returned (.tuple #[.agg (kyA ky0), .int .u64 0, .int .i64 110]) ∧ Only (fun _ => False) W w') := by
    intro W h
    have := read_any _ _ ⟨p0, Ce.zero, Ce.zero⟩ 0 W h ⟨p0_ok, ce_zero_ok, ce_zero_ok⟩
    rw [show St.readK ⟨p0, Ce.zero, Ce.zero⟩ 0 = ky0 from rfl, show St.readN ⟨p0, Ce.zero, Ce.zero⟩ 0 = 0 from rfl, show St.readE ⟨p0, Ce.zero, Ce.zero⟩ 0 = 110 from rfl] at this
    exact this
  have hs5 : Hid (∀ W, Is (w.heap.size + 2) (w.heap.size + 1) ⟨p0, Ce.zero, Ce.zero⟩ W → Calls Try.prog 13 #[.pointer (some ⟨w.heap.size + 2, 0, none⟩)] W fun x w' => ∃ v, x = .returned v ∧ w'.ownsRow W.heap.size 23 16 v ([] : List (List UInt8)).length (flatK []) ∧ Only (fun _ => False) W w') :=
    fun W h => holds_any _ _ ⟨p0, Ce.zero, Ce.zero⟩ W h ⟨p0_ok, ce_zero_ok, ce_zero_ok⟩
  have hone := Lib.hid (fun W b v (h : World.ownsRow W b 23 16 v ([] : List (List UInt8)).length (flatK [])) => hold_none h)
  have hkc := Lib.hid (fun W => key_cell W (k := ky0) rfl)
  rw [kyA_zero] at hs4 hkc
  clear hne 
  go_enter Try.func5, Try.ntmps5
  go_wp2_with fail
  refine hpw.out.mono ?_
  rintro e w1 ⟨rfl, rfl⟩
  go_wp2_with fail
  refine hnw.out.mono ?_
  rintro e w1 ⟨rfl, rfl⟩
  generalize W0 (B1 w k) = X at *
  go_wp2_with fail
  refine (shown_any X).mono ?_
  rintro e x1 ⟨rfl, o1⟩
  have HE1 := Lib.hid (HE.out.still o1)
  clear o1
  have L3 := Lib.hid (hlk.out _ x1 HE1.out.keys.k)
  go_wp2_with (refine wpList_load_w (by rfl) 23 _ rfl _ rfl _ L3.out ?_)
  refine (hs1.out x1 HE1.out.is).mono ?_
  rintro e x2 ⟨rfl, i2, o2⟩
  have HE2 := Lib.hid (HE1.out.step HF.out i2 o2)
  clear i2 o2
  have HE3 := HE2
  generalize x2 = x3 at *
  have L4 := Lib.hid (hlk.out _ x3 HE3.out.keys.k)
  go_wp2_with (refine wpList_load_w (by rfl) 23 _ rfl _ rfl _ L4.out ?_)
  refine (hs2.out x3 HE3.out.is).mono ?_
  rintro e x4 ⟨rfl, i4, o4⟩
  have HE4 := Lib.hid (HE3.out.step HF.out i4 o4)
  clear i4 o4
  go_wp2_with fail
  refine (hs3.out x4 HE4.out.is).mono ?_
  rintro e x5 ⟨rfl, i5, o5⟩
  have HE5 := Lib.hid (HE4.out.step HF.out i5 o5)
  clear i5 o5
  go_wp2_with fail
  refine (hs4.out x5 HE5.out.is).mono ?_
  rintro e x6 ⟨rfl, o6⟩
  obtain ⟨x7, hst, hg7, o7⟩ := hkc.out x6
  have HST := Lib.hid hst
  have HE7 := Lib.hid (HE5.out.still (o6.trans o7))
  clear hst hg7 o6 o7
  go_wp2_with (refine wpList_store_at rfl 23 _ _ rfl _ rfl _ rfl HST.out ?_)
  refine (hs5.out x7 HE7.out.is).mono ?_
  rintro e x8 ⟨v, rfl, hown, o8⟩
  obtain ⟨aa, cap, rfl⟩ := hone.out _ _ _ hown
  have HE8 := Lib.hid (HE7.out.still o8)
  clear hown o8
  go_wp2_with fail
  go_ret
  exact ⟨rfl, HE8.out.only.below0⟩

set_option maxHeartbeats 4000000 in
theorem errors_free (w : World) (i : Int)  (k : List UInt8) (hk : k.length = 16) (n : Int) :
    Calls Try.prog 5 #[.int .i64 1, .bool false, .agg (kyA k), .int .u64 n] w fun e w' => e = .returned (.bool true) ∧ Below w.heap.size w w' := by
  have hpw := Lib.hid (b1_power w k)
  have hnw := Lib.hid (b1_new w k)
  have HE := Lib.hid (b1_env w k)
  have HF := Lib.hid (b1_far w)
  have hne : w.heap.size + 2 ≠ w.heap.size + 1 := by omega
  have hlk := Lib.hid (fun (g : Nat) (W : World) (h : W.heap[g]? = some (Obj.cells (kyA k) 23 (0, 0))) => load_ky (k := k) h hk)
  have hs1 : Hid (∀ W, Is (w.heap.size + 2) (w.heap.size + 1) st0 W → Calls Try.prog 11 #[.pointer (some ⟨w.heap.size + 2, 0, none⟩), .int .i64 0, .agg (kyA k), .int .u64 1] W fun e w' => e = .returned (.int .i64 0) ∧ Is (w.heap.size + 2) (w.heap.size + 1) ⟨p0, ⟨true, k, 1⟩, Ce.zero⟩ w' ∧ Only (Two (w.heap.size + 2) (w.heap.size + 1)) W w') :=
    fun W h => write_any _ _ st0 0 1 k W h st0_ok hne hk
  have hcut : Hid (∀ W, Is (w.heap.size + 2) (w.heap.size + 1) ⟨p0, ⟨true, k, 1⟩, Ce.zero⟩ W → Calls Try.prog 18 #[.pointer (some ⟨w.heap.size + 1, 0, none⟩)] W fun e w' => e = .returned (.tuple #[]) ∧ Is (w.heap.size + 2) (w.heap.size + 1) ⟨⟨true, 0, 0, 0⟩, ⟨true, k, 1⟩, Ce.zero⟩ w' ∧ Only (Two (w.heap.size + 2) (w.heap.size + 1)) W w') :=
    fun W h => cut_is _ _ ⟨p0, ⟨true, k, 1⟩, Ce.zero⟩ W h hne
  have hs2 : Hid (∀ W, Is (w.heap.size + 2) (w.heap.size + 1) ⟨p0, ⟨true, k, 1⟩, Ce.zero⟩ W → Calls Try.prog 11 #[.pointer (some ⟨w.heap.size + 2, 0, none⟩), .int .i64 1, .agg (kyA k), .int .u64 n] W fun e w' => e = .returned (.int .i64 0) ∧ Is (w.heap.size + 2) (w.heap.size + 1) ⟨p0, ⟨true, k, 1⟩, ⟨true, k, n⟩⟩ w' ∧ Only (Two (w.heap.size + 2) (w.heap.size + 1)) W w') := by
    intro W h
    have := write_any _ _ ⟨p0, ⟨true, k, 1⟩, Ce.zero⟩ 1 n k W h ⟨p0_ok, made_ok k hk 1, ce_zero_ok⟩ hne hk
    rw [show St.writeE ⟨p0, ⟨true, k, 1⟩, Ce.zero⟩ 1 = 0 from rfl, show St.write ⟨p0, ⟨true, k, 1⟩, Ce.zero⟩ 1 k n = ⟨p0, ⟨true, k, 1⟩, ⟨true, k, n⟩⟩ from rfl] at this
    exact this
  have hs3 : Hid (∀ W, Is (w.heap.size + 2) (w.heap.size + 1) ⟨p0, ⟨true, k, 1⟩, ⟨true, k, n⟩⟩ W → Calls Try.prog 12 #[.pointer (some ⟨w.heap.size + 2, 0, none⟩), .int .i64 1] W fun e w' => e = .returned (.int .i64 0) ∧ Is (w.heap.size + 2) (w.heap.size + 1) ⟨p0, ⟨true, k, 1⟩, Ce.zero⟩ w' ∧ Only (Two (w.heap.size + 2) (w.heap.size + 1)) W w') := by
    intro W h
    have := erase_any _ _ ⟨p0, ⟨true, k, 1⟩, ⟨true, k, n⟩⟩ 1 W h ⟨p0_ok, made_ok k hk 1, made_ok k hk n⟩ hne
    rw [show St.eraseE ⟨p0, ⟨true, k, 1⟩, ⟨true, k, n⟩⟩ 1 = 0 from rfl, show St.erase ⟨p0, ⟨true, k, 1⟩, ⟨true, k, n⟩⟩ 1 = ⟨p0, ⟨true, k, 1⟩, Ce.zero⟩ from rfl] at this
    exact this
  have hs4 : Hid (∀ W, Is (w.heap.size + 2) (w.heap.size + 1) ⟨p0, ⟨true, k, 1⟩, Ce.zero⟩ W → Calls Try.prog 14 #[.pointer (some ⟨w.heap.size + 2, 0, none⟩), .int .i64 1] W fun x w' => x = .returned (.tuple #[.agg (kyA ky0), .int .u64 0, .int .i64 110]) ∧ Only (fun _ => False) W w') := by
    intro W h
    have := read_any _ _ ⟨p0, ⟨true, k, 1⟩, Ce.zero⟩ 1 W h ⟨p0_ok, made_ok k hk 1, ce_zero_ok⟩
    rw [show St.readK ⟨p0, ⟨true, k, 1⟩, Ce.zero⟩ 1 = ky0 from rfl, show St.readN ⟨p0, ⟨true, k, 1⟩, Ce.zero⟩ 1 = 0 from rfl, show St.readE ⟨p0, ⟨true, k, 1⟩, Ce.zero⟩ 1 = 110 from rfl] at this
    exact this
  have hs5 : Hid (∀ W, Is (w.heap.size + 2) (w.heap.size + 1) ⟨p0, ⟨true, k, 1⟩, Ce.zero⟩ W → Calls Try.prog 13 #[.pointer (some ⟨w.heap.size + 2, 0, none⟩)] W fun x w' => ∃ v, x = .returned v ∧ w'.ownsRow W.heap.size 23 16 v ([k] : List (List UInt8)).length (flatK [k]) ∧ Only (fun _ => False) W w') :=
    fun W h => holds_any _ _ ⟨p0, ⟨true, k, 1⟩, Ce.zero⟩ W h ⟨p0_ok, made_ok k hk 1, ce_zero_ok⟩
  have hone := Lib.hid (fun W b v (h : World.ownsRow W b 23 16 v ([k] : List (List UInt8)).length (flatK [k])) => hold_one h hk)
  have hkc := Lib.hid (fun W => key_cell W (k := ky0) rfl)
  rw [kyA_zero] at hs4 hkc
  clear hne 
  go_enter Try.func5, Try.ntmps5
  go_wp2_with fail
  refine hpw.out.mono ?_
  rintro e w1 ⟨rfl, rfl⟩
  go_wp2_with fail
  refine hnw.out.mono ?_
  rintro e w1 ⟨rfl, rfl⟩
  generalize W0 (B1 w k) = X at *
  go_wp2_with fail
  refine (shown_any X).mono ?_
  rintro e x1 ⟨rfl, o1⟩
  have HE1 := Lib.hid (HE.out.still o1)
  clear o1
  have L3 := Lib.hid (hlk.out _ x1 HE1.out.keys.k)
  go_wp2_with (refine wpList_load_w (by rfl) 23 _ rfl _ rfl _ L3.out ?_)
  refine (hs1.out x1 HE1.out.is).mono ?_
  rintro e x2 ⟨rfl, i2, o2⟩
  have HE2 := Lib.hid (HE1.out.step HF.out i2 o2)
  clear i2 o2
  have HE3 := HE2
  generalize x2 = x3 at *
  have L4 := Lib.hid (hlk.out _ x3 HE3.out.keys.k)
  go_wp2_with (refine wpList_load_w (by rfl) 23 _ rfl _ rfl _ L4.out ?_)
  refine (hs2.out x3 HE3.out.is).mono ?_
  rintro e x4 ⟨rfl, i4, o4⟩
  have HE4 := Lib.hid (HE3.out.step HF.out i4 o4)
  clear i4 o4
  go_wp2_with fail
  refine (hs3.out x4 HE4.out.is).mono ?_
  rintro e x5 ⟨rfl, i5, o5⟩
  have HE5 := Lib.hid (HE4.out.step HF.out i5 o5)
  clear i5 o5
  go_wp2_with fail
  refine (hs4.out x5 HE5.out.is).mono ?_
  rintro e x6 ⟨rfl, o6⟩
  obtain ⟨x7, hst, hg7, o7⟩ := hkc.out x6
  have HST := Lib.hid hst
  have HE7 := Lib.hid (HE5.out.still (o6.trans o7))
  clear hst hg7 o6 o7
  go_wp2_with (refine wpList_store_at rfl 23 _ _ rfl _ rfl _ rfl HST.out ?_)
  refine (hs5.out x7 HE7.out.is).mono ?_
  rintro e x8 ⟨v, rfl, hown, o8⟩
  obtain ⟨g, cap, rfl, hlv⟩ := hone.out _ _ _ hown
  have HE8 := Lib.hid (HE7.out.still o8)
  clear hown o8
  go_wp2_with fail
  go_ret
  exact ⟨rfl, HE8.out.only.below0⟩

theorem slotErrors_walk (w : World) (i : Int) (hi : (Lit.int .i64 i).wf = true) (off : Bool) (k : List UInt8) (hk : k.length = 16) (n : Int) (hn : (Lit.int .u64 n).wf = true) :
    Calls Try.prog 5 #[.int .i64 i, .bool off, .agg (kyA k), .int .u64 n] w fun e w' => e = .returned (.bool true) ∧ Below w.heap.size w w' := by
  cases off
  · by_cases h : i < 0 ∨ 2 ≤ i
    · exact errors_arg w i h (by rw [beq_eq_false_iff_ne]; omega) (by rw [beq_eq_false_iff_ne]; omega) k hk n
    · rcases (by omega : i = 0 ∨ i = 1) with rfl | rfl
      · exact errors_used w 0 k hk n
      · exact errors_free w 0 k hk n
  · by_cases h0 : i = 0
    · subst h0; exact errors_off0 w 0 k hk n
    · by_cases h1 : i = 1
      · subst h1; exact errors_off1 w 0 k hk n
      · exact errors_offn w i (by rw [beq_eq_false_iff_ne]; omega) (by rw [beq_eq_false_iff_ne]; omega) k hk n
end Go.Proofs.Ytfolmdcceefflaa
