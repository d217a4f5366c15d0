/-
  The slot: New and Read.
-/
import Derived.Test.YtfolmdcceefflaaWri
set_option linter.unusedVariables false
namespace Go.Proofs.Ytfolmdcceefflaa
open Go.RowKit

theorem build_sl (gp : Nat) (w : World) : (Instr.build 67 #[(0, .pointer (some ⟨gp, 0, none⟩))]).run Try.prog w = .ok (.agg (slA gp Ce.zero Ce.zero)) w := run_build w 67 _ _ (by kernel_rfl)

theorem new_any (gp : Nat) (w : World) :
    Calls Try.prog 8 #[.pointer (some ⟨gp, 0, none⟩)] w fun e w' => e = .returned (.pointer (some ⟨w.heap.size, 0, none⟩)) ∧ w.alloc (.cells (slA gp Ce.zero Ce.zero) 67) = w' := by
  have HB := Lib.hid (build_sl gp w)
  generalize slA gp Ce.zero Ce.zero = A at *
  go_enter Try.func8, Try.ntmps8
  go_wp2_with (refine wpList_build_at rfl 67 _ rfl [(0, .pointer (some ⟨gp, 0, none⟩))] rfl _ HB.out ?_)
  go_ret
  exact ⟨rfl, rfl⟩

theorem kyA_zero : kyA ky0 = #[.int .u8 0, .int .u8 0, .int .u8 0, .int .u8 0, .int .u8 0, .int .u8 0, .int .u8 0, .int .u8 0, .int .u8 0, .int .u8 0, .int .u8 0, .int .u8 0, .int .u8 0, .int .u8 0, .int .u8 0, .int .u8 0] := rfl

def St.readE (s : St) (i : Int) : Int := if s.wrong i ≠ 0 then s.wrong i else if (s.at i).is = true then 0 else 110
def St.readK (s : St) (i : Int) : List UInt8 := if s.wrong i ≠ 0 then ky0 else (s.at i).key
def St.readN (s : St) (i : Int) : Int := if s.wrong i ≠ 0 then 0 else (s.at i).epoch

/-- A store of the empty key into an empty key's cell. -/
theorem store_ky0 {g : Nat} {w : World} (h : w.heap[g]? = some (.cells (kyA ky0) 23 (0, 0))) : (storeVar 23 ⟨g, 0, none⟩ (.agg (kyA ky0))).run Try.prog w = .ok () w := by
  have := storeVar_at (P := Try.prog) w g 0 23 23 (kyA ky0) (kyA ky0) 16 h info23s rfl (by decide) (kyL_one ky0)
  rw [splice_all rfl, setRow_self _ _ _ 23 (0, 0) h] at this
  exact this
theorem load_ky {g : Nat} {k : List UInt8} {w : World} (h : w.heap[g]? = some (.cells (kyA k) 23 (0, 0))) (hk : k.length = 16) : (loadVar 23 ⟨g, 0, none⟩).run Try.prog w = .ok (.agg (kyA k)) w :=
  run_loadVar_row (P := Try.prog) _ g 23 23 _ (0, 0) _ h Try.underlying23 rfl (by rw [info23s, kyA_size hk])

set_option maxHeartbeats 1000000 in
theorem read_bad (gs gp : Nat) (s : St) (i : Int) (w : World) (h : Is gs gp s w) (hw : s.wrong i ≠ 0) :
    Calls Try.prog 14 #[.pointer (some ⟨gs, 0, none⟩), .int .i64 i] w fun x w' => x = .returned (.tuple #[.agg (kyA ky0), .int .u64 0, .int .i64 (s.wrong i)]) ∧ w.alloc (.cells (kyA ky0) 23) = w' := by
  have hc := Lib.hid (check_any gs gp s i _ (h.alloc (.cells (kyA ky0) 23)))
  have HST := Lib.hid (store_ky0 (heap_alloc_new w (.cells (kyA ky0) 23)))
  have HL := Lib.hid (load_ky (heap_alloc_new w (.cells (kyA ky0) 23)) rfl)
  have HB := Lib.hid (build_ky0 (w.alloc (.cells (kyA ky0) 23)))
  have HZ := Lib.hid kyA_zero
  generalize s.wrong i = q at *
  have hq : (q == 0) = false := by simpa using hw
  clear hw h
  generalize kyA ky0 = K at *
  obtain rfl := HZ.out
  go_enter Try.func14, Try.ntmps14
  go_wp2_with fail
  refine hc.out.mono ?_
  rintro x w1 ⟨rfl, rfl⟩
  go_wp2_with (first | (refine wpList_build_at rfl 23 _ rfl [] rfl _ HB.out ?_) | (refine wpList_store_at rfl 23 _ _ rfl _ rfl _ rfl HST.out ?_))
  refine bodyPost_ret (v := .tuple #[.agg _, .int .u64 0, .int .i64 q]) ?_ rfl ⟨rfl, rfl⟩
  have := HL.out
  simp [results, Try.results14, asAddr, this]

theorem sl_key_c {gp : Nat} {c d : Ce} (h : c.Ok) (k : d.Ok) : (slA gp c d).extract 2 (2 + 16) = kyA c.key := by
  have e1 := kyL_len h.len
  rw [slA, ext_toArray, kyA]
  congr 1
  simp only [ceL, List.cons_append, List.append_assoc, List.drop_succ_cons, List.drop_zero]
  rw [List.take_append_of_le_length (by omega), List.take_of_length_le (by omega)]
theorem sl_key_d {gp : Nat} {c d : Ce} (h : c.Ok) (k : d.Ok) : (slA gp c d).extract 20 (20 + 16) = kyA d.key := by
  have e1 := ceL_len h
  have e2 := kyL_len k.len
  rw [slA, ext_toArray, kyA]
  congr 1
  rw [List.drop_succ_cons, List.drop_append, List.drop_of_length_le (by omega), List.nil_append, e1]
  simp only [ceL, Nat.reduceSub, List.drop_succ_cons, List.drop_zero]
  rw [List.take_append_of_le_length (by omega), List.take_of_length_le (by omega)]
theorem sl_epoch_c {gp : Nat} {c d : Ce} (h : c.Ok) (k : d.Ok) : (slA gp c d)[18]? = some (.int .u64 c.epoch) := by
  have e1 := kyL_len h.len
  simp [slA, ceL, e1]
theorem sl_epoch_d {gp : Nat} {c d : Ce} (h : c.Ok) (k : d.Ok) : (slA gp c d)[36]? = some (.int .u64 d.epoch) := by
  have e1 := ceL_len h
  have e2 := kyL_len k.len
  simp [slA, e1, List.getElem?_append_right]
  simp [ceL, e2]
theorem load_raw {g : Nat} {K : Array Value} {w : World} (h : w.heap[g]? = some (.cells K 23 (0, 0))) (hk : K.size = 16) : (loadVar 23 ⟨g, 0, none⟩).run Try.prog w = .ok (.agg K) w :=
  run_loadVar_row (P := Try.prog) _ g 23 23 _ (0, 0) _ h Try.underlying23 rfl (by rw [info23s, hk])
theorem Only.new {w0 w : World} (h : Only (fun k => k = w0.heap.size) w0 w) : Only (fun _ => False) w0 w := ⟨h.os, h.tape, h.output, h.size, fun k hk _ => h.block k hk (by omega)⟩
theorem fld_key_c {gs gp : Nat} {c d : Ce} {w : World} (h : IsSl gs gp c d w) (hc : c.Ok) (hd : d.Ok) : (loadVar 23 ⟨gs, 2, none⟩).run Try.prog w = .ok (.agg (kyA c.key)) w := by
  have := loadVar_at (P := Try.prog) w gs 2 67 23 (slA gp c d) (0, 0) _ 16 h Try.underlying23 rfl info23s (by rw [slA_size hc hd]; omega)
  rw [sl_key_c hc hd] at this
  exact this

set_option maxHeartbeats 1000000 in
theorem read_blank_c (gs gp : Nat) (s : St) (w : World) (h : Is gs gp s w) (hok : s.Ok) (hw : s.wrong 0 = 0) (hu : s.c.is = false) :
    Calls Try.prog 14 #[.pointer (some ⟨gs, 0, none⟩), .int .i64 0] w fun x w' => x = .returned (.tuple #[.agg (kyA ky0), .int .u64 0, .int .i64 110]) ∧ (w.alloc (.cells (kyA ky0) 23)).alloc (.cells (ceA s.c) 64) = w' := by
  have ha := h.alloc (.cells (kyA ky0) 23)
  have hc := Lib.hid (check_any gs gp s 0 _ ha)
  have hl := Lib.hid (load_c ha.sl hok.c hok.d)
  have hb := Lib.hid (blank_any s.c hok.c (w.alloc (.cells (kyA ky0) 23)))
  have HST := Lib.hid (store_ky0 (heap_alloc2_old w (.cells (kyA ky0) 23) (.cells (ceA s.c) 64)))
  have HL := Lib.hid (load_ky (heap_alloc2_old w (.cells (kyA ky0) 23) (.cells (ceA s.c) 64)) rfl)
  have HB := Lib.hid (build_ky0 ((w.alloc (.cells (kyA ky0) 23)).alloc (.cells (ceA s.c) 64)))
  have HZ := Lib.hid kyA_zero
  rw [hu] at hb
  rw [hw] at hc
  clear hw h ha hu
  generalize kyA ky0 = K at *
  generalize ceA s.c = E at *
  obtain rfl := HZ.out
  go_enter Try.func14, Try.ntmps14
  go_wp2_with fail
  refine hc.out.mono ?_
  rintro x w1 ⟨rfl, rfl⟩
  go_wp2_with (refine wpList_load_at rfl 64 _ rfl _ rfl _ hl.out ?_)
  refine hb.out.mono ?_
  rintro x w1 ⟨rfl, rfl⟩
  go_wp2_with (first | (refine wpList_build_at rfl 23 _ rfl [] rfl _ HB.out ?_) | (refine wpList_store_at rfl 23 _ _ rfl _ rfl _ rfl HST.out ?_))
  refine bodyPost_ret (v := .tuple #[.agg _, .int .u64 0, .int .i64 110]) ?_ rfl ⟨rfl, rfl⟩
  have := HL.out
  simp [results, Try.results14, asAddr, this]

set_option maxHeartbeats 1000000 in
theorem read_good_c (gs gp : Nat) (s : St) (w : World) (h : Is gs gp s w) (hok : s.Ok) (hw : s.wrong 0 = 0) (hu : s.c.is = true) :
    Calls Try.prog 14 #[.pointer (some ⟨gs, 0, none⟩), .int .i64 0] w fun x w' => x = .returned (.tuple #[.agg (kyA s.c.key), .int .u64 s.c.epoch, .int .i64 0]) ∧ Only (fun _ => False) w w' := by
  have hlt : gs < w.heap.size := (Array.getElem?_eq_some_iff.1 h.sl).1
  have ha := h.alloc (.cells (kyA ky0) 23)
  have hc := Lib.hid (check_any gs gp s 0 _ ha)
  have hl := Lib.hid (load_c ha.sl hok.c hok.d)
  have hb := Lib.hid (blank_any s.c hok.c (w.alloc (.cells (kyA ky0) 23)))
  have hg := Lib.hid (heap_alloc2_old w (.cells (kyA ky0) 23) (.cells (ceA s.c) 64))
  have hs2 := Lib.hid (ha.alloc (.cells (ceA s.c) 64)).sl
  have HO : Hid (Only (fun k => k = w.heap.size) w ((w.alloc (.cells (kyA ky0) 23)).alloc (.cells (ceA s.c) 64))) := ((Only.refl _ w).alloc _).alloc _
  have HZ := Lib.hid kyA_zero
  have HK1 := Lib.hid (fun W (hW : IsSl gs gp s.c s.d W) => fld_key_c hW hok.c hok.d)
  have HK2 := Lib.hid (fun W (hW : IsSl gs gp s.c s.d W) => cell_of_row W gs 18 _ _ _ hW)
  have HKN := Lib.hid (sl_epoch_c (gp := gp) hok.c hok.d)
  have HSZ := Lib.hid (show (kyA s.c.key).size = 16 from kyA_size hok.c.len)
  have HON := Lib.hid (show ∀ v ∈ (kyA s.c.key).toList, v.oneCell' = true from kyL_one _)
  have HZS : Hid ((kyA ky0).size = 16) := rfl
  rw [hu] at hb
  rw [hw] at hc
  have HLT := Lib.hid hlt
  clear hw h ha hu hlt
  generalize kyA s.c.key = KK at *
  generalize s.c.epoch = NN at *
  generalize kyA ky0 = K at *
  generalize ceA s.c = E at *
  have hS0 : IsSl gs gp s.c s.d ((w.alloc (.cells K 23)).alloc (.cells E 64)).drew := hs2.out
  have HST : Hid ((storeVar 23 ⟨w.heap.size, 0, none⟩ (.agg KK)).run Try.prog ((w.alloc (.cells K 23)).alloc (.cells E 64)).drew = .ok () (((w.alloc (.cells K 23)).alloc (.cells E 64)).drew.setRow w.heap.size KK)) := by
    have := storeVar_at (P := Try.prog) ((w.alloc (.cells K 23)).alloc (.cells E 64)).drew w.heap.size 0 23 23 _ KK 16 hg.out info23s HSZ.out (by rw [HZS.out]; omega) HON.out
    rw [splice_all (HSZ.out.trans HZS.out.symm)] at this
    exact this
  generalize (w.alloc (.cells K 23)).alloc (.cells E 64) = W2 at *
  have HS0 := Lib.hid hS0
  clear hS0
  have HG2 : Hid (Array.mk [Value.int .u8 0, .int .u8 0, .int .u8 0, .int .u8 0, .int .u8 0, .int .u8 0, .int .u8 0, .int .u8 0, .int .u8 0, .int .u8 0, .int .u8 0, .int .u8 0, .int .u8 0, .int .u8 0, .int .u8 0, .int .u8 0] = K) := HZ.out.symm
  clear HZ
  obtain rfl := HG2.out
  go_enter Try.func14, Try.ntmps14
  go_wp2_with fail
  refine hc.out.mono ?_
  rintro x w1 ⟨rfl, rfl⟩
  go_wp2_with (refine wpList_load_at rfl 64 _ rfl _ rfl _ hl.out ?_)
  refine hb.out.mono ?_
  rintro x w1 ⟨rfl, rfl⟩
  go_wp2_with fail
  refine wp_region_held (S := fun W => IsSl gs gp s.c s.d W) (by kernel_rfl) ?_
  change wpAnyH _ _ _ _ _ _ _ _ (World.drew _)
  have hS0 := HS0.out
  refine held_pure (i := 0) (v := .pointer (some ⟨gs, 0, none⟩)) rfl rfl (by kernel_rfl) (by kernel_rfl) (by kernel_rfl) (fun _ _ _ h => h) (Or.inl ⟨by rfl, fun w => by go_simp⟩) hS0 ?_
  simp only [List.setIfInBounds_toArray, List.set]
  refine held_pure (i := 1) (v := .int .i64 0) rfl rfl (by kernel_rfl) (by kernel_rfl) (by kernel_rfl) (fun _ _ _ h => h) (Or.inl ⟨by rfl, fun w => by go_simp⟩) hS0 ?_
  simp only [List.setIfInBounds_toArray, List.set]
  refine held_pure (i := 2) (v := .pointer (some ⟨gs, 0, none⟩)) rfl rfl (by kernel_rfl) (by kernel_rfl) (by kernel_rfl) (fun _ _ _ h => h) (Or.inl ⟨by rfl, fun w => by go_simp⟩) hS0 ?_
  simp only [List.setIfInBounds_toArray, List.set]
  refine held_pure (i := 3) (v := .pointer (some ⟨gs, 1, none⟩)) rfl rfl (by kernel_rfl) (by kernel_rfl) (by kernel_rfl) (fun _ _ _ h => h) (Or.inl ⟨by rfl, fun w => by go_simp⟩) hS0 ?_
  simp only [List.setIfInBounds_toArray, List.set]
  refine held_pure (i := 4) (v := .pointer (some ⟨gs, 1, none⟩)) rfl rfl (by kernel_rfl) (by kernel_rfl) (by kernel_rfl) (fun _ _ _ h => h) (Or.inl ⟨by rfl, fun w => by go_simp⟩) hS0 ?_
  simp only [List.setIfInBounds_toArray, List.set]
  refine held_pure (i := 5) (v := .pointer (some ⟨gs, 2, none⟩)) rfl rfl (by kernel_rfl) (by kernel_rfl) (by kernel_rfl) (fun _ _ _ h => h) (Or.inl ⟨by rfl, fun w => by go_simp⟩) hS0 ?_
  simp only [List.setIfInBounds_toArray, List.set]
  refine held_take (i := 6) (v := .agg KK) rfl rfl (by kernel_rfl) (by kernel_rfl) (by kernel_rfl) (fun _ _ _ h => h) (yields_load rfl 23 (.tmp 30) rfl ⟨gs, 2, none⟩ rfl _ HK1.out) hS0 ?_
  simp only [List.setIfInBounds_toArray, List.set]
  refine held_pure (i := 7) (v := .pointer (some ⟨gs, 0, none⟩)) rfl rfl (by kernel_rfl) (by kernel_rfl) (by kernel_rfl) (fun _ _ _ h => h) (Or.inl ⟨by rfl, fun w => by go_simp⟩) hS0 ?_
  simp only [List.setIfInBounds_toArray, List.set]
  refine held_pure (i := 8) (v := .int .i64 0) rfl rfl (by kernel_rfl) (by kernel_rfl) (by kernel_rfl) (fun _ _ _ h => h) (Or.inl ⟨by rfl, fun w => by go_simp⟩) hS0 ?_
  simp only [List.setIfInBounds_toArray, List.set]
  refine held_pure (i := 9) (v := .pointer (some ⟨gs, 0, none⟩)) rfl rfl (by kernel_rfl) (by kernel_rfl) (by kernel_rfl) (fun _ _ _ h => h) (Or.inl ⟨by rfl, fun w => by go_simp⟩) hS0 ?_
  simp only [List.setIfInBounds_toArray, List.set]
  refine held_pure (i := 10) (v := .pointer (some ⟨gs, 1, none⟩)) rfl rfl (by kernel_rfl) (by kernel_rfl) (by kernel_rfl) (fun _ _ _ h => h) (Or.inl ⟨by rfl, fun w => by go_simp⟩) hS0 ?_
  simp only [List.setIfInBounds_toArray, List.set]
  refine held_pure (i := 11) (v := .pointer (some ⟨gs, 1, none⟩)) rfl rfl (by kernel_rfl) (by kernel_rfl) (by kernel_rfl) (fun _ _ _ h => h) (Or.inl ⟨by rfl, fun w => by go_simp⟩) hS0 ?_
  simp only [List.setIfInBounds_toArray, List.set]
  refine held_pure (i := 12) (v := .pointer (some ⟨gs, 18, none⟩)) rfl rfl (by kernel_rfl) (by kernel_rfl) (by kernel_rfl) (fun _ _ _ h => h) (Or.inl ⟨by rfl, fun w => by go_simp⟩) hS0 ?_
  simp only [List.setIfInBounds_toArray, List.set]
  refine held_take (i := 13) (v := .int .u64 NN) rfl rfl (by kernel_rfl) (by kernel_rfl) (by kernel_rfl) (fun _ _ _ h => h) (Or.inl ⟨by rfl, fun w hS => by have hc := (HK2.out w hS).trans HKN.out; go_simp⟩) hS0 ?_
  simp only [List.setIfInBounds_toArray, List.set]
  have hS1 : IsSl gs gp s.c s.d (W2.drew.setRow w.heap.size KK) := IsSl.keep (S := fun k => k = w.heap.size) hS0 (only_row (S := fun k => k = w.heap.size) (Only.refl _ _) rfl _) (by have := HLT.out; omega)
  refine held_store (j := 14) (by kernel_rfl) rfl rfl rfl 23 (.tmp 4) (.tmp 31) rfl ⟨w.heap.size, 0, none⟩ rfl (.agg KK) rfl HST.out hS1 ?_
  refine held_pure (i := 15) (v := .int .u64 NN) rfl rfl (by kernel_rfl) (by kernel_rfl) (by kernel_rfl) (fun _ _ _ h => h) (Or.inl ⟨by rfl, fun w => by go_simp⟩) hS1 ?_
  simp only [List.setIfInBounds_toArray, List.set]
  refine held_pure (i := 16) (v := .int .i64 0) rfl rfl (by kernel_rfl) (by kernel_rfl) (by kernel_rfl) (fun _ _ _ h => h) (Or.inl ⟨by rfl, fun w => by go_simp⟩) hS1 ?_
  simp only [List.setIfInBounds_toArray, List.set]
  refine wpAnyH_done (by kernel_rfl) ?_ _
  go_wp2_with fail
  have hfin := load_raw (g := w.heap.size) (w := W2.drew.setRow w.heap.size KK) (setRow_heap _ _ _ _ _ _ hg.out) HSZ.out
  refine bodyPost_ret (v := .tuple #[.agg KK, .int .u64 NN, .int .i64 0]) ?_ rfl ⟨rfl, ?_⟩
  · simp [results, Try.results14, asAddr, hfin]
  · exact (only_row (HO.out.drewN 1) rfl _).new

theorem fld_key_d {gs gp : Nat} {c d : Ce} {w : World} (h : IsSl gs gp c d w) (hc : c.Ok) (hd : d.Ok) : (loadVar 23 ⟨gs, 20, none⟩).run Try.prog w = .ok (.agg (kyA d.key)) w := by
  have := loadVar_at (P := Try.prog) w gs 20 67 23 (slA gp c d) (0, 0) _ 16 h Try.underlying23 rfl info23s (by rw [slA_size hc hd]; omega)
  rw [sl_key_d hc hd] at this
  exact this

set_option maxHeartbeats 1000000 in
theorem read_blank_d (gs gp : Nat) (s : St) (w : World) (h : Is gs gp s w) (hok : s.Ok) (hw : s.wrong 1 = 0) (hu : s.d.is = false) :
    Calls Try.prog 14 #[.pointer (some ⟨gs, 0, none⟩), .int .i64 1] w fun x w' => x = .returned (.tuple #[.agg (kyA ky0), .int .u64 0, .int .i64 110]) ∧ (w.alloc (.cells (kyA ky0) 23)).alloc (.cells (ceA s.d) 64) = w' := by
  have ha := h.alloc (.cells (kyA ky0) 23)
  have hc := Lib.hid (check_any gs gp s 1 _ ha)
  have hl := Lib.hid (load_d ha.sl hok.c hok.d)
  have hb := Lib.hid (blank_any s.d hok.d (w.alloc (.cells (kyA ky0) 23)))
  have HST := Lib.hid (store_ky0 (heap_alloc2_old w (.cells (kyA ky0) 23) (.cells (ceA s.d) 64)))
  have HL := Lib.hid (load_ky (heap_alloc2_old w (.cells (kyA ky0) 23) (.cells (ceA s.d) 64)) rfl)
  have HB := Lib.hid (build_ky0 ((w.alloc (.cells (kyA ky0) 23)).alloc (.cells (ceA s.d) 64)))
  have HZ := Lib.hid kyA_zero
  rw [hu] at hb
  rw [hw] at hc
  clear hw h ha hu
  generalize kyA ky0 = K at *
  generalize ceA s.d = E at *
  obtain rfl := HZ.out
  go_enter Try.func14, Try.ntmps14
  go_wp2_with fail
  refine hc.out.mono ?_
  rintro x w1 ⟨rfl, rfl⟩
  go_wp2_with (refine wpList_load_at rfl 64 _ rfl _ rfl _ hl.out ?_)
  refine hb.out.mono ?_
  rintro x w1 ⟨rfl, rfl⟩
  go_wp2_with (first | (refine wpList_build_at rfl 23 _ rfl [] rfl _ HB.out ?_) | (refine wpList_store_at rfl 23 _ _ rfl _ rfl _ rfl HST.out ?_))
  refine bodyPost_ret (v := .tuple #[.agg _, .int .u64 0, .int .i64 110]) ?_ rfl ⟨rfl, rfl⟩
  have := HL.out
  simp [results, Try.results14, asAddr, this]

set_option maxHeartbeats 1000000 in
theorem read_good_d (gs gp : Nat) (s : St) (w : World) (h : Is gs gp s w) (hok : s.Ok) (hw : s.wrong 1 = 0) (hu : s.d.is = true) :
    Calls Try.prog 14 #[.pointer (some ⟨gs, 0, none⟩), .int .i64 1] w fun x w' => x = .returned (.tuple #[.agg (kyA s.d.key), .int .u64 s.d.epoch, .int .i64 0]) ∧ Only (fun _ => False) w w' := by
  have hlt : gs < w.heap.size := (Array.getElem?_eq_some_iff.1 h.sl).1
  have ha := h.alloc (.cells (kyA ky0) 23)
  have hc := Lib.hid (check_any gs gp s 1 _ ha)
  have hl := Lib.hid (load_d ha.sl hok.c hok.d)
  have hb := Lib.hid (blank_any s.d hok.d (w.alloc (.cells (kyA ky0) 23)))
  have hg := Lib.hid (heap_alloc2_old w (.cells (kyA ky0) 23) (.cells (ceA s.d) 64))
  have hs2 := Lib.hid (ha.alloc (.cells (ceA s.d) 64)).sl
  have HO : Hid (Only (fun k => k = w.heap.size) w ((w.alloc (.cells (kyA ky0) 23)).alloc (.cells (ceA s.d) 64))) := ((Only.refl _ w).alloc _).alloc _
  have HZ := Lib.hid kyA_zero
  have HK1 := Lib.hid (fun W (hW : IsSl gs gp s.c s.d W) => fld_key_d hW hok.c hok.d)
  have HK2 := Lib.hid (fun W (hW : IsSl gs gp s.c s.d W) => cell_of_row W gs 36 _ _ _ hW)
  have HKN := Lib.hid (sl_epoch_d (gp := gp) hok.c hok.d)
  have HSZ := Lib.hid (show (kyA s.d.key).size = 16 from kyA_size hok.d.len)
  have HON := Lib.hid (show ∀ v ∈ (kyA s.d.key).toList, v.oneCell' = true from kyL_one _)
  have HZS : Hid ((kyA ky0).size = 16) := rfl
  rw [hu] at hb
  rw [hw] at hc
  have HLT := Lib.hid hlt
  clear hw h ha hu hlt
  generalize kyA s.d.key = KK at *
  generalize s.d.epoch = NN at *
  generalize kyA ky0 = K at *
  generalize ceA s.d = E at *
  have hS0 : IsSl gs gp s.c s.d ((w.alloc (.cells K 23)).alloc (.cells E 64)).drew := hs2.out
  have HST : Hid ((storeVar 23 ⟨w.heap.size, 0, none⟩ (.agg KK)).run Try.prog ((w.alloc (.cells K 23)).alloc (.cells E 64)).drew = .ok () (((w.alloc (.cells K 23)).alloc (.cells E 64)).drew.setRow w.heap.size KK)) := by
    have := storeVar_at (P := Try.prog) ((w.alloc (.cells K 23)).alloc (.cells E 64)).drew w.heap.size 0 23 23 _ KK 16 hg.out info23s HSZ.out (by rw [HZS.out]; omega) HON.out
    rw [splice_all (HSZ.out.trans HZS.out.symm)] at this
    exact this
  generalize (w.alloc (.cells K 23)).alloc (.cells E 64) = W2 at *
  have HS0 := Lib.hid hS0
  clear hS0
  have HG2 : Hid (Array.mk [Value.int .u8 0, .int .u8 0, .int .u8 0, .int .u8 0, .int .u8 0, .int .u8 0, .int .u8 0, .int .u8 0, .int .u8 0, .int .u8 0, .int .u8 0, .int .u8 0, .int .u8 0, .int .u8 0, .int .u8 0, .int .u8 0] = K) := HZ.out.symm
  clear HZ
  obtain rfl := HG2.out
  go_enter Try.func14, Try.ntmps14
  go_wp2_with fail
  refine hc.out.mono ?_
  rintro x w1 ⟨rfl, rfl⟩
  go_wp2_with (refine wpList_load_at rfl 64 _ rfl _ rfl _ hl.out ?_)
  refine hb.out.mono ?_
  rintro x w1 ⟨rfl, rfl⟩
  go_wp2_with fail
  refine wp_region_held (S := fun W => IsSl gs gp s.c s.d W) (by kernel_rfl) ?_
  change wpAnyH _ _ _ _ _ _ _ _ (World.drew _)
  have hS0 := HS0.out
  refine held_pure (i := 0) (v := .pointer (some ⟨gs, 0, none⟩)) rfl rfl (by kernel_rfl) (by kernel_rfl) (by kernel_rfl) (fun _ _ _ h => h) (Or.inl ⟨by rfl, fun w => by go_simp⟩) hS0 ?_
  simp only [List.setIfInBounds_toArray, List.set]
  refine held_pure (i := 1) (v := .int .i64 1) rfl rfl (by kernel_rfl) (by kernel_rfl) (by kernel_rfl) (fun _ _ _ h => h) (Or.inl ⟨by rfl, fun w => by go_simp⟩) hS0 ?_
  simp only [List.setIfInBounds_toArray, List.set]
  refine held_pure (i := 2) (v := .pointer (some ⟨gs, 0, none⟩)) rfl rfl (by kernel_rfl) (by kernel_rfl) (by kernel_rfl) (fun _ _ _ h => h) (Or.inl ⟨by rfl, fun w => by go_simp⟩) hS0 ?_
  simp only [List.setIfInBounds_toArray, List.set]
  refine held_pure (i := 3) (v := .pointer (some ⟨gs, 1, none⟩)) rfl rfl (by kernel_rfl) (by kernel_rfl) (by kernel_rfl) (fun _ _ _ h => h) (Or.inl ⟨by rfl, fun w => by go_simp⟩) hS0 ?_
  simp only [List.setIfInBounds_toArray, List.set]
  refine held_pure (i := 4) (v := .pointer (some ⟨gs, 19, none⟩)) rfl rfl (by kernel_rfl) (by kernel_rfl) (by kernel_rfl) (fun _ _ _ h => h) (Or.inl ⟨by rfl, fun w => by go_simp⟩) hS0 ?_
  simp only [List.setIfInBounds_toArray, List.set]
  refine held_pure (i := 5) (v := .pointer (some ⟨gs, 20, none⟩)) rfl rfl (by kernel_rfl) (by kernel_rfl) (by kernel_rfl) (fun _ _ _ h => h) (Or.inl ⟨by rfl, fun w => by go_simp⟩) hS0 ?_
  simp only [List.setIfInBounds_toArray, List.set]
  refine held_take (i := 6) (v := .agg KK) rfl rfl (by kernel_rfl) (by kernel_rfl) (by kernel_rfl) (fun _ _ _ h => h) (yields_load rfl 23 (.tmp 30) rfl ⟨gs, 20, none⟩ rfl _ HK1.out) hS0 ?_
  simp only [List.setIfInBounds_toArray, List.set]
  refine held_pure (i := 7) (v := .pointer (some ⟨gs, 0, none⟩)) rfl rfl (by kernel_rfl) (by kernel_rfl) (by kernel_rfl) (fun _ _ _ h => h) (Or.inl ⟨by rfl, fun w => by go_simp⟩) hS0 ?_
  simp only [List.setIfInBounds_toArray, List.set]
  refine held_pure (i := 8) (v := .int .i64 1) rfl rfl (by kernel_rfl) (by kernel_rfl) (by kernel_rfl) (fun _ _ _ h => h) (Or.inl ⟨by rfl, fun w => by go_simp⟩) hS0 ?_
  simp only [List.setIfInBounds_toArray, List.set]
  refine held_pure (i := 9) (v := .pointer (some ⟨gs, 0, none⟩)) rfl rfl (by kernel_rfl) (by kernel_rfl) (by kernel_rfl) (fun _ _ _ h => h) (Or.inl ⟨by rfl, fun w => by go_simp⟩) hS0 ?_
  simp only [List.setIfInBounds_toArray, List.set]
  refine held_pure (i := 10) (v := .pointer (some ⟨gs, 1, none⟩)) rfl rfl (by kernel_rfl) (by kernel_rfl) (by kernel_rfl) (fun _ _ _ h => h) (Or.inl ⟨by rfl, fun w => by go_simp⟩) hS0 ?_
  simp only [List.setIfInBounds_toArray, List.set]
  refine held_pure (i := 11) (v := .pointer (some ⟨gs, 19, none⟩)) rfl rfl (by kernel_rfl) (by kernel_rfl) (by kernel_rfl) (fun _ _ _ h => h) (Or.inl ⟨by rfl, fun w => by go_simp⟩) hS0 ?_
  simp only [List.setIfInBounds_toArray, List.set]
  refine held_pure (i := 12) (v := .pointer (some ⟨gs, 36, none⟩)) rfl rfl (by kernel_rfl) (by kernel_rfl) (by kernel_rfl) (fun _ _ _ h => h) (Or.inl ⟨by rfl, fun w => by go_simp⟩) hS0 ?_
  simp only [List.setIfInBounds_toArray, List.set]
  refine held_take (i := 13) (v := .int .u64 NN) rfl rfl (by kernel_rfl) (by kernel_rfl) (by kernel_rfl) (fun _ _ _ h => h) (Or.inl ⟨by rfl, fun w hS => by have hc := (HK2.out w hS).trans HKN.out; go_simp⟩) hS0 ?_
  simp only [List.setIfInBounds_toArray, List.set]
  have hS1 : IsSl gs gp s.c s.d (W2.drew.setRow w.heap.size KK) := IsSl.keep (S := fun k => k = w.heap.size) hS0 (only_row (S := fun k => k = w.heap.size) (Only.refl _ _) rfl _) (by have := HLT.out; omega)
  refine held_store (j := 14) (by kernel_rfl) rfl rfl rfl 23 (.tmp 4) (.tmp 31) rfl ⟨w.heap.size, 0, none⟩ rfl (.agg KK) rfl HST.out hS1 ?_
  refine held_pure (i := 15) (v := .int .u64 NN) rfl rfl (by kernel_rfl) (by kernel_rfl) (by kernel_rfl) (fun _ _ _ h => h) (Or.inl ⟨by rfl, fun w => by go_simp⟩) hS1 ?_
  simp only [List.setIfInBounds_toArray, List.set]
  refine held_pure (i := 16) (v := .int .i64 0) rfl rfl (by kernel_rfl) (by kernel_rfl) (by kernel_rfl) (fun _ _ _ h => h) (Or.inl ⟨by rfl, fun w => by go_simp⟩) hS1 ?_
  simp only [List.setIfInBounds_toArray, List.set]
  refine wpAnyH_done (by kernel_rfl) ?_ _
  go_wp2_with fail
  have hfin := load_raw (g := w.heap.size) (w := W2.drew.setRow w.heap.size KK) (setRow_heap _ _ _ _ _ _ hg.out) HSZ.out
  refine bodyPost_ret (v := .tuple #[.agg KK, .int .u64 NN, .int .i64 0]) ?_ rfl ⟨rfl, ?_⟩
  · simp [results, Try.results14, asAddr, hfin]
  · exact (only_row (HO.out.drewN 1) rfl _).new

theorem read_any (gs gp : Nat) (s : St) (i : Int) (w : World) (h : Is gs gp s w) (hok : s.Ok) :
    Calls Try.prog 14 #[.pointer (some ⟨gs, 0, none⟩), .int .i64 i] w fun x w' => x = .returned (.tuple #[.agg (kyA (s.readK i)), .int .u64 (s.readN i), .int .i64 (s.readE i)]) ∧ Only (fun _ => False) w w' := by
  unfold St.readE St.readK St.readN
  by_cases hw : s.wrong i = 0
  · simp only [hw, ne_eq, not_true_eq_false, if_false]
    have hat : (s.at i).Ok := by unfold St.at; split; exact hok.c; exact hok.d
    by_cases hu : (s.at i).is = true
    · simp only [hu, if_true]
      rcases wrong_zero hw with rfl | rfl
      · exact read_good_c gs gp s w h hok hw hu
      · exact read_good_d gs gp s w h hok hw hu
    · have hu' : (s.at i).is = false := by simpa using hu
      have hz := hat.no hu'
      simp only [hu]
      rw [hz]
      rcases wrong_zero hw with rfl | rfl
      · refine (read_blank_c gs gp s w h hok hw hu').mono ?_
        rintro x w' ⟨rfl, rfl⟩
        exact ⟨rfl, ((Only.refl _ _).alloc _).alloc _⟩
      · refine (read_blank_d gs gp s w h hok hw hu').mono ?_
        rintro x w' ⟨rfl, rfl⟩
        exact ⟨rfl, ((Only.refl _ _).alloc _).alloc _⟩
  · simp only [hw, ne_eq, not_false_eq_true, if_true]
    refine (read_bad gs gp s i w h hw).mono ?_
    rintro x w' ⟨rfl, rfl⟩
    exact ⟨rfl, (Only.refl _ _).alloc _⟩
end Go.Proofs.Ytfolmdcceefflaa
