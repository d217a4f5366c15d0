/-
  The slot: Write and Erase.
-/
import Derived.Test.YtfolmdcceefflaaSet
set_option linter.unusedVariables false
namespace Go.Proofs.Ytfolmdcceefflaa
open Go.RowKit

theorem list16 {α : Type} (l : List α) (h : l.length = 16) : ∃ a0 a1 a2 a3 a4 a5 a6 a7 a8 a9 a10 a11 a12 a13 a14 a15, l = [a0, a1, a2, a3, a4, a5, a6, a7, a8, a9, a10, a11, a12, a13, a14, a15] :=
  match l, h with
  | [a0, a1, a2, a3, a4, a5, a6, a7, a8, a9, a10, a11, a12, a13, a14, a15], _ => ⟨a0, a1, a2, a3, a4, a5, a6, a7, a8, a9, a10, a11, a12, a13, a14, a15, rfl⟩

theorem build_ce (k : List UInt8) (h : k.length = 16) (n : Int) (w : World) :
    (Instr.build 64 #[(0, .bool true), (1, .agg (kyA k)), (2, .int .u64 n)]).run Try.prog w = .ok (.agg (ceA ⟨true, k, n⟩)) w := by
  obtain ⟨a0, a1, a2, a3, a4, a5, a6, a7, a8, a9, a10, a11, a12, a13, a14, a15, rfl⟩ := list16 k h
  exact run_build w 64 _ _ (by kernel_rfl)
theorem build_ce0 (w : World) : (Instr.build 64 #[]).run Try.prog w = .ok (.agg (ceA Ce.zero)) w := run_build w 64 _ _ (by kernel_rfl)
theorem build_ky0 (w : World) : (Instr.build 23 #[]).run Try.prog w = .ok (.agg (kyA ky0)) w := run_build w 23 _ _ (by kernel_rfl)

theorem made_ok (k : List UInt8) (h : k.length = 16) (n : Int) : Ce.Ok ⟨true, k, n⟩ := ⟨h, fun h => by cases h⟩

/-- The state of a slot with its power. -/
structure St where
  p : Pw
  c : Ce
  d : Ce
structure St.Ok (s : St) : Prop where
  p : s.p.Ok
  c : s.c.Ok
  d : s.d.Ok
structure Is (gs gp : Nat) (s : St) (w : World) : Prop where
  sl : IsSl gs gp s.c s.d w
  pw : IsPw gp s.p w
theorem Is.keep {gs gp : Nat} {s : St} {w w' : World} {S : Nat → Prop} (h : Is gs gp s w) (o : Only S w w') (h1 : ¬ S gs) (h2 : ¬ S gp) : Is gs gp s w' := ⟨h.sl.keep o h1, h.pw.keep o h2⟩
theorem Is.alloc {gs gp : Nat} {s : St} {w : World} (h : Is gs gp s w) (o : Obj) : Is gs gp s (w.alloc o) := h.keep ((Only.refl (fun _ => False) w).alloc o) (fun h => h) (fun h => h)
theorem Is.drewN {gs gp : Nat} {s : St} {w : World} (h : Is gs gp s w) (n : Nat) : Is gs gp s (w.drewN n) := ⟨h.sl, h.pw⟩

/-- What check says. -/
def St.wrong (s : St) (i : Int) : Int := if s.p.off = true then 4 else if i < 0 ∨ 2 ≤ i then 1 else 0
def St.at (s : St) (i : Int) : Ce := if i = 0 then s.c else s.d
def St.put (s : St) (i : Int) (e : Ce) : St := if i = 0 then ⟨s.p.next, s.p.set s.c e, s.d⟩ else ⟨s.p.next, s.c, s.p.set s.d e⟩
def St.write (s : St) (i : Int) (k : List UInt8) (n : Int) : St := if s.wrong i ≠ 0 then s else if (s.at i).is = true then s else s.put i ⟨true, k, n⟩
def St.writeE (s : St) (i : Int) : Int := if s.wrong i ≠ 0 then s.wrong i else if (s.at i).is = true then 100 else s.p.err
def St.erase (s : St) (i : Int) : St := if s.wrong i ≠ 0 then s else s.put i Ce.zero
def St.eraseE (s : St) (i : Int) : Int := if s.wrong i ≠ 0 then s.wrong i else s.p.err

theorem check_any (gs gp : Nat) (s : St) (i : Int) (w : World) (h : Is gs gp s w) :
    Calls Try.prog 27 #[.pointer (some ⟨gs, 0, none⟩), .int .i64 i] w fun e w' => e = .returned (.int .i64 (s.wrong i)) ∧ w = w' := by
  by_cases ho : s.p.off = true
  · rw [St.wrong, if_pos ho]; exact check_off gs gp s.p s.c s.d i w h.sl h.pw ho
  · have ho' : s.p.off = false := by simpa using ho
    by_cases hi : i < 0 ∨ 2 ≤ i
    · rw [St.wrong, if_neg ho, if_pos hi]; exact check_arg gs gp s.p s.c s.d i w h.sl h.pw ho' hi
    · rw [St.wrong, if_neg ho, if_neg hi]; exact check_ok gs gp s.p s.c s.d i w h.sl h.pw ho' (by omega) (by omega)

theorem wrong_zero {s : St} {i : Int} (h : s.wrong i = 0) : i = 0 ∨ i = 1 := by
  unfold St.wrong at h
  split at h
  · cases h
  · split at h
    · cases h
    · omega

/-- Writes and erasures leave a slot's state well. -/
theorem Pw.next_Ok {p : Pw} (h : p.Ok) : p.next.Ok := Pw.next_ok h
theorem St.put_ok {s : St} (h : s.Ok) (i : Int) {e : Ce} (he : e.Ok) : (s.put i e).Ok := by
  unfold St.put
  split
  · exact ⟨Pw.next_ok h.p, Pw.set_ok h.c he, h.d⟩
  · exact ⟨Pw.next_ok h.p, h.c, Pw.set_ok h.d he⟩
theorem St.write_ok {s : St} (h : s.Ok) (i : Int) {k : List UInt8} (hk : k.length = 16) (n : Int) : (s.write i k n).Ok := by
  unfold St.write
  split
  · exact h
  · split
    · exact h
    · exact St.put_ok h i (made_ok k hk n)
theorem St.erase_ok {s : St} (h : s.Ok) (i : Int) : (s.erase i).Ok := by
  unfold St.erase
  split
  · exact h
  · exact St.put_ok h i ce_zero_ok

/-- set, told of the state. -/
theorem set_any (gs gp : Nat) (s : St) (i : Int) (e : Ce) (w : World) (h : Is gs gp s w) (hok : s.Ok) (he : e.Ok) (hne : gs ≠ gp) (hi : i = 0 ∨ i = 1) :
    Calls Try.prog 29 #[.pointer (some ⟨gs, 0, none⟩), .int .i64 i, .agg (ceA e)] w fun x w' => x = .returned (.int .i64 s.p.err) ∧ Is gs gp (s.put i e) w' ∧ Only (Two gs gp) w w' := by
  rcases hi with rfl | rfl
  · refine (set_c gs gp s.p s.c s.d e w h.sl h.pw hok.p hok.c hok.d he hne).mono ?_
    rintro x w' ⟨rfl, h1, h2, h3⟩
    exact ⟨rfl, ⟨h2, h1⟩, h3⟩
  · refine (set_d gs gp s.p s.c s.d e w h.sl h.pw hok.p hok.c hok.d he hne).mono ?_
    rintro x w' ⟨rfl, h1, h2, h3⟩
    exact ⟨rfl, ⟨h2, h1⟩, h3⟩

set_option maxHeartbeats 1000000 in
theorem erase_bad (gs gp : Nat) (s : St) (i : Int) (w : World) (h : Is gs gp s w) (hw : s.wrong i ≠ 0) :
    Calls Try.prog 12 #[.pointer (some ⟨gs, 0, none⟩), .int .i64 i] w fun x w' => x = .returned (.int .i64 (s.wrong i)) ∧ w = w' := by
  have hc := Lib.hid (check_any gs gp s i w h)
  generalize s.wrong i = q at *
  have hq : (q == 0) = false := by simpa using hw
  clear hw h
  go_enter Try.func12, Try.ntmps12
  go_wp2_with fail
  refine hc.out.mono ?_
  rintro x w1 ⟨rfl, rfl⟩
  go_wp2_with fail
  go_ret
  exact ⟨rfl, rfl⟩

set_option maxHeartbeats 1000000 in
theorem erase_good (gs gp : Nat) (s : St) (i : Int) (w : World) (h : Is gs gp s w) (hok : s.Ok) (hne : gs ≠ gp) (hw : s.wrong i = 0) :
    Calls Try.prog 12 #[.pointer (some ⟨gs, 0, none⟩), .int .i64 i] w fun x w' => x = .returned (.int .i64 s.p.err) ∧ Is gs gp (s.put i Ce.zero) w' ∧ Only (Two gs gp) w w' := by
  have hc := Lib.hid (check_any gs gp s i w h)
  have hi := wrong_zero hw
  have hs := Lib.hid (set_any gs gp s i Ce.zero w h hok ce_zero_ok hne hi)
  rw [hw] at hc
  clear h hi hw
  go_enter Try.func12, Try.ntmps12
  go_wp2_with fail
  refine hc.out.mono ?_
  rintro x w1 ⟨rfl, rfl⟩
  go_wp2_with (first | (refine wpList_build_at rfl 64 _ rfl [] rfl _ (build_ce0 _) ?_))
  refine hs.out.mono ?_
  rintro x w2 ⟨rfl, h1, h2⟩
  go_wp2_with fail
  go_ret
  exact ⟨rfl, h1, h2⟩

theorem erase_any (gs gp : Nat) (s : St) (i : Int) (w : World) (h : Is gs gp s w) (hok : s.Ok) (hne : gs ≠ gp) :
    Calls Try.prog 12 #[.pointer (some ⟨gs, 0, none⟩), .int .i64 i] w fun x w' => x = .returned (.int .i64 (s.eraseE i)) ∧ Is gs gp (s.erase i) w' ∧ Only (Two gs gp) w w' := by
  unfold St.eraseE St.erase
  by_cases hw : s.wrong i = 0
  · rw [if_neg (by simpa using hw), if_neg (by simpa using hw)]
    exact erase_good gs gp s i w h hok hne hw
  · rw [if_pos hw, if_pos hw]
    refine (erase_bad gs gp s i w h hw).mono ?_
    rintro x w' ⟨rfl, rfl⟩
    exact ⟨rfl, h, Only.refl _ _⟩

set_option maxHeartbeats 1000000 in
theorem write_bad (gs gp : Nat) (s : St) (i n : Int) (k : List UInt8) (w : World) (h : Is gs gp s w) (hw : s.wrong i ≠ 0) :
    Calls Try.prog 11 #[.pointer (some ⟨gs, 0, none⟩), .int .i64 i, .agg (kyA k), .int .u64 n] w fun x w' => x = .returned (.int .i64 (s.wrong i)) ∧ w.alloc (.cells (kyA k) 23) = w' := by
  have hc := Lib.hid (check_any gs gp s i _ (h.alloc (.cells (kyA k) 23)))
  generalize s.wrong i = q at *
  have hq : (q == 0) = false := by simpa using hw
  clear hw h
  generalize kyA k = K at *
  go_enter Try.func11, Try.ntmps11
  go_wp2_with fail
  refine hc.out.mono ?_
  rintro x w1 ⟨rfl, rfl⟩
  go_wp2_with fail
  go_ret
  exact ⟨rfl, rfl⟩

set_option maxHeartbeats 1000000 in
theorem write_used_c (gs gp : Nat) (s : St) (n : Int) (k : List UInt8) (w : World) (h : Is gs gp s w) (hok : s.Ok) (hw : s.wrong 0 = 0) (hu : s.c.is = true) :
    Calls Try.prog 11 #[.pointer (some ⟨gs, 0, none⟩), .int .i64 0, .agg (kyA k), .int .u64 n] w fun x w' => x = .returned (.int .i64 100) ∧ (w.alloc (.cells (kyA k) 23)).alloc (.cells (ceA s.c) 64) = w' := by
  have ha := h.alloc (.cells (kyA k) 23)
  have hc := Lib.hid (check_any gs gp s 0 _ ha)
  have hl := Lib.hid (load_c ha.sl hok.c hok.d)
  have hb := Lib.hid (blank_any s.c hok.c (w.alloc (.cells (kyA k) 23)))
  rw [hu] at hb
  rw [hw] at hc
  clear hw h ha hu
  generalize kyA k = K at *
  generalize ceA s.c = E at *
  go_enter Try.func11, Try.ntmps11
  go_wp2_with fail
  refine hc.out.mono ?_
  rintro x w1 ⟨rfl, rfl⟩
  go_wp2_with (refine wpList_load_at rfl 64 _ rfl _ rfl _ hl.out ?_)
  refine hb.out.mono ?_
  rintro x w1 ⟨rfl, rfl⟩
  go_wp2_with fail
  go_ret
  exact ⟨rfl, rfl⟩

set_option maxHeartbeats 1000000 in
theorem write_new_c (gs gp : Nat) (s : St) (n : Int) (k : List UInt8) (w : World) (h : Is gs gp s w) (hok : s.Ok) (hne : gs ≠ gp) (hk : k.length = 16) (hw : s.wrong 0 = 0) (hu : s.c.is = false) :
    Calls Try.prog 11 #[.pointer (some ⟨gs, 0, none⟩), .int .i64 0, .agg (kyA k), .int .u64 n] w fun x w' => x = .returned (.int .i64 s.p.err) ∧ Is gs gp (s.put 0 ⟨true, k, n⟩) w' ∧ Only (Two gs gp) w w' := by
  have ha := h.alloc (.cells (kyA k) 23)
  have hc := Lib.hid (check_any gs gp s 0 _ ha)
  have hl := Lib.hid (load_c ha.sl hok.c hok.d)
  have hb := Lib.hid (blank_any s.c hok.c (w.alloc (.cells (kyA k) 23)))
  have hs := Lib.hid (set_any gs gp s 0 ⟨true, k, n⟩ _ (ha.alloc (.cells (ceA s.c) 64)) hok (made_ok k hk n) hne (by omega))
  have hlk : (loadVar 23 ⟨w.heap.size, 0, none⟩).run Try.prog ((w.alloc (.cells (kyA k) 23)).alloc (.cells (ceA s.c) 64)) = .ok (.agg (kyA k)) ((w.alloc (.cells (kyA k) 23)).alloc (.cells (ceA s.c) 64)) :=
    run_loadVar_row (P := Try.prog) _ w.heap.size 23 23 _ (0, 0) _ (heap_alloc2_old w _ _) Try.underlying23 rfl (by rw [info23s, kyA_size hk])
  have HLK := Lib.hid hlk
  have HB := Lib.hid (fun W => build_ce k hk n W)
  have HO : Hid (Only (Two gs gp) w ((w.alloc (.cells (kyA k) 23)).alloc (.cells (ceA s.c) 64))) := ((Only.refl _ w).alloc _).alloc _
  rw [hu] at hb
  rw [hw] at hc
  clear hw h ha hu hlk
  generalize kyA k = K at *
  generalize ceA s.c = E at *
  generalize ceA ⟨true, k, n⟩ = F at *
  go_enter Try.func11, Try.ntmps11
  go_wp2_with fail
  refine hc.out.mono ?_
  rintro x w1 ⟨rfl, rfl⟩
  go_wp2_with (refine wpList_load_at rfl 64 _ rfl _ rfl _ hl.out ?_)
  refine hb.out.mono ?_
  rintro x w1 ⟨rfl, rfl⟩
  go_wp2_with (first | (refine wpList_load_at rfl 23 _ rfl _ rfl _ HLK.out ?_) | (refine wpList_build_at rfl 64 _ rfl [(0, .bool true), (1, .agg K), (2, .int .u64 n)] rfl _ (HB.out _) ?_))
  refine hs.out.mono ?_
  rintro x w2 ⟨rfl, h1, h2⟩
  go_wp2_with fail
  go_ret
  exact ⟨rfl, h1, HO.out.trans h2⟩

set_option maxHeartbeats 1000000 in
theorem write_used_d (gs gp : Nat) (s : St) (n : Int) (k : List UInt8) (w : World) (h : Is gs gp s w) (hok : s.Ok) (hw : s.wrong 1 = 0) (hu : s.d.is = true) :
    Calls Try.prog 11 #[.pointer (some ⟨gs, 0, none⟩), .int .i64 1, .agg (kyA k), .int .u64 n] w fun x w' => x = .returned (.int .i64 100) ∧ (w.alloc (.cells (kyA k) 23)).alloc (.cells (ceA s.d) 64) = w' := by
  have ha := h.alloc (.cells (kyA k) 23)
  have hc := Lib.hid (check_any gs gp s 1 _ ha)
  have hl := Lib.hid (load_d ha.sl hok.c hok.d)
  have hb := Lib.hid (blank_any s.d hok.d (w.alloc (.cells (kyA k) 23)))
  rw [hu] at hb
  rw [hw] at hc
  clear hw h ha hu
  generalize kyA k = K at *
  generalize ceA s.d = E at *
  go_enter Try.func11, Try.ntmps11
  go_wp2_with fail
  refine hc.out.mono ?_
  rintro x w1 ⟨rfl, rfl⟩
  go_wp2_with (refine wpList_load_at rfl 64 _ rfl _ rfl _ hl.out ?_)
  refine hb.out.mono ?_
  rintro x w1 ⟨rfl, rfl⟩
  go_wp2_with fail
  go_ret
  exact ⟨rfl, rfl⟩

set_option maxHeartbeats 1000000 in
theorem write_new_d (gs gp : Nat) (s : St) (n : Int) (k : List UInt8) (w : World) (h : Is gs gp s w) (hok : s.Ok) (hne : gs ≠ gp) (hk : k.length = 16) (hw : s.wrong 1 = 0) (hu : s.d.is = false) :
    Calls Try.prog 11 #[.pointer (some ⟨gs, 0, none⟩), .int .i64 1, .agg (kyA k), .int .u64 n] w fun x w' => x = .returned (.int .i64 s.p.err) ∧ Is gs gp (s.put 1 ⟨true, k, n⟩) w' ∧ Only (Two gs gp) w w' := by
  have ha := h.alloc (.cells (kyA k) 23)
  have hc := Lib.hid (check_any gs gp s 1 _ ha)
  have hl := Lib.hid (load_d ha.sl hok.c hok.d)
  have hb := Lib.hid (blank_any s.d hok.d (w.alloc (.cells (kyA k) 23)))
  have hs := Lib.hid (set_any gs gp s 1 ⟨true, k, n⟩ _ (ha.alloc (.cells (ceA s.d) 64)) hok (made_ok k hk n) hne (by omega))
  have hlk : (loadVar 23 ⟨w.heap.size, 0, none⟩).run Try.prog ((w.alloc (.cells (kyA k) 23)).alloc (.cells (ceA s.d) 64)) = .ok (.agg (kyA k)) ((w.alloc (.cells (kyA k) 23)).alloc (.cells (ceA s.d) 64)) :=
    run_loadVar_row (P := Try.prog) _ w.heap.size 23 23 _ (0, 0) _ (heap_alloc2_old w _ _) Try.underlying23 rfl (by rw [info23s, kyA_size hk])
  have HLK := Lib.hid hlk
  have HB := Lib.hid (fun W => build_ce k hk n W)
  have HO : Hid (Only (Two gs gp) w ((w.alloc (.cells (kyA k) 23)).alloc (.cells (ceA s.d) 64))) := ((Only.refl _ w).alloc _).alloc _
  rw [hu] at hb
  rw [hw] at hc
  clear hw h ha hu hlk
  generalize kyA k = K at *
  generalize ceA s.d = E at *
  generalize ceA ⟨true, k, n⟩ = F at *
  go_enter Try.func11, Try.ntmps11
  go_wp2_with fail
  refine hc.out.mono ?_
  rintro x w1 ⟨rfl, rfl⟩
  go_wp2_with (refine wpList_load_at rfl 64 _ rfl _ rfl _ hl.out ?_)
  refine hb.out.mono ?_
  rintro x w1 ⟨rfl, rfl⟩
  go_wp2_with (first | (refine wpList_load_at rfl 23 _ rfl _ rfl _ HLK.out ?_) | (refine wpList_build_at rfl 64 _ rfl [(0, .bool true), (1, .agg K), (2, .int .u64 n)] rfl _ (HB.out _) ?_))
  refine hs.out.mono ?_
  rintro x w2 ⟨rfl, h1, h2⟩
  go_wp2_with fail
  go_ret
  exact ⟨rfl, h1, HO.out.trans h2⟩

theorem write_any (gs gp : Nat) (s : St) (i n : Int) (k : List UInt8) (w : World) (h : Is gs gp s w) (hok : s.Ok) (hne : gs ≠ gp) (hk : k.length = 16) :
    Calls Try.prog 11 #[.pointer (some ⟨gs, 0, none⟩), .int .i64 i, .agg (kyA k), .int .u64 n] w fun x w' => x = .returned (.int .i64 (s.writeE i)) ∧ Is gs gp (s.write i k n) w' ∧ Only (Two gs gp) w w' := by
  unfold St.writeE St.write
  by_cases hw : s.wrong i = 0
  · simp only [hw, ne_eq, not_true_eq_false, if_false]
    by_cases hu : (s.at i).is = true
    · simp only [hu, if_true]
      rcases wrong_zero hw with rfl | rfl
      · refine (write_used_c gs gp s n k w h hok hw hu).mono ?_
        rintro x w' ⟨rfl, rfl⟩
        exact ⟨rfl, (h.alloc _).alloc _, ((Only.refl _ _).alloc _).alloc _⟩
      · refine (write_used_d gs gp s n k w h hok hw hu).mono ?_
        rintro x w' ⟨rfl, rfl⟩
        exact ⟨rfl, (h.alloc _).alloc _, ((Only.refl _ _).alloc _).alloc _⟩
    · simp only [hu]
      have hu' : (s.at i).is = false := by simpa using hu
      rcases wrong_zero hw with rfl | rfl
      · exact write_new_c gs gp s n k w h hok hne hk hw hu'
      · exact write_new_d gs gp s n k w h hok hne hk hw hu'
  · simp only [hw, ne_eq, not_false_eq_true, if_true]
    refine (write_bad gs gp s i n k w h hw).mono ?_
    rintro x w' ⟨rfl, rfl⟩
    exact ⟨rfl, h.alloc _, (Only.refl _ _).alloc _⟩
end Go.Proofs.Ytfolmdcceefflaa
