/-
  The power: walks of its methods, told of a block of four cells.
-/
import Derived.Test.YtjnjnkkdpglfhaaProg
import Derived.WalkKit
import Derived.WalkSpells
import Derived.WalkLawsBesides
import Derived.KernelRfl
import Derived.Below
import Derived.Lib.Hide
import Derived.Deep.QuietTactic
import Derived.BigQuiet
set_option linter.unusedVariables false
namespace Go.Proofs.Ytjnjnkkdpglfhaa
open Go.RowKit

/-- Nothing has turned but blocks of S, and what is new. -/
structure Only (S : Nat → Prop) (w w' : World) : Prop where
  os : w'.os = w.os
  tape : w'.tape = w.tape
  output : w'.output = w.output
  size : w.heap.size ≤ w'.heap.size
  block : ∀ k, k < w.heap.size → ¬ S k → w'.heap[k]? = w.heap[k]?

theorem Only.refl (S : Nat → Prop) (w : World) : Only S w w := ⟨rfl, rfl, rfl, Nat.le_refl _, fun _ _ _ => rfl⟩
theorem Only.trans {S : Nat → Prop} {a b c : World} (h : Only S a b) (k : Only S b c) : Only S a c :=
  ⟨k.os.trans h.os, k.tape.trans h.tape, k.output.trans h.output, Nat.le_trans h.size k.size, fun i hi hs => (k.block i (Nat.lt_of_lt_of_le hi h.size) hs).trans (h.block i hi hs)⟩
theorem Only.mono {S T : Nat → Prop} {a b : World} (h : Only S a b) (hs : ∀ k, S k → T k) : Only T a b := ⟨h.os, h.tape, h.output, h.size, fun k hk ht => h.block k hk fun x => ht (hs k x)⟩
theorem Only.drew {S : Nat → Prop} {a b : World} (h : Only S a b) : Only S a b.drew := ⟨h.os, h.tape, h.output, h.size, h.block⟩
theorem Only.drewN {S : Nat → Prop} {a b : World} (h : Only S a b) (n : Nat) : Only S a (b.drewN n) := ⟨h.os, h.tape, h.output, h.size, h.block⟩
theorem Only.alloc {S : Nat → Prop} {a b : World} (h : Only S a b) (o : Obj) : Only S a (b.alloc o) :=
  h.trans ⟨rfl, rfl, rfl, by simp, fun k hk _ => Below.heap_alloc _ _ _ hk⟩
theorem Only.setCell {S : Nat → Prop} {a b : World} (h : Only S a b) {p : Addr} (hp : S p.block) (u : Value) : Only S a (b.setCell p u) :=
  h.trans ⟨rfl, rfl, rfl, by simp [World.setCell], fun k hk hs => Below.heap_setCell _ _ _ _ (by rintro rfl; exact hs hp)⟩
theorem Only.below {S : Nat → Prop} {a b : World} (h : Only S a b) (hs : ∀ k, S k → a.heap.size ≤ k) : Below a.heap.size a b :=
  ⟨h.os, h.tape, h.output, h.size, fun k hk => h.block k hk fun x => by have := hs k x; omega⟩
theorem Only.of_below {S : Nat → Prop} {a b : World} (h : Below a.heap.size a b) : Only S a b := ⟨h.os, h.tape, h.output, h.size, fun k hk _ => h.block k hk⟩

/-- The power's plain state. -/
structure Pw where
  off : Bool
  left : Int
  keep : Int
  junk : Int

def Pw.cells (p : Pw) : Array Value := #[.bool p.off, .int .i64 p.left, .int .i64 p.keep, .int .u8 p.junk]
def IsPw (g : Nat) (p : Pw) (w : World) : Prop := w.heap[g]? = some (.cells p.cells 87 (0, 0))

theorem IsPw.c0 {g : Nat} {p : Pw} {w : World} (h : IsPw g p w) : w.cell? ⟨g, 0, none⟩ = some (.bool p.off) := cell_of_row w g 0 _ _ _ h
theorem IsPw.c1 {g : Nat} {p : Pw} {w : World} (h : IsPw g p w) : w.cell? ⟨g, 1, none⟩ = some (.int .i64 p.left) := cell_of_row w g 1 _ _ _ h
theorem IsPw.c2 {g : Nat} {p : Pw} {w : World} (h : IsPw g p w) : w.cell? ⟨g, 2, none⟩ = some (.int .i64 p.keep) := cell_of_row w g 2 _ _ _ h
theorem IsPw.c3 {g : Nat} {p : Pw} {w : World} (h : IsPw g p w) : w.cell? ⟨g, 3, none⟩ = some (.int .u8 p.junk) := cell_of_row w g 3 _ _ _ h
theorem IsPw.fz {g : Nat} {p : Pw} {w : World} (h : IsPw g p w) (j : Nat) : w.frozen? ⟨g, j, none⟩ = false := frozen_of_row w g j _ _ h

theorem up_any (g : Nat) (p : Pw) (w : World) (h : IsPw g p w) :
    Calls Try.prog 17 #[.pointer (some ⟨g, 0, none⟩)] w fun e w' => e = .returned (.bool (!p.off)) ∧ w = w' := by
  have c0 := h.c0
  have H := Lib.hid h
  clear h
  go_enter Try.func17, Try.ntmps17
  go_wp2
  go_ret
  exact ⟨rfl, rfl⟩

theorem kept_any (g : Nat) (p : Pw) (w : World) (h : IsPw g p w) :
    Calls Try.prog 27 #[.pointer (some ⟨g, 0, none⟩)] w fun e w' => e = .returned (.tuple #[.int .i64 p.keep, .int .u8 p.junk]) ∧ ∃ n, w' = w.drewN n := by
  have c2 := h.c2
  have c3 := h.c3
  have H := Lib.hid h
  clear h
  go_enter Try.func27, Try.ntmps27
  go_wp2_with fail
  go_quiet (fail)
  go_wp2_with fail
  go_ret2
  exact ⟨rfl, nq, rfl⟩

set_option maxHeartbeats 400000 in
theorem act_off (g : Nat) (p : Pw) (w : World) (h : IsPw g p w) (ho : p.off = true) :
    Calls Try.prog 28 #[.pointer (some ⟨g, 0, none⟩)] w fun e w' => e = .returned (.tuple #[.bool false, .bool false]) ∧ w = w' := by
  have c0 := h.c0
  have H := Lib.hid h
  rw [ho] at c0
  clear h ho
  go_enter Try.func28, Try.ntmps28
  go_wp2
  go_ret2
  exact ⟨rfl, rfl⟩

/-- An act: the power behind it, whether it may be, whether it is whole. -/
def Pw.next (p : Pw) : Pw := if p.off = true then p else if p.left = 0 then p else { p with left := p.left - 1, off := p.left - 1 == 0 }
def Pw.may (p : Pw) : Bool := !p.off
def Pw.whole (p : Pw) : Bool := if p.off = true then false else if p.left = 0 then true else !(p.left - 1 == 0)
def Pw.Ok (p : Pw) : Prop := 0 ≤ p.left ∧ p.left ≤ 9223372036854775807

theorem Pw.next_ok {p : Pw} (h : p.Ok) : p.next.Ok := by
  unfold Pw.next
  split
  · exact h
  · split
    · exact h
    · rename_i h0
      exact ⟨by have := h.1; show 0 ≤ p.left - 1; omega, by have := h.2; show p.left - 1 ≤ _; omega⟩

def ActGives (g : Nat) (p : Pw) (w : World) (e : Ending) (w' : World) : Prop :=
  e = .returned (.tuple #[.bool p.may, .bool p.whole]) ∧ IsPw g p.next w' ∧ Only (fun k => k = g) w w'

theorem pw_set0 {g : Nat} {p : Pw} {w : World} (h : IsPw g p w) (b : Bool) : IsPw g { p with off := b } (w.setCell ⟨g, 0, none⟩ (.bool b)) := heap_setCell_same w g 0 _ 87 _ h
theorem pw_set1 {g : Nat} {p : Pw} {w : World} (h : IsPw g p w) (x : Int) : IsPw g { p with left := x } (w.setCell ⟨g, 1, none⟩ (.int .i64 x)) := heap_setCell_same w g 1 _ 87 _ h
theorem pw_set2 {g : Nat} {p : Pw} {w : World} (h : IsPw g p w) (x : Int) : IsPw g { p with keep := x } (w.setCell ⟨g, 2, none⟩ (.int .i64 x)) := heap_setCell_same w g 2 _ 87 _ h
theorem pw_set3 {g : Nat} {p : Pw} {w : World} (h : IsPw g p w) (x : Int) : IsPw g { p with junk := x } (w.setCell ⟨g, 3, none⟩ (.int .u8 x)) := heap_setCell_same w g 3 _ 87 _ h

set_option maxHeartbeats 400000 in
theorem act_free (g : Nat) (p : Pw) (w : World) (h : IsPw g p w) (ho : p.off = false) (hl : p.left = 0) :
    Calls Try.prog 28 #[.pointer (some ⟨g, 0, none⟩)] w fun e w' => e = .returned (.tuple #[.bool true, .bool true]) ∧ w = w' := by
  have c0 := h.c0
  have c1 := h.c1
  have fz := h.fz
  have H := Lib.hid h
  rw [ho] at c0
  rw [hl] at c1
  have hld := run_call_load (P := Try.prog) Try.func52 (by kernel_rfl) (by kernel_rfl) (by kernel_rfl) .i64 (by kernel_rfl) c1
  clear h ho hl
  go_enter Try.func28, Try.ntmps28
  go_wp2
  go_ret2
  exact ⟨rfl, rfl⟩

set_option maxHeartbeats 1000000 in
theorem act_fuse (g : Nat) (p : Pw) (w : World) (h : IsPw g p w) (hok : p.Ok) (ho : p.off = false) (hl : p.left ≠ 0) :
    Calls Try.prog 28 #[.pointer (some ⟨g, 0, none⟩)] w fun e w' => e = .returned (.tuple #[.bool true, .bool (!(p.left - 1 == 0))]) ∧ IsPw g { p with left := p.left - 1, off := p.left - 1 == 0 } w' ∧ Only (fun k => k = g) w w' := by
  have c0 := h.c0
  have c1 := h.c1
  have fz := h.fz
  have f1 := h.fz 1
  have H := Lib.hid h
  rw [ho] at c0
  have hne : (p.left == 0) = false := by rw [beq_eq_false_iff_ne]; exact hl
  have hs : (Op.intArith .add .i64 p.left (-1)).run Try.prog w = .ok (.int .i64 (p.left - 1)) w := by
    have : IntKind.i64.wrap (p.left + -1) = p.left - 1 := by
      have := hok.1; have := hok.2
      rw [IntKind.wrap_i64]; omega
    simp [Op.intArith, this]
  have hld := run_call_load (P := Try.prog) Try.func52 (by kernel_rfl) (by kernel_rfl) (by kernel_rfl) .i64 (by kernel_rfl) c1
  have had := run_call_add (P := Try.prog) Try.func53 (by kernel_rfl) (by kernel_rfl) (by kernel_rfl) .i64 (by kernel_rfl) c1 f1 hs
  have h1 := pw_set1 h (p.left - 1)
  have h2 := pw_set0 h1 (p.left - 1 == 0)
  have o1 : Only (fun k => k = g) w (w.setCell ⟨g, 1, none⟩ (.int .i64 (p.left - 1))) := Only.setCell (S := fun k => k = g) (Only.refl _ w) (p := ⟨g, 1, none⟩) rfl _
  generalize w.setCell ⟨g, 1, none⟩ (.int .i64 (p.left - 1)) = w1 at had h1 h2 o1
  have d0 := h1.c0
  have e0 := h1.fz 0
  have H1 := Lib.hid h1
  have H2 := Lib.hid h2
  have g0 := h2.c0
  have O1 := Lib.hid o1
  clear h ho hl hs hok h1 h2 o1 fz f1
  generalize p.left - 1 = q at *
  go_enter Try.func28, Try.ntmps28
  go_wp2_with go_in
  go_quiet (fail)
  go_wp2_with fail
  go_ret2
  exact ⟨rfl, H2.out, (O1.out.setCell (p := ⟨g, 0, none⟩) rfl _).drewN _⟩

theorem act_any (g : Nat) (p : Pw) (w : World) (h : IsPw g p w) (hok : p.Ok) :
    Calls Try.prog 28 #[.pointer (some ⟨g, 0, none⟩)] w (ActGives g p w) := by
  by_cases ho : p.off = true
  · refine (act_off g p w h ho).mono ?_
    rintro e w' ⟨rfl, rfl⟩
    have e1 : p.may = false := by rw [Pw.may, ho]; rfl
    have e2 : p.whole = false := by rw [Pw.whole, if_pos ho]
    have e3 : p.next = p := by rw [Pw.next, if_pos ho]
    exact ⟨by rw [e1, e2], by rw [e3]; exact h, Only.refl _ _⟩
  · have ho' : p.off = false := by simpa using ho
    by_cases hl : p.left = 0
    · refine (act_free g p w h ho' hl).mono ?_
      rintro e w' ⟨rfl, rfl⟩
      have e1 : p.may = true := by rw [Pw.may, ho']; rfl
      have e2 : p.whole = true := by rw [Pw.whole, if_neg ho, if_pos hl]
      have e3 : p.next = p := by rw [Pw.next, if_neg ho, if_pos hl]
      exact ⟨by rw [e1, e2], by rw [e3]; exact h, Only.refl _ _⟩
    · refine (act_fuse g p w h hok ho' hl).mono ?_
      rintro e w' ⟨rfl, h1, h2⟩
      have e1 : p.may = true := by rw [Pw.may, ho']; rfl
      have e2 : p.whole = !(p.left - 1 == 0) := by rw [Pw.whole, if_neg ho, if_neg hl]
      have e3 : p.next = { p with left := p.left - 1, off := p.left - 1 == 0 } := by rw [Pw.next, if_neg ho, if_neg hl]
      exact ⟨by rw [e1, e2], by rw [e3]; exact h1, h2⟩

theorem cut_any (g : Nat) (p : Pw) (w : World) (h : IsPw g p w) :
    Calls Try.prog 14 #[.pointer (some ⟨g, 0, none⟩)] w fun e w' => e = .returned (.tuple #[]) ∧ IsPw g { p with off := true } w' ∧ Only (fun k => k = g) w w' := by
  have c0 := h.c0
  have f0 := h.fz 0
  have H := Lib.hid (pw_set0 h true)
  clear h
  go_enter Try.func14, Try.ntmps14
  go_wp2
  go_end0
  exact ⟨rfl, H.out, Only.setCell (S := fun k => k = g) (Only.refl _ w) (p := ⟨g, 0, none⟩) rfl _⟩

set_option maxHeartbeats 1000000 in
theorem on_any (g : Nat) (p : Pw) (w : World) (h : IsPw g p w) :
    Calls Try.prog 20 #[.pointer (some ⟨g, 0, none⟩)] w fun e w' => e = .returned (.tuple #[]) ∧ IsPw g { p with off := false, left := 0 } w' ∧ Only (fun k => k = g) w w' := by
  have c0 := h.c0
  have f0 := h.fz 0
  have h1 := pw_set0 h false
  have o1 : Only (fun k => k = g) w (w.setCell ⟨g, 0, none⟩ (.bool false)) := Only.setCell (S := fun k => k = g) (Only.refl _ w) (p := ⟨g, 0, none⟩) rfl _
  have d1 := h1.c1
  have e1 := h1.fz 1
  have hst := run_call_store (P := Try.prog) Try.func51 (by kernel_rfl) (by kernel_rfl) (by kernel_rfl) (by kernel_rfl) (k := .i64) (y := 0) d1 e1
  have H2 := Lib.hid (pw_set1 h1 0)
  have O1 := Lib.hid o1
  clear h h1 o1
  go_enter Try.func20, Try.ntmps20
  go_wp2_with go_in
  go_end0
  go_wp2_with go_in
  go_end0
  exact ⟨rfl, H2.out, O1.out.setCell (p := ⟨g, 1, none⟩) rfl _⟩

set_option maxHeartbeats 2000000 in
theorem fuse_case (g : Nat) (p : Pw) (w : World) (n keep junk x y : Int) (h : IsPw g p w)
    (hx : (n < 0 ∧ x = 0) ∨ (0 ≤ n ∧ x = n)) (hy : (keep < 0 ∧ y = 0) ∨ (0 ≤ keep ∧ y = keep)) :
    Calls Try.prog 18 #[.pointer (some ⟨g, 0, none⟩), .int .i64 n, .int .i64 keep, .int .u8 junk] w fun e w' => e = .returned (.tuple #[]) ∧ IsPw g { p with left := x, keep := y, junk := junk } w' ∧ Only (fun k => k = g) w w' := by
  have c1 := h.c1
  have f1 := h.fz 1
  have hst := run_call_store (P := Try.prog) Try.func51 (by kernel_rfl) (by kernel_rfl) (by kernel_rfl) (by kernel_rfl) (k := .i64) (y := x) c1 f1
  have h1 := pw_set1 h x
  have h2 := pw_set2 h1 y
  have h3 := pw_set3 h2 junk
  have o1 : Only (fun k => k = g) w (w.setCell ⟨g, 1, none⟩ (.int .i64 x)) := Only.setCell (S := fun k => k = g) (Only.refl _ w) (p := ⟨g, 1, none⟩) rfl _
  generalize w.setCell ⟨g, 1, none⟩ (.int .i64 x) = w1 at hst h1 h2 h3 o1
  have d2 := h1.c2
  have e2 := h1.fz 2
  have d3 := h2.c3
  have e3 := h2.fz 3
  have d4 := h1.c3
  have e4 := h1.fz 3
  have H3 := Lib.hid h3
  have O1 := Lib.hid o1
  clear h h1 h2 h3 o1
  rcases hx with ⟨hx, rfl⟩ | ⟨hx, rfl⟩ <;> rcases hy with ⟨hy, rfl⟩ | ⟨hy, rfl⟩ <;>
  · go_enter Try.func18, Try.ntmps18
    go_wp2_with go_in
    go_end0
    go_wp2_with go_in
    go_end0
    exact ⟨rfl, H3.out, (O1.out.setCell (p := ⟨g, 2, none⟩) rfl _).setCell (p := ⟨g, 3, none⟩) rfl _⟩

theorem fuse_any (g : Nat) (p : Pw) (w : World) (n keep junk : Int) (h : IsPw g p w) :
    Calls Try.prog 18 #[.pointer (some ⟨g, 0, none⟩), .int .i64 n, .int .i64 keep, .int .u8 junk] w fun e w' => e = .returned (.tuple #[]) ∧ IsPw g { p with left := max n 0, keep := max keep 0, junk := junk } w' ∧ Only (fun k => k = g) w w' :=
  fuse_case g p w n keep junk _ _ h (by omega) (by omega)

theorem newPower_any (w : World) :
    Calls Try.prog 9 #[] w fun e w' => e = .returned (.pointer (some ⟨w.heap.size, 0, none⟩)) ∧ w.alloc (.cells #[.bool false, .int .i64 0, .int .i64 0, .int .u8 0] 87) = w' := by
  go_enter Try.func9, Try.ntmps9
  go_wp2
  go_ret
  exact ⟨rfl, rfl⟩
end Go.Proofs.Ytjnjnkkdpglfhaa
