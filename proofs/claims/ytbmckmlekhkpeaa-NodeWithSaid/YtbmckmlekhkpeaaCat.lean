/-
  What Decode defers.
-/
import Derived.Test.YtbmckmlekhkpeaaChi
set_option linter.unusedVariables false
namespace Go.Proofs.Ytbmckmlekhkpeaa
open Go.RowKit

theorem catch_idle (p q : Addr) (w : World) :
    CallsD Try.prog 24 #[.pointer (some p), .pointer (some q)] .returning w fun e u' w' => e = .returned (.tuple #[]) ∧ u' = .returning ∧ w' = w := by
  refine callsD_of_wpS Try.func24 rfl fun c₀ cs hu => ?_
  apply wpS_seq
  apply wpS_region
  simp [wpOpsS, go_sem, recoverD, hu, Try.ntmps24, Exit.thenS]
  refine wpS_of_wp ?_
  change Code.wp Try.prog _ _ ⟨#[.pointer (some p), .pointer (some q), undef, undef, undef, .nilIface, undef, undef, undef, undef, undef, undef, undef], []⟩ w
  have HU := Lib.hid hu
  clear hu
  go_wp2
  cases c₀
  have hu := HU.out
  simp_all [bodyPostS, results, Try.results24]

theorem ndZ_is : ndA ndZ = #[.bool false, .bool false, .int .i64 0, .int .i64 0, .int .u8 0, .int .u8 0, .int .u8 0, .int .u8 0, .int .u8 0, .int .u8 0, .int .u8 0, .int .u8 0, .int .u8 0, .int .u8 0, .int .u8 0, .int .u8 0, .int .u8 0, .int .u8 0, .int .u8 0, .int .u8 0, .int .u64 0, .int .u64 0,
    .bool false, .int .i64 0, .int .i64 0, .int .u8 0, .int .u8 0, .int .u8 0, .int .u8 0, .int .u8 0, .int .u8 0, .int .u8 0, .int .u8 0, .int .u8 0, .int .u8 0, .int .u8 0, .int .u8 0, .int .u8 0, .int .u8 0, .int .u8 0, .int .u8 0, .int .u64 0, .int .u64 0,
    .bool false, .int .i64 0, .int .i64 0, .int .u8 0, .int .u8 0, .int .u8 0, .int .u8 0, .int .u8 0, .int .u8 0, .int .u8 0, .int .u8 0, .int .u8 0, .int .u8 0, .int .u8 0, .int .u8 0, .int .u8 0, .int .u8 0, .int .u8 0, .int .u8 0, .int .u64 0, .int .u64 0,
    .bool false, .int .i64 0, .int .i64 0, .int .u8 0, .int .u8 0, .int .u8 0, .int .u8 0, .int .u8 0, .int .u8 0, .int .u8 0, .int .u8 0, .int .u8 0, .int .u8 0, .int .u8 0, .int .u8 0, .int .u8 0, .int .u8 0, .int .u8 0, .int .u8 0, .int .u64 0, .int .u64 0] := rfl

theorem build30 (w : World) : (Instr.build 30 #[]).run Try.prog w = .ok (.agg (ndA ndZ)) w := run_build w 30 _ _ (by kernel_rfl)

set_option maxHeartbeats 1000000 in
theorem catch_pan (a b : Nat) (x y : Int) (A : Array Value) (w : World) (older : List PanicEntry) (hne : a ≠ b) (ha : w.heap[a]? = some (.cells A 30 (0, 0))) (hA : A.size = 85) (hb : w.heap[b]? = some (.cells #[.int .i64 y] 31 (0, 0))) :
    CallsD Try.prog 24 #[.pointer (some ⟨a, 0, none⟩), .pointer (some ⟨b, 0, none⟩)] (.panicking ({ v := .iface 31 (.int .i64 x), recovered := false } :: older)) w fun e u' w' => e = .returned (.tuple #[]) ∧ u' = .panicking ({ v := .iface 31 (.int .i64 x), recovered := true } :: older) ∧ w'.heap[a]? = some (.cells (ndA ndZ) 30 (0, 0)) ∧ w'.heap[b]? = some (.cells #[.int .i64 x] 31 (0, 0)) ∧ Only (fun k => k = a ∨ k = b) w w' := by
  obtain ⟨W2, hst, g2, o2, _⟩ := store_row w (B := ndA ndZ) ha info30s (ndA_size ndZ_ok) hA (ndA_one _)
  have hb2 := o2.row hb (fun e => hne e.symm)
  have c1 := cell_of_row _ _ 0 _ _ _ hb2
  have f1 := frozen_of_row _ _ 0 _ _ hb2
  have g3 := set_row (j := 0) hb2 (.int .i64 x)
  have g4 : (W2.setCell ⟨b, 0, none⟩ (.int .i64 x)).heap[a]? = some (.cells (ndA ndZ) 30 (0, 0)) := (heap_setCell_other W2 ⟨b, 0, none⟩ a _ (by simpa using hne)).trans g2
  have o3 : Only (fun k => k = a ∨ k = b) w (W2.setCell ⟨b, 0, none⟩ (.int .i64 x)) := (o2.mono (fun _ h => Or.inl h)).trans ((set_only _).mono (fun _ h => Or.inr h))
  have HST := Lib.hid hst
  have G3 := Lib.hid g3
  have G4 := Lib.hid g4
  have O3 := Lib.hid o3
  have HB2 := Lib.hid hb2
  clear ha hb hst g2 o2 hb2 g3 g4 o3
  refine callsD_of_wpS Try.func24 rfl fun c₀ cs hu => ?_
  apply wpS_seq
  apply wpS_region
  simp [wpOpsS, go_sem, recoverD, hu, Try.ntmps24, Exit.thenS]
  refine wpS_of_wp ?_
  change Code.wp Try.prog _ _ ⟨#[.pointer (some ⟨a, 0, none⟩), .pointer (some ⟨b, 0, none⟩), undef, undef, undef, .iface 31 (.int .i64 x), undef, undef, undef, undef, undef, undef, undef], []⟩ w
  have HU := Lib.hid hu
  clear hu
  have hta : ∀ W, (Instr.typeAssert (.iface 31 (.int .i64 x)) 20 31 true).run Try.prog W = .ok (.tuple #[.int .i64 x, .bool true]) W := fun _ => by kernel_rfl
  go_wp2_with (first | (refine wpList_build_at rfl 30 _ rfl [] rfl _ (build30 _) ?_) | (refine wpList_store_at rfl 30 _ _ rfl _ rfl _ rfl HST.out ?_))
  cases c₀
  have hu := HU.out
  have H1 := G3.out
  have H2 := G4.out
  have H3 := O3.out
  simp only [Array.setIfInBounds] at H1
  simp_all [bodyPostS, results, Try.results24]
end Go.Proofs.Ytbmckmlekhkpeaa
