/-
  May and Empty, the program's and the reference's.
-/
import Derived.Test.YtbmckmlekhkpeaaNod
import Derived.Laws.BitsLemmas
import Derived.Laws.BitsAllLaws
set_option linter.unusedVariables false
namespace Go.Proofs.Ytbmckmlekhkpeaa
open Go.RowKit

def mayC (leaf : Bool) (c : Ch) : Bool := if c.has = false then c.eqv chZ else decide (0 ≤ c.seg ∧ c.seg < 64 ∧ 0 ≤ c.page ∧ c.page < 16) && (leaf || (c.ex == 0 && c.ver == 0))

theorem or_zero (a b : Int) (h0 : 0 ≤ a) (h1 : a ≤ 18446744073709551615) (k0 : 0 ≤ b) (k1 : b ≤ 18446744073709551615) : (bits .or .u64 a b == 0) = (a == 0 && b == 0) := by
  obtain ⟨x, rfl⟩ := Int.eq_ofNat_of_zero_le h0
  obtain ⟨y, rfl⟩ := Int.eq_ofNat_of_zero_le k0
  have hx : x < 2 ^ 64 := by have : (2 : Nat) ^ 64 = 18446744073709551616 := rfl; omega
  have hy : y < 2 ^ 64 := by have : (2 : Nat) ^ 64 = 18446744073709551616 := rfl; omega
  have ho : x ||| y < 2 ^ 64 := Nat.or_lt_two_pow hx hy
  have e : bits .or .u64 (x : Int) (y : Int) = ((x ||| y : Nat) : Int) := by
    show IntKind.u64.wrap ((BitVec.ofInt 64 (x : Int) ||| BitVec.ofInt 64 (y : Int)).toNat : Int) = _
    rw [BitVec.toNat_or, BitVec.ofInt_natCast, BitVec.ofInt_natCast, BitVec.toNat_ofNat, BitVec.toNat_ofNat, Nat.mod_eq_of_lt hx, Nat.mod_eq_of_lt hy, IntKind.wrap_u64]
    have : (2 : Nat) ^ 64 = 18446744073709551616 := rfl
    omega
  rw [e, Bool.eq_iff_iff]
  simp only [beq_iff_eq, Bool.and_eq_true]
  constructor
  · intro h
    have h' : x ||| y = 0 := by omega
    have := Nat.or_eq_zero_iff.1 h'
    omega
  · rintro ⟨h, k⟩
    obtain rfl : x = 0 := by omega
    obtain rfl : y = 0 := by omega
    rfl

theorem build27 (w : World) : (Instr.build 27 #[]).run Try.prog w = .ok (.agg (chA chZ)) w := run_build w 27 _ _ (by kernel_rfl)
theorem build34 (w : World) : (Instr.build 34 #[]).run Try.prog w = .ok (.agg (chA chZ)) w := run_build w 34 _ _ (by kernel_rfl)
theorem chZ_is : chA chZ = #[.bool false, .int .i64 0, .int .i64 0, .int .u8 0, .int .u8 0, .int .u8 0, .int .u8 0, .int .u8 0, .int .u8 0, .int .u8 0, .int .u8 0, .int .u8 0, .int .u8 0, .int .u8 0, .int .u8 0, .int .u8 0, .int .u8 0, .int .u8 0, .int .u8 0, .int .u64 0, .int .u64 0] := rfl

theorem load24 {w : World} {g : Nat} {A : Array Value} {t : TypeId} (hs : A.size = 16) (hg : w.heap[g]? = some (.cells A t (0, 0))) : (loadVar 24 ⟨g, 0, none⟩).run Try.prog w = .ok (.agg A) w :=
  run_loadVar_row (P := Try.prog) w g t 24 A (0, 0) _ hg Try.underlying24 rfl (by rw [info24s, hs])
theorem load27 {w : World} {g : Nat} {A : Array Value} {t : TypeId} (hs : A.size = 21) (hg : w.heap[g]? = some (.cells A t (0, 0))) : (loadVar 27 ⟨g, 0, none⟩).run Try.prog w = .ok (.agg A) w :=
  run_loadVar_row (P := Try.prog) w g t 27 A (0, 0) _ hg Try.underlying27 rfl (by rw [info27s, hs])
theorem load34 {w : World} {g : Nat} {A : Array Value} {t : TypeId} (hs : A.size = 21) (hg : w.heap[g]? = some (.cells A t (0, 0))) : (loadVar 34 ⟨g, 0, none⟩).run Try.prog w = .ok (.agg A) w :=
  run_loadVar_row (P := Try.prog) w g t 34 A (0, 0) _ hg Try.underlying34 rfl (by rw [info34s, hs])
theorem load30 {w : World} {g : Nat} {A : Array Value} {t : TypeId} (hs : A.size = 85) (hg : w.heap[g]? = some (.cells A t (0, 0))) : (loadVar 30 ⟨g, 0, none⟩).run Try.prog w = .ok (.agg A) w :=
  run_loadVar_row (P := Try.prog) w g t 30 A (0, 0) _ hg Try.underlying30 rfl (by rw [info30s, hs])
theorem load37 {w : World} {g : Nat} {A : Array Value} {t : TypeId} (hs : A.size = 85) (hg : w.heap[g]? = some (.cells A t (0, 0))) : (loadVar 37 ⟨g, 0, none⟩).run Try.prog w = .ok (.agg A) w :=
  run_loadVar_row (P := Try.prog) w g t 37 A (0, 0) _ hg Try.underlying37 rfl (by rw [info37s, hs])

set_option maxHeartbeats 1000000 in
theorem mayc_blank (c : Ch) (leaf : Bool) (w : World) (h : c.Ok) (h0 : c.has = false) :
    Calls Try.prog 35 #[.agg (chA c), .bool leaf] w fun e w' => e = .returned (.bool (c.eqv chZ)) ∧ Below w.heap.size w w' := by
  have hg : (w.alloc (.cells (chA c) 27)).heap[w.heap.size]? = some (.cells (chA c) 27 (0, 0)) := heap_alloc_new w _
  have c0 := cell_of_row _ _ 0 _ _ _ hg
  have hl := load27 (chA_size h) hg
  have he := ch_eq27 9996 h chZ_ok (w.alloc (.cells (chA c) 27))
  have a0 := ch_has c
  rw [ch_has, h0] at c0
  rw [h0] at a0
  rw [chZ_is] at he
  have HL := Lib.hid hl
  have HE := Lib.hid he
  clear hl he hg h h0
  generalize chA c = A at *
  generalize c.eqv chZ = r at *
  go_enter Try.func35, Try.ntmps35
  go_wp2_with (first | (refine wpList_load_at rfl 27 _ rfl _ rfl _ HL.out ?_) | (refine wpList_eql_at rfl 27 _ _ _ _ _ _ rfl rfl rfl (by kernel_rfl) HE.out ?_))
  go_ret
  exact ⟨rfl, (Below.refl _ _).alloc (Nat.le_refl _) _⟩

set_option maxHeartbeats 2000000 in
theorem mayc_has (c : Ch) (leaf : Bool) (w : World) (h : c.Ok) (h0 : c.has = true) :
    Calls Try.prog 35 #[.agg (chA c), .bool leaf] w fun e w' => e = .returned (.bool (mayC leaf c)) ∧ Below w.heap.size w w' := by
  have hg : (w.alloc (.cells (chA c) 27)).heap[w.heap.size]? = some (.cells (chA c) 27 (0, 0)) := heap_alloc_new w _
  have hm : mayC leaf c = (decide (0 ≤ c.seg ∧ c.seg < 64 ∧ 0 ≤ c.page ∧ c.page < 16) && (leaf || (c.ex == 0 && c.ver == 0))) := by rw [mayC, if_neg (by simp [h0])]
  have ho := or_zero c.ex c.ver h.ex.1 h.ex.2 h.ver.1 h.ver.2
  have a0 := ch_has c
  have a1 := ch_seg c
  have a2 := ch_page c
  have a3 := ch_ex h
  have a4 := ch_ver h
  rw [h0] at a0
  have c0 := (cell_of_row _ _ 0 _ _ _ hg).trans a0
  have c1 := (cell_of_row _ _ 1 _ _ _ hg).trans a1
  have c2 := (cell_of_row _ _ 2 _ _ _ hg).trans a2
  have c3 := (cell_of_row _ _ 19 _ _ _ hg).trans a3
  have c4 := (cell_of_row _ _ 20 _ _ _ hg).trans a4
  rw [hm]
  clear hm hg h h0
  generalize chA c = A at *
  generalize c.seg = sg at *
  generalize c.page = pg at *
  generalize c.ex = ex at *
  generalize c.ver = ver at *
  by_cases s1 : 0 ≤ sg
  · by_cases s2 : sg < 64
    · by_cases s3 : 0 ≤ pg
      · by_cases s4 : pg < 16
        · have e : (decide (0 ≤ sg ∧ sg < 64 ∧ 0 ≤ pg ∧ pg < 16) && (leaf || (ex == 0 && ver == 0))) = (leaf || (ex == 0 && ver == 0)) := by simp [s1, s2, s3, s4]
          rw [e]
          clear e
          cases leaf
          · generalize (ex == 0 && ver == 0) = b at *
            have HO := Lib.hid ho
            clear ho
            go_enter Try.func35, Try.ntmps35
            go_wp2
            go_ret
            exact ⟨by rw [← HO.out]; simp, (Below.refl _ _).alloc (Nat.le_refl _) _⟩
          · clear ho
            go_enter Try.func35, Try.ntmps35
            go_wp2
            go_ret
            exact ⟨rfl, (Below.refl _ _).alloc (Nat.le_refl _) _⟩
        · have e : (decide (0 ≤ sg ∧ sg < 64 ∧ 0 ≤ pg ∧ pg < 16) && (leaf || (ex == 0 && ver == 0))) = false := by simp [s4]
          rw [e]
          clear e ho
          go_enter Try.func35, Try.ntmps35
          go_wp2
          go_ret
          exact ⟨rfl, (Below.refl _ _).alloc (Nat.le_refl _) _⟩
      · have e : (decide (0 ≤ sg ∧ sg < 64 ∧ 0 ≤ pg ∧ pg < 16) && (leaf || (ex == 0 && ver == 0))) = false := by simp [s3]
        rw [e]
        clear e ho
        go_enter Try.func35, Try.ntmps35
        go_wp2
        go_ret
        exact ⟨rfl, (Below.refl _ _).alloc (Nat.le_refl _) _⟩
    · have e : (decide (0 ≤ sg ∧ sg < 64 ∧ 0 ≤ pg ∧ pg < 16) && (leaf || (ex == 0 && ver == 0))) = false := by simp [s2]
      rw [e]
      clear e ho
      go_enter Try.func35, Try.ntmps35
      go_wp2
      go_ret
      exact ⟨rfl, (Below.refl _ _).alloc (Nat.le_refl _) _⟩
  · have e : (decide (0 ≤ sg ∧ sg < 64 ∧ 0 ≤ pg ∧ pg < 16) && (leaf || (ex == 0 && ver == 0))) = false := by simp [s1]
    rw [e]
    clear e ho
    go_enter Try.func35, Try.ntmps35
    go_wp2
    go_ret
    exact ⟨rfl, (Below.refl _ _).alloc (Nat.le_refl _) _⟩

theorem mayc_any (c : Ch) (leaf : Bool) (w : World) (h : c.Ok) :
    Calls Try.prog 35 #[.agg (chA c), .bool leaf] w fun e w' => e = .returned (.bool (mayC leaf c)) ∧ Below w.heap.size w w' := by
  cases h0 : c.has
  · rw [mayC, if_pos h0]; exact mayc_blank c leaf w h h0
  · exact mayc_has c leaf w h h0
end Go.Proofs.Ytbmckmlekhkpeaa
