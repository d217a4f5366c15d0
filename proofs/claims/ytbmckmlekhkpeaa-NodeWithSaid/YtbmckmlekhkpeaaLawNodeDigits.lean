/-
  NodeDigits: the walk.
-/
import Derived.Test.YtbmckmlekhkpeaaShn
import Derived.Test.YtbmckmlekhkpeaaPth
set_option linter.unusedVariables false
namespace Go.Proofs.Ytbmckmlekhkpeaa
open Go.RowKit

theorem pa_eq (a b : Int) (a0 : 0 ≤ a) (a1 : a ≤ 255) (b0 : 0 ≤ b) (b1 : b ≤ 255) (w : World) : (Op.equalIn 10000 48 (.agg (paA a)) (.agg (paA b))).run Try.prog w = .ok (a == b) w := by
  obtain ⟨i, hi⟩ : ∃ i, Try.prog.info? 3 = some i := by
    cases hq : Try.prog.info? 3 with
    | none => have : (Try.prog.info? 3).isSome = true := by kernel_rfl
              simp [hq] at this
    | some i => exact ⟨i, rfl⟩
  have h3 : Try.prog.cellsOf 3 = 1 := by kernel_rfl
  rw [run_equalIn_array (P := Try.prog) w 9999 (paA a) (paA b) Try.underlying48 hi, h3]
  have P : ∀ (x : Int) (j : Nat) (v : Value), (paA x)[j]? = some v → (part 3 (paA x) (j * 1)).run Try.prog w = .ok v w := fun x j v h => part_plain 3 _ _ (j * 1) v Try.underlying3 rfl (by rw [Nat.mul_one]; exact h) w
  have e := eqI_cons (P a 0 _ rfl) (P b 0 _ rfl) (run_equalIn_int w 9998 3 .i64 .i64 _ _ Try.underlying3)
    (eqI_cons (P a 1 _ rfl) (P b 1 _ rfl) (run_equalIn_int w 9998 3 .i64 .i64 _ _ Try.underlying3)
    (eqI_cons (P a 2 _ rfl) (P b 2 _ rfl) (run_equalIn_int w 9998 3 .i64 .i64 _ _ Try.underlying3)
    (eqI_cons (P a 3 _ rfl) (P b 3 _ rfl) (run_equalIn_int w 9998 3 .i64 .i64 _ _ Try.underlying3) eqI_nil)))
  have hr : ((a / 64 == b / 64) && ((a / 16 % 4 == b / 16 % 4) && ((a / 4 % 4 == b / 4 % 4) && ((a % 4 == b % 4) && true)))) = (a == b) := by
    rw [Bool.eq_iff_iff]
    simp only [Bool.and_eq_true, beq_iff_eq, and_true]
    omega
  rw [hr] at e
  exact e

set_option maxHeartbeats 4000000 in
theorem digits_walk (w : World) (a b : Int) (a0 : 0 ≤ a) (a1 : a ≤ 255) (b0 : 0 ≤ b) (b1 : b ≤ 255) :
    Calls Try.prog 7 #[.int .u8 a, .int .u8 b] w fun e w' => e = .returned (.bool true) ∧ Below w.heap.size w w' := by
  have hz := zero48
  have HPA := Lib.hid (path_ok a w a0 a1)
  have HPB := Lib.hid (fun W => path_ok b W b0 b1)
  have HQ := Lib.hid (fun W => pa_eq a b a0 a1 b0 b1 W)
  have HFA := Lib.hid (fun W => fresh_at W 48 4 paZ (paA a) info48s rfl rfl (pa_one _ _ _ _))
  have HFB := Lib.hid (fun W => fresh_at W 48 4 paZ (paA b) info48s rfl rfl (pa_one _ _ _ _))
  have HC0 : Hid ((paA a)[0]? = some (.int .i64 (a / 64))) := rfl
  have HC1 : Hid ((paA a)[1]? = some (.int .i64 (a / 16 % 4))) := rfl
  have HC2 : Hid ((paA a)[2]? = some (.int .i64 (a / 4 % 4))) := rfl
  have HC3 : Hid ((paA a)[3]? = some (.int .i64 (a % 4))) := rfl
  have HSA : Hid ((paA a).size = 4) := rfl
  have HSB : Hid ((paA b).size = 4) := rfl
  have x0 : 0 ≤ a / 64 := by omega
  have y0 : a / 64 ≤ 3 := by omega
  have x1 : 0 ≤ a / 16 % 4 := by omega
  have y1 : a / 16 % 4 ≤ 3 := by omega
  have x2 : 0 ≤ a / 4 % 4 := by omega
  have y2 : a / 4 % 4 ≤ 3 := by omega
  have x3 : 0 ≤ a % 4 := by omega
  have y3 : a % 4 ≤ 3 := by omega
  have hs : a / 64 * 64 + a / 16 % 4 * 16 + a / 4 % 4 * 4 + a % 4 = a := by omega
  generalize a / 64 = d0 at *
  generalize a / 16 % 4 = d1 at *
  generalize a / 4 % 4 = d2 at *
  generalize a % 4 = d3 at *
  have hsb : (d0 * 64 + d1 * 16 + d2 * 4 + d3 == a) = true := by rw [beq_iff_eq]; exact hs
  clear hs
  generalize paZ = Z at *
  generalize paA a = PA at *
  generalize paA b = PB at *
  generalize hq : (a == b) = q at *
  go_enter Try.func7, Try.ntmps7
  go_wp2_with fail
  refine HPA.out.mono ?_
  rintro e w1 ⟨rfl, h1⟩
  obtain ⟨W2, hst2, g2, o2, _⟩ := HFA.out w1
  have HST2 := Lib.hid hst2
  have O2 : Hid (Only (fun _ => False) w W2) := (Only.of_below (S := fun _ => False) h1).trans o2
  have G2 := Lib.hid g2
  generalize hg2 : w1.heap.size = g at *
  have HG2 := Lib.hid hg2
  clear h1 hst2 g2 o2 hg2
  rw [← HG2.out] at HST2
  go_wp2_with (((with_reducible refine wpList_store_at ?_ 48 (.tmp 5) (.tmp 13) ?_ _ ?_ _ ?_ HST2.out ?_); rfl; rfl; rfl; rfl))
  refine (HPB.out _).mono ?_
  rintro e w3 ⟨rfl, h3⟩
  obtain ⟨W4, hst4, g4, o4, _⟩ := HFB.out w3
  have HST4 := Lib.hid hst4
  have O4 := Lib.hid ((O2.out.trans (Only.of_below (S := fun _ => False) h3)).trans o4)
  have G5 := Lib.hid (o4.row ((Only.of_below (S := fun _ => False) h3).row G2.out (fun x => x)) (fun x => x))
  rw [← HG2.out] at G5
  have e0 := (cell_of_row _ _ 0 _ _ _ G5.out).trans HC0.out
  have e1 := (cell_of_row _ _ 1 _ _ _ G5.out).trans HC1.out
  have e2 := (cell_of_row _ _ 2 _ _ _ G5.out).trans HC2.out
  have e3 := (cell_of_row _ _ 3 _ _ _ G5.out).trans HC3.out
  have HL5 := Lib.hid (load48 HSA.out G5.out)
  have HL6 := Lib.hid (load48 HSB.out g4)
  have HQ4 := Lib.hid (HQ.out W4)
  clear h3 hst4 g4 o4
  go_wp2_with (first | ((with_reducible refine wpList_store_at ?_ 48 (.tmp 7) (.tmp 19) ?_ _ ?_ _ ?_ HST4.out ?_); rfl; rfl; rfl; rfl) | ((with_reducible refine wpList_load_w ?_ 48 (.tmp 5) ?_ _ ?_ _ HL5.out ?_); rfl; rfl; rfl) | ((with_reducible refine wpList_load_w ?_ 48 (.tmp 7) ?_ _ ?_ _ HL6.out ?_); rfl; rfl; rfl) | ((with_reducible refine wpList_eql_w ?_ 48 (.tmp 47) (.tmp 48) 48 _ _ _ ?_ ?_ ?_ ?_ HQ4.out ?_); rfl; rfl; rfl; rfl; kernel_rfl))
  refine (shown_any _).mono ?_
  rintro e w5 ⟨rfl, h5⟩
  have O5 := Lib.hid (O4.out.trans (Only.of_below (S := fun _ => False) h5))
  clear h5
  go_wp2_with fail
  go_ret
  exact ⟨rfl, O5.out.below0⟩

theorem nodeDigits_walk (w : World) (a : Int) (ha : (Lit.int .u8 a).wf = true) (b : Int) (hb : (Lit.int .u8 b).wf = true) :
    Calls Try.prog 7 #[.int .u8 a, .int .u8 b] w fun e w' => e = .returned (.bool true) ∧ Below w.heap.size w w' := by
  have c1 : 0 ≤ a ∧ a ≤ 255 := by
    simp [Lit.wf, IntKind.min, IntKind.max, IntKind.signed, IntKind.bits] at ha
    omega
  have c2 : 0 ≤ b ∧ b ≤ 255 := by
    simp [Lit.wf, IntKind.min, IntKind.max, IntKind.signed, IntKind.bits] at hb
    omega
  exact digits_walk w a b c1.1 c1.2 c2.1 c2.2
end Go.Proofs.Ytbmckmlekhkpeaa
