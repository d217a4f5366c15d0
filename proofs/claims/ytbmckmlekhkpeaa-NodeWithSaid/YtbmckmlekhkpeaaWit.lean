/-
  With, the program's and the reference's.
-/
import Derived.Test.YtbmckmlekhkpeaaIts
import Derived.Test.YtbmckmlekhkpeaaRmy
set_option linter.unusedVariables false
namespace Go.Proofs.Ytbmckmlekhkpeaa
open Go.RowKit

/-- What With says. -/
def wiN (n : Nd) (i : Int) (c : Ch) : Nd := if 0 ≤ i ∧ i < 4 ∧ mayN (n.put i.toNat c) = true then n.put i.toNat c else ndZ
def wiE (n : Nd) (i : Int) (c : Ch) : Int := if 0 ≤ i ∧ i < 4 ∧ mayN (n.put i.toNat c) = true then 0 else 1
theorem wiN_ok {n : Nd} (h : n.Ok) (i : Int) {c : Ch} (hc : c.Ok) : (wiN n i c).Ok := by
  unfold wiN
  split
  · exact h.put_ok _ hc
  · exact ndZ_ok
/-- A node's block, a child's, the result's. -/
def W3 (w : World) (n : Nd) (c : Ch) (T C : TypeId) : World := ((w.alloc (.cells (ndA n) T)).alloc (.cells (chA c) C)).alloc (.cells (ndA ndZ) T)
theorem w3_n (w : World) (n : Nd) (c : Ch) (T C : TypeId) : (W3 w n c T C).heap[w.heap.size]? = some (.cells (ndA n) T (0, 0)) :=
  (((Only.refl (fun _ => False) _).alloc _).alloc _).row (heap_alloc_new w _) (fun x => x)
theorem w3_c (w : World) (n : Nd) (c : Ch) (T C : TypeId) : (W3 w n c T C).heap[w.heap.size + 1]? = some (.cells (chA c) C (0, 0)) := by
  have h := heap_alloc_new (w.alloc (.cells (ndA n) T)) (.cells (chA c) C)
  rw [show (w.alloc (.cells (ndA n) T)).heap.size = w.heap.size + 1 by simp] at h
  exact ((Only.refl (fun _ => False) _).alloc _).row h (fun x => x)
theorem w3_r (w : World) (n : Nd) (c : Ch) (T C : TypeId) : (W3 w n c T C).heap[w.heap.size + 1 + 1]? = some (.cells (ndA ndZ) T (0, 0)) := by
  have h := heap_alloc_new ((w.alloc (.cells (ndA n) T)).alloc (.cells (chA c) C)) (.cells (ndA ndZ) T)
  rw [show ((w.alloc (.cells (ndA n) T)).alloc (.cells (chA c) C)).heap.size = w.heap.size + 1 + 1 by simp] at h
  exact h
theorem w3_only (w : World) (n : Nd) (c : Ch) (T C : TypeId) : Only (fun _ => False) w (W3 w n c T C) := (((Only.refl _ w).alloc _).alloc _).alloc _

set_option maxHeartbeats 4000000 in
theorem with_ok (n : Nd) (i : Nat) (c : Ch) (w : World) (h : n.Ok) (hi : i < 4) (hc : c.Ok) :
    Calls Try.prog 21 #[.agg (ndA n), .int .i64 i, .agg (chA c)] w fun e w' => e = .returned (.tuple #[.agg (ndA (if mayN (n.put i c) = true then n.put i c else ndZ)), .int .i64 (if mayN (n.put i c) = true then 0 else 1)]) ∧ Below w.heap.size w w' := by
  have hz := zero30
  have hp := h.put_ok i hc
  have g1 := w3_n w n c 30 27
  have HLC := Lib.hid (load27 (chA_size hc) (w3_c w n c 30 27))
  obtain ⟨W4, hst4, g4, o4, _⟩ := put_at (W3 w n c 30 27) (o := 1 + i * 21) (B := chA c) g1 info27s (chA_size hc) (by rw [ndA_size h]; omega) (chA_one _)
  rw [nd_put h hi hc] at g4
  have HST := Lib.hid hst4
  have G3 := Lib.hid (o4.row (w3_r w n c 30 27) (by omega))
  have G4 := Lib.hid g4
  have HL4 := Lib.hid (load30 (ndA_size hp) g4)
  have O4 := Lib.hid ((w3_only w n c 30 27).fresh o4 (by intro j hj; omega))
  have HM := Lib.hid (may_any _ W4 hp)
  have HB := Lib.hid build30
  have HSP := Lib.hid (ndA_size hp)
  have HSZ := Lib.hid (ndA_size ndZ_ok)
  have H1P := Lib.hid (ndA_one (n.put i c))
  have H1Z := Lib.hid (ndA_one ndZ)
  have hi0 : (0 : Int) ≤ (i : Int) := by omega
  have hi4 : (i : Int) < 4 := by omega
  have hi4n : i < 4 := hi
  have b0 : decide ((i : Int) < 0) = false := decide_eq_false (by omega)
  have b1 : decide ((4 : Int) ≤ (i : Int)) = false := decide_eq_false (by omega)
  have b2 : decide ((3 : Int) < (i : Int)) = false := decide_eq_false (by omega)
  unfold W3 at *
  clear g1 hst4 g4 o4 hp h hc
  cases hm : mayN (n.put i c)
  · rw [hm] at HM
    simp only [Bool.false_eq_true, if_false]
    clear hm
    generalize ndA ndZ = Z at *
    generalize ndA (n.put i c) = P at *
    generalize ndA n = A at *
    generalize chA c = C at *
    go_enter Try.func21, Try.ntmps21
    go_wp2_with (first | ((with_reducible refine wpList_load_at ?_ 27 (.tmp 5) ?_ _ ?_ _ HLC.out ?_); rfl; rfl; rfl) | ((with_reducible refine wpList_store_at ?_ 27 (.tmp 18) (.tmp 16) ?_ _ ?_ _ ?_ HST.out ?_); rfl; rfl; rfl; rfl) | ((with_reducible refine wpList_load_at ?_ 30 (.tmp 3) ?_ _ ?_ _ HL4.out ?_); rfl; rfl; rfl))
    refine HM.out.mono ?_
    rintro e w5 ⟨rfl, h5⟩
    obtain ⟨W6, hst6, g6, o6, _⟩ := store_row w5 ((Only.of_below (S := fun _ => False) h5).row G3.out (fun x => x)) info30s HSZ.out HSZ.out H1Z.out
    have HST6 := Lib.hid hst6
    have HL6 := Lib.hid (load30 HSZ.out g6)
    have O6 := Lib.hid ((O4.out.trans (Only.of_below h5)).fresh o6 (by intro j hj; omega))
    clear h5 hst6 g6 o6
    go_wp2_with (first | ((with_reducible refine wpList_build_at ?_ 30 #[] ?_ [] ?_ _ (HB.out _) ?_); rfl; rfl; rfl) | ((with_reducible refine wpList_store_at ?_ 30 (.tmp 6) (.tmp 22) ?_ _ ?_ _ ?_ HST6.out ?_); rfl; rfl; rfl; rfl))
    refine bodyPost_ret (v := .tuple #[.agg Z, .int .i64 1]) ?_ rfl ⟨rfl, O6.out.below0⟩
    have := HL6.out
    simp [results, Try.results21, asAddr, this]
  · rw [hm] at HM
    simp only [if_true]
    clear hm
    generalize ndA ndZ = Z at *
    generalize ndA (n.put i c) = P at *
    generalize ndA n = A at *
    generalize chA c = C at *
    go_enter Try.func21, Try.ntmps21
    go_wp2_with (first | ((with_reducible refine wpList_load_at ?_ 27 (.tmp 5) ?_ _ ?_ _ HLC.out ?_); rfl; rfl; rfl) | ((with_reducible refine wpList_store_at ?_ 27 (.tmp 18) (.tmp 16) ?_ _ ?_ _ ?_ HST.out ?_); rfl; rfl; rfl; rfl) | ((with_reducible refine wpList_load_at ?_ 30 (.tmp 3) ?_ _ ?_ _ HL4.out ?_); rfl; rfl; rfl))
    refine HM.out.mono ?_
    rintro e w5 ⟨rfl, h5⟩
    have HLP := Lib.hid (load30 HSP.out ((Only.of_below (S := fun _ => False) h5).row G4.out (fun x => x)))
    obtain ⟨W6, hst6, g6, o6, _⟩ := store_row w5 ((Only.of_below (S := fun _ => False) h5).row G3.out (fun x => x)) info30s HSP.out HSZ.out H1P.out
    have HST6 := Lib.hid hst6
    have HL6 := Lib.hid (load30 HSP.out g6)
    have O6 := Lib.hid ((O4.out.trans (Only.of_below h5)).fresh o6 (by intro j hj; omega))
    clear h5 hst6 g6 o6
    go_wp2_with (first | ((with_reducible refine wpList_load_at ?_ 30 (.tmp 3) ?_ _ ?_ _ HLP.out ?_); rfl; rfl; rfl) | ((with_reducible refine wpList_store_at ?_ 30 (.tmp 6) (.tmp 23) ?_ _ ?_ _ ?_ HST6.out ?_); rfl; rfl; rfl; rfl))
    refine bodyPost_ret (v := .tuple #[.agg P, .int .i64 0]) ?_ rfl ⟨rfl, O6.out.below0⟩
    have := HL6.out
    simp [results, Try.results21, asAddr, this]

set_option maxHeartbeats 4000000 in
theorem with_bad (n : Nd) (i : Int) (c : Ch) (w : World) (h : n.Ok) (hi : i < 0 ∨ 4 ≤ i) (hc : c.Ok) :
    Calls Try.prog 21 #[.agg (ndA n), .int .i64 i, .agg (chA c)] w fun e w' => e = .returned (.tuple #[.agg (ndA ndZ), .int .i64 1]) ∧ Below w.heap.size w w' := by
  have hz := zero30
  obtain ⟨W6, hst6, g6, o6, _⟩ := store_row (W3 w n c 30 27) (w3_r w n c 30 27) info30s (ndA_size ndZ_ok) (ndA_size ndZ_ok) (ndA_one _)
  have HST6 := Lib.hid hst6
  have HL6 := Lib.hid (load30 (ndA_size ndZ_ok) g6)
  have O6 := Lib.hid ((w3_only w n c 30 27).fresh o6 (by intro j hj; omega))
  have HB := Lib.hid build30
  unfold W3 at *
  clear hst6 g6 o6 h hc
  generalize ndA ndZ = Z at *
  generalize ndA n = A at *
  generalize chA c = C at *
  by_cases h0 : i < 0
  · clear hi
    go_enter Try.func21, Try.ntmps21
    go_wp2_with (first | ((with_reducible refine wpList_build_at ?_ 30 #[] ?_ [] ?_ _ (HB.out _) ?_); rfl; rfl; rfl) | ((with_reducible refine wpList_store_at ?_ 30 (.tmp 6) (.tmp 14) ?_ _ ?_ _ ?_ HST6.out ?_); rfl; rfl; rfl; rfl))
    refine bodyPost_ret (v := .tuple #[.agg Z, .int .i64 1]) ?_ rfl ⟨rfl, O6.out.below0⟩
    have := HL6.out
    simp [results, Try.results21, asAddr, this]
  · have h4 : 4 ≤ i := by omega
    have b0 : decide (i < 0) = false := decide_eq_false h0
    have b1 : decide (4 ≤ i) = true := decide_eq_true h4
    have b2 : decide (3 < i) = true := decide_eq_true (by omega)
    have h3 : 3 < i := by omega
    clear hi h0
    go_enter Try.func21, Try.ntmps21
    go_wp2_with (first | ((with_reducible refine wpList_build_at ?_ 30 #[] ?_ [] ?_ _ (HB.out _) ?_); rfl; rfl; rfl) | ((with_reducible refine wpList_store_at ?_ 30 (.tmp 6) (.tmp 14) ?_ _ ?_ _ ?_ HST6.out ?_); rfl; rfl; rfl; rfl))
    refine bodyPost_ret (v := .tuple #[.agg Z, .int .i64 1]) ?_ rfl ⟨rfl, O6.out.below0⟩
    have := HL6.out
    simp [results, Try.results21, asAddr, this]

theorem with_any (n : Nd) (i : Int) (c : Ch) (w : World) (h : n.Ok) (hc : c.Ok) :
    Calls Try.prog 21 #[.agg (ndA n), .int .i64 i, .agg (chA c)] w fun e w' => e = .returned (.tuple #[.agg (ndA (wiN n i c)), .int .i64 (wiE n i c)]) ∧ Below w.heap.size w w' := by
  by_cases hi : 0 ≤ i ∧ i < 4
  · obtain ⟨k, rfl⟩ := Int.eq_ofNat_of_zero_le hi.1
    have e1 : wiN n k c = if mayN (n.put k c) = true then n.put k c else ndZ := by
      unfold wiN
      rw [Int.toNat_natCast]
      by_cases hm : mayN (n.put k c) = true
      · rw [if_pos hm, if_pos ⟨hi.1, hi.2, hm⟩]
      · rw [if_neg hm, if_neg (fun x => hm x.2.2)]
    have e2 : wiE n k c = if mayN (n.put k c) = true then 0 else 1 := by
      unfold wiE
      rw [Int.toNat_natCast]
      by_cases hm : mayN (n.put k c) = true
      · rw [if_pos hm, if_pos ⟨hi.1, hi.2, hm⟩]
      · rw [if_neg hm, if_neg (fun x => hm x.2.2)]
    rw [e1, e2]
    exact with_ok n k c w h (by omega) hc
  · rw [wiN, wiE, if_neg (fun x => hi ⟨x.1, x.2.1⟩), if_neg (fun x => hi ⟨x.1, x.2.1⟩)]
    exact with_bad n i c w h (by omega) hc

set_option maxHeartbeats 4000000 in
theorem rwith_ok (n : Nd) (i : Nat) (c : Ch) (w : World) (h : n.Ok) (hi : i < 4) (hc : c.Ok) :
    Calls Try.prog 23 #[.agg (ndA n), .int .i64 i, .agg (chA c)] w fun e w' => e = .returned (.tuple #[.agg (ndA (if mayN (n.put i c) = true then n.put i c else ndZ)), .int .i64 (if mayN (n.put i c) = true then 0 else 1)]) ∧ Below w.heap.size w w' := by
  have hz := zero37
  have hp := h.put_ok i hc
  have g1 := w3_n w n c 37 34
  have HLC := Lib.hid (load34 (chA_size hc) (w3_c w n c 37 34))
  obtain ⟨W4, hst4, g4, o4, _⟩ := put_at (W3 w n c 37 34) (o := 1 + i * 21) (B := chA c) g1 info34s (chA_size hc) (by rw [ndA_size h]; omega) (chA_one _)
  rw [nd_put h hi hc] at g4
  have HST := Lib.hid hst4
  have G3 := Lib.hid (o4.row (w3_r w n c 37 34) (by omega))
  have G4 := Lib.hid g4
  have HL4 := Lib.hid (load37 (ndA_size hp) g4)
  have O4 := Lib.hid ((w3_only w n c 37 34).fresh o4 (by intro j hj; omega))
  have HM := Lib.hid (rmay_any _ W4 hp)
  have HB := Lib.hid build37
  have HSP := Lib.hid (ndA_size hp)
  have HSZ := Lib.hid (ndA_size ndZ_ok)
  have H1P := Lib.hid (ndA_one (n.put i c))
  have H1Z := Lib.hid (ndA_one ndZ)
  have hi0 : (0 : Int) ≤ (i : Int) := by omega
  have hi4 : (i : Int) < 4 := by omega
  have hi4n : i < 4 := hi
  have b0 : decide ((i : Int) < 0) = false := decide_eq_false (by omega)
  have b1 : decide ((4 : Int) ≤ (i : Int)) = false := decide_eq_false (by omega)
  have b2 : decide ((3 : Int) < (i : Int)) = false := decide_eq_false (by omega)
  unfold W3 at *
  clear g1 hst4 g4 o4 hp h hc
  cases hm : mayN (n.put i c)
  · rw [hm] at HM
    simp only [Bool.false_eq_true, if_false]
    clear hm
    generalize ndA ndZ = Z at *
    generalize ndA (n.put i c) = P at *
    generalize ndA n = A at *
    generalize chA c = C at *
    go_enter Try.func23, Try.ntmps23
    go_wp2_with (first | ((with_reducible refine wpList_load_at ?_ 34 (.tmp 5) ?_ _ ?_ _ HLC.out ?_); rfl; rfl; rfl) | ((with_reducible refine wpList_store_at ?_ 34 (.tmp 18) (.tmp 16) ?_ _ ?_ _ ?_ HST.out ?_); rfl; rfl; rfl; rfl) | ((with_reducible refine wpList_load_at ?_ 37 (.tmp 3) ?_ _ ?_ _ HL4.out ?_); rfl; rfl; rfl))
    refine HM.out.mono ?_
    rintro e w5 ⟨rfl, h5⟩
    obtain ⟨W6, hst6, g6, o6, _⟩ := store_row w5 ((Only.of_below (S := fun _ => False) h5).row G3.out (fun x => x)) info37s HSZ.out HSZ.out H1Z.out
    have HST6 := Lib.hid hst6
    have HL6 := Lib.hid (load37 HSZ.out g6)
    have O6 := Lib.hid ((O4.out.trans (Only.of_below h5)).fresh o6 (by intro j hj; omega))
    clear h5 hst6 g6 o6
    go_wp2_with (first | ((with_reducible refine wpList_build_at ?_ 37 #[] ?_ [] ?_ _ (HB.out _) ?_); rfl; rfl; rfl) | ((with_reducible refine wpList_store_at ?_ 37 (.tmp 6) (.tmp 22) ?_ _ ?_ _ ?_ HST6.out ?_); rfl; rfl; rfl; rfl))
    refine bodyPost_ret (v := .tuple #[.agg Z, .int .i64 1]) ?_ rfl ⟨rfl, O6.out.below0⟩
    have := HL6.out
    simp [results, Try.results23, asAddr, this]
  · rw [hm] at HM
    simp only [if_true]
    clear hm
    generalize ndA ndZ = Z at *
    generalize ndA (n.put i c) = P at *
    generalize ndA n = A at *
    generalize chA c = C at *
    go_enter Try.func23, Try.ntmps23
    go_wp2_with (first | ((with_reducible refine wpList_load_at ?_ 34 (.tmp 5) ?_ _ ?_ _ HLC.out ?_); rfl; rfl; rfl) | ((with_reducible refine wpList_store_at ?_ 34 (.tmp 18) (.tmp 16) ?_ _ ?_ _ ?_ HST.out ?_); rfl; rfl; rfl; rfl) | ((with_reducible refine wpList_load_at ?_ 37 (.tmp 3) ?_ _ ?_ _ HL4.out ?_); rfl; rfl; rfl))
    refine HM.out.mono ?_
    rintro e w5 ⟨rfl, h5⟩
    have HLP := Lib.hid (load37 HSP.out ((Only.of_below (S := fun _ => False) h5).row G4.out (fun x => x)))
    obtain ⟨W6, hst6, g6, o6, _⟩ := store_row w5 ((Only.of_below (S := fun _ => False) h5).row G3.out (fun x => x)) info37s HSP.out HSZ.out H1P.out
    have HST6 := Lib.hid hst6
    have HL6 := Lib.hid (load37 HSP.out g6)
    have O6 := Lib.hid ((O4.out.trans (Only.of_below h5)).fresh o6 (by intro j hj; omega))
    clear h5 hst6 g6 o6
    go_wp2_with (first | ((with_reducible refine wpList_load_at ?_ 37 (.tmp 3) ?_ _ ?_ _ HLP.out ?_); rfl; rfl; rfl) | ((with_reducible refine wpList_store_at ?_ 37 (.tmp 6) (.tmp 23) ?_ _ ?_ _ ?_ HST6.out ?_); rfl; rfl; rfl; rfl))
    refine bodyPost_ret (v := .tuple #[.agg P, .int .i64 0]) ?_ rfl ⟨rfl, O6.out.below0⟩
    have := HL6.out
    simp [results, Try.results23, asAddr, this]

set_option maxHeartbeats 4000000 in
theorem rwith_bad (n : Nd) (i : Int) (c : Ch) (w : World) (h : n.Ok) (hi : i < 0 ∨ 4 ≤ i) (hc : c.Ok) :
    Calls Try.prog 23 #[.agg (ndA n), .int .i64 i, .agg (chA c)] w fun e w' => e = .returned (.tuple #[.agg (ndA ndZ), .int .i64 1]) ∧ Below w.heap.size w w' := by
  have hz := zero37
  obtain ⟨W6, hst6, g6, o6, _⟩ := store_row (W3 w n c 37 34) (w3_r w n c 37 34) info37s (ndA_size ndZ_ok) (ndA_size ndZ_ok) (ndA_one _)
  have HST6 := Lib.hid hst6
  have HL6 := Lib.hid (load37 (ndA_size ndZ_ok) g6)
  have O6 := Lib.hid ((w3_only w n c 37 34).fresh o6 (by intro j hj; omega))
  have HB := Lib.hid build37
  unfold W3 at *
  clear hst6 g6 o6 h hc
  generalize ndA ndZ = Z at *
  generalize ndA n = A at *
  generalize chA c = C at *
  by_cases h0 : i < 0
  · clear hi
    go_enter Try.func23, Try.ntmps23
    go_wp2_with (first | ((with_reducible refine wpList_build_at ?_ 37 #[] ?_ [] ?_ _ (HB.out _) ?_); rfl; rfl; rfl) | ((with_reducible refine wpList_store_at ?_ 37 (.tmp 6) (.tmp 14) ?_ _ ?_ _ ?_ HST6.out ?_); rfl; rfl; rfl; rfl))
    refine bodyPost_ret (v := .tuple #[.agg Z, .int .i64 1]) ?_ rfl ⟨rfl, O6.out.below0⟩
    have := HL6.out
    simp [results, Try.results23, asAddr, this]
  · have h4 : 4 ≤ i := by omega
    have b0 : decide (i < 0) = false := decide_eq_false h0
    have b1 : decide (4 ≤ i) = true := decide_eq_true h4
    have b2 : decide (3 < i) = true := decide_eq_true (by omega)
    have h3 : 3 < i := by omega
    clear hi h0
    go_enter Try.func23, Try.ntmps23
    go_wp2_with (first | ((with_reducible refine wpList_build_at ?_ 37 #[] ?_ [] ?_ _ (HB.out _) ?_); rfl; rfl; rfl) | ((with_reducible refine wpList_store_at ?_ 37 (.tmp 6) (.tmp 14) ?_ _ ?_ _ ?_ HST6.out ?_); rfl; rfl; rfl; rfl))
    refine bodyPost_ret (v := .tuple #[.agg Z, .int .i64 1]) ?_ rfl ⟨rfl, O6.out.below0⟩
    have := HL6.out
    simp [results, Try.results23, asAddr, this]

theorem rwith_any (n : Nd) (i : Int) (c : Ch) (w : World) (h : n.Ok) (hc : c.Ok) :
    Calls Try.prog 23 #[.agg (ndA n), .int .i64 i, .agg (chA c)] w fun e w' => e = .returned (.tuple #[.agg (ndA (wiN n i c)), .int .i64 (wiE n i c)]) ∧ Below w.heap.size w w' := by
  by_cases hi : 0 ≤ i ∧ i < 4
  · obtain ⟨k, rfl⟩ := Int.eq_ofNat_of_zero_le hi.1
    have e1 : wiN n k c = if mayN (n.put k c) = true then n.put k c else ndZ := by
      unfold wiN
      rw [Int.toNat_natCast]
      by_cases hm : mayN (n.put k c) = true
      · rw [if_pos hm, if_pos ⟨hi.1, hi.2, hm⟩]
      · rw [if_neg hm, if_neg (fun x => hm x.2.2)]
    have e2 : wiE n k c = if mayN (n.put k c) = true then 0 else 1 := by
      unfold wiE
      rw [Int.toNat_natCast]
      by_cases hm : mayN (n.put k c) = true
      · rw [if_pos hm, if_pos ⟨hi.1, hi.2, hm⟩]
      · rw [if_neg hm, if_neg (fun x => hm x.2.2)]
    rw [e1, e2]
    exact rwith_ok n k c w h (by omega) hc
  · rw [wiN, wiE, if_neg (fun x => hi ⟨x.1, x.2.1⟩), if_neg (fun x => hi ⟨x.1, x.2.1⟩)]
    exact rwith_bad n i c w h (by omega) hc
end Go.Proofs.Ytbmckmlekhkpeaa
