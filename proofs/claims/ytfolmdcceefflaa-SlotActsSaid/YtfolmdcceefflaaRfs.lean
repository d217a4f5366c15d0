/-
  The reference's slot: what is wrong, a change, Write, Erase, Read. (Printed by mkrfs.py.)
-/
import Derived.Test.YtfolmdcceefflaaRfa
import Derived.Test.YtfolmdcceefflaaHld
set_option linter.unusedVariables false
namespace Go.Proofs.Ytfolmdcceefflaa
open Go.RowKit

theorem rwrong_any (s : St) (i : Int) (w : World) :
    Calls Try.prog 31 #[.agg (raA s), .int .i64 i] w fun e w' => e = .returned (.int .i64 (s.wrong i)) ∧ Below w.heap.size w w' := by
  have T0 := Tab.box1 w (raA s) 51
  have c0 := T0.c 0 rfl 0 (ra_off s)
  have HT := Lib.hid T0
  unfold St.wrong
  clear T0
  generalize raA s = A at *
  cases hoff : s.p.off
  · rw [hoff] at c0
    rw [if_neg (by simp)]
    clear hoff
    by_cases h0 : i = 0
    · subst h0
      rw [if_neg (by omega)]
      go_enter Try.func31, Try.ntmps31
      go_wp2_with fail
      go_ret
      exact ⟨rfl, HT.out.below⟩
    · have b0 : (i == 0) = false := by rw [beq_eq_false_iff_ne]; exact h0
      have n0 : (i != 0) = true := by rw [bne, b0]; rfl
      by_cases h1 : i = 1
      · subst h1
        rw [if_neg (by omega)]
        go_enter Try.func31, Try.ntmps31
        go_wp2_with fail
        go_ret
        exact ⟨rfl, HT.out.below⟩
      · have b1 : (i == 1) = false := by rw [beq_eq_false_iff_ne]; exact h1
        have n1 : (i != 1) = true := by rw [bne, b1]; rfl
        rw [if_pos (by omega)]
        go_enter Try.func31, Try.ntmps31
        go_wp2_with fail
        go_ret
        exact ⟨rfl, HT.out.below⟩
  · rw [hoff] at c0
    rw [if_pos rfl]
    clear hoff
    go_enter Try.func31, Try.ntmps31
    go_wp2_with fail
    go_ret
    exact ⟨rfl, HT.out.below⟩

theorem next_keep (p : Pw) : p.next.keep = p.keep := by
  unfold Pw.next
  split
  · rfl
  · split <;> rfl


set_option maxHeartbeats 4000000 in
theorem rchange_0 (s : St) (e : Ce) (w : World) (h : s.Ok) (he : e.Ok) :
    Calls Try.prog 32 #[.agg (raA s), .int .i64 0, .agg (ceA e)] w fun x w' => x = .returned (.tuple #[.agg (raA (s.put 0 e)), .int .i64 s.p.err]) ∧ Below w.heap.size w w' := by
  have hz51 := zero51
  have hz46 := zero46
  have T0 := Tab.box3 w (raA s) (ceA e) (raA st0) 51 48 51
  have hl := T0.load 2 rfl 46 _ Try.underlying46 rfl 0 info46s (by rw [raA_size h]; omega)
  rw [ra_pw] at hl
  have HL := Lib.hid hl
  have HC := Lib.hid (fun W => ract_any s.p W h.p)
  have HT := Lib.hid T0
  have hok1 : St.Ok ⟨s.p.next, s.c, s.d⟩ := ⟨Pw.next_ok h.p, h.c, h.d⟩
  have hok2 : St.Ok ⟨s.p.next, e, s.d⟩ := ⟨Pw.next_ok h.p, he, h.d⟩
  have hput : s.put 0 e = ⟨s.p.next, s.p.set s.c e, s.d⟩ := if_pos rfl
  rw [hput]
  have HH := Lib.hid h
  clear T0 hl hput
  have HPC := Lib.hid (pw_cells s.p)
  generalize hP : s.p.cells = P at *
  unfold Pw.set Pw.err
  cases hwh : s.p.whole
  · rw [hwh] at HC
    by_cases hk : s.p.keep.tmod 2 = 1
    · have hkb : (s.p.keep.tmod 2 == 1) = true := by rw [beq_iff_eq]; exact hk
      rw [if_pos (Or.inr hk), if_neg (by simp)]
      clear hwh hk
      go_enter Try.func32, Try.ntmps32
      go_wp2_with (((with_reducible refine wpList_load_at ?_ 46 (.tmp 12) ?_ _ ?_ _ HL.out ?_); rfl; rfl; rfl))
      refine (HC.out _).mono ?_
      rintro x w1 ⟨rfl, k1⟩
      have hok1 : St.Ok ⟨s.p.next, s.c, s.d⟩ := ⟨Pw.next_ok HH.out.p, HH.out.c, HH.out.d⟩
      have hok2 : St.Ok ⟨s.p.next, e, s.d⟩ := ⟨Pw.next_ok HH.out.p, he, HH.out.d⟩
      obtain ⟨W2, hs2, T2, -⟩ := (HT.out.call k1).fresh p0.cells 46 info46s (pw_size s.p.next) (pw_size p0) (pw_one _)
      have HS2 := Lib.hid hs2
      have HL2 := Lib.hid (T2.loadAll 0 rfl 46 _ Try.underlying46 rfl info46s (pw_size s.p.next))
      obtain ⟨W3, hs3, T3, -⟩ := T2.part 3 rfl 46 0 info46s (pw_size s.p.next) (by rw [raA_size HH.out]; omega) (pw_one _)
      rw [ra_putp] at T3
      have HS3 := Lib.hid hs3
      have ck := T3.c 0 rfl 2 (v := .int .i64 s.p.keep) (by rw [← next_keep]; rfl)
      have HLE := Lib.hid (T3.loadAll 2 rfl 48 _ Try.underlying48 rfl info48s (ceA_size he))
      obtain ⟨W4, hs4, T4, -⟩ := T3.part 3 rfl 48 4 info48s (ceA_size he) (by show 4 + 18 ≤ (raA ⟨s.p.next, s.c, s.d⟩).size; rw [raA_size hok1]; omega) (ceL_one _)
      rw [ra_putc hok1 he] at T4
      have HS4 := Lib.hid hs4
      have HL4 := Lib.hid (T4.loadAll 3 rfl 51 _ Try.underlying51 rfl info51s (raA_size hok2))
      obtain ⟨W5, hs5, T5, -⟩ := T4.whole 1 rfl 51 info51s (raA_size hok2) (raA_size st0_ok) (raA_one _)
      have HS5 := Lib.hid hs5
      have HL5 := Lib.hid (T5.loadAll 1 rfl 51 _ Try.underlying51 rfl info51s (raA_size hok2))
      have HT5 := Lib.hid T5
      clear k1 hs2 T2 hs3 T3 hs4 T4 hs5 T5 hok1 hok2
      generalize s.p.keep = kp at *
      go_wp2_with (first | ((with_reducible refine wpList_store_at ?_ 46 (.tmp 8) (.tmp 15) ?_ _ ?_ _ ?_ HS2.out ?_); rfl; rfl; rfl; rfl) | ((with_reducible refine wpList_load_at ?_ 46 (.tmp 8) ?_ _ ?_ _ HL2.out ?_); rfl; rfl; rfl) | ((with_reducible refine wpList_store_at ?_ 46 (.tmp 19) (.tmp 18) ?_ _ ?_ _ ?_ HS3.out ?_); rfl; rfl; rfl; rfl) | ((with_reducible refine wpList_load_at ?_ 48 (.tmp 5) ?_ _ ?_ _ HLE.out ?_); rfl; rfl; rfl) | ((with_reducible refine wpList_store_at ?_ 48 (.tmp 30) (.tmp 28) ?_ _ ?_ _ ?_ HS4.out ?_); rfl; rfl; rfl; rfl) | ((with_reducible refine wpList_load_at ?_ 51 (.tmp 3) ?_ _ ?_ _ HL4.out ?_); rfl; rfl; rfl) | ((with_reducible refine wpList_store_at ?_ 51 (.tmp 6) (.tmp 33) ?_ _ ?_ _ ?_ HS5.out ?_); rfl; rfl; rfl; rfl))
      refine bodyPost_ret (v := .tuple #[.agg (raA ⟨s.p.next, e, s.d⟩), .int .i64 4]) ?_ rfl ⟨rfl, HT5.out.below⟩
      have := HL5.out
      first
        | simp [results, Try.results32, asAddr, this]
        | simp [results, Try.results32, asAddr, Act.put, this]
    · have hkb : (s.p.keep.tmod 2 == 1) = false := by rw [beq_eq_false_iff_ne]; exact hk
      rw [if_neg (by simp [hk]), if_neg (by simp)]
      clear hwh hk
      go_enter Try.func32, Try.ntmps32
      go_wp2_with (((with_reducible refine wpList_load_at ?_ 46 (.tmp 12) ?_ _ ?_ _ HL.out ?_); rfl; rfl; rfl))
      refine (HC.out _).mono ?_
      rintro x w1 ⟨rfl, k1⟩
      have hok1 : St.Ok ⟨s.p.next, s.c, s.d⟩ := ⟨Pw.next_ok HH.out.p, HH.out.c, HH.out.d⟩
      have hok2 : St.Ok ⟨s.p.next, e, s.d⟩ := ⟨Pw.next_ok HH.out.p, he, HH.out.d⟩
      obtain ⟨W2, hs2, T2, -⟩ := (HT.out.call k1).fresh p0.cells 46 info46s (pw_size s.p.next) (pw_size p0) (pw_one _)
      have HS2 := Lib.hid hs2
      have HL2 := Lib.hid (T2.loadAll 0 rfl 46 _ Try.underlying46 rfl info46s (pw_size s.p.next))
      obtain ⟨W3, hs3, T3, -⟩ := T2.part 3 rfl 46 0 info46s (pw_size s.p.next) (by rw [raA_size HH.out]; omega) (pw_one _)
      rw [ra_putp] at T3
      have HS3 := Lib.hid hs3
      have ck := T3.c 0 rfl 2 (v := .int .i64 s.p.keep) (by rw [← next_keep]; rfl)
      have HL4 := Lib.hid (T3.loadAll 3 rfl 51 _ Try.underlying51 rfl info51s (raA_size hok1))
      obtain ⟨W5, hs5, T5, -⟩ := T3.whole 1 rfl 51 info51s (raA_size hok1) (raA_size st0_ok) (raA_one _)
      have HS5 := Lib.hid hs5
      have HL5 := Lib.hid (T5.loadAll 1 rfl 51 _ Try.underlying51 rfl info51s (raA_size hok1))
      have HT5 := Lib.hid T5
      clear k1 hs2 T2 hs3 T3 hs5 T5 hok1 hok2
      generalize s.p.keep = kp at *
      go_wp2_with (first | ((with_reducible refine wpList_store_at ?_ 46 (.tmp 8) (.tmp 15) ?_ _ ?_ _ ?_ HS2.out ?_); rfl; rfl; rfl; rfl) | ((with_reducible refine wpList_load_at ?_ 46 (.tmp 8) ?_ _ ?_ _ HL2.out ?_); rfl; rfl; rfl) | ((with_reducible refine wpList_store_at ?_ 46 (.tmp 19) (.tmp 18) ?_ _ ?_ _ ?_ HS3.out ?_); rfl; rfl; rfl; rfl) | ((with_reducible refine wpList_load_at ?_ 51 (.tmp 3) ?_ _ ?_ _ HL4.out ?_); rfl; rfl; rfl) | ((with_reducible refine wpList_store_at ?_ 51 (.tmp 6) (.tmp 33) ?_ _ ?_ _ ?_ HS5.out ?_); rfl; rfl; rfl; rfl))
      refine bodyPost_ret (v := .tuple #[.agg (raA ⟨s.p.next, s.c, s.d⟩), .int .i64 4]) ?_ rfl ⟨rfl, HT5.out.below⟩
      have := HL5.out
      first
        | simp [results, Try.results32, asAddr, this]
        | simp [results, Try.results32, asAddr, Act.put, this]
  · rw [hwh] at HC
    rw [if_pos (Or.inl rfl), if_pos rfl]
    clear hwh
    go_enter Try.func32, Try.ntmps32
    go_wp2_with (((with_reducible refine wpList_load_at ?_ 46 (.tmp 12) ?_ _ ?_ _ HL.out ?_); rfl; rfl; rfl))
    refine (HC.out _).mono ?_
    rintro x w1 ⟨rfl, k1⟩
    have hok1 : St.Ok ⟨s.p.next, s.c, s.d⟩ := ⟨Pw.next_ok HH.out.p, HH.out.c, HH.out.d⟩
    have hok2 : St.Ok ⟨s.p.next, e, s.d⟩ := ⟨Pw.next_ok HH.out.p, he, HH.out.d⟩
    obtain ⟨W2, hs2, T2, -⟩ := (HT.out.call k1).fresh p0.cells 46 info46s (pw_size s.p.next) (pw_size p0) (pw_one _)
    have HS2 := Lib.hid hs2
    have HL2 := Lib.hid (T2.loadAll 0 rfl 46 _ Try.underlying46 rfl info46s (pw_size s.p.next))
    obtain ⟨W3, hs3, T3, -⟩ := T2.part 3 rfl 46 0 info46s (pw_size s.p.next) (by rw [raA_size HH.out]; omega) (pw_one _)
    rw [ra_putp] at T3
    have HS3 := Lib.hid hs3
    have HLE := Lib.hid (T3.loadAll 2 rfl 48 _ Try.underlying48 rfl info48s (ceA_size he))
    obtain ⟨W4, hs4, T4, -⟩ := T3.part 3 rfl 48 4 info48s (ceA_size he) (by show 4 + 18 ≤ (raA ⟨s.p.next, s.c, s.d⟩).size; rw [raA_size hok1]; omega) (ceL_one _)
    rw [ra_putc hok1 he] at T4
    have HS4 := Lib.hid hs4
    have HL4 := Lib.hid (T4.loadAll 3 rfl 51 _ Try.underlying51 rfl info51s (raA_size hok2))
    obtain ⟨W5, hs5, T5, -⟩ := T4.whole 1 rfl 51 info51s (raA_size hok2) (raA_size st0_ok) (raA_one _)
    have HS5 := Lib.hid hs5
    have HL5 := Lib.hid (T5.loadAll 1 rfl 51 _ Try.underlying51 rfl info51s (raA_size hok2))
    have HT5 := Lib.hid T5
    clear k1 hs2 T2 hs3 T3 hs4 T4 hs5 T5 hok1 hok2
    go_wp2_with (first | ((with_reducible refine wpList_store_at ?_ 46 (.tmp 8) (.tmp 15) ?_ _ ?_ _ ?_ HS2.out ?_); rfl; rfl; rfl; rfl) | ((with_reducible refine wpList_load_at ?_ 46 (.tmp 8) ?_ _ ?_ _ HL2.out ?_); rfl; rfl; rfl) | ((with_reducible refine wpList_store_at ?_ 46 (.tmp 19) (.tmp 18) ?_ _ ?_ _ ?_ HS3.out ?_); rfl; rfl; rfl; rfl) | ((with_reducible refine wpList_load_at ?_ 48 (.tmp 5) ?_ _ ?_ _ HLE.out ?_); rfl; rfl; rfl) | ((with_reducible refine wpList_store_at ?_ 48 (.tmp 30) (.tmp 28) ?_ _ ?_ _ ?_ HS4.out ?_); rfl; rfl; rfl; rfl) | ((with_reducible refine wpList_load_at ?_ 51 (.tmp 3) ?_ _ ?_ _ HL4.out ?_); rfl; rfl; rfl) | ((with_reducible refine wpList_store_at ?_ 51 (.tmp 6) (.tmp 34) ?_ _ ?_ _ ?_ HS5.out ?_); rfl; rfl; rfl; rfl))
    refine bodyPost_ret (v := .tuple #[.agg (raA ⟨s.p.next, e, s.d⟩), .int .i64 0]) ?_ rfl ⟨rfl, HT5.out.below⟩
    have := HL5.out
    first
      | simp [results, Try.results32, asAddr, this]
      | simp [results, Try.results32, asAddr, Act.put, this]


set_option maxHeartbeats 4000000 in
theorem rchange_1 (s : St) (e : Ce) (w : World) (h : s.Ok) (he : e.Ok) :
    Calls Try.prog 32 #[.agg (raA s), .int .i64 1, .agg (ceA e)] w fun x w' => x = .returned (.tuple #[.agg (raA (s.put 1 e)), .int .i64 s.p.err]) ∧ Below w.heap.size w w' := by
  have hz51 := zero51
  have hz46 := zero46
  have T0 := Tab.box3 w (raA s) (ceA e) (raA st0) 51 48 51
  have hl := T0.load 2 rfl 46 _ Try.underlying46 rfl 0 info46s (by rw [raA_size h]; omega)
  rw [ra_pw] at hl
  have HL := Lib.hid hl
  have HC := Lib.hid (fun W => ract_any s.p W h.p)
  have HT := Lib.hid T0
  have hok1 : St.Ok ⟨s.p.next, s.c, s.d⟩ := ⟨Pw.next_ok h.p, h.c, h.d⟩
  have hok2 : St.Ok ⟨s.p.next, s.c, e⟩ := ⟨Pw.next_ok h.p, h.c, he⟩
  have hput : s.put 1 e = ⟨s.p.next, s.c, s.p.set s.d e⟩ := if_neg (by decide)
  rw [hput]
  have HH := Lib.hid h
  clear T0 hl hput
  have HPC := Lib.hid (pw_cells s.p)
  generalize hP : s.p.cells = P at *
  unfold Pw.set Pw.err
  cases hwh : s.p.whole
  · rw [hwh] at HC
    by_cases hk : s.p.keep.tmod 2 = 1
    · have hkb : (s.p.keep.tmod 2 == 1) = true := by rw [beq_iff_eq]; exact hk
      rw [if_pos (Or.inr hk), if_neg (by simp)]
      clear hwh hk
      go_enter Try.func32, Try.ntmps32
      go_wp2_with (((with_reducible refine wpList_load_at ?_ 46 (.tmp 12) ?_ _ ?_ _ HL.out ?_); rfl; rfl; rfl))
      refine (HC.out _).mono ?_
      rintro x w1 ⟨rfl, k1⟩
      have hok1 : St.Ok ⟨s.p.next, s.c, s.d⟩ := ⟨Pw.next_ok HH.out.p, HH.out.c, HH.out.d⟩
      have hok2 : St.Ok ⟨s.p.next, s.c, e⟩ := ⟨Pw.next_ok HH.out.p, HH.out.c, he⟩
      obtain ⟨W2, hs2, T2, -⟩ := (HT.out.call k1).fresh p0.cells 46 info46s (pw_size s.p.next) (pw_size p0) (pw_one _)
      have HS2 := Lib.hid hs2
      have HL2 := Lib.hid (T2.loadAll 0 rfl 46 _ Try.underlying46 rfl info46s (pw_size s.p.next))
      obtain ⟨W3, hs3, T3, -⟩ := T2.part 3 rfl 46 0 info46s (pw_size s.p.next) (by rw [raA_size HH.out]; omega) (pw_one _)
      rw [ra_putp] at T3
      have HS3 := Lib.hid hs3
      have ck := T3.c 0 rfl 2 (v := .int .i64 s.p.keep) (by rw [← next_keep]; rfl)
      have HLE := Lib.hid (T3.loadAll 2 rfl 48 _ Try.underlying48 rfl info48s (ceA_size he))
      obtain ⟨W4, hs4, T4, -⟩ := T3.part 3 rfl 48 22 info48s (ceA_size he) (by show 22 + 18 ≤ (raA ⟨s.p.next, s.c, s.d⟩).size; rw [raA_size hok1]; omega) (ceL_one _)
      rw [ra_putd hok1 he] at T4
      have HS4 := Lib.hid hs4
      have HL4 := Lib.hid (T4.loadAll 3 rfl 51 _ Try.underlying51 rfl info51s (raA_size hok2))
      obtain ⟨W5, hs5, T5, -⟩ := T4.whole 1 rfl 51 info51s (raA_size hok2) (raA_size st0_ok) (raA_one _)
      have HS5 := Lib.hid hs5
      have HL5 := Lib.hid (T5.loadAll 1 rfl 51 _ Try.underlying51 rfl info51s (raA_size hok2))
      have HT5 := Lib.hid T5
      clear k1 hs2 T2 hs3 T3 hs4 T4 hs5 T5 hok1 hok2
      generalize s.p.keep = kp at *
      go_wp2_with (first | ((with_reducible refine wpList_store_at ?_ 46 (.tmp 8) (.tmp 15) ?_ _ ?_ _ ?_ HS2.out ?_); rfl; rfl; rfl; rfl) | ((with_reducible refine wpList_load_at ?_ 46 (.tmp 8) ?_ _ ?_ _ HL2.out ?_); rfl; rfl; rfl) | ((with_reducible refine wpList_store_at ?_ 46 (.tmp 19) (.tmp 18) ?_ _ ?_ _ ?_ HS3.out ?_); rfl; rfl; rfl; rfl) | ((with_reducible refine wpList_load_at ?_ 48 (.tmp 5) ?_ _ ?_ _ HLE.out ?_); rfl; rfl; rfl) | ((with_reducible refine wpList_store_at ?_ 48 (.tmp 30) (.tmp 28) ?_ _ ?_ _ ?_ HS4.out ?_); rfl; rfl; rfl; rfl) | ((with_reducible refine wpList_load_at ?_ 51 (.tmp 3) ?_ _ ?_ _ HL4.out ?_); rfl; rfl; rfl) | ((with_reducible refine wpList_store_at ?_ 51 (.tmp 6) (.tmp 33) ?_ _ ?_ _ ?_ HS5.out ?_); rfl; rfl; rfl; rfl))
      refine bodyPost_ret (v := .tuple #[.agg (raA ⟨s.p.next, s.c, e⟩), .int .i64 4]) ?_ rfl ⟨rfl, HT5.out.below⟩
      have := HL5.out
      first
        | simp [results, Try.results32, asAddr, this]
        | simp [results, Try.results32, asAddr, Act.put, this]
    · have hkb : (s.p.keep.tmod 2 == 1) = false := by rw [beq_eq_false_iff_ne]; exact hk
      rw [if_neg (by simp [hk]), if_neg (by simp)]
      clear hwh hk
      go_enter Try.func32, Try.ntmps32
      go_wp2_with (((with_reducible refine wpList_load_at ?_ 46 (.tmp 12) ?_ _ ?_ _ HL.out ?_); rfl; rfl; rfl))
      refine (HC.out _).mono ?_
      rintro x w1 ⟨rfl, k1⟩
      have hok1 : St.Ok ⟨s.p.next, s.c, s.d⟩ := ⟨Pw.next_ok HH.out.p, HH.out.c, HH.out.d⟩
      have hok2 : St.Ok ⟨s.p.next, s.c, e⟩ := ⟨Pw.next_ok HH.out.p, HH.out.c, he⟩
      obtain ⟨W2, hs2, T2, -⟩ := (HT.out.call k1).fresh p0.cells 46 info46s (pw_size s.p.next) (pw_size p0) (pw_one _)
      have HS2 := Lib.hid hs2
      have HL2 := Lib.hid (T2.loadAll 0 rfl 46 _ Try.underlying46 rfl info46s (pw_size s.p.next))
      obtain ⟨W3, hs3, T3, -⟩ := T2.part 3 rfl 46 0 info46s (pw_size s.p.next) (by rw [raA_size HH.out]; omega) (pw_one _)
      rw [ra_putp] at T3
      have HS3 := Lib.hid hs3
      have ck := T3.c 0 rfl 2 (v := .int .i64 s.p.keep) (by rw [← next_keep]; rfl)
      have HL4 := Lib.hid (T3.loadAll 3 rfl 51 _ Try.underlying51 rfl info51s (raA_size hok1))
      obtain ⟨W5, hs5, T5, -⟩ := T3.whole 1 rfl 51 info51s (raA_size hok1) (raA_size st0_ok) (raA_one _)
      have HS5 := Lib.hid hs5
      have HL5 := Lib.hid (T5.loadAll 1 rfl 51 _ Try.underlying51 rfl info51s (raA_size hok1))
      have HT5 := Lib.hid T5
      clear k1 hs2 T2 hs3 T3 hs5 T5 hok1 hok2
      generalize s.p.keep = kp at *
      go_wp2_with (first | ((with_reducible refine wpList_store_at ?_ 46 (.tmp 8) (.tmp 15) ?_ _ ?_ _ ?_ HS2.out ?_); rfl; rfl; rfl; rfl) | ((with_reducible refine wpList_load_at ?_ 46 (.tmp 8) ?_ _ ?_ _ HL2.out ?_); rfl; rfl; rfl) | ((with_reducible refine wpList_store_at ?_ 46 (.tmp 19) (.tmp 18) ?_ _ ?_ _ ?_ HS3.out ?_); rfl; rfl; rfl; rfl) | ((with_reducible refine wpList_load_at ?_ 51 (.tmp 3) ?_ _ ?_ _ HL4.out ?_); rfl; rfl; rfl) | ((with_reducible refine wpList_store_at ?_ 51 (.tmp 6) (.tmp 33) ?_ _ ?_ _ ?_ HS5.out ?_); rfl; rfl; rfl; rfl))
      refine bodyPost_ret (v := .tuple #[.agg (raA ⟨s.p.next, s.c, s.d⟩), .int .i64 4]) ?_ rfl ⟨rfl, HT5.out.below⟩
      have := HL5.out
      first
        | simp [results, Try.results32, asAddr, this]
        | simp [results, Try.results32, asAddr, Act.put, this]
  · rw [hwh] at HC
    rw [if_pos (Or.inl rfl), if_pos rfl]
    clear hwh
    go_enter Try.func32, Try.ntmps32
    go_wp2_with (((with_reducible refine wpList_load_at ?_ 46 (.tmp 12) ?_ _ ?_ _ HL.out ?_); rfl; rfl; rfl))
    refine (HC.out _).mono ?_
    rintro x w1 ⟨rfl, k1⟩
    have hok1 : St.Ok ⟨s.p.next, s.c, s.d⟩ := ⟨Pw.next_ok HH.out.p, HH.out.c, HH.out.d⟩
    have hok2 : St.Ok ⟨s.p.next, s.c, e⟩ := ⟨Pw.next_ok HH.out.p, HH.out.c, he⟩
    obtain ⟨W2, hs2, T2, -⟩ := (HT.out.call k1).fresh p0.cells 46 info46s (pw_size s.p.next) (pw_size p0) (pw_one _)
    have HS2 := Lib.hid hs2
    have HL2 := Lib.hid (T2.loadAll 0 rfl 46 _ Try.underlying46 rfl info46s (pw_size s.p.next))
    obtain ⟨W3, hs3, T3, -⟩ := T2.part 3 rfl 46 0 info46s (pw_size s.p.next) (by rw [raA_size HH.out]; omega) (pw_one _)
    rw [ra_putp] at T3
    have HS3 := Lib.hid hs3
    have HLE := Lib.hid (T3.loadAll 2 rfl 48 _ Try.underlying48 rfl info48s (ceA_size he))
    obtain ⟨W4, hs4, T4, -⟩ := T3.part 3 rfl 48 22 info48s (ceA_size he) (by show 22 + 18 ≤ (raA ⟨s.p.next, s.c, s.d⟩).size; rw [raA_size hok1]; omega) (ceL_one _)
    rw [ra_putd hok1 he] at T4
    have HS4 := Lib.hid hs4
    have HL4 := Lib.hid (T4.loadAll 3 rfl 51 _ Try.underlying51 rfl info51s (raA_size hok2))
    obtain ⟨W5, hs5, T5, -⟩ := T4.whole 1 rfl 51 info51s (raA_size hok2) (raA_size st0_ok) (raA_one _)
    have HS5 := Lib.hid hs5
    have HL5 := Lib.hid (T5.loadAll 1 rfl 51 _ Try.underlying51 rfl info51s (raA_size hok2))
    have HT5 := Lib.hid T5
    clear k1 hs2 T2 hs3 T3 hs4 T4 hs5 T5 hok1 hok2
    go_wp2_with (first | ((with_reducible refine wpList_store_at ?_ 46 (.tmp 8) (.tmp 15) ?_ _ ?_ _ ?_ HS2.out ?_); rfl; rfl; rfl; rfl) | ((with_reducible refine wpList_load_at ?_ 46 (.tmp 8) ?_ _ ?_ _ HL2.out ?_); rfl; rfl; rfl) | ((with_reducible refine wpList_store_at ?_ 46 (.tmp 19) (.tmp 18) ?_ _ ?_ _ ?_ HS3.out ?_); rfl; rfl; rfl; rfl) | ((with_reducible refine wpList_load_at ?_ 48 (.tmp 5) ?_ _ ?_ _ HLE.out ?_); rfl; rfl; rfl) | ((with_reducible refine wpList_store_at ?_ 48 (.tmp 30) (.tmp 28) ?_ _ ?_ _ ?_ HS4.out ?_); rfl; rfl; rfl; rfl) | ((with_reducible refine wpList_load_at ?_ 51 (.tmp 3) ?_ _ ?_ _ HL4.out ?_); rfl; rfl; rfl) | ((with_reducible refine wpList_store_at ?_ 51 (.tmp 6) (.tmp 34) ?_ _ ?_ _ ?_ HS5.out ?_); rfl; rfl; rfl; rfl))
    refine bodyPost_ret (v := .tuple #[.agg (raA ⟨s.p.next, s.c, e⟩), .int .i64 0]) ?_ rfl ⟨rfl, HT5.out.below⟩
    have := HL5.out
    first
      | simp [results, Try.results32, asAddr, this]
      | simp [results, Try.results32, asAddr, Act.put, this]


theorem rchange_any (s : St) (i : Int) (e : Ce) (w : World) (h : s.Ok) (he : e.Ok) (hi : i = 0 ∨ i = 1) :
    Calls Try.prog 32 #[.agg (raA s), .int .i64 i, .agg (ceA e)] w fun x w' => x = .returned (.tuple #[.agg (raA (s.put i e)), .int .i64 s.p.err]) ∧ Below w.heap.size w w' := by
  rcases hi with rfl | rfl
  · exact rchange_0 s e w h he
  · exact rchange_1 s e w h he

set_option maxHeartbeats 4000000 in
theorem rerase_any (s : St) (i : Int) (w : World) (h : s.Ok) :
    Calls Try.prog 21 #[.agg (raA s), .int .i64 i] w fun x w' => x = .returned (.tuple #[.agg (raA (s.erase i)), .int .i64 (s.eraseE i)]) ∧ Below w.heap.size w w' := by
  have hz51 := zero51
  have T0 := Tab.box2 w (raA s) (raA st0) 51 51
  have HL := Lib.hid (T0.loadAll 1 rfl 51 _ Try.underlying51 rfl info51s (raA_size h))
  have HW := Lib.hid (fun W => rwrong_any s i W)
  have HT := Lib.hid T0
  have HB := Lib.hid build48
  have hok := St.erase_ok h i
  clear T0
  by_cases hw : s.wrong i = 0
  · have HC := Lib.hid (fun W => rchange_any s i Ce.zero W h ce_zero_ok (wrong_zero hw))
    have e1 : s.erase i = s.put i Ce.zero := if_neg (by omega)
    have e2 : s.eraseE i = s.p.err := if_neg (by omega)
    rw [e1] at hok
    rw [e1, e2]
    rw [hw] at HW
    clear hw e1 e2
    go_enter Try.func21, Try.ntmps21
    go_wp2_with (((with_reducible refine wpList_load_at ?_ 51 (.tmp 2) ?_ _ ?_ _ HL.out ?_); rfl; rfl; rfl))
    refine (HW.out _).mono ?_
    rintro x w1 ⟨rfl, k1⟩
    have T1 := HT.out.call k1
    have HL1 := Lib.hid (T1.loadAll 1 rfl 51 _ Try.underlying51 rfl info51s (raA_size h))
    have HT1 := Lib.hid T1
    clear k1 T1
    go_wp2_with (first | ((with_reducible refine wpList_load_at ?_ 51 (.tmp 2) ?_ _ ?_ _ HL1.out ?_); rfl; rfl; rfl) | ((with_reducible refine wpList_build_at ?_ 48 #[] ?_ [] ?_ _ (HB.out _) ?_); rfl; rfl; rfl))
    refine (HC.out _).mono ?_
    rintro x w2 ⟨rfl, k2⟩
    obtain ⟨W3, hs3, T3, -⟩ := (HT1.out.call k2).whole 0 rfl 51 info51s (raA_size hok) (raA_size st0_ok) (raA_one _)
    have HS3 := Lib.hid hs3
    have HL3 := Lib.hid (T3.loadAll 0 rfl 51 _ Try.underlying51 rfl info51s (raA_size hok))
    have HT3 := Lib.hid T3
    clear k2 hs3 T3
    go_wp2_with (((with_reducible refine wpList_store_at ?_ 51 (.tmp 4) (.tmp 18) ?_ _ ?_ _ ?_ HS3.out ?_); rfl; rfl; rfl; rfl))
    refine bodyPost_ret (v := .tuple #[.agg (raA (s.put i Ce.zero)), .int .i64 s.p.err]) ?_ rfl ⟨rfl, HT3.out.below⟩
    have := HL3.out
    first
      | simp [results, Try.results21, asAddr, this]
      | simp [results, Try.results21, asAddr, Act.put, this]
  · have e1 : s.erase i = s := if_pos hw
    have e2 : s.eraseE i = s.wrong i := if_pos hw
    have hb : (s.wrong i == 0) = false := by rw [beq_eq_false_iff_ne]; exact hw
    rw [e1, e2]
    clear e1 e2 hok
    generalize s.wrong i = wr at *
    go_enter Try.func21, Try.ntmps21
    go_wp2_with (((with_reducible refine wpList_load_at ?_ 51 (.tmp 2) ?_ _ ?_ _ HL.out ?_); rfl; rfl; rfl))
    refine (HW.out _).mono ?_
    rintro x w1 ⟨rfl, k1⟩
    have T1 := HT.out.call k1
    have HL1 := Lib.hid (T1.loadAll 1 rfl 51 _ Try.underlying51 rfl info51s (raA_size h))
    obtain ⟨W3, hs3, T3, -⟩ := T1.whole 0 rfl 51 info51s (raA_size h) (raA_size st0_ok) (raA_one _)
    have HS3 := Lib.hid hs3
    have HL3 := Lib.hid (T3.loadAll 0 rfl 51 _ Try.underlying51 rfl info51s (raA_size h))
    have HT3 := Lib.hid T3
    clear k1 T1 hs3 T3
    go_wp2_with (first | ((with_reducible refine wpList_load_at ?_ 51 (.tmp 2) ?_ _ ?_ _ HL1.out ?_); rfl; rfl; rfl) | ((with_reducible refine wpList_store_at ?_ 51 (.tmp 4) (.tmp 12) ?_ _ ?_ _ ?_ HS3.out ?_); rfl; rfl; rfl; rfl))
    refine bodyPost_ret (v := .tuple #[.agg (raA s), .int .i64 wr]) ?_ rfl ⟨rfl, HT3.out.below⟩
    have := HL3.out
    first
      | simp [results, Try.results21, asAddr, this]
      | simp [results, Try.results21, asAddr, Act.put, this]


set_option maxHeartbeats 4000000 in
theorem rwrite_0 (s : St) (k : List UInt8) (n : Int) (w : World) (h : s.Ok) (hk : k.length = 16) (hw : s.wrong 0 = 0) :
    Calls Try.prog 20 #[.agg (raA s), .int .i64 0, .agg (kyA k), .int .u64 n] w fun x w' => x = .returned (.tuple #[.agg (raA (s.write 0 k n)), .int .i64 (s.writeE 0)]) ∧ Below w.heap.size w w' := by
  have hz51 := zero51
  have T0 := Tab.box3 w (raA s) (kyA k) (raA st0) 51 23 51
  have HL := Lib.hid (T0.loadAll 2 rfl 51 _ Try.underlying51 rfl info51s (raA_size h))
  have HW := Lib.hid (fun W => rwrong_any s 0 W)
  rw [hw] at HW
  have HT := Lib.hid T0
  have HB := Lib.hid (fun W => build48k k hk n W)
  have HC := Lib.hid (fun W => rchange_any s 0 ⟨true, k, n⟩ W h (made_ok k hk n) (by omega))
  have hok := St.write_ok h 0 hk n
  have e0 : s.at 0 = s.c := if_pos rfl
  clear T0
  have e1 : s.write 0 k n = if s.c.is = true then s else s.put 0 ⟨true, k, n⟩ := by rw [St.write, if_neg (by omega), e0]
  have e2 : s.writeE 0 = if s.c.is = true then 100 else s.p.err := by rw [St.writeE, if_neg (by omega), e0]
  have HIS := Lib.hid (ra_cis s)
  rw [e1] at hok
  rw [e1, e2]
  clear hw e0 e1 e2
  cases his : s.c.is
  · rw [his] at HIS hok
    rw [if_neg (by simp)] at hok
    rw [if_neg (by simp), if_neg (by simp)]
    clear his
    go_enter Try.func20, Try.ntmps20
    go_wp2_with (((with_reducible refine wpList_load_at ?_ 51 (.tmp 4) ?_ _ ?_ _ HL.out ?_); rfl; rfl; rfl))
    refine (HW.out _).mono ?_
    rintro x w1 ⟨rfl, k1⟩
    have T1 := HT.out.call k1
    have ci := T1.c 2 rfl 4 HIS.out
    have HL1 := Lib.hid (T1.loadAll 2 rfl 51 _ Try.underlying51 rfl info51s (raA_size h))
    have HLK := Lib.hid (T1.loadAll 1 rfl 23 _ Try.underlying23 rfl info23s (kyA_size hk))
    have HT1 := Lib.hid T1
    clear k1 T1
    go_wp2_with (first | ((with_reducible refine wpList_load_at ?_ 51 (.tmp 4) ?_ _ ?_ _ HL1.out ?_); rfl; rfl; rfl) | ((with_reducible refine wpList_load_at ?_ 23 (.tmp 6) ?_ _ ?_ _ HLK.out ?_); rfl; rfl; rfl) | ((with_reducible refine wpList_build_at ?_ 48 #[(0, .const (.bool true)), (1, .tmp 26), (2, .tmp 27)] ?_ [(0, .bool true), (1, .agg (kyA k)), (2, .int .u64 n)] ?_ _ (HB.out _) ?_); rfl; rfl; rfl))
    refine (HC.out _).mono ?_
    rintro x w2 ⟨rfl, k2⟩
    obtain ⟨W3, hs3, T3, -⟩ := (HT1.out.call k2).whole 0 rfl 51 info51s (raA_size hok) (raA_size st0_ok) (raA_one _)
    have HS3 := Lib.hid hs3
    have HL3 := Lib.hid (T3.loadAll 0 rfl 51 _ Try.underlying51 rfl info51s (raA_size hok))
    have HT3 := Lib.hid T3
    clear k2 hs3 T3
    go_wp2_with (((with_reducible refine wpList_store_at ?_ 51 (.tmp 8) (.tmp 30) ?_ _ ?_ _ ?_ HS3.out ?_); rfl; rfl; rfl; rfl))
    refine bodyPost_ret (v := .tuple #[.agg (raA (s.put 0 ⟨true, k, n⟩)), .int .i64 s.p.err]) ?_ rfl ⟨rfl, HT3.out.below⟩
    have := HL3.out
    first
      | simp [results, Try.results20, asAddr, this]
      | simp [results, Try.results20, asAddr, Act.put, this]
  · rw [his] at HIS
    rw [if_pos rfl, if_pos rfl]
    clear his hok
    go_enter Try.func20, Try.ntmps20
    go_wp2_with (((with_reducible refine wpList_load_at ?_ 51 (.tmp 4) ?_ _ ?_ _ HL.out ?_); rfl; rfl; rfl))
    refine (HW.out _).mono ?_
    rintro x w1 ⟨rfl, k1⟩
    have T1 := HT.out.call k1
    have ci := T1.c 2 rfl 4 HIS.out
    have HL1 := Lib.hid (T1.loadAll 2 rfl 51 _ Try.underlying51 rfl info51s (raA_size h))
    obtain ⟨W3, hs3, T3, -⟩ := T1.whole 0 rfl 51 info51s (raA_size h) (raA_size st0_ok) (raA_one _)
    have HS3 := Lib.hid hs3
    have HL3 := Lib.hid (T3.loadAll 0 rfl 51 _ Try.underlying51 rfl info51s (raA_size h))
    have HT3 := Lib.hid T3
    clear k1 T1 hs3 T3
    go_wp2_with (first | ((with_reducible refine wpList_load_at ?_ 51 (.tmp 4) ?_ _ ?_ _ HL1.out ?_); rfl; rfl; rfl) | ((with_reducible refine wpList_store_at ?_ 51 (.tmp 8) (.tmp 23) ?_ _ ?_ _ ?_ HS3.out ?_); rfl; rfl; rfl; rfl))
    refine bodyPost_ret (v := .tuple #[.agg (raA s), .int .i64 100]) ?_ rfl ⟨rfl, HT3.out.below⟩
    have := HL3.out
    first
      | simp [results, Try.results20, asAddr, this]
      | simp [results, Try.results20, asAddr, Act.put, this]


set_option maxHeartbeats 4000000 in
theorem rwrite_1 (s : St) (k : List UInt8) (n : Int) (w : World) (h : s.Ok) (hk : k.length = 16) (hw : s.wrong 1 = 0) :
    Calls Try.prog 20 #[.agg (raA s), .int .i64 1, .agg (kyA k), .int .u64 n] w fun x w' => x = .returned (.tuple #[.agg (raA (s.write 1 k n)), .int .i64 (s.writeE 1)]) ∧ Below w.heap.size w w' := by
  have hz51 := zero51
  have T0 := Tab.box3 w (raA s) (kyA k) (raA st0) 51 23 51
  have HL := Lib.hid (T0.loadAll 2 rfl 51 _ Try.underlying51 rfl info51s (raA_size h))
  have HW := Lib.hid (fun W => rwrong_any s 1 W)
  rw [hw] at HW
  have HT := Lib.hid T0
  have HB := Lib.hid (fun W => build48k k hk n W)
  have HC := Lib.hid (fun W => rchange_any s 1 ⟨true, k, n⟩ W h (made_ok k hk n) (by omega))
  have hok := St.write_ok h 1 hk n
  have e0 : s.at 1 = s.d := if_neg (by decide)
  clear T0
  have e1 : s.write 1 k n = if s.d.is = true then s else s.put 1 ⟨true, k, n⟩ := by rw [St.write, if_neg (by omega), e0]
  have e2 : s.writeE 1 = if s.d.is = true then 100 else s.p.err := by rw [St.writeE, if_neg (by omega), e0]
  have HIS := Lib.hid (ra_dis h)
  rw [e1] at hok
  rw [e1, e2]
  clear hw e0 e1 e2
  cases his : s.d.is
  · rw [his] at HIS hok
    rw [if_neg (by simp)] at hok
    rw [if_neg (by simp), if_neg (by simp)]
    clear his
    go_enter Try.func20, Try.ntmps20
    go_wp2_with (((with_reducible refine wpList_load_at ?_ 51 (.tmp 4) ?_ _ ?_ _ HL.out ?_); rfl; rfl; rfl))
    refine (HW.out _).mono ?_
    rintro x w1 ⟨rfl, k1⟩
    have T1 := HT.out.call k1
    have ci := T1.c 2 rfl 22 HIS.out
    have HL1 := Lib.hid (T1.loadAll 2 rfl 51 _ Try.underlying51 rfl info51s (raA_size h))
    have HLK := Lib.hid (T1.loadAll 1 rfl 23 _ Try.underlying23 rfl info23s (kyA_size hk))
    have HT1 := Lib.hid T1
    clear k1 T1
    go_wp2_with (first | ((with_reducible refine wpList_load_at ?_ 51 (.tmp 4) ?_ _ ?_ _ HL1.out ?_); rfl; rfl; rfl) | ((with_reducible refine wpList_load_at ?_ 23 (.tmp 6) ?_ _ ?_ _ HLK.out ?_); rfl; rfl; rfl) | ((with_reducible refine wpList_build_at ?_ 48 #[(0, .const (.bool true)), (1, .tmp 26), (2, .tmp 27)] ?_ [(0, .bool true), (1, .agg (kyA k)), (2, .int .u64 n)] ?_ _ (HB.out _) ?_); rfl; rfl; rfl))
    refine (HC.out _).mono ?_
    rintro x w2 ⟨rfl, k2⟩
    obtain ⟨W3, hs3, T3, -⟩ := (HT1.out.call k2).whole 0 rfl 51 info51s (raA_size hok) (raA_size st0_ok) (raA_one _)
    have HS3 := Lib.hid hs3
    have HL3 := Lib.hid (T3.loadAll 0 rfl 51 _ Try.underlying51 rfl info51s (raA_size hok))
    have HT3 := Lib.hid T3
    clear k2 hs3 T3
    go_wp2_with (((with_reducible refine wpList_store_at ?_ 51 (.tmp 8) (.tmp 30) ?_ _ ?_ _ ?_ HS3.out ?_); rfl; rfl; rfl; rfl))
    refine bodyPost_ret (v := .tuple #[.agg (raA (s.put 1 ⟨true, k, n⟩)), .int .i64 s.p.err]) ?_ rfl ⟨rfl, HT3.out.below⟩
    have := HL3.out
    first
      | simp [results, Try.results20, asAddr, this]
      | simp [results, Try.results20, asAddr, Act.put, this]
  · rw [his] at HIS
    rw [if_pos rfl, if_pos rfl]
    clear his hok
    go_enter Try.func20, Try.ntmps20
    go_wp2_with (((with_reducible refine wpList_load_at ?_ 51 (.tmp 4) ?_ _ ?_ _ HL.out ?_); rfl; rfl; rfl))
    refine (HW.out _).mono ?_
    rintro x w1 ⟨rfl, k1⟩
    have T1 := HT.out.call k1
    have ci := T1.c 2 rfl 22 HIS.out
    have HL1 := Lib.hid (T1.loadAll 2 rfl 51 _ Try.underlying51 rfl info51s (raA_size h))
    obtain ⟨W3, hs3, T3, -⟩ := T1.whole 0 rfl 51 info51s (raA_size h) (raA_size st0_ok) (raA_one _)
    have HS3 := Lib.hid hs3
    have HL3 := Lib.hid (T3.loadAll 0 rfl 51 _ Try.underlying51 rfl info51s (raA_size h))
    have HT3 := Lib.hid T3
    clear k1 T1 hs3 T3
    go_wp2_with (first | ((with_reducible refine wpList_load_at ?_ 51 (.tmp 4) ?_ _ ?_ _ HL1.out ?_); rfl; rfl; rfl) | ((with_reducible refine wpList_store_at ?_ 51 (.tmp 8) (.tmp 23) ?_ _ ?_ _ ?_ HS3.out ?_); rfl; rfl; rfl; rfl))
    refine bodyPost_ret (v := .tuple #[.agg (raA s), .int .i64 100]) ?_ rfl ⟨rfl, HT3.out.below⟩
    have := HL3.out
    first
      | simp [results, Try.results20, asAddr, this]
      | simp [results, Try.results20, asAddr, Act.put, this]


set_option maxHeartbeats 4000000 in
theorem rwrite_wrong (s : St) (i : Int) (k : List UInt8) (n : Int) (w : World) (h : s.Ok) (hw : s.wrong i ≠ 0) :
    Calls Try.prog 20 #[.agg (raA s), .int .i64 i, .agg (kyA k), .int .u64 n] w fun x w' => x = .returned (.tuple #[.agg (raA s), .int .i64 (s.wrong i)]) ∧ Below w.heap.size w w' := by
  have hz51 := zero51
  have T0 := Tab.box3 w (raA s) (kyA k) (raA st0) 51 23 51
  have HL := Lib.hid (T0.loadAll 2 rfl 51 _ Try.underlying51 rfl info51s (raA_size h))
  have HW := Lib.hid (fun W => rwrong_any s i W)
  have HT := Lib.hid T0
  have hb : (s.wrong i == 0) = false := by rw [beq_eq_false_iff_ne]; exact hw
  clear T0 hw
  generalize s.wrong i = wr at *
  go_enter Try.func20, Try.ntmps20
  go_wp2_with (((with_reducible refine wpList_load_at ?_ 51 (.tmp 4) ?_ _ ?_ _ HL.out ?_); rfl; rfl; rfl))
  refine (HW.out _).mono ?_
  rintro x w1 ⟨rfl, k1⟩
  have T1 := HT.out.call k1
  have HL1 := Lib.hid (T1.loadAll 2 rfl 51 _ Try.underlying51 rfl info51s (raA_size h))
  obtain ⟨W3, hs3, T3, -⟩ := T1.whole 0 rfl 51 info51s (raA_size h) (raA_size st0_ok) (raA_one _)
  have HS3 := Lib.hid hs3
  have HL3 := Lib.hid (T3.loadAll 0 rfl 51 _ Try.underlying51 rfl info51s (raA_size h))
  have HT3 := Lib.hid T3
  clear k1 T1 hs3 T3
  go_wp2_with (first | ((with_reducible refine wpList_load_at ?_ 51 (.tmp 4) ?_ _ ?_ _ HL1.out ?_); rfl; rfl; rfl) | ((with_reducible refine wpList_store_at ?_ 51 (.tmp 8) (.tmp 16) ?_ _ ?_ _ ?_ HS3.out ?_); rfl; rfl; rfl; rfl))
  refine bodyPost_ret (v := .tuple #[.agg (raA s), .int .i64 wr]) ?_ rfl ⟨rfl, HT3.out.below⟩
  have := HL3.out
  first
    | simp [results, Try.results20, asAddr, this]
    | simp [results, Try.results20, asAddr, Act.put, this]

theorem rwrite_any (s : St) (i : Int) (k : List UInt8) (n : Int) (w : World) (h : s.Ok) (hk : k.length = 16) :
    Calls Try.prog 20 #[.agg (raA s), .int .i64 i, .agg (kyA k), .int .u64 n] w fun x w' => x = .returned (.tuple #[.agg (raA (s.write i k n)), .int .i64 (s.writeE i)]) ∧ Below w.heap.size w w' := by
  by_cases hw : s.wrong i = 0
  · rcases wrong_zero hw with rfl | rfl
    · exact rwrite_0 s k n w h hk hw
    · exact rwrite_1 s k n w h hk hw
  · rw [St.write, if_pos hw, St.writeE, if_pos hw]
    exact rwrite_wrong s i k n w h hw


set_option maxHeartbeats 4000000 in
theorem rread_wrong (s : St) (i : Int) (w : World) (h : s.Ok) (hw : s.wrong i ≠ 0) :
    Calls Try.prog 26 #[.agg (raA s), .int .i64 i] w fun x w' => x = .returned (.tuple #[.agg (kyA ky0), .int .u64 0, .int .i64 (s.wrong i)]) ∧ Below w.heap.size w w' := by
  have hz23 := zero23
  have T0 := Tab.box2 w (raA s) (kyA ky0) 51 23
  have HL := Lib.hid (T0.loadAll 1 rfl 51 _ Try.underlying51 rfl info51s (raA_size h))
  have HW := Lib.hid (fun W => rwrong_any s i W)
  have HT := Lib.hid T0
  have HB := Lib.hid build_ky0
  have hb : (s.wrong i == 0) = false := by rw [beq_eq_false_iff_ne]; exact hw
  have hZs : (kyA ky0).size = 16 := rfl
  have hZ1 : ∀ v ∈ (kyA ky0).toList, v.oneCell' = true := kyL_one _
  clear T0 hw
  generalize kyA ky0 = Z at *
  generalize s.wrong i = wr at *
  go_enter Try.func26, Try.ntmps26
  go_wp2_with (((with_reducible refine wpList_load_at ?_ 51 (.tmp 2) ?_ _ ?_ _ HL.out ?_); rfl; rfl; rfl))
  refine (HW.out _).mono ?_
  rintro x w1 ⟨rfl, k1⟩
  obtain ⟨W3, hs3, T3, -⟩ := (HT.out.call k1).whole 0 rfl 23 info23s hZs hZs hZ1
  have HS3 := Lib.hid hs3
  have HL3 := Lib.hid (T3.loadAll 0 rfl 23 _ Try.underlying23 rfl info23s hZs)
  have HT3 := Lib.hid T3
  clear k1 hs3 T3
  go_wp2_with (first | ((with_reducible refine wpList_build_at ?_ 23 #[] ?_ [] ?_ _ (HB.out _) ?_); rfl; rfl; rfl) | ((with_reducible refine wpList_store_at ?_ 23 (.tmp 4) (.tmp 13) ?_ _ ?_ _ ?_ HS3.out ?_); rfl; rfl; rfl; rfl))
  refine bodyPost_ret (v := .tuple #[.agg Z, .int .u64 0, .int .i64 wr]) ?_ rfl ⟨rfl, HT3.out.below⟩
  have := HL3.out
  first
    | simp [results, Try.results26, asAddr, this]
    | simp [results, Try.results26, asAddr, Act.put, this]


set_option maxHeartbeats 4000000 in
theorem rread_0 (s : St) (w : World) (h : s.Ok) (hw : s.wrong 0 = 0) :
    Calls Try.prog 26 #[.agg (raA s), .int .i64 0] w fun x w' => x = .returned (.tuple #[.agg (kyA s.c.key), .int .u64 s.c.epoch, .int .i64 (if s.c.is = true then 0 else 110)]) ∧ Below w.heap.size w w' := by
  have hz23 := zero23
  have T0 := Tab.box2 w (raA s) (kyA ky0) 51 23
  have HL := Lib.hid (T0.loadAll 1 rfl 51 _ Try.underlying51 rfl info51s (raA_size h))
  have HW := Lib.hid (fun W => rwrong_any s 0 W)
  rw [hw] at HW
  have HT := Lib.hid T0
  have HB := Lib.hid build_ky0
  have HIS := Lib.hid (ra_cis s)
  have HEP := Lib.hid (ra_cep h)
  have hZs : (kyA ky0).size = 16 := rfl
  clear T0 hw
  cases his : s.c.is
  · have hno := h.c.no his
    rw [his] at HIS
    rw [if_neg (by simp), hno]
    change Calls _ _ _ _ fun x w' => x = .returned (.tuple #[.agg (kyA ky0), .int .u64 0, .int .i64 110]) ∧ _
    have hZ1 : ∀ v ∈ (kyA ky0).toList, v.oneCell' = true := kyL_one _
    clear his hno HEP
    generalize kyA ky0 = Z at *
    go_enter Try.func26, Try.ntmps26
    go_wp2_with (((with_reducible refine wpList_load_at ?_ 51 (.tmp 2) ?_ _ ?_ _ HL.out ?_); rfl; rfl; rfl))
    refine (HW.out _).mono ?_
    rintro x w1 ⟨rfl, k1⟩
    have T1 := HT.out.call k1
    have ci := T1.c 1 rfl 4 HIS.out
    obtain ⟨W3, hs3, T3, -⟩ := T1.whole 0 rfl 23 info23s hZs hZs hZ1
    have HS3 := Lib.hid hs3
    have HL3 := Lib.hid (T3.loadAll 0 rfl 23 _ Try.underlying23 rfl info23s hZs)
    have HT3 := Lib.hid T3
    clear k1 T1 hs3 T3
    go_wp2_with (first | ((with_reducible refine wpList_build_at ?_ 23 #[] ?_ [] ?_ _ (HB.out _) ?_); rfl; rfl; rfl) | ((with_reducible refine wpList_store_at ?_ 23 (.tmp 4) (.tmp 21) ?_ _ ?_ _ ?_ HS3.out ?_); rfl; rfl; rfl; rfl))
    refine bodyPost_ret (v := .tuple #[.agg Z, .int .u64 0, .int .i64 110]) ?_ rfl ⟨rfl, HT3.out.below⟩
    have := HL3.out
    first
      | simp [results, Try.results26, asAddr, this]
      | simp [results, Try.results26, asAddr, Act.put, this]
  · rw [his] at HIS
    rw [if_pos rfl]
    clear his
    go_enter Try.func26, Try.ntmps26
    go_wp2_with (((with_reducible refine wpList_load_at ?_ 51 (.tmp 2) ?_ _ ?_ _ HL.out ?_); rfl; rfl; rfl))
    refine (HW.out _).mono ?_
    rintro x w1 ⟨rfl, k1⟩
    have T1 := HT.out.call k1
    have ci := T1.c 1 rfl 4 HIS.out
    have HR := Lib.hid (T1.get 1 rfl)
    have HZ := Lib.hid (T1.get 0 rfl)
    have HT1 := Lib.hid T1
    clear k1 T1
    go_wp2_with fail
    have hld : ∀ W : World, W.heap[w.heap.size]? = some (.cells (raA s) 51 (0, 0)) → (loadVar 23 ⟨w.heap.size, 5, none⟩).run Try.prog W = .ok (.agg (kyA s.c.key)) W := fun W hg => by
      have := loadVar_at (P := Try.prog) W w.heap.size 5 51 23 (raA s) (0, 0) _ 16 hg Try.underlying23 rfl info23s (by rw [raA_size h]; omega)
      rw [this, ra_ck h]
    have hep : ∀ W : World, W.heap[w.heap.size]? = some (.cells (raA s) 51 (0, 0)) → W.cell? ⟨w.heap.size, 21, none⟩ = some (.int .u64 s.c.epoch) := fun W hg => (cell_of_row W w.heap.size 21 _ _ _ hg).trans HEP.out
    have HLD := Lib.hid hld
    have HLE := Lib.hid hep
    obtain ⟨W3, hs3, T3, -⟩ := HT1.out.drew.whole 0 rfl 23 info23s (kyA_size h.c.len) hZs (kyL_one _)
    have HS3 := Lib.hid hs3
    have HL3 := Lib.hid (T3.loadAll 0 rfl 23 _ Try.underlying23 rfl info23s (kyA_size h.c.len))
    have HT3 := Lib.hid T3
    have HS1 := Lib.hid (T3.get 1 rfl)
    clear hld hep hs3 T3
    refine wp_region_held (S := fun W => W.heap[w.heap.size]? = some (.cells (raA s) 51 (0, 0))) (by kernel_rfl) ?_
    change wpAnyH _ _ _ _ _ _ _ _ (World.drew _)
    have hS0 : (World.drew w1).heap[w.heap.size]? = some (.cells (raA s) 51 (0, 0)) := HR.out
    refine held_pure (i := 0) (v := (.int .i64 0)) rfl rfl (by kernel_rfl) (by kernel_rfl) (by kernel_rfl) (fun _ _ _ h => h) (Or.inl ⟨by rfl, fun w => by go_simp⟩) hS0 ?_
    simp only [List.setIfInBounds_toArray, List.set]
    refine held_pure (i := 1) (v := (.pointer (some ⟨w.heap.size, 4, none⟩))) rfl rfl (by kernel_rfl) (by kernel_rfl) (by kernel_rfl) (fun _ _ _ h => h) (Or.inl ⟨by rfl, fun w => by go_simp⟩) hS0 ?_
    simp only [List.setIfInBounds_toArray, List.set]
    refine held_pure (i := 2) (v := (.pointer (some ⟨w.heap.size, 4, none⟩))) rfl rfl (by kernel_rfl) (by kernel_rfl) (by kernel_rfl) (fun _ _ _ h => h) (Or.inl ⟨by rfl, fun w => by go_simp⟩) hS0 ?_
    simp only [List.setIfInBounds_toArray, List.set]
    refine held_pure (i := 3) (v := (.pointer (some ⟨w.heap.size, 5, none⟩))) rfl rfl (by kernel_rfl) (by kernel_rfl) (by kernel_rfl) (fun _ _ _ h => h) (Or.inl ⟨by rfl, fun w => by go_simp⟩) hS0 ?_
    simp only [List.setIfInBounds_toArray, List.set]
    refine held_take (i := 4) (v := (.agg (kyA s.c.key))) rfl rfl (by kernel_rfl) (by kernel_rfl) (by kernel_rfl) (fun _ _ _ h => h) (yields_load_w (by rfl) 23 (.tmp 25) rfl _ rfl _ HLD.out) hS0 ?_
    simp only [List.setIfInBounds_toArray, List.set]
    refine held_pure (i := 5) (v := (.int .i64 0)) rfl rfl (by kernel_rfl) (by kernel_rfl) (by kernel_rfl) (fun _ _ _ h => h) (Or.inl ⟨by rfl, fun w => by go_simp⟩) hS0 ?_
    simp only [List.setIfInBounds_toArray, List.set]
    refine held_pure (i := 6) (v := (.pointer (some ⟨w.heap.size, 4, none⟩))) rfl rfl (by kernel_rfl) (by kernel_rfl) (by kernel_rfl) (fun _ _ _ h => h) (Or.inl ⟨by rfl, fun w => by go_simp⟩) hS0 ?_
    simp only [List.setIfInBounds_toArray, List.set]
    refine held_pure (i := 7) (v := (.pointer (some ⟨w.heap.size, 4, none⟩))) rfl rfl (by kernel_rfl) (by kernel_rfl) (by kernel_rfl) (fun _ _ _ h => h) (Or.inl ⟨by rfl, fun w => by go_simp⟩) hS0 ?_
    simp only [List.setIfInBounds_toArray, List.set]
    refine held_pure (i := 8) (v := (.pointer (some ⟨w.heap.size, 21, none⟩))) rfl rfl (by kernel_rfl) (by kernel_rfl) (by kernel_rfl) (fun _ _ _ h => h) (Or.inl ⟨by rfl, fun w => by go_simp⟩) hS0 ?_
    simp only [List.setIfInBounds_toArray, List.set]
    refine held_take (i := 9) (v := (.int .u64 s.c.epoch)) rfl rfl (by kernel_rfl) (by kernel_rfl) (by kernel_rfl) (fun _ _ _ h => h) (Or.inl ⟨by rfl, fun w hS => by have hc := HLE.out w hS; go_simp⟩) hS0 ?_
    simp only [List.setIfInBounds_toArray, List.set]
    refine held_store (j := 10) (by kernel_rfl) rfl rfl rfl 23 (.tmp 4) (.tmp 26) rfl _ rfl _ rfl HS3.out HS1.out ?_
    refine held_pure (i := 11) (v := (.int .u64 s.c.epoch)) rfl rfl (by kernel_rfl) (by kernel_rfl) (by kernel_rfl) (fun _ _ _ h => h) (Or.inl ⟨by rfl, fun w => by go_simp⟩) HS1.out ?_
    simp only [List.setIfInBounds_toArray, List.set]
    refine held_pure (i := 12) (v := (.int .i64 0)) rfl rfl (by kernel_rfl) (by kernel_rfl) (by kernel_rfl) (fun _ _ _ h => h) (Or.inl ⟨by rfl, fun w => by go_simp⟩) HS1.out ?_
    simp only [List.setIfInBounds_toArray, List.set]
    refine wpAnyH_done (by kernel_rfl) ?_ _
    go_wp2_with fail
    refine bodyPost_ret (v := .tuple #[.agg (kyA s.c.key), .int .u64 s.c.epoch, .int .i64 0]) ?_ rfl ⟨rfl, HT3.out.below⟩
    have := HL3.out
    first
      | simp [results, Try.results26, asAddr, this]
      | simp [results, Try.results26, asAddr, Act.put, this]


set_option maxHeartbeats 4000000 in
theorem rread_1 (s : St) (w : World) (h : s.Ok) (hw : s.wrong 1 = 0) :
    Calls Try.prog 26 #[.agg (raA s), .int .i64 1] w fun x w' => x = .returned (.tuple #[.agg (kyA s.d.key), .int .u64 s.d.epoch, .int .i64 (if s.d.is = true then 0 else 110)]) ∧ Below w.heap.size w w' := by
  have hz23 := zero23
  have T0 := Tab.box2 w (raA s) (kyA ky0) 51 23
  have HL := Lib.hid (T0.loadAll 1 rfl 51 _ Try.underlying51 rfl info51s (raA_size h))
  have HW := Lib.hid (fun W => rwrong_any s 1 W)
  rw [hw] at HW
  have HT := Lib.hid T0
  have HB := Lib.hid build_ky0
  have HIS := Lib.hid (ra_dis h)
  have HEP := Lib.hid (ra_dep h)
  have hZs : (kyA ky0).size = 16 := rfl
  clear T0 hw
  cases his : s.d.is
  · have hno := h.d.no his
    rw [his] at HIS
    rw [if_neg (by simp), hno]
    change Calls _ _ _ _ fun x w' => x = .returned (.tuple #[.agg (kyA ky0), .int .u64 0, .int .i64 110]) ∧ _
    have hZ1 : ∀ v ∈ (kyA ky0).toList, v.oneCell' = true := kyL_one _
    clear his hno HEP
    generalize kyA ky0 = Z at *
    go_enter Try.func26, Try.ntmps26
    go_wp2_with (((with_reducible refine wpList_load_at ?_ 51 (.tmp 2) ?_ _ ?_ _ HL.out ?_); rfl; rfl; rfl))
    refine (HW.out _).mono ?_
    rintro x w1 ⟨rfl, k1⟩
    have T1 := HT.out.call k1
    have ci := T1.c 1 rfl 22 HIS.out
    obtain ⟨W3, hs3, T3, -⟩ := T1.whole 0 rfl 23 info23s hZs hZs hZ1
    have HS3 := Lib.hid hs3
    have HL3 := Lib.hid (T3.loadAll 0 rfl 23 _ Try.underlying23 rfl info23s hZs)
    have HT3 := Lib.hid T3
    clear k1 T1 hs3 T3
    go_wp2_with (first | ((with_reducible refine wpList_build_at ?_ 23 #[] ?_ [] ?_ _ (HB.out _) ?_); rfl; rfl; rfl) | ((with_reducible refine wpList_store_at ?_ 23 (.tmp 4) (.tmp 21) ?_ _ ?_ _ ?_ HS3.out ?_); rfl; rfl; rfl; rfl))
    refine bodyPost_ret (v := .tuple #[.agg Z, .int .u64 0, .int .i64 110]) ?_ rfl ⟨rfl, HT3.out.below⟩
    have := HL3.out
    first
      | simp [results, Try.results26, asAddr, this]
      | simp [results, Try.results26, asAddr, Act.put, this]
  · rw [his] at HIS
    rw [if_pos rfl]
    clear his
    go_enter Try.func26, Try.ntmps26
    go_wp2_with (((with_reducible refine wpList_load_at ?_ 51 (.tmp 2) ?_ _ ?_ _ HL.out ?_); rfl; rfl; rfl))
    refine (HW.out _).mono ?_
    rintro x w1 ⟨rfl, k1⟩
    have T1 := HT.out.call k1
    have ci := T1.c 1 rfl 22 HIS.out
    have HR := Lib.hid (T1.get 1 rfl)
    have HZ := Lib.hid (T1.get 0 rfl)
    have HT1 := Lib.hid T1
    clear k1 T1
    go_wp2_with fail
    have hld : ∀ W : World, W.heap[w.heap.size]? = some (.cells (raA s) 51 (0, 0)) → (loadVar 23 ⟨w.heap.size, 23, none⟩).run Try.prog W = .ok (.agg (kyA s.d.key)) W := fun W hg => by
      have := loadVar_at (P := Try.prog) W w.heap.size 23 51 23 (raA s) (0, 0) _ 16 hg Try.underlying23 rfl info23s (by rw [raA_size h]; omega)
      rw [this, ra_dk h]
    have hep : ∀ W : World, W.heap[w.heap.size]? = some (.cells (raA s) 51 (0, 0)) → W.cell? ⟨w.heap.size, 39, none⟩ = some (.int .u64 s.d.epoch) := fun W hg => (cell_of_row W w.heap.size 39 _ _ _ hg).trans HEP.out
    have HLD := Lib.hid hld
    have HLE := Lib.hid hep
    obtain ⟨W3, hs3, T3, -⟩ := HT1.out.drew.whole 0 rfl 23 info23s (kyA_size h.d.len) hZs (kyL_one _)
    have HS3 := Lib.hid hs3
    have HL3 := Lib.hid (T3.loadAll 0 rfl 23 _ Try.underlying23 rfl info23s (kyA_size h.d.len))
    have HT3 := Lib.hid T3
    have HS1 := Lib.hid (T3.get 1 rfl)
    clear hld hep hs3 T3
    refine wp_region_held (S := fun W => W.heap[w.heap.size]? = some (.cells (raA s) 51 (0, 0))) (by kernel_rfl) ?_
    change wpAnyH _ _ _ _ _ _ _ _ (World.drew _)
    have hS0 : (World.drew w1).heap[w.heap.size]? = some (.cells (raA s) 51 (0, 0)) := HR.out
    refine held_pure (i := 0) (v := (.int .i64 1)) rfl rfl (by kernel_rfl) (by kernel_rfl) (by kernel_rfl) (fun _ _ _ h => h) (Or.inl ⟨by rfl, fun w => by go_simp⟩) hS0 ?_
    simp only [List.setIfInBounds_toArray, List.set]
    refine held_pure (i := 1) (v := (.pointer (some ⟨w.heap.size, 4, none⟩))) rfl rfl (by kernel_rfl) (by kernel_rfl) (by kernel_rfl) (fun _ _ _ h => h) (Or.inl ⟨by rfl, fun w => by go_simp⟩) hS0 ?_
    simp only [List.setIfInBounds_toArray, List.set]
    refine held_pure (i := 2) (v := (.pointer (some ⟨w.heap.size, 22, none⟩))) rfl rfl (by kernel_rfl) (by kernel_rfl) (by kernel_rfl) (fun _ _ _ h => h) (Or.inl ⟨by rfl, fun w => by go_simp⟩) hS0 ?_
    simp only [List.setIfInBounds_toArray, List.set]
    refine held_pure (i := 3) (v := (.pointer (some ⟨w.heap.size, 23, none⟩))) rfl rfl (by kernel_rfl) (by kernel_rfl) (by kernel_rfl) (fun _ _ _ h => h) (Or.inl ⟨by rfl, fun w => by go_simp⟩) hS0 ?_
    simp only [List.setIfInBounds_toArray, List.set]
    refine held_take (i := 4) (v := (.agg (kyA s.d.key))) rfl rfl (by kernel_rfl) (by kernel_rfl) (by kernel_rfl) (fun _ _ _ h => h) (yields_load_w (by rfl) 23 (.tmp 25) rfl _ rfl _ HLD.out) hS0 ?_
    simp only [List.setIfInBounds_toArray, List.set]
    refine held_pure (i := 5) (v := (.int .i64 1)) rfl rfl (by kernel_rfl) (by kernel_rfl) (by kernel_rfl) (fun _ _ _ h => h) (Or.inl ⟨by rfl, fun w => by go_simp⟩) hS0 ?_
    simp only [List.setIfInBounds_toArray, List.set]
    refine held_pure (i := 6) (v := (.pointer (some ⟨w.heap.size, 4, none⟩))) rfl rfl (by kernel_rfl) (by kernel_rfl) (by kernel_rfl) (fun _ _ _ h => h) (Or.inl ⟨by rfl, fun w => by go_simp⟩) hS0 ?_
    simp only [List.setIfInBounds_toArray, List.set]
    refine held_pure (i := 7) (v := (.pointer (some ⟨w.heap.size, 22, none⟩))) rfl rfl (by kernel_rfl) (by kernel_rfl) (by kernel_rfl) (fun _ _ _ h => h) (Or.inl ⟨by rfl, fun w => by go_simp⟩) hS0 ?_
    simp only [List.setIfInBounds_toArray, List.set]
    refine held_pure (i := 8) (v := (.pointer (some ⟨w.heap.size, 39, none⟩))) rfl rfl (by kernel_rfl) (by kernel_rfl) (by kernel_rfl) (fun _ _ _ h => h) (Or.inl ⟨by rfl, fun w => by go_simp⟩) hS0 ?_
    simp only [List.setIfInBounds_toArray, List.set]
    refine held_take (i := 9) (v := (.int .u64 s.d.epoch)) rfl rfl (by kernel_rfl) (by kernel_rfl) (by kernel_rfl) (fun _ _ _ h => h) (Or.inl ⟨by rfl, fun w hS => by have hc := HLE.out w hS; go_simp⟩) hS0 ?_
    simp only [List.setIfInBounds_toArray, List.set]
    refine held_store (j := 10) (by kernel_rfl) rfl rfl rfl 23 (.tmp 4) (.tmp 26) rfl _ rfl _ rfl HS3.out HS1.out ?_
    refine held_pure (i := 11) (v := (.int .u64 s.d.epoch)) rfl rfl (by kernel_rfl) (by kernel_rfl) (by kernel_rfl) (fun _ _ _ h => h) (Or.inl ⟨by rfl, fun w => by go_simp⟩) HS1.out ?_
    simp only [List.setIfInBounds_toArray, List.set]
    refine held_pure (i := 12) (v := (.int .i64 0)) rfl rfl (by kernel_rfl) (by kernel_rfl) (by kernel_rfl) (fun _ _ _ h => h) (Or.inl ⟨by rfl, fun w => by go_simp⟩) HS1.out ?_
    simp only [List.setIfInBounds_toArray, List.set]
    refine wpAnyH_done (by kernel_rfl) ?_ _
    go_wp2_with fail
    refine bodyPost_ret (v := .tuple #[.agg (kyA s.d.key), .int .u64 s.d.epoch, .int .i64 0]) ?_ rfl ⟨rfl, HT3.out.below⟩
    have := HL3.out
    first
      | simp [results, Try.results26, asAddr, this]
      | simp [results, Try.results26, asAddr, Act.put, this]


theorem rread_any (s : St) (i : Int) (w : World) (h : s.Ok) :
    Calls Try.prog 26 #[.agg (raA s), .int .i64 i] w fun x w' => x = .returned (.tuple #[.agg (kyA (s.readK i)), .int .u64 (s.readN i), .int .i64 (s.readE i)]) ∧ Below w.heap.size w w' := by
  by_cases hw : s.wrong i = 0
  · rw [St.readK, St.readN, St.readE, if_neg (by omega), if_neg (by omega), if_neg (by omega)]
    rcases wrong_zero hw with rfl | rfl
    · exact rread_0 s w h hw
    · exact rread_1 s w h hw
  · rw [St.readK, St.readN, St.readE, if_pos hw, if_pos hw, if_pos hw]
    exact rread_wrong s i w h hw

end Go.Proofs.Ytfolmdcceefflaa
