/-
  The reference's slot: its cells; the power's act, and its fuse.
-/
import Derived.Test.YtfolmdcceefflaaTab
set_option linter.unusedVariables false
namespace Go.Proofs.Ytfolmdcceefflaa
open Go.RowKit

/-- The midst of a row. -/
theorem ext_mid (A B C : List Value) {o n : Nat} (ho : A.length = o) (hn : B.length = n) : ((A ++ B ++ C).toArray).extract o (o + n) = B.toArray := by
  have e : ((A ++ B ++ C).toArray).extract o (o + n) = (((A ++ B ++ C).drop o).take n).toArray := by simp [List.extract]
  rw [e]
  congr 1
  rw [List.append_assoc, ← ho, List.drop_left, ← hn, List.take_left]
theorem splice_mid (A B C D : List Value) {o : Nat} (ho : A.length = o) (hn : B.length = D.length) : splice (A ++ B ++ C).toArray o D.toArray = (A ++ D ++ C).toArray := by
  subst ho
  simp only [splice, List.size_toArray]
  congr 1
  have e1 : (A ++ B ++ C).take A.length = A := by rw [List.append_assoc, List.take_left]
  have e2 : (A ++ B ++ C).drop (A.length + D.length) = C := by rw [← hn, ← List.length_append, List.drop_left]
  rw [e1, e2]

def pwL (p : Pw) : List Value := [.bool p.off, .int .i64 p.left, .int .i64 p.keep, .int .u8 p.junk]
def raL (s : St) : List Value := pwL s.p ++ ceL s.c ++ ceL s.d
def raA (s : St) : Array Value := (raL s).toArray
theorem pw_cells (p : Pw) : p.cells = (pwL p).toArray := rfl
theorem pw_size (p : Pw) : p.cells.size = 4 := rfl
theorem pw_one (p : Pw) : ∀ v ∈ p.cells.toList, v.oneCell' = true := by
  intro v hv
  simp [Pw.cells] at hv
  rcases hv with rfl | rfl | rfl | rfl <;> rfl
theorem raA_size {s : St} (h : s.Ok) : (raA s).size = 40 := by simp [raA, raL, pwL, ceL_len h.c, ceL_len h.d]
theorem raA_one (s : St) : ∀ v ∈ (raA s).toList, v.oneCell' = true := by
  intro v hv
  simp only [raA, raL, List.toList_toArray, List.mem_append] at hv
  rcases hv with (hv | hv) | hv
  · exact pw_one s.p v (by simpa [pw_cells] using hv)
  · exact ceL_one _ v hv
  · exact ceL_one _ v hv
theorem ra_off (s : St) : (raA s)[0]? = some (.bool s.p.off) := by simp [raA, raL, pwL]
theorem ra_left (s : St) : (raA s)[1]? = some (.int .i64 s.p.left) := by simp [raA, raL, pwL]
theorem ra_pw (s : St) : (raA s).extract 0 (0 + 4) = s.p.cells := by
  have := ext_mid [] (pwL s.p) (ceL s.c ++ ceL s.d) (o := 0) (n := 4) rfl rfl
  rw [List.nil_append, ← List.append_assoc] at this
  exact this
theorem ra_c {s : St} (h : s.Ok) : (raA s).extract 4 (4 + 18) = ceA s.c := ext_mid _ _ _ rfl (ceL_len h.c)
theorem ra_d {s : St} (h : s.Ok) : (raA s).extract 22 (22 + 18) = ceA s.d := by
  have := ext_mid (pwL s.p ++ ceL s.c) (ceL s.d) [] (o := 22) (n := 18) (by simp [pwL, ceL_len h.c]) (ceL_len h.d)
  rw [List.append_nil] at this
  exact this
theorem ra_cis (s : St) : (raA s)[4]? = some (.bool s.c.is) := by simp [raA, raL, pwL, ceL]
theorem ra_dis {s : St} (h : s.Ok) : (raA s)[22]? = some (.bool s.d.is) := by
  have := ceL_len h.c
  rw [raA, raL, List.getElem?_toArray, List.getElem?_append_right (by simp [pwL, this]), List.length_append, this]
  rfl
theorem ra_cep {s : St} (h : s.Ok) : (raA s)[21]? = some (.int .u64 s.c.epoch) := by
  have e := ceL_len h.c
  have k := kyL_len h.c.len
  rw [raA, raL, List.getElem?_toArray, List.getElem?_append_left (by simp [pwL, e]), List.getElem?_append_right (by simp [pwL])]
  simp [pwL, ceL, k]
theorem ra_dep {s : St} (h : s.Ok) : (raA s)[39]? = some (.int .u64 s.d.epoch) := by
  have e := ceL_len h.c
  have k := kyL_len h.d.len
  rw [raA, raL, List.getElem?_toArray, List.getElem?_append_right (by simp [pwL, e]), List.length_append, e]
  simp [pwL, ceL, k]
theorem ra_ck {s : St} (h : s.Ok) : (raA s).extract 5 (5 + 16) = kyA s.c.key := by
  have := ext_mid (pwL s.p ++ [.bool s.c.is]) (kyL s.c.key) ([.int .u64 s.c.epoch] ++ ceL s.d) (o := 5) (n := 16) rfl (kyL_len h.c.len)
  rw [show pwL s.p ++ [Value.bool s.c.is] ++ kyL s.c.key ++ ([.int .u64 s.c.epoch] ++ ceL s.d) = raL s by simp [raL, ceL]] at this
  exact this
theorem ra_dk {s : St} (h : s.Ok) : (raA s).extract 23 (23 + 16) = kyA s.d.key := by
  have := ext_mid (pwL s.p ++ ceL s.c ++ [.bool s.d.is]) (kyL s.d.key) [.int .u64 s.d.epoch] (o := 23) (n := 16) (by simp [pwL, ceL_len h.c]) (kyL_len h.d.len)
  rw [show pwL s.p ++ ceL s.c ++ [Value.bool s.d.is] ++ kyL s.d.key ++ [.int .u64 s.d.epoch] = raL s by simp [raL, ceL]] at this
  exact this
theorem ra_putp (s : St) (p : Pw) : splice (raA s) 0 p.cells = raA ⟨p, s.c, s.d⟩ := by
  have := splice_mid [] (pwL s.p) (ceL s.c ++ ceL s.d) (pwL p) (o := 0) rfl rfl
  rw [List.nil_append, List.nil_append, ← List.append_assoc, ← List.append_assoc] at this
  exact this
theorem ra_putc {s : St} (h : s.Ok) {e : Ce} (he : e.Ok) : splice (raA s) 4 (ceA e) = raA ⟨s.p, e, s.d⟩ := splice_mid _ _ _ _ rfl (by rw [ceL_len h.c, ceL_len he])
theorem ra_putd {s : St} (h : s.Ok) {e : Ce} (he : e.Ok) : splice (raA s) 22 (ceA e) = raA ⟨s.p, s.c, e⟩ := by
  have := splice_mid (pwL s.p ++ ceL s.c) (ceL s.d) [] (ceL e) (o := 22) (by simp [pwL, ceL_len h.c]) (by rw [ceL_len h.d, ceL_len he])
  rw [List.append_nil, List.append_nil] at this
  exact this
theorem ra_set0 (s : St) (b : Bool) : (raA s).setIfInBounds 0 (.bool b) = raA ⟨{ s.p with off := b }, s.c, s.d⟩ := by simp [raA, raL, pwL]
theorem ra_set1 (s : St) (x : Int) : (raA s).setIfInBounds 1 (.int .i64 x) = raA ⟨{ s.p with left := x }, s.c, s.d⟩ := by simp [raA, raL, pwL]

theorem info3s : (Try.prog.info? 3).map (·.size) = some 1 := by kernel_rfl
theorem info4s : (Try.prog.info? 4).map (·.size) = some 1 := by kernel_rfl
theorem info5s : (Try.prog.info? 5).map (·.size) = some 1 := by kernel_rfl
theorem info24s : (Try.prog.info? 24).map (·.size) = some 1 := by kernel_rfl
theorem info46s : (Try.prog.info? 46).map (·.size) = some 4 := by kernel_rfl
theorem info48s : (Try.prog.info? 48).map (·.size) = some 18 := by kernel_rfl
theorem info49s : (Try.prog.info? 49).map (·.size) = some 36 := by kernel_rfl
theorem info51s : (Try.prog.info? 51).map (·.size) = some 40 := by kernel_rfl
theorem zero46 (w : World) : (zeroValue 46).run Try.prog w = .ok (.agg p0.cells) w := by kernel_rfl
theorem zero51 (w : World) : (zeroValue 51).run Try.prog w = .ok (.agg (raA st0)) w := by kernel_rfl
theorem zero23 (w : World) : (zeroValue 23).run Try.prog w = .ok (.agg (kyA ky0)) w := by kernel_rfl
theorem build48 (w : World) : (Instr.build 48 #[]).run Try.prog w = .ok (.agg (ceA Ce.zero)) w := run_build w 48 _ _ (by kernel_rfl)
theorem build51 (w : World) : (Instr.build 51 #[]).run Try.prog w = .ok (.agg (raA st0)) w := run_build w 51 _ _ (by kernel_rfl)
theorem build48k (k : List UInt8) (h : k.length = 16) (n : Int) (w : World) :
    (Instr.build 48 #[(0, .bool true), (1, .agg (kyA k)), (2, .int .u64 n)]).run Try.prog w = .ok (.agg (ceA ⟨true, k, n⟩)) w := by
  obtain ⟨a0, a1, a2, a3, a4, a5, a6, a7, a8, a9, a10, a11, a12, a13, a14, a15, rfl⟩ := list16 k h
  exact run_build w 48 _ _ (by kernel_rfl)

set_option maxHeartbeats 2000000 in
theorem ract_off (p : Pw) (w : World) (ho : p.off = true) :
    Calls Try.prog 36 #[.agg p.cells] w fun e w' => e = .returned (.tuple #[.agg p.cells, .bool false, .bool false]) ∧ Below w.heap.size w w' := by
  have hz := zero46
  have T0 := Tab.box2 w p.cells p0.cells 46 46
  have c0 := T0.c 1 rfl 0 (v := .bool true) (by rw [← ho]; rfl)
  obtain ⟨W1, hst, T1, -⟩ := T0.whole 0 rfl 46 info46s (pw_size p) (pw_size p0) (pw_one p)
  have HL0 := Lib.hid (T0.loadAll 1 rfl 46 _ Try.underlying46 rfl info46s (pw_size p))
  have HL1 := Lib.hid (T1.loadAll 0 rfl 46 _ Try.underlying46 rfl info46s (pw_size p))
  have HST := Lib.hid hst
  have HT1 := Lib.hid T1
  clear T0 T1 hst ho
  generalize p.cells = A at *
  generalize p0.cells = Z at *
  go_enter Try.func36, Try.ntmps36
  go_wp2_with (first | ((with_reducible refine wpList_load_at ?_ 46 (.tmp 1) ?_ _ ?_ _ HL0.out ?_); rfl; rfl; rfl) | ((with_reducible refine wpList_store_at ?_ 46 (.tmp 2) (.tmp 7) ?_ _ ?_ _ ?_ HST.out ?_); rfl; rfl; rfl; rfl))
  refine bodyPost_ret (v := .tuple #[.agg A, .bool false, .bool false]) ?_ rfl ⟨rfl, HT1.out.below⟩
  have := HL1.out
  simp [results, Try.results36, asAddr, this]

set_option maxHeartbeats 2000000 in
theorem ract_free (p : Pw) (w : World) (ho : p.off = false) (hl : p.left = 0) :
    Calls Try.prog 36 #[.agg p.cells] w fun e w' => e = .returned (.tuple #[.agg p.cells, .bool true, .bool true]) ∧ Below w.heap.size w w' := by
  have hz := zero46
  have T0 := Tab.box2 w p.cells p0.cells 46 46
  have c0 := T0.c 1 rfl 0 (v := .bool false) (by rw [← ho]; rfl)
  have c1 := T0.c 1 rfl 1 (v := .int .i64 0) (by rw [← hl]; rfl)
  obtain ⟨W1, hst, T1, -⟩ := T0.whole 0 rfl 46 info46s (pw_size p) (pw_size p0) (pw_one p)
  have HL0 := Lib.hid (T0.loadAll 1 rfl 46 _ Try.underlying46 rfl info46s (pw_size p))
  have HL1 := Lib.hid (T1.loadAll 0 rfl 46 _ Try.underlying46 rfl info46s (pw_size p))
  have HST := Lib.hid hst
  have HT1 := Lib.hid T1
  clear T0 T1 hst ho hl
  generalize p.cells = A at *
  generalize p0.cells = Z at *
  go_enter Try.func36, Try.ntmps36
  go_wp2_with (first | ((with_reducible refine wpList_load_at ?_ 46 (.tmp 1) ?_ _ ?_ _ HL0.out ?_); rfl; rfl; rfl) | ((with_reducible refine wpList_store_at ?_ 46 (.tmp 2) (.tmp 11) ?_ _ ?_ _ ?_ HST.out ?_); rfl; rfl; rfl; rfl))
  refine bodyPost_ret (v := .tuple #[.agg A, .bool true, .bool true]) ?_ rfl ⟨rfl, HT1.out.below⟩
  have := HL1.out
  simp [results, Try.results36, asAddr, this]

set_option maxHeartbeats 4000000 in
theorem ract_fuse (p : Pw) (w : World) (hok : p.Ok) (ho : p.off = false) (hl : p.left ≠ 0) :
    Calls Try.prog 36 #[.agg p.cells] w fun e w' => e = .returned (.tuple #[.agg ({ p with left := p.left - 1, off := p.left - 1 == 0 } : Pw).cells, .bool true, .bool (!(p.left - 1 == 0))]) ∧ Below w.heap.size w w' := by
  have hz := zero46
  obtain ⟨off, left, keep, junk⟩ := p
  simp only at ho hl hok
  subst ho
  have hok1 : 0 ≤ left := hok.1
  have hok2 : left ≤ 9223372036854775807 := hok.2
  have hl1 : ¬ left = 0 := hl
  have hb0 : (left == 0) = false := by rw [beq_eq_false_iff_ne]; exact hl
  have T0 := Tab.box2 w (Pw.cells ⟨false, left, keep, junk⟩) p0.cells 46 46
  have c0 := T0.c 1 rfl 0 (v := .bool false) rfl
  have c1 := T0.c 1 rfl 1 (v := .int .i64 left) rfl
  have f1 := T0.f 1 rfl 1
  obtain ⟨W1, hs1, T1, -⟩ := T0.one 1 rfl 3 1 (.int .i64 (left - 1)) info3s rfl (by rw [pw_size]; decide)
  simp only [List.set] at T1
  have HS1 := Lib.hid hs1
  rw [show (Pw.cells ⟨false, left, keep, junk⟩).setIfInBounds 1 (.int .i64 (left - 1)) = Pw.cells ⟨false, left - 1, keep, junk⟩ from rfl] at T1
  by_cases h1 : left - 1 = 0
  · have hz1 : (left - 1 == 0) = true := by rw [beq_iff_eq]; exact h1
    have hg : decide (0 < left - 1) = false := decide_eq_false (by omega)
    have hg' : ¬ (0 < left - 1) := by omega
    obtain ⟨W2, hs2, T2, -⟩ := T1.one 1 rfl 4 0 (.bool true) info4s rfl (by rw [pw_size]; decide)
    simp only [List.set] at T2
    have HS2 := Lib.hid hs2
    rw [show (Pw.cells ⟨false, left - 1, keep, junk⟩).setIfInBounds 0 (.bool true) = Pw.cells ⟨true, left - 1, keep, junk⟩ from rfl] at T2
    obtain ⟨W3, hst, T3, -⟩ := T2.whole 0 rfl 46 info46s (pw_size ⟨true, left - 1, keep, junk⟩) (pw_size p0) (pw_one _)
    have HL0 := Lib.hid (T2.loadAll 1 rfl 46 _ Try.underlying46 rfl info46s (pw_size _))
    have HL1 := Lib.hid (T3.loadAll 0 rfl 46 _ Try.underlying46 rfl info46s (pw_size _))
    have HST := Lib.hid hst
    have HT := Lib.hid T3
    simp only [hz1, Bool.not_true]
    have c2 := T1.c 1 rfl 1 (v := .int .i64 (left - 1)) rfl
    have c3 := T1.c 1 rfl 0 (v := .bool false) rfl
    have f2 := T1.f 1 rfl 0
    clear T0 T1 T2 T3 hst hok h1 hl hs1 hs2
    generalize Pw.cells ⟨true, left - 1, keep, junk⟩ = B at *
    generalize Pw.cells ⟨false, left, keep, junk⟩ = A at *
    generalize p0.cells = Z at *
    go_enter Try.func36, Try.ntmps36
    go_wp2_with (first | ((with_reducible refine wpList_store_at ?_ 3 (.tmp 15) (.tmp 14) ?_ _ ?_ _ ?_ HS1.out ?_); rfl; rfl; rfl; rfl) | ((with_reducible refine wpList_store_at ?_ 4 (.tmp 20) (.const (.bool true)) ?_ _ ?_ _ ?_ HS2.out ?_); rfl; rfl; rfl; rfl) | ((with_reducible refine wpList_load_at ?_ 46 (.tmp 1) ?_ _ ?_ _ HL0.out ?_); rfl; rfl; rfl) | ((with_reducible refine wpList_store_at ?_ 46 (.tmp 2) (.tmp 21) ?_ _ ?_ _ ?_ HST.out ?_); rfl; rfl; rfl; rfl))
    refine bodyPost_ret (v := .tuple #[.agg B, .bool true, .bool false]) ?_ rfl ⟨rfl, HT.out.below⟩
    have := HL1.out
    simp [results, Try.results36, asAddr, this]
  · have hz1 : (left - 1 == 0) = false := by rw [beq_eq_false_iff_ne]; exact h1
    have hg : decide (0 < left - 1) = true := decide_eq_true (by omega)
    have hg' : 0 < left - 1 := by omega
    obtain ⟨W3, hst, T3, -⟩ := T1.whole 0 rfl 46 info46s (pw_size ⟨false, left - 1, keep, junk⟩) (pw_size p0) (pw_one _)
    have HL0 := Lib.hid (T1.loadAll 1 rfl 46 _ Try.underlying46 rfl info46s (pw_size _))
    have HL1 := Lib.hid (T3.loadAll 0 rfl 46 _ Try.underlying46 rfl info46s (pw_size _))
    have HST := Lib.hid hst
    have HT := Lib.hid T3
    simp only [hz1, Bool.not_false]
    have c2 := T1.c 1 rfl 1 (v := .int .i64 (left - 1)) rfl
    clear T0 T1 T3 hst hok h1 hl hs1
    generalize Pw.cells ⟨false, left - 1, keep, junk⟩ = B at *
    generalize Pw.cells ⟨false, left, keep, junk⟩ = A at *
    generalize p0.cells = Z at *
    go_enter Try.func36, Try.ntmps36
    go_wp2_with (first | ((with_reducible refine wpList_store_at ?_ 3 (.tmp 15) (.tmp 14) ?_ _ ?_ _ ?_ HS1.out ?_); rfl; rfl; rfl; rfl) | ((with_reducible refine wpList_load_at ?_ 46 (.tmp 1) ?_ _ ?_ _ HL0.out ?_); rfl; rfl; rfl) | ((with_reducible refine wpList_store_at ?_ 46 (.tmp 2) (.tmp 19) ?_ _ ?_ _ ?_ HST.out ?_); rfl; rfl; rfl; rfl))
    refine bodyPost_ret (v := .tuple #[.agg B, .bool true, .bool true]) ?_ rfl ⟨rfl, HT.out.below⟩
    have := HL1.out
    simp [results, Try.results36, asAddr, this]

theorem ract_any (p : Pw) (w : World) (hok : p.Ok) :
    Calls Try.prog 36 #[.agg p.cells] w fun e w' => e = .returned (.tuple #[.agg p.next.cells, .bool p.may, .bool p.whole]) ∧ Below w.heap.size w w' := by
  by_cases ho : p.off = true
  · have e1 : p.may = false := by rw [Pw.may, ho]; rfl
    have e2 : p.whole = false := by rw [Pw.whole, if_pos ho]
    have e3 : p.next = p := by rw [Pw.next, if_pos ho]
    rw [e1, e2, e3]
    exact ract_off p w ho
  · have ho' : p.off = false := by simpa using ho
    have e1 : p.may = true := by rw [Pw.may, ho']; rfl
    by_cases hl : p.left = 0
    · have e2 : p.whole = true := by rw [Pw.whole, if_neg ho, if_pos hl]
      have e3 : p.next = p := by rw [Pw.next, if_neg ho, if_pos hl]
      rw [e1, e2, e3]
      exact ract_free p w ho' hl
    · have e2 : p.whole = !(p.left - 1 == 0) := by rw [Pw.whole, if_neg ho, if_neg hl]
      have e3 : p.next = { p with left := p.left - 1, off := p.left - 1 == 0 } := by rw [Pw.next, if_neg ho, if_neg hl]
      rw [e1, e2, e3]
      exact ract_fuse p w hok ho' hl

set_option maxHeartbeats 2000000 in
theorem rfuse_any (p : Pw) (w : World) (n keep junk : Int) :
    Calls Try.prog 22 #[.agg p.cells, .int .i64 n, .int .i64 keep, .int .u8 junk] w fun e w' => e = .returned (.agg ({ p with left := max n 0, keep := max keep 0, junk := junk } : Pw).cells) ∧ Below w.heap.size w w' := by
  have hz := zero46
  obtain ⟨off, left, keep', junk'⟩ := p
  have T0 := Tab.box2 w (Pw.cells ⟨off, left, keep', junk'⟩) p0.cells 46 46
  have f1 := T0.f 1 rfl 1
  have c1 := T0.c 1 rfl 1 (v := .int .i64 left) rfl
  obtain ⟨W1, hs1, T1, -⟩ := T0.one 1 rfl 3 1 (.int .i64 (max n 0)) info3s rfl (by rw [pw_size]; decide)
  simp only [List.set] at T1
  have HS1 := Lib.hid hs1
  rw [show (Pw.cells ⟨off, left, keep', junk'⟩).setIfInBounds 1 (.int .i64 (max n 0)) = Pw.cells ⟨off, max n 0, keep', junk'⟩ from rfl] at T1
  have f2 := T1.f 1 rfl 2
  have c2 := T1.c 1 rfl 2 (v := .int .i64 keep') rfl
  obtain ⟨W2, hs2, T2, -⟩ := T1.one 1 rfl 3 2 (.int .i64 (max keep 0)) info3s rfl (by rw [pw_size]; decide)
  simp only [List.set] at T2
  have HS2 := Lib.hid hs2
  rw [show (Pw.cells ⟨off, max n 0, keep', junk'⟩).setIfInBounds 2 (.int .i64 (max keep 0)) = Pw.cells ⟨off, max n 0, max keep 0, junk'⟩ from rfl] at T2
  have f3 := T2.f 1 rfl 3
  have c3 := T2.c 1 rfl 3 (v := .int .u8 junk') rfl
  obtain ⟨W3, hs3, T3, -⟩ := T2.one 1 rfl 5 3 (.int .u8 junk) info5s rfl (by rw [pw_size]; decide)
  simp only [List.set] at T3
  have HS3 := Lib.hid hs3
  rw [show (Pw.cells ⟨off, max n 0, max keep 0, junk'⟩).setIfInBounds 3 (.int .u8 junk) = Pw.cells ⟨off, max n 0, max keep 0, junk⟩ from rfl] at T3
  obtain ⟨W4, hst, T4, -⟩ := T3.whole 0 rfl 46 info46s (pw_size ⟨off, max n 0, max keep 0, junk⟩) (pw_size p0) (pw_one _)
  have HL0 := Lib.hid (T3.loadAll 1 rfl 46 _ Try.underlying46 rfl info46s (pw_size _))
  have HL1 := Lib.hid (T4.loadAll 0 rfl 46 _ Try.underlying46 rfl info46s (pw_size _))
  have HST := Lib.hid hst
  have HT := Lib.hid T4
  show Calls Try.prog 22 _ w fun e w' => e = .returned (.agg (Pw.cells ⟨off, max n 0, max keep 0, junk⟩)) ∧ Below w.heap.size w w'
  clear T0 T1 T2 T3 T4 hst hs1 hs2 hs3
  generalize Pw.cells ⟨off, max n 0, max keep 0, junk⟩ = B at *
  generalize Pw.cells ⟨off, left, keep', junk'⟩ = A at *
  generalize p0.cells = Z at *
  go_enter Try.func22, Try.ntmps22
  go_wp2_with (first | ((with_reducible refine wpList_store_at ?_ 3 (.tmp 11) (.tmp 10) ?_ _ ?_ _ ?_ HS1.out ?_); rfl; rfl; rfl; rfl) | ((with_reducible refine wpList_store_at ?_ 3 (.tmp 14) (.tmp 13) ?_ _ ?_ _ ?_ HS2.out ?_); rfl; rfl; rfl; rfl) | ((with_reducible refine wpList_store_at ?_ 5 (.tmp 16) (.tmp 15) ?_ _ ?_ _ ?_ HS3.out ?_); rfl; rfl; rfl; rfl) | ((with_reducible refine wpList_load_at ?_ 46 (.tmp 4) ?_ _ ?_ _ HL0.out ?_); rfl; rfl; rfl) | ((with_reducible refine wpList_store_at ?_ 46 (.tmp 8) (.tmp 17) ?_ _ ?_ _ ?_ HST.out ?_); rfl; rfl; rfl; rfl))
  refine bodyPost_ret (v := .agg B) ?_ rfl ⟨rfl, HT.out.below⟩
  have := HL1.out
  simp [results, Try.results22, asAddr, Act.put, this]
end Go.Proofs.Ytfolmdcceefflaa
