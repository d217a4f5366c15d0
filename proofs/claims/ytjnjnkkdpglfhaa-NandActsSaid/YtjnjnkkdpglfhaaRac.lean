/-
  The reference: Act, Fuse.
-/
import Derived.Test.YtjnjnkkdpglfhaaChp
import Derived.Test.YtjnjnkkdpglfhaaTrn
set_option linter.unusedVariables false
namespace Go.Proofs.Ytjnjnkkdpglfhaa
open Go.RowKit

theorem info48s : (Try.prog.info? 48).map (·.size) = some 4 := by kernel_rfl
theorem p4_one (a : Bool) (b c d : Int) : ∀ v ∈ (#[.bool a, .int .i64 b, .int .i64 c, .int .u8 d] : Array Value).toList, v.oneCell' = true := by
  intro v hv
  simp at hv
  rcases hv with rfl | rfl | rfl | rfl <;> rfl
section
variable {T : List (Nat × Array Value × TypeId)} {a w : World}
/-- The end of a function that hands back a power: the box loaded, the result stored. -/
theorem p4_end {gb gr : Nat} {Z : Array Value} {o : Bool} {l k j : Int} (h : Tab [(gr, Z, 48), (gb, #[.bool o, .int .i64 l, .int .i64 k, .int .u8 j], 48)] a w) (hz : Z.size = 4) :
    (loadVar 48 ⟨gb, 0, none⟩).run Try.prog w = .ok (.agg #[.bool o, .int .i64 l, .int .i64 k, .int .u8 j]) w ∧ ∃ W, (storeVar 48 ⟨gr, 0, none⟩ (.agg #[.bool o, .int .i64 l, .int .i64 k, .int .u8 j])).run Try.prog w = .ok () W ∧ (loadVar 48 ⟨gr, 0, none⟩).run Try.prog W = .ok (.agg #[.bool o, .int .i64 l, .int .i64 k, .int .u8 j]) W ∧ Only (fun _ => False) a W := by
  refine ⟨h.loadAll 1 rfl 48 _ Try.underlying48 rfl info48s rfl, ?_⟩
  obtain ⟨W, hs, ht, _, _⟩ := h.whole (B := #[.bool o, .int .i64 l, .int .i64 k, .int .u8 j]) 0 rfl 48 info48s rfl hz (p4_one o l k j)
  exact ⟨W, hs, ht.loadAll 0 rfl 48 _ Try.underlying48 rfl info48s rfl, ht.only⟩
end
set_option maxRecDepth 100000 in
set_option maxHeartbeats 4000000 in
theorem ract_any (p : Pw) (w : World) (hok : p.Ok) : Calls Try.prog 29 #[.agg p.cells] w fun e w' => e = .returned (.tuple #[.agg p.next.cells, .bool p.may, .bool p.whole]) ∧ Only (fun _ => False) w w' := by
  obtain ⟨o, l, k, j⟩ := p
  obtain ⟨l0, l1⟩ := hok
  dsimp only at l0 l1
  show Calls Try.prog 29 #[.agg #[.bool o, .int .i64 l, .int .i64 k, .int .u8 j]] w _
  have T1 := Tab.box2 w #[.bool o, .int .i64 l, .int .i64 k, .int .u8 j] #[.bool false, .int .i64 0, .int .i64 0, .int .u8 0] 48 48
  by_cases ho : o = true
  · subst ho
    have e1 : (⟨true, l, k, j⟩ : Pw).may = false := rfl
    have e2 : (⟨true, l, k, j⟩ : Pw).whole = false := rfl
    have e3 : (⟨true, l, k, j⟩ : Pw).next = ⟨true, l, k, j⟩ := rfl
    rw [e1, e2, e3]
    go_enter Try.func29, Try.ntmps29
    go_upto_region 1 with fail
    generalize (w.alloc (.cells #[.bool true, .int .i64 l, .int .i64 k, .int .u8 j] 48)).alloc (.cells #[.bool false, .int .i64 0, .int .i64 0, .int .u8 0] 48) = W1 at *
    have c0 := T1.c 1 rfl 0 (v := .bool true) rfl
    obtain ⟨hl, W, hs, hl2, hO⟩ := p4_end T1 rfl
    have HL := Lib.hid hl
    have HS := Lib.hid hs
    have HL2 := Lib.hid hl2
    clear T1 hl hs hl2
    go_wp2_with (first | ((with_reducible refine wpList_load_at ?_ 48 (.tmp 1) ?_ _ ?_ _ HL.out ?_); rfl; rfl; rfl) | ((with_reducible refine wpList_store_at ?_ 48 (.tmp 2) (.tmp 7) ?_ _ ?_ _ ?_ HS.out ?_); rfl; rfl; rfl; rfl))
    refine bodyPost_ret (v := .tuple #[.agg #[.bool true, .int .i64 l, .int .i64 k, .int .u8 j], .bool false, .bool false]) ?_ rfl ⟨rfl, hO⟩
    have := HL2.out
    simp [results, Try.results29, asAddr, this]
  · have ho' : o = false := by simpa using ho
    subst ho'
    by_cases hl0 : l = 0
    · subst hl0
      have e1 : (⟨false, 0, k, j⟩ : Pw).may = true := rfl
      have e2 : (⟨false, 0, k, j⟩ : Pw).whole = true := rfl
      have e3 : (⟨false, 0, k, j⟩ : Pw).next = ⟨false, 0, k, j⟩ := rfl
      rw [e1, e2, e3]
      go_enter Try.func29, Try.ntmps29
      go_upto_region 1 with fail
      generalize (w.alloc (.cells #[.bool false, .int .i64 0, .int .i64 k, .int .u8 j] 48)).alloc (.cells #[.bool false, .int .i64 0, .int .i64 0, .int .u8 0] 48) = W1 at *
      have c0 := T1.c 1 rfl 0 (v := .bool false) rfl
      have c1 := T1.c 1 rfl 1 (v := .int .i64 0) rfl
      obtain ⟨hl, W, hs, hl2, hO⟩ := p4_end T1 rfl
      have HL := Lib.hid hl
      have HS := Lib.hid hs
      have HL2 := Lib.hid hl2
      clear T1 hl hs hl2
      go_wp2_with (first | ((with_reducible refine wpList_load_at ?_ 48 (.tmp 1) ?_ _ ?_ _ HL.out ?_); rfl; rfl; rfl) | ((with_reducible refine wpList_store_at ?_ 48 (.tmp 2) (.tmp 11) ?_ _ ?_ _ ?_ HS.out ?_); rfl; rfl; rfl; rfl))
      refine bodyPost_ret (v := .tuple #[.agg #[.bool false, .int .i64 0, .int .i64 k, .int .u8 j], .bool true, .bool true]) ?_ rfl ⟨rfl, hO⟩
      have := HL2.out
      simp [results, Try.results29, asAddr, this]
    · have hb : (l == 0) = false := by rw [beq_eq_false_iff_ne]; exact hl0
      have hw : IntKind.i64.wrap (l - 1) = l - 1 := by rw [IntKind.wrap_i64]; omega
      have e1 : (⟨false, l, k, j⟩ : Pw).may = true := rfl
      by_cases hq : l - 1 = 0
      · have hqb : (l - 1 == 0) = true := by rw [hq]; rfl
        have e2 : (⟨false, l, k, j⟩ : Pw).whole = false := by
          unfold Pw.whole
          rw [if_neg (by simp), if_neg hl0]
          show (!(l - 1 == 0)) = false
          rw [hqb]
          rfl
        have e3 : (⟨false, l, k, j⟩ : Pw).next = ⟨true, l - 1, k, j⟩ := by
          unfold Pw.next
          rw [if_neg (by simp), if_neg hl0]
          show (⟨l - 1 == 0, l - 1, k, j⟩ : Pw) = _
          rw [hqb]
        rw [e1, e2, e3]
        show Calls Try.prog 29 _ w fun e w' => e = .returned (.tuple #[.agg #[.bool true, .int .i64 (l - 1), .int .i64 k, .int .u8 j], .bool true, .bool false]) ∧ _
        go_enter Try.func29, Try.ntmps29
        go_upto_region 1 with fail
        generalize (w.alloc (.cells #[.bool false, .int .i64 l, .int .i64 k, .int .u8 j] 48)).alloc (.cells #[.bool false, .int .i64 0, .int .i64 0, .int .u8 0] 48) = W1 at *
        have c0 := T1.c 1 rfl 0 (v := .bool false) rfl
        have c1 := T1.c 1 rfl 1 (v := .int .i64 l) rfl
        have f1 := T1.f 1 rfl 1
        have f0 := T1.f 1 rfl 0
        have T2 := (T1.cell 1 rfl 1 (.int .i64 (l - 1))).cell 1 rfl 0 (.bool true)
        obtain ⟨hl, W, hs, hl2, hO⟩ := p4_end (o := true) (l := l - 1) (k := k) (j := j) T2 rfl
        have HL := Lib.hid hl
        have HS := Lib.hid hs
        have HL2 := Lib.hid hl2
        have hng : ¬ (0 : Int) < l - 1 := by omega
        clear T1 T2 hl hs hl2 hq hqb
        go_wp2_with (first | ((with_reducible refine wpList_load_at ?_ 48 (.tmp 1) ?_ _ ?_ _ HL.out ?_); rfl; rfl; rfl) | ((with_reducible refine wpList_store_at ?_ 48 (.tmp 2) (.tmp 21) ?_ _ ?_ _ ?_ HS.out ?_); rfl; rfl; rfl; rfl))
        refine bodyPost_ret (v := .tuple #[.agg #[.bool true, .int .i64 (l - 1), .int .i64 k, .int .u8 j], .bool true, .bool false]) ?_ rfl ⟨rfl, hO⟩
        have := HL2.out
        simp [results, Try.results29, asAddr, this]
      · have hqb : (l - 1 == 0) = false := by rw [beq_eq_false_iff_ne]; exact hq
        have e2 : (⟨false, l, k, j⟩ : Pw).whole = true := by
          unfold Pw.whole
          rw [if_neg (by simp), if_neg hl0]
          show (!(l - 1 == 0)) = true
          rw [hqb]
          rfl
        have e3 : (⟨false, l, k, j⟩ : Pw).next = ⟨false, l - 1, k, j⟩ := by
          unfold Pw.next
          rw [if_neg (by simp), if_neg hl0]
          show (⟨l - 1 == 0, l - 1, k, j⟩ : Pw) = _
          rw [hqb]
        rw [e1, e2, e3]
        show Calls Try.prog 29 _ w fun e w' => e = .returned (.tuple #[.agg #[.bool false, .int .i64 (l - 1), .int .i64 k, .int .u8 j], .bool true, .bool true]) ∧ _
        go_enter Try.func29, Try.ntmps29
        go_upto_region 1 with fail
        generalize (w.alloc (.cells #[.bool false, .int .i64 l, .int .i64 k, .int .u8 j] 48)).alloc (.cells #[.bool false, .int .i64 0, .int .i64 0, .int .u8 0] 48) = W1 at *
        have c0 := T1.c 1 rfl 0 (v := .bool false) rfl
        have c1 := T1.c 1 rfl 1 (v := .int .i64 l) rfl
        have f1 := T1.f 1 rfl 1
        have T2 := T1.cell 1 rfl 1 (.int .i64 (l - 1))
        obtain ⟨hl, W, hs, hl2, hO⟩ := p4_end (o := false) (l := l - 1) (k := k) (j := j) T2 rfl
        have HL := Lib.hid hl
        have HS := Lib.hid hs
        have HL2 := Lib.hid hl2
        have hng : (0 : Int) < l - 1 := by omega
        clear T1 T2 hl hs hl2 hq hqb
        go_wp2_with (first | ((with_reducible refine wpList_load_at ?_ 48 (.tmp 1) ?_ _ ?_ _ HL.out ?_); rfl; rfl; rfl) | ((with_reducible refine wpList_store_at ?_ 48 (.tmp 2) (.tmp 19) ?_ _ ?_ _ ?_ HS.out ?_); rfl; rfl; rfl; rfl))
        refine bodyPost_ret (v := .tuple #[.agg #[.bool false, .int .i64 (l - 1), .int .i64 k, .int .u8 j], .bool true, .bool true]) ?_ rfl ⟨rfl, hO⟩
        have := HL2.out
        simp [results, Try.results29, asAddr, this]
set_option maxRecDepth 100000 in
set_option maxHeartbeats 4000000 in
theorem rfuse_any (p : Pw) (n keep junk : Int) (w : World) : Calls Try.prog 26 #[.agg p.cells, .int .i64 n, .int .i64 keep, .int .u8 junk] w fun e w' => e = .returned (.agg ({ p with left := max n 0, keep := max keep 0, junk := junk } : Pw).cells) ∧ Only (fun _ => False) w w' := by
  obtain ⟨o, l, k, j⟩ := p
  show Calls Try.prog 26 #[.agg #[.bool o, .int .i64 l, .int .i64 k, .int .u8 j], .int .i64 n, .int .i64 keep, .int .u8 junk] w fun e w' => e = .returned (.agg #[.bool o, .int .i64 (max n 0), .int .i64 (max keep 0), .int .u8 junk]) ∧ _
  have T1 := Tab.box2 w #[.bool o, .int .i64 l, .int .i64 k, .int .u8 j] #[.bool false, .int .i64 0, .int .i64 0, .int .u8 0] 48 48
  go_enter Try.func26, Try.ntmps26
  go_upto_region 1 with fail
  generalize (w.alloc (.cells #[.bool o, .int .i64 l, .int .i64 k, .int .u8 j] 48)).alloc (.cells #[.bool false, .int .i64 0, .int .i64 0, .int .u8 0] 48) = W1 at *
  have c1 := T1.c 1 rfl 1 (v := .int .i64 l) rfl
  have c2 := T1.c 1 rfl 2 (v := .int .i64 k) rfl
  have c3 := T1.c 1 rfl 3 (v := .int .u8 j) rfl
  have f1 := T1.f 1 rfl 1
  have f2 := T1.f 1 rfl 2
  have f3 := T1.f 1 rfl 3
  have T2 := ((T1.cell 1 rfl 1 (.int .i64 (max n 0))).cell 1 rfl 2 (.int .i64 (max keep 0))).cell 1 rfl 3 (.int .u8 junk)
  obtain ⟨hl, W, hs, hl2, hO⟩ := p4_end (o := o) (l := max n 0) (k := max keep 0) (j := junk) T2 rfl
  have HL := Lib.hid hl
  have HS := Lib.hid hs
  have HL2 := Lib.hid hl2
  clear T1 T2 hl hs hl2
  go_wp2_with (first | ((with_reducible refine wpList_load_at ?_ 48 (.tmp 4) ?_ _ ?_ _ HL.out ?_); rfl; rfl; rfl) | ((with_reducible refine wpList_store_at ?_ 48 (.tmp 8) (.tmp 17) ?_ _ ?_ _ ?_ HS.out ?_); rfl; rfl; rfl; rfl))
  refine bodyPost_ret (v := .agg #[.bool o, .int .i64 (max n 0), .int .i64 (max keep 0), .int .u8 junk]) ?_ rfl ⟨rfl, hO⟩
  have := HL2.out
  simp [results, Try.results26, asAddr, Act.put, this]
end Go.Proofs.Ytjnjnkkdpglfhaa
