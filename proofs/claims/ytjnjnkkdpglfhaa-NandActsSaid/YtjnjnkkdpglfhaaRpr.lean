/-
  The reference: Program. (Printed by mkrpr.py.)
-/
import Derived.Test.YtjnjnkkdpglfhaaRcn
set_option linter.unusedVariables false
namespace Go.Proofs.Ytjnjnkkdpglfhaa
open Go.RowKit
section
variable {A : Array Value} {lv pv : Value} {st : Cp} {p : Pw}
set_option maxRecDepth 100000 in
set_option maxHeartbeats 4000000 in
theorem rpr_off (h : RA A lv pv st p) (i j : Int) (s : ByteArray) (w : World) (ho : p.off = true) : Calls Try.prog 23 #[.agg A, .int .i64 i, .int .i64 j, .string s] w fun e w' => e = .returned (.tuple #[.agg A, .int .i64 4]) ∧ Only (fun _ => False) w w' := by
  go_enter Try.func23, Try.ntmps23
  go_upto_region 1 with ((with_reducible refine wpList_alloc_at ?_ 53 ?_ _ (zero53 _) ?_); rfl; rfl)
  refine at_world (fun W => Tab [(w.heap.size + 1, Z53, 53), (w.heap.size, A, 53)] w W) (Tab.box2 w A Z53 53 53) ?_
  intro W1 T1
  have c0 := T1.c 1 rfl 0 h.p0.1
  rw [ho] at c0
  obtain ⟨hl, W, hs, hl2, hO, -⟩ := c53_end T1 (i := 0) (j := 1) rfl rfl Z53_size h.size h.one
  have HL := Lib.hid hl
  have HS := Lib.hid hs
  have HL2 := Lib.hid hl2
  clear T1 h ho hl hs hl2
  go_wp2_with (first | ((with_reducible refine wpList_load_at ?_ 53 (.tmp 4) ?_ _ ?_ _ HL.out ?_); rfl; rfl; rfl) | ((with_reducible refine wpList_store_at ?_ 53 (.tmp 8) (.tmp 21) ?_ _ ?_ _ ?_ HS.out ?_); rfl; rfl; rfl; rfl))
  refine bodyPost_ret (v := .tuple #[.agg A, .int .i64 4]) ?_ rfl ⟨rfl, hO⟩
  have := HL2.out
  simp [results, Try.results23, asAddr, this]
set_option maxRecDepth 100000 in
set_option maxHeartbeats 4000000 in
theorem rpr_arg (h : RA A lv pv st p) (i j : Int) (s : ByteArray) (w : World) (ho : p.off = false) (hh : hasB st.segs st.pages i j = false) : Calls Try.prog 23 #[.agg A, .int .i64 i, .int .i64 j, .string s] w fun e w' => e = .returned (.tuple #[.agg A, .int .i64 1]) ∧ Only (fun _ => False) w w' := by
  go_enter Try.func23, Try.ntmps23
  go_upto_region 1 with ((with_reducible refine wpList_alloc_at ?_ 53 ?_ _ (zero53 _) ?_); rfl; rfl)
  refine at_world (fun W => Tab [(w.heap.size + 1, Z53, 53), (w.heap.size, A, 53)] w W) (Tab.box2 w A Z53 53 53) ?_
  intro W1 T1
  have c0 := T1.c 1 rfl 0 h.p0.1
  rw [ho] at c0
  have HL := Lib.hid (T1.loadAll 1 rfl 53 _ Try.underlying53 rfl info53s h.size)
  have HI := Lib.hid (rin_any h i j W1)
  rw [hh] at HI
  have HT := Lib.hid T1
  have HR := Lib.hid h
  clear T1 h ho hh
  go_upto_region 4 with (first | ((with_reducible refine wpList_load_at ?_ 53 (.tmp 4) ?_ _ ?_ _ HL.out ?_); rfl; rfl; rfl) | (go_at_call 41; (with_reducible refine HI.out.mono ?_); rintro e w2 ⟨rfl, k2⟩))
  obtain ⟨hl, W, hs, hl2, hO, -⟩ := c53_end (HT.out.on k2) (i := 0) (j := 1) rfl rfl Z53_size HR.out.size HR.out.one
  have HL1 := Lib.hid hl
  have HS := Lib.hid hs
  have HL2 := Lib.hid hl2
  clear hl hs hl2 k2 HT HL
  go_wp2_with (first | ((with_reducible refine wpList_load_at ?_ 53 (.tmp 4) ?_ _ ?_ _ HL1.out ?_); rfl; rfl; rfl) | ((with_reducible refine wpList_store_at ?_ 53 (.tmp 8) (.tmp 32) ?_ _ ?_ _ ?_ HS.out ?_); rfl; rfl; rfl; rfl))
  refine bodyPost_ret (v := .tuple #[.agg A, .int .i64 1]) ?_ rfl ⟨rfl, hO⟩
  have := HL2.out
  simp [results, Try.results23, asAddr, this]
set_option maxRecDepth 100000 in
set_option maxHeartbeats 4000000 in
theorem rpr_big (h : RA A lv pv st p) (i j : Int) (s : ByteArray) (w : World) (ho : p.off = false) (hh : hasB st.segs st.pages i j = true) (hs : 256 < s.size) : Calls Try.prog 23 #[.agg A, .int .i64 i, .int .i64 j, .string s] w fun e w' => e = .returned (.tuple #[.agg A, .int .i64 1]) ∧ Only (fun _ => False) w w' := by
  have hsz : (256 : Int) < (s.size : Int) := by omega
  go_enter Try.func23, Try.ntmps23
  go_upto_region 1 with ((with_reducible refine wpList_alloc_at ?_ 53 ?_ _ (zero53 _) ?_); rfl; rfl)
  refine at_world (fun W => Tab [(w.heap.size + 1, Z53, 53), (w.heap.size, A, 53)] w W) (Tab.box2 w A Z53 53 53) ?_
  intro W1 T1
  have c0 := T1.c 1 rfl 0 h.p0.1
  rw [ho] at c0
  have HL := Lib.hid (T1.loadAll 1 rfl 53 _ Try.underlying53 rfl info53s h.size)
  have HI := Lib.hid (rin_any h i j W1)
  rw [hh] at HI
  have HT := Lib.hid T1
  have HR := Lib.hid h
  clear T1 h ho hh
  go_upto_region 4 with (first | ((with_reducible refine wpList_load_at ?_ 53 (.tmp 4) ?_ _ ?_ _ HL.out ?_); rfl; rfl; rfl) | (go_at_call 41; (with_reducible refine HI.out.mono ?_); rintro e w2 ⟨rfl, k2⟩))
  obtain ⟨hl, W, hs, hl2, hO, -⟩ := c53_end (HT.out.on k2) (i := 0) (j := 1) rfl rfl Z53_size HR.out.size HR.out.one
  have HL1 := Lib.hid hl
  have HS := Lib.hid hs
  have HL2 := Lib.hid hl2
  clear hl hs hl2 k2 HT HL
  go_wp2_with (first | ((with_reducible refine wpList_load_at ?_ 53 (.tmp 4) ?_ _ ?_ _ HL1.out ?_); rfl; rfl; rfl) | ((with_reducible refine wpList_store_at ?_ 53 (.tmp 8) (.tmp 32) ?_ _ ?_ _ ?_ HS.out ?_); rfl; rfl; rfl; rfl))
  refine bodyPost_ret (v := .tuple #[.agg A, .int .i64 1]) ?_ rfl ⟨rfl, hO⟩
  have := HL2.out
  simp [results, Try.results23, asAddr, this]
set_option maxRecDepth 100000 in
set_option maxHeartbeats 16000000 in
theorem rpr_used (h : RA A lv pv st p) (i j : Nat) (s : ByteArray) (w : World) (ho : p.off = false) (hi : i < st.segs) (hj : j < st.pages) (hs : s.size ≤ 256) (hl : LC w lv st) (hu : (st.page i j).isSome = true) :
    Calls Try.prog 23 #[.agg A, .int .i64 i, .int .i64 j, .string s] w fun e w' => e = .returned (.tuple #[.agg A, .int .i64 100]) ∧ Only (fun _ => False) w w' := by
  go_enter Try.func23, Try.ntmps23
  go_upto_region 1 with ((with_reducible refine wpList_alloc_at ?_ 53 ?_ _ (zero53 _) ?_); rfl; rfl)
  refine at_world (fun W => Tab [(w.heap.size + 1, Z53, 53), (w.heap.size, A, 53)] w W) (Tab.box2 w A Z53 53 53) ?_
  intro W1 T1
  have c0 := T1.c 1 rfl 0 h.p0.1
  rw [ho] at c0
  have HL := Lib.hid (T1.loadAll 1 rfl 53 _ Try.underlying53 rfl info53s h.size)
  have HI := Lib.hid (rin_any h i j W1)
  rw [show hasB st.segs st.pages (i : Int) (j : Int) = true by simp only [hasB, decide_eq_true_eq]; omega] at HI
  have HT := Lib.hid T1
  have HR := Lib.hid h
  have HLC := Lib.hid hl
  have hsz : ¬ (256 : Int) < (s.size : Int) := by omega
  have hlt := at_lt hi hj
  obtain ⟨hz0, hz1⟩ := lc_two hi hj
  obtain ⟨g, cap0, rfl, hc1, hc2, hcs⟩ := hl
  have hc0 := hcs _ _ hz0
  have hlen := h.lens
  have hmb : i * st.pages ≤ 64 * 16 := Nat.mul_le_mul (by omega) (by omega)
  have hcA := h.pages
  have hcL := h.l
  have hmul : (i : Int) * (st.pages : Int) = ((i * st.pages : Nat) : Int) := by simp
  have hj16 : j < 16 := by omega
  obtain ⟨q, hq⟩ : ∃ q, st.pages = q := ⟨_, rfl⟩
  rw [hu] at hc0
  rw [hq] at hcA hlt hc0 hmb hcL hmul
  obtain ⟨M, hM⟩ : ∃ M, i * q = M := ⟨_, rfl⟩
  obtain ⟨L, hL⟩ : ∃ L, st.segs * q = L := ⟨_, rfl⟩
  rw [hM] at hlt hc0 hmb hmul
  rw [hL] at hlt hcL
  have hw1 : IntKind.i64.wrap (M : Int) = (M : Int) := by rw [IntKind.wrap_i64]; omega
  obtain ⟨N, hN⟩ : ∃ N, M + j = N := ⟨_, rfl⟩
  have hadd : (M : Int) + (j : Int) = (N : Int) := by omega
  rw [hN] at hlt hc0
  have hw2 : IntKind.i64.wrap (N : Int) = (N : Int) := by rw [IntKind.wrap_i64]; omega
  have hNL : (N : Int) < (L : Int) := by omega
  have HC := Lib.hid hc0
  have HNL := Lib.hid (And.intro hlt (And.intro hq (And.intro hM (And.intro hL hN))))
  clear T1 h ho hlen hz0 hz1 hc0 hcs hc1 hc2 hlt hmb hu hj16
  clear HLC
  go_upto_region 5 with (first | ((with_reducible refine wpList_load_at ?_ 53 (.tmp 4) ?_ _ ?_ _ HL.out ?_); rfl; rfl; rfl) | (go_at_call 41; (with_reducible refine HI.out.mono ?_); rintro e w2 ⟨rfl, k2⟩))
  have T2 := HT.out.on k2
  have HT2 := Lib.hid T2
  have d5 := T2.c 1 rfl 5 hcA
  have d71 := T2.c 1 rfl 71 hcL
  have dg := (World.cell?_of_block (T2.only.block _ (World.block_lt_of_cell? w _ HC.out) (fun x => x))).trans HC.out
  obtain ⟨hl, W, hs2, hl2, hO, -⟩ := c53_end T2 (i := 0) (j := 1) rfl rfl Z53_size HR.out.size HR.out.one
  have HL1 := Lib.hid hl
  have HS := Lib.hid hs2
  have HL2 := Lib.hid hl2
  clear T2 k2 HT HL HI c0 hl hs2 hl2 hcA hcL
  go_wp2_with (first | ((with_reducible refine wpList_load_at ?_ 53 (.tmp 4) ?_ _ ?_ _ HL1.out ?_); rfl; rfl; rfl) | ((with_reducible refine wpList_store_at ?_ 53 (.tmp 8) (.tmp 45) ?_ _ ?_ _ ?_ HS.out ?_); rfl; rfl; rfl; rfl))
  refine bodyPost_ret (v := .tuple #[.agg A, .int .i64 100]) ?_ rfl ⟨rfl, hO⟩
  have := HL2.out
  simp [results, Try.results23, asAddr, this]
set_option maxRecDepth 100000 in
set_option maxHeartbeats 16000000 in
theorem rpr_w (h : RA A lv pv st p) (i j : Nat) (s : ByteArray) (w : World) (ho : p.off = false) (hi : i < st.segs) (hj : j < st.pages) (hs : s.size ≤ 256) (hl : LC w lv st) (hu : (st.page i j) = none) (hpv : SL w pv st.past) (hpi : p.In) (hN : st.past.length ≤ 100000) (hP : 0 ≤ st.programs ∧ st.programs ≤ 100000) (hwh : p.whole = true) :
    Calls Try.prog 23 #[.agg A, .int .i64 i, .int .i64 j, .string s] w fun e w' => ∃ A', e = .returned (.tuple #[.agg A', .int .i64 0]) ∧ ∃ lv' pv', RA A' lv' pv' (st.prg i j (doneT p.next true (fillT s))) p.next ∧ LNew w w' lv' (st.prg i j (doneT p.next true (fillT s))) ∧ OS w' w.heap.size pv' (st.past ++ [doneT p.next true (fillT s)]) ∧ Only (fun _ => False) w w' := by
  go_enter Try.func23, Try.ntmps23
  go_upto_region 1 with ((with_reducible refine wpList_alloc_at ?_ 53 ?_ _ (zero53 _) ?_); rfl; rfl)
  refine at_world (fun W => Tab [(w.heap.size + 1, Z53, 53), (w.heap.size, A, 53)] w W) (Tab.box2 w A Z53 53 53) ?_
  intro W1 T1
  have c0 := T1.c 1 rfl 0 h.p0.1
  rw [ho] at c0
  have HL := Lib.hid (T1.loadAll 1 rfl 53 _ Try.underlying53 rfl info53s h.size)
  have HI := Lib.hid (rin_any h i j W1)
  rw [show hasB st.segs st.pages (i : Int) (j : Int) = true by simp only [hasB, decide_eq_true_eq]; omega] at HI
  have HT := Lib.hid T1
  have HR := Lib.hid h
  have HLC := Lib.hid hl
  have hsz : ¬ (256 : Int) < (s.size : Int) := by omega
  have hlt := at_lt hi hj
  obtain ⟨hz0, hz1⟩ := lc_two hi hj
  have HLL := Lib.hid hl
  have HPV := Lib.hid hpv
  have HX := Lib.hid (And.intro hi (And.intro hj hs))
  have HPI := Lib.hid hpi
  have HP := Lib.hid (And.intro hN hP)
  have HWH := Lib.hid hwh
  obtain ⟨g, cap0, hlv, hc1, hc2, hcs⟩ := hl
  have hc0 := hcs _ _ hz0
  have hlen := h.lens
  have hmb : i * st.pages ≤ 64 * 16 := Nat.mul_le_mul (by omega) (by omega)
  have hcA := h.pages
  have hcL := h.l
  rw [hlv] at hcL
  have hmul : (i : Int) * (st.pages : Int) = ((i * st.pages : Nat) : Int) := by simp
  have hj16 : j < 16 := by omega
  obtain ⟨q, hq⟩ : ∃ q, st.pages = q := ⟨_, rfl⟩
  rw [hu] at hc0
  rw [hq] at hcA hlt hc0 hmb hcL hmul
  obtain ⟨M, hM⟩ : ∃ M, i * q = M := ⟨_, rfl⟩
  obtain ⟨L, hL⟩ : ∃ L, st.segs * q = L := ⟨_, rfl⟩
  rw [hM] at hlt hc0 hmb hmul
  rw [hL] at hlt hcL
  have hw1 : IntKind.i64.wrap (M : Int) = (M : Int) := by rw [IntKind.wrap_i64]; omega
  obtain ⟨N, hNN⟩ : ∃ N, M + j = N := ⟨_, rfl⟩
  have hadd : (M : Int) + (j : Int) = (N : Int) := by omega
  rw [hNN] at hlt hc0
  have hw2 : IntKind.i64.wrap (N : Int) = (N : Int) := by rw [IntKind.wrap_i64]; omega
  have hNL : (N : Int) < (L : Int) := by omega
  have HC := Lib.hid hc0
  have HNL := Lib.hid (And.intro hlt (And.intro hq (And.intro hM (And.intro hL hNN))))
  clear T1 h ho hlen hz0 hz1 hc0 hcs hc1 hc2 hlt hmb hu hj16 hq hM hL hNN hlv hi hj hs hpv hpi hN hP hwh
  go_upto_region 5 with (first | ((with_reducible refine wpList_load_at ?_ 53 (.tmp 4) ?_ _ ?_ _ HL.out ?_); rfl; rfl; rfl) | (go_at_call 41; (with_reducible refine HI.out.mono ?_); rintro e w2 ⟨rfl, k2⟩))
  have T2 := HT.out.on k2
  have HT2 := Lib.hid T2
  have d5 := T2.c 1 rfl 5 hcA
  have d71 := T2.c 1 rfl 71 hcL
  have dg := (World.cell?_of_block (T2.only.block _ (World.block_lt_of_cell? w _ HC.out) (fun x => x))).trans HC.out
  clear T2 k2 HT HL HI c0 hcA hcL
  go_upto_region 10 with ((with_reducible refine wpList_make_at ?_ 35 (.const (.int .i64 256)) (.const (.int .i64 256)) ?_ _ _ _ ?_ ?_ (make35 _) ?_); rfl; rfl; rfl; rfl)
  have T3 := HT2.out.alloc (rowB zrow) 5
  obtain ⟨gb, hgb⟩ : ∃ gb, gb = w2.heap.size := ⟨_, rfl⟩
  rw [← hgb] at T3 ⊢
  generalize w2.alloc (.cells (rowB zrow) 5) = W3 at *
  have HT3 := Lib.hid T3
  clear d5 d71 dg HT2 T3 hgb
  go_loopw [12] (fun x wr => ∃ (k : Nat), k ≤ s.size ∧ x = .int .i64 k ∧ Hid (Tab [(gb, rowB (filL s k), 5), (w.heap.size + 1, Z53, 53), (w.heap.size, A, 53)] w wr)) (fun x _ => s.size - (intOf x).toNat)
  case atStart => exact ⟨0, by omega, rfl, by rw [filL_0]; exact HT3.out⟩
  case round =>
    obtain ⟨k, hk, rfl, hx⟩ := hrel
    by_cases hlt : k < s.size
    · have hlt' : (k : Int) < s.size := by omega
      have HK := Lib.hid hlt
      have hk0 : (0 : Int) ≤ (k : Int) := by omega
      have hk256 : (k : Int) < 256 := by omega
      have hxx : s.data.toList[k]? = some (s[k]'hlt) := by simp [hlt]; rfl
      obtain ⟨Wa, hsa, Ta, za, oa⟩ := hx.out.one 0 rfl 5 k (.int .u8 ((s[k]'hlt).toNat : Int)) info5s rfl (by rw [rowB_size, filL_len s k hk HX.out.2.2]; omega)
      rw [rowB_set, filL_step s k hxx HX.out.2.2] at Ta
      have HTa : Hid (Tab [(gb, rowB (filL s (k + 1)), 5), (w.heap.size + 1, Z53, 53), (w.heap.size, A, 53)] w Wa) := Ta
      have HSa := Lib.hid hsa
      clear hx hsa Ta za oa hxx
      go_wp2_with (first | ((with_reducible refine wpList_store_at ?_ 5 (.tmp 58) (.tmp 57) ?_ _ ?_ _ ?_ HSa.out ?_); rfl; rfl; rfl; rfl))
      go_roundw
      case rel => exact ⟨k + 1, by have := HK.out; omega, by go_num, HTa.out⟩
      case measure => have := HK.out; simp [intOf]; omega
    · obtain rfl : k = s.size := by omega
      obtain ⟨t0, ht0⟩ : ∃ t0, t0 = fillT s := ⟨_, rfl⟩
      have HZ0 : Hid (t0.size = 256) := by rw [ht0]; exact fillT_len HX.out.2.2
      have hx2 := hx.out
      rw [filL_end, ← ht0] at hx2
      have hl61 := hx2.load 2 rfl 48 _ Try.underlying48 rfl 0 info48s (by rw [HR.out.size]; decide)
      rw [Nat.zero_add, HR.out.pw] at hl61
      have ha := ract_any p wr HPI.out.1
      rw [HWH.out] at ha
      have HX0 := Lib.hid hx2
      have HL61 := Lib.hid hl61
      have HA := Lib.hid ha
      have HT0 := Lib.hid ht0
      clear hx hx2 hl61 ha ht0
      go_wp2_with ((with_reducible refine wpList_load_at ?_ 48 (.tmp 60) ?_ _ ?_ _ HL61.out ?_); rfl; rfl; rfl)
      refine HA.out.mono ?_
      rintro e w3 ⟨rfl, k3⟩
      obtain ⟨W4, hs4, T5, z4, o4⟩ := (HX0.out.on k3).fresh (B := p.next.cells) #[.bool false, .int .i64 0, .int .i64 0, .int .u8 0] 48 info48s rfl rfl (p4_one _ _ _ _)
      have hl66 := T5.loadAll 0 rfl 48 _ Try.underlying48 rfl info48s rfl
      obtain ⟨W5, hs5, T6, z5, o5⟩ := T5.part (B := p.next.cells) 3 rfl 48 0 info48s rfl (by rw [HR.out.size]; decide) (p4_one _ _ _ _)
      replace T6 : Tab [(w3.heap.size, p.next.cells, 48), (gb, rowB (t0.data.toList), 5), (w.heap.size + 1, Z53, 53), (w.heap.size, splice A 0 p.next.cells, 53)] w W5 := T6
      have HR2 := Lib.hid (HR.out.setPw p.next)
      generalize splice A 0 p.next.cells = A2 at *
      have HT6 := Lib.hid T6
      have HS4 := Lib.hid hs4
      have HL66 := Lib.hid hl66
      have HS5 := Lib.hid hs5
      clear k3 hs4 T5 z4 o4 hl66 hs5 T6 z5 o5 HX0 HL61 HA
      have hLL : st.segs * st.pages = L := by rw [HNL.out.2.1, HNL.out.2.2.2.1]
      have hIJ : i * st.pages + j = N := by rw [HNL.out.2.1, HNL.out.2.2.1, HNL.out.2.2.2.2]
      have T6a := HT6.out.on ((Only.refl _ W5).alloc (.cells #[] 97))
      have e71 := T6a.c 3 rfl 71 HR2.out.l
      have hcp := copyL (HLL.out.keep HT6.out.only) HT6.out HR2.out.lens
      rw [hLL] at hcp
      obtain ⟨gl, cap, cur, W6, hap, hc1, hc2, T7, hLR, hgl⟩ := hcp
      obtain ⟨W7, hs7, T8, z7, o7⟩ := T7.one 4 rfl 50 71 (.slice (some ⟨gl, 0, none⟩) L cap) info50s rfl (by rw [HR2.out.size]; decide)
      replace T8 : Tab [(gl, cur, 97), (w3.heap.size, p.next.cells, 48), (gb, rowB (t0.data.toList), 5), (w.heap.size + 1, Z53, 53), (w.heap.size, A2.setIfInBounds 71 (.slice (some ⟨gl, 0, none⟩) L cap), 53)] w W7 := T8
      have HR3 := Lib.hid (HR2.out.setL (.slice (some ⟨gl, 0, none⟩) L cap) rfl)
      generalize A2.setIfInBounds 71 (.slice (some ⟨gl, 0, none⟩) L cap) = A3 at *
      have f71 := T8.c 4 rfl 71 HR3.out.l
      have hcv := rowB_conv (T8.get 2 rfl) HZ0.out
      have hfit : N * 2 + 2 ≤ cur.size := by have := hLR.1; have := HNL.out.1; omega
      obtain ⟨W8, hs8, T9, z8, o8⟩ := T8.part (B := #[.bool (some t0).isSome, .string ((some t0).getD ByteArray.empty)]) 0 rfl 97 (N * 2) info97s rfl hfit (by intro v hv; simp at hv; rcases hv with rfl | rfl <;> rfl)
      have hLa := hLR.put (i := i) (j := j) HX.out.1 HX.out.2.1 (some t0)
      rw [hIJ] at hLa
      replace T9 : Tab [(gl, splice cur (N * 2) #[.bool (some t0).isSome, .string ((some t0).getD ByteArray.empty)], 97), (w3.heap.size, p.next.cells, 48), (gb, rowB (t0.data.toList), 5), (w.heap.size + 1, Z53, 53), (w.heap.size, A3, 53)] w W8 := T9
      generalize splice cur (N * 2) #[.bool (some t0).isSome, .string ((some t0).getD ByteArray.empty)] = cu at *
      have HLL2 := Lib.hid (And.intro hLL (And.intro hc1 hc2))
      have HAP := Lib.hid hap
      have HS7 := Lib.hid hs7
      have HCV := Lib.hid hcv
      have HS8 := Lib.hid hs8
      have HT9 := Lib.hid T9
      have HLA := Lib.hid hLa
      clear hLL hIJ T6a hap hc1 hc2 T7 hLR hgl hs7 T8 z7 o7 hcv hfit hs8 T9 z8 o8 hLa
      go_wp2_with (first | ((with_reducible refine wpList_store_at ?_ 48 (.tmp 13) (.tmp 63) ?_ _ ?_ _ ?_ HS4.out ?_); rfl; rfl; rfl; rfl) | ((with_reducible refine wpList_load_at ?_ 48 (.tmp 13) ?_ _ ?_ _ HL66.out ?_); rfl; rfl; rfl) | ((with_reducible refine wpList_store_at ?_ 48 (.tmp 67) (.tmp 66) ?_ _ ?_ _ ?_ HS5.out ?_); rfl; rfl; rfl; rfl) | ((with_reducible refine wpList_bs_at ?_ 50 0 #[] ?_ [] ?_ _ (cbuild_0 _) ?_); rfl; rfl; rfl) | ((with_reducible refine wpList_app_g ?_ (.tmp 82) (.tmp 84) 50 ?_ _ _ _ ?_ ?_ HAP.out ?_); rfl; rfl; rfl; rfl) | ((with_reducible refine wpList_store_at ?_ 50 (.tmp 86) (.tmp 85) ?_ _ ?_ _ ?_ HS7.out ?_); rfl; rfl; rfl; rfl) | ((with_reducible refine wpList_conv_at ?_ 35 9 (.tmp 90) ?_ _ ?_ _ HCV.out ?_); rfl; rfl; rfl) | ((with_reducible refine wpList_build_at ?_ 97 #[(0, .const (.bool true)), (1, .tmp 91)] ?_ [(0, .bool true), (1, .string t0)] ?_ _ (build97 t0 _) ?_); rfl; rfl; rfl) | ((with_reducible refine wpList_store_at ?_ 97 (.tmp 93) (.tmp 92) ?_ _ ?_ _ ?_ HS8.out ?_); rfl; rfl; rfl; rfl))
      clear e71 f71 HAP HS7 HCV HS8 HS4 HL66 HS5
      refine wp_region_held (S := fun W => W.heap[gb]? = some (.cells (rowB t0.data.toList) 5 (0, 0))) (by kernel_rfl) ?_
      change wpAnyH _ _ _ _ _ _ _ _ (World.drew _)
      obtain ⟨D, hD⟩ : ∃ D, D = World.drew W8 := ⟨_, rfl⟩
      have HTD : Hid (Tab [(gl, cu, 97), (w3.heap.size, p.next.cells, 48), (gb, rowB (t0.data.toList), 5), (w.heap.size + 1, Z53, 53), (w.heap.size, A3, 53)] w D) := by rw [hD]; exact HT9.out.drew
      rw [← hD]
      clear hD
      simp only [Act.put]
      have hS0 : (fun W : World => W.heap[gb]? = some (.cells (rowB t0.data.toList) 5 (0, 0))) D := HTD.out.get 2 rfl
      have HPD := Lib.hid (HPV.out.keep HTD.out.only)
      have HLO : Hid (∀ W, Only (fun _ => False) D W → (loadVar 43 ⟨w.heap.size, 136, none⟩).run Try.prog W = .ok pv W) := fun W o => load_one 43 _ Try.underlying43 rfl ((HTD.out.on o).c 4 rfl 136 HR3.out.past)
      have HGB : Hid (∀ W, Only (fun _ => False) D W → W.heap[gb]? = some (.cells (rowB t0.data.toList) 5 (0, 0))) := fun W o => (HTD.out.on o).get 2 rfl
      refine held_pure (i := 1) (v := (.pointer (some ⟨w.heap.size, 136, none⟩))) rfl rfl (by kernel_rfl) (by kernel_rfl) (by kernel_rfl) (fun _ _ _ h => h) (Or.inl ⟨by rfl, fun w => by go_simp⟩) hS0 ?_
      simp only [List.setIfInBounds_toArray, List.set]
      refine held_pure (i := 4) (v := (.slice (some ⟨gb, 0, none⟩) 256 256)) rfl rfl (by kernel_rfl) (by kernel_rfl) (by kernel_rfl) (fun _ _ _ h => h) (Or.inl ⟨by rfl, fun w => by go_simp⟩) hS0 ?_
      simp only [List.setIfInBounds_toArray, List.set]
      refine held_take (i := 5) (v := (.string t0)) rfl rfl (by kernel_rfl) (by kernel_rfl) (by kernel_rfl) (fun _ _ _ h => h) (yields_conv rfl 35 9 (.tmp 98) rfl _ rfl _ (fun W hS => rowB_conv hS HZ0.out)) hS0 ?_
      simp only [List.setIfInBounds_toArray, List.set]
      have HC0 := Lib.hid (Cn.zero D)
      refine held_three (j := 0) (k := 2) (l := 6) (by kernel_rfl) ?_ ?_ ?_
      · obtain ⟨v1, D1, hr, hc⟩ := cn_0 HC0.out
        have HC1 := Lib.hid hc
        refine op_exec (j := 0) rfl rfl (by rfl) _ (exec_bs 43 0 #[] rfl [] rfl _ hr) ?_
        refine ⟨HGB.out _ HC1.out.on, ?_⟩
        clear hr hc
        simp only [List.setIfInBounds_toArray, List.set]
        refine held_two (j := 2) (k := 6) (by kernel_rfl) ?_ ?_
        · refine op_exec (j := 2) rfl rfl (by rfl) pv (exec_load 43 (.tmp 95) rfl ⟨w.heap.size, 136, none⟩ rfl pv (HLO.out _ HC1.out.on)) ?_
          refine ⟨HGB.out _ HC1.out.on, ?_⟩
          simp only [List.setIfInBounds_toArray, List.set]
          refine held_two (j := 3) (k := 6) (by kernel_rfl) ?_ ?_
          · obtain ⟨v3, D3, hr, hc⟩ := cn_3 HC1.out HPD.out HP.out.1
            have HC3 := Lib.hid hc
            refine op_exec (j := 3) rfl rfl (by rfl) _ (exec_app (.tmp 94) (.tmp 96) 43 rfl _ _ _ rfl rfl hr) ?_
            refine ⟨HGB.out _ HC3.out.on, ?_⟩
            clear hr hc
            simp only [List.setIfInBounds_toArray, List.set]
            refine held_one (j := 6) (by kernel_rfl) ?_
            · obtain ⟨g4, D4, hr, hc⟩ := cn_6 HC3.out t0
              have HC4 := Lib.hid hc
              refine op_exec (j := 6) rfl rfl (by rfl) _ (exec_bs 43 1 #[(0, .tmp 99)] rfl [(0, .string t0)] rfl _ hr) ?_
              refine ⟨HGB.out _ HC4.out.on, ?_⟩
              clear hr hc
              simp only [List.setIfInBounds_toArray, List.set]
              obtain ⟨v7, D7, hr, hos, ho⟩ := cn_7 HC4.out HP.out.1
              have HR7 := Lib.hid hr
              have HOS := Lib.hid hos
              have HO7 := Lib.hid ho
              have hS7 : (fun W : World => W.heap[gb]? = some (.cells (rowB t0.data.toList) 5 (0, 0))) D7 := HGB.out _ ho
              clear hr hos ho
              refine held_execd (j := 7) (by kernel_rfl) rfl rfl (by rfl) _ (exec_app (.tmp 97) (.tmp 100) 43 rfl _ _ _ rfl rfl HR7.out) hS7 ?_
              simp only [List.setIfInBounds_toArray, List.set]
              refine held_pure (i := 8) (v := (.pointer (some ⟨w.heap.size, 136, none⟩))) rfl rfl (by kernel_rfl) (by kernel_rfl) (by kernel_rfl) (fun _ _ _ h => h) (Or.inl ⟨by rfl, fun w => by go_simp⟩) hS7 ?_
              simp only [List.setIfInBounds_toArray, List.set]
              obtain ⟨Y, hsy, TY, zy, oy⟩ := (HTD.out.on HO7.out).one 4 rfl 43 136 v7 info43s HOS.out.cell1 (by rw [HR3.out.size]; decide)
              replace TY : Tab [(gl, cu, 97), (w3.heap.size, p.next.cells, 48), (gb, rowB (t0.data.toList), 5), (w.heap.size + 1, Z53, 53), (w.heap.size, A3.setIfInBounds 136 v7, 53)] w Y := TY
              refine held_store (j := 9) (by kernel_rfl) rfl rfl rfl 43 (.tmp 102) (.tmp 101) rfl _ rfl _ rfl hsy (TY.get 2 rfl) ?_
              refine wpAnyH_done (by kernel_rfl) ?_ _
              have hbx : w.heap.size < D.heap.size := HTD.out.lt (p := (w.heap.size, A3, 53)) (by simp)
              have hbr : w.heap.size + 1 < D.heap.size := HTD.out.lt (p := (w.heap.size + 1, Z53, 53)) (by simp)
              have hosY : OS Y D.heap.size v7 (st.past ++ [t0]) := HOS.out.keep oy (fun k hk e => by have := HOS.out.base_le hk; omega)
              have hr4 := HR3.out.setPast v7 HOS.out.cell1
              generalize A3.setIfInBounds 136 v7 = A4 at *
              have f137 := TY.c 4 rfl 137 hr4.programs
              obtain ⟨Y2, hsb, Tb, zb, ob⟩ := TY.one 4 rfl 3 137 (.int .i64 (st.programs + 1)) info3s rfl (by rw [hr4.size]; omega)
              have hosY2 := hosY.keep ob (fun k hk e => by have := HOS.out.base_le hk; omega)
              have hr5 := hr4.setPrograms (st.programs + 1)
              replace Tb : Tab [(gl, cu, 97), (w3.heap.size, p.next.cells, 48), (gb, rowB (t0.data.toList), 5), (w.heap.size + 1, Z53, 53), (w.heap.size, A4.setIfInBounds 137 (.int .i64 (st.programs + 1)), 53)] w Y2 := Tb
              generalize A4.setIfInBounds 137 (.int .i64 (st.programs + 1)) = A5 at *
              obtain ⟨hl, Y3, hs, hl2, ht, hoY⟩ := c53_end' Tb (i := 3) (j := 4) rfl rfl Z53_size hr5.size hr5.one
              have hosY3 : OS Y3 w.heap.size v7 (st.past ++ [t0]) := (hosY2.keep hoY (fun k hk e => by have := HOS.out.base_le hk; omega)).mono HTD.out.only.size
              have hlc0 : LNew w Y3 (.slice (some ⟨gl, 0, none⟩) (st.segs * st.pages) cap) (st.prg i j t0) := Tab.rowNew ht 0 rfl HLA.out (by rw [HLL2.out.1]; exact HLL2.out.2.1) HLL2.out.2.2
              rw [HLL2.out.1] at hlc0
              have hra : RA A5 (.slice (some ⟨gl, 0, none⟩) L cap) v7 (st.prg i j t0) p.next := hr5.setPage (updP st.page i j (some t0)) (st.past ++ [t0])
              have htt : t0 = doneT p.next true (fillT s) := HT0.out
              rw [htt] at hra hlc0 hosY3
              have HF := Lib.hid (And.intro hra (And.intro hlc0 (And.intro hosY3 ht.only)))
              have hwb : IntKind.i64.wrap (st.programs + 1) = st.programs + 1 := by have := HP.out; rw [IntKind.wrap_i64]; omega
              have HSb := Lib.hid hsb
              have HL1 := Lib.hid hl
              have HS := Lib.hid hs
              have HL2 := Lib.hid hl2
              clear hsy TY zy oy hbx hbr hosY hr4 hsb Tb zb ob hosY2 hr5 hl hs hl2 ht hoY hosY3 hlc0 hra htt hS7
              go_wp2_with (first | ((with_reducible refine wpList_store_at ?_ 3 (.tmp 106) (.tmp 105) ?_ _ ?_ _ ?_ HSb.out ?_); rfl; rfl; rfl; rfl) | ((with_reducible refine wpList_load_at ?_ 53 (.tmp 4) ?_ _ ?_ _ HL1.out ?_); rfl; rfl; rfl) | ((with_reducible refine wpList_store_at ?_ 53 (.tmp 8) (.tmp 107) ?_ _ ?_ _ ?_ HS.out ?_); rfl; rfl; rfl; rfl))
              refine bodyPost_ret (v := .tuple #[.agg A5, .int .i64 0]) ?_ rfl ⟨A5, rfl, _, _, HF.out⟩
              have := HL2.out
              simp [results, Try.results23, asAddr, this]
          · obtain ⟨g3, D3, hr, hc⟩ := cn_6 HC1.out t0
            have HC3 := Lib.hid hc
            refine op_exec (j := 6) rfl rfl (by rfl) _ (exec_bs 43 1 #[(0, .tmp 99)] rfl [(0, .string t0)] rfl _ hr) ?_
            refine ⟨HGB.out _ HC3.out.on, ?_⟩
            clear hr hc
            simp only [List.setIfInBounds_toArray, List.set]
            refine held_one (j := 3) (by kernel_rfl) ?_
            · obtain ⟨v4, D4, hr, hc⟩ := cn_3 HC3.out HPD.out HP.out.1
              have HC4 := Lib.hid hc
              refine op_exec (j := 3) rfl rfl (by rfl) _ (exec_app (.tmp 94) (.tmp 96) 43 rfl _ _ _ rfl rfl hr) ?_
              refine ⟨HGB.out _ HC4.out.on, ?_⟩
              clear hr hc
              simp only [List.setIfInBounds_toArray, List.set]
              obtain ⟨v7, D7, hr, hos, ho⟩ := cn_7 HC4.out HP.out.1
              have HR7 := Lib.hid hr
              have HOS := Lib.hid hos
              have HO7 := Lib.hid ho
              have hS7 : (fun W : World => W.heap[gb]? = some (.cells (rowB t0.data.toList) 5 (0, 0))) D7 := HGB.out _ ho
              clear hr hos ho
              refine held_execd (j := 7) (by kernel_rfl) rfl rfl (by rfl) _ (exec_app (.tmp 97) (.tmp 100) 43 rfl _ _ _ rfl rfl HR7.out) hS7 ?_
              simp only [List.setIfInBounds_toArray, List.set]
              refine held_pure (i := 8) (v := (.pointer (some ⟨w.heap.size, 136, none⟩))) rfl rfl (by kernel_rfl) (by kernel_rfl) (by kernel_rfl) (fun _ _ _ h => h) (Or.inl ⟨by rfl, fun w => by go_simp⟩) hS7 ?_
              simp only [List.setIfInBounds_toArray, List.set]
              obtain ⟨Y, hsy, TY, zy, oy⟩ := (HTD.out.on HO7.out).one 4 rfl 43 136 v7 info43s HOS.out.cell1 (by rw [HR3.out.size]; decide)
              replace TY : Tab [(gl, cu, 97), (w3.heap.size, p.next.cells, 48), (gb, rowB (t0.data.toList), 5), (w.heap.size + 1, Z53, 53), (w.heap.size, A3.setIfInBounds 136 v7, 53)] w Y := TY
              refine held_store (j := 9) (by kernel_rfl) rfl rfl rfl 43 (.tmp 102) (.tmp 101) rfl _ rfl _ rfl hsy (TY.get 2 rfl) ?_
              refine wpAnyH_done (by kernel_rfl) ?_ _
              have hbx : w.heap.size < D.heap.size := HTD.out.lt (p := (w.heap.size, A3, 53)) (by simp)
              have hbr : w.heap.size + 1 < D.heap.size := HTD.out.lt (p := (w.heap.size + 1, Z53, 53)) (by simp)
              have hosY : OS Y D.heap.size v7 (st.past ++ [t0]) := HOS.out.keep oy (fun k hk e => by have := HOS.out.base_le hk; omega)
              have hr4 := HR3.out.setPast v7 HOS.out.cell1
              generalize A3.setIfInBounds 136 v7 = A4 at *
              have f137 := TY.c 4 rfl 137 hr4.programs
              obtain ⟨Y2, hsb, Tb, zb, ob⟩ := TY.one 4 rfl 3 137 (.int .i64 (st.programs + 1)) info3s rfl (by rw [hr4.size]; omega)
              have hosY2 := hosY.keep ob (fun k hk e => by have := HOS.out.base_le hk; omega)
              have hr5 := hr4.setPrograms (st.programs + 1)
              replace Tb : Tab [(gl, cu, 97), (w3.heap.size, p.next.cells, 48), (gb, rowB (t0.data.toList), 5), (w.heap.size + 1, Z53, 53), (w.heap.size, A4.setIfInBounds 137 (.int .i64 (st.programs + 1)), 53)] w Y2 := Tb
              generalize A4.setIfInBounds 137 (.int .i64 (st.programs + 1)) = A5 at *
              obtain ⟨hl, Y3, hs, hl2, ht, hoY⟩ := c53_end' Tb (i := 3) (j := 4) rfl rfl Z53_size hr5.size hr5.one
              have hosY3 : OS Y3 w.heap.size v7 (st.past ++ [t0]) := (hosY2.keep hoY (fun k hk e => by have := HOS.out.base_le hk; omega)).mono HTD.out.only.size
              have hlc0 : LNew w Y3 (.slice (some ⟨gl, 0, none⟩) (st.segs * st.pages) cap) (st.prg i j t0) := Tab.rowNew ht 0 rfl HLA.out (by rw [HLL2.out.1]; exact HLL2.out.2.1) HLL2.out.2.2
              rw [HLL2.out.1] at hlc0
              have hra : RA A5 (.slice (some ⟨gl, 0, none⟩) L cap) v7 (st.prg i j t0) p.next := hr5.setPage (updP st.page i j (some t0)) (st.past ++ [t0])
              have htt : t0 = doneT p.next true (fillT s) := HT0.out
              rw [htt] at hra hlc0 hosY3
              have HF := Lib.hid (And.intro hra (And.intro hlc0 (And.intro hosY3 ht.only)))
              have hwb : IntKind.i64.wrap (st.programs + 1) = st.programs + 1 := by have := HP.out; rw [IntKind.wrap_i64]; omega
              have HSb := Lib.hid hsb
              have HL1 := Lib.hid hl
              have HS := Lib.hid hs
              have HL2 := Lib.hid hl2
              clear hsy TY zy oy hbx hbr hosY hr4 hsb Tb zb ob hosY2 hr5 hl hs hl2 ht hoY hosY3 hlc0 hra htt hS7
              go_wp2_with (first | ((with_reducible refine wpList_store_at ?_ 3 (.tmp 106) (.tmp 105) ?_ _ ?_ _ ?_ HSb.out ?_); rfl; rfl; rfl; rfl) | ((with_reducible refine wpList_load_at ?_ 53 (.tmp 4) ?_ _ ?_ _ HL1.out ?_); rfl; rfl; rfl) | ((with_reducible refine wpList_store_at ?_ 53 (.tmp 8) (.tmp 107) ?_ _ ?_ _ ?_ HS.out ?_); rfl; rfl; rfl; rfl))
              refine bodyPost_ret (v := .tuple #[.agg A5, .int .i64 0]) ?_ rfl ⟨A5, rfl, _, _, HF.out⟩
              have := HL2.out
              simp [results, Try.results23, asAddr, this]
        · obtain ⟨g2, D2, hr, hc⟩ := cn_6 HC1.out t0
          have HC2 := Lib.hid hc
          refine op_exec (j := 6) rfl rfl (by rfl) _ (exec_bs 43 1 #[(0, .tmp 99)] rfl [(0, .string t0)] rfl _ hr) ?_
          refine ⟨HGB.out _ HC2.out.on, ?_⟩
          clear hr hc
          simp only [List.setIfInBounds_toArray, List.set]
          refine held_one (j := 2) (by kernel_rfl) ?_
          · refine op_exec (j := 2) rfl rfl (by rfl) pv (exec_load 43 (.tmp 95) rfl ⟨w.heap.size, 136, none⟩ rfl pv (HLO.out _ HC2.out.on)) ?_
            refine ⟨HGB.out _ HC2.out.on, ?_⟩
            simp only [List.setIfInBounds_toArray, List.set]
            refine held_one (j := 3) (by kernel_rfl) ?_
            · obtain ⟨v4, D4, hr, hc⟩ := cn_3 HC2.out HPD.out HP.out.1
              have HC4 := Lib.hid hc
              refine op_exec (j := 3) rfl rfl (by rfl) _ (exec_app (.tmp 94) (.tmp 96) 43 rfl _ _ _ rfl rfl hr) ?_
              refine ⟨HGB.out _ HC4.out.on, ?_⟩
              clear hr hc
              simp only [List.setIfInBounds_toArray, List.set]
              obtain ⟨v7, D7, hr, hos, ho⟩ := cn_7 HC4.out HP.out.1
              have HR7 := Lib.hid hr
              have HOS := Lib.hid hos
              have HO7 := Lib.hid ho
              have hS7 : (fun W : World => W.heap[gb]? = some (.cells (rowB t0.data.toList) 5 (0, 0))) D7 := HGB.out _ ho
              clear hr hos ho
              refine held_execd (j := 7) (by kernel_rfl) rfl rfl (by rfl) _ (exec_app (.tmp 97) (.tmp 100) 43 rfl _ _ _ rfl rfl HR7.out) hS7 ?_
              simp only [List.setIfInBounds_toArray, List.set]
              refine held_pure (i := 8) (v := (.pointer (some ⟨w.heap.size, 136, none⟩))) rfl rfl (by kernel_rfl) (by kernel_rfl) (by kernel_rfl) (fun _ _ _ h => h) (Or.inl ⟨by rfl, fun w => by go_simp⟩) hS7 ?_
              simp only [List.setIfInBounds_toArray, List.set]
              obtain ⟨Y, hsy, TY, zy, oy⟩ := (HTD.out.on HO7.out).one 4 rfl 43 136 v7 info43s HOS.out.cell1 (by rw [HR3.out.size]; decide)
              replace TY : Tab [(gl, cu, 97), (w3.heap.size, p.next.cells, 48), (gb, rowB (t0.data.toList), 5), (w.heap.size + 1, Z53, 53), (w.heap.size, A3.setIfInBounds 136 v7, 53)] w Y := TY
              refine held_store (j := 9) (by kernel_rfl) rfl rfl rfl 43 (.tmp 102) (.tmp 101) rfl _ rfl _ rfl hsy (TY.get 2 rfl) ?_
              refine wpAnyH_done (by kernel_rfl) ?_ _
              have hbx : w.heap.size < D.heap.size := HTD.out.lt (p := (w.heap.size, A3, 53)) (by simp)
              have hbr : w.heap.size + 1 < D.heap.size := HTD.out.lt (p := (w.heap.size + 1, Z53, 53)) (by simp)
              have hosY : OS Y D.heap.size v7 (st.past ++ [t0]) := HOS.out.keep oy (fun k hk e => by have := HOS.out.base_le hk; omega)
              have hr4 := HR3.out.setPast v7 HOS.out.cell1
              generalize A3.setIfInBounds 136 v7 = A4 at *
              have f137 := TY.c 4 rfl 137 hr4.programs
              obtain ⟨Y2, hsb, Tb, zb, ob⟩ := TY.one 4 rfl 3 137 (.int .i64 (st.programs + 1)) info3s rfl (by rw [hr4.size]; omega)
              have hosY2 := hosY.keep ob (fun k hk e => by have := HOS.out.base_le hk; omega)
              have hr5 := hr4.setPrograms (st.programs + 1)
              replace Tb : Tab [(gl, cu, 97), (w3.heap.size, p.next.cells, 48), (gb, rowB (t0.data.toList), 5), (w.heap.size + 1, Z53, 53), (w.heap.size, A4.setIfInBounds 137 (.int .i64 (st.programs + 1)), 53)] w Y2 := Tb
              generalize A4.setIfInBounds 137 (.int .i64 (st.programs + 1)) = A5 at *
              obtain ⟨hl, Y3, hs, hl2, ht, hoY⟩ := c53_end' Tb (i := 3) (j := 4) rfl rfl Z53_size hr5.size hr5.one
              have hosY3 : OS Y3 w.heap.size v7 (st.past ++ [t0]) := (hosY2.keep hoY (fun k hk e => by have := HOS.out.base_le hk; omega)).mono HTD.out.only.size
              have hlc0 : LNew w Y3 (.slice (some ⟨gl, 0, none⟩) (st.segs * st.pages) cap) (st.prg i j t0) := Tab.rowNew ht 0 rfl HLA.out (by rw [HLL2.out.1]; exact HLL2.out.2.1) HLL2.out.2.2
              rw [HLL2.out.1] at hlc0
              have hra : RA A5 (.slice (some ⟨gl, 0, none⟩) L cap) v7 (st.prg i j t0) p.next := hr5.setPage (updP st.page i j (some t0)) (st.past ++ [t0])
              have htt : t0 = doneT p.next true (fillT s) := HT0.out
              rw [htt] at hra hlc0 hosY3
              have HF := Lib.hid (And.intro hra (And.intro hlc0 (And.intro hosY3 ht.only)))
              have hwb : IntKind.i64.wrap (st.programs + 1) = st.programs + 1 := by have := HP.out; rw [IntKind.wrap_i64]; omega
              have HSb := Lib.hid hsb
              have HL1 := Lib.hid hl
              have HS := Lib.hid hs
              have HL2 := Lib.hid hl2
              clear hsy TY zy oy hbx hbr hosY hr4 hsb Tb zb ob hosY2 hr5 hl hs hl2 ht hoY hosY3 hlc0 hra htt hS7
              go_wp2_with (first | ((with_reducible refine wpList_store_at ?_ 3 (.tmp 106) (.tmp 105) ?_ _ ?_ _ ?_ HSb.out ?_); rfl; rfl; rfl; rfl) | ((with_reducible refine wpList_load_at ?_ 53 (.tmp 4) ?_ _ ?_ _ HL1.out ?_); rfl; rfl; rfl) | ((with_reducible refine wpList_store_at ?_ 53 (.tmp 8) (.tmp 107) ?_ _ ?_ _ ?_ HS.out ?_); rfl; rfl; rfl; rfl))
              refine bodyPost_ret (v := .tuple #[.agg A5, .int .i64 0]) ?_ rfl ⟨A5, rfl, _, _, HF.out⟩
              have := HL2.out
              simp [results, Try.results23, asAddr, this]
      · refine op_exec (j := 2) rfl rfl (by rfl) pv (exec_load 43 (.tmp 95) rfl ⟨w.heap.size, 136, none⟩ rfl pv (HLO.out _ HC0.out.on)) ?_
        refine ⟨HGB.out _ HC0.out.on, ?_⟩
        simp only [List.setIfInBounds_toArray, List.set]
        refine held_two (j := 0) (k := 6) (by kernel_rfl) ?_ ?_
        · obtain ⟨v2, D2, hr, hc⟩ := cn_0 HC0.out
          have HC2 := Lib.hid hc
          refine op_exec (j := 0) rfl rfl (by rfl) _ (exec_bs 43 0 #[] rfl [] rfl _ hr) ?_
          refine ⟨HGB.out _ HC2.out.on, ?_⟩
          clear hr hc
          simp only [List.setIfInBounds_toArray, List.set]
          refine held_two (j := 3) (k := 6) (by kernel_rfl) ?_ ?_
          · obtain ⟨v3, D3, hr, hc⟩ := cn_3 HC2.out HPD.out HP.out.1
            have HC3 := Lib.hid hc
            refine op_exec (j := 3) rfl rfl (by rfl) _ (exec_app (.tmp 94) (.tmp 96) 43 rfl _ _ _ rfl rfl hr) ?_
            refine ⟨HGB.out _ HC3.out.on, ?_⟩
            clear hr hc
            simp only [List.setIfInBounds_toArray, List.set]
            refine held_one (j := 6) (by kernel_rfl) ?_
            · obtain ⟨g4, D4, hr, hc⟩ := cn_6 HC3.out t0
              have HC4 := Lib.hid hc
              refine op_exec (j := 6) rfl rfl (by rfl) _ (exec_bs 43 1 #[(0, .tmp 99)] rfl [(0, .string t0)] rfl _ hr) ?_
              refine ⟨HGB.out _ HC4.out.on, ?_⟩
              clear hr hc
              simp only [List.setIfInBounds_toArray, List.set]
              obtain ⟨v7, D7, hr, hos, ho⟩ := cn_7 HC4.out HP.out.1
              have HR7 := Lib.hid hr
              have HOS := Lib.hid hos
              have HO7 := Lib.hid ho
              have hS7 : (fun W : World => W.heap[gb]? = some (.cells (rowB t0.data.toList) 5 (0, 0))) D7 := HGB.out _ ho
              clear hr hos ho
              refine held_execd (j := 7) (by kernel_rfl) rfl rfl (by rfl) _ (exec_app (.tmp 97) (.tmp 100) 43 rfl _ _ _ rfl rfl HR7.out) hS7 ?_
              simp only [List.setIfInBounds_toArray, List.set]
              refine held_pure (i := 8) (v := (.pointer (some ⟨w.heap.size, 136, none⟩))) rfl rfl (by kernel_rfl) (by kernel_rfl) (by kernel_rfl) (fun _ _ _ h => h) (Or.inl ⟨by rfl, fun w => by go_simp⟩) hS7 ?_
              simp only [List.setIfInBounds_toArray, List.set]
              obtain ⟨Y, hsy, TY, zy, oy⟩ := (HTD.out.on HO7.out).one 4 rfl 43 136 v7 info43s HOS.out.cell1 (by rw [HR3.out.size]; decide)
              replace TY : Tab [(gl, cu, 97), (w3.heap.size, p.next.cells, 48), (gb, rowB (t0.data.toList), 5), (w.heap.size + 1, Z53, 53), (w.heap.size, A3.setIfInBounds 136 v7, 53)] w Y := TY
              refine held_store (j := 9) (by kernel_rfl) rfl rfl rfl 43 (.tmp 102) (.tmp 101) rfl _ rfl _ rfl hsy (TY.get 2 rfl) ?_
              refine wpAnyH_done (by kernel_rfl) ?_ _
              have hbx : w.heap.size < D.heap.size := HTD.out.lt (p := (w.heap.size, A3, 53)) (by simp)
              have hbr : w.heap.size + 1 < D.heap.size := HTD.out.lt (p := (w.heap.size + 1, Z53, 53)) (by simp)
              have hosY : OS Y D.heap.size v7 (st.past ++ [t0]) := HOS.out.keep oy (fun k hk e => by have := HOS.out.base_le hk; omega)
              have hr4 := HR3.out.setPast v7 HOS.out.cell1
              generalize A3.setIfInBounds 136 v7 = A4 at *
              have f137 := TY.c 4 rfl 137 hr4.programs
              obtain ⟨Y2, hsb, Tb, zb, ob⟩ := TY.one 4 rfl 3 137 (.int .i64 (st.programs + 1)) info3s rfl (by rw [hr4.size]; omega)
              have hosY2 := hosY.keep ob (fun k hk e => by have := HOS.out.base_le hk; omega)
              have hr5 := hr4.setPrograms (st.programs + 1)
              replace Tb : Tab [(gl, cu, 97), (w3.heap.size, p.next.cells, 48), (gb, rowB (t0.data.toList), 5), (w.heap.size + 1, Z53, 53), (w.heap.size, A4.setIfInBounds 137 (.int .i64 (st.programs + 1)), 53)] w Y2 := Tb
              generalize A4.setIfInBounds 137 (.int .i64 (st.programs + 1)) = A5 at *
              obtain ⟨hl, Y3, hs, hl2, ht, hoY⟩ := c53_end' Tb (i := 3) (j := 4) rfl rfl Z53_size hr5.size hr5.one
              have hosY3 : OS Y3 w.heap.size v7 (st.past ++ [t0]) := (hosY2.keep hoY (fun k hk e => by have := HOS.out.base_le hk; omega)).mono HTD.out.only.size
              have hlc0 : LNew w Y3 (.slice (some ⟨gl, 0, none⟩) (st.segs * st.pages) cap) (st.prg i j t0) := Tab.rowNew ht 0 rfl HLA.out (by rw [HLL2.out.1]; exact HLL2.out.2.1) HLL2.out.2.2
              rw [HLL2.out.1] at hlc0
              have hra : RA A5 (.slice (some ⟨gl, 0, none⟩) L cap) v7 (st.prg i j t0) p.next := hr5.setPage (updP st.page i j (some t0)) (st.past ++ [t0])
              have htt : t0 = doneT p.next true (fillT s) := HT0.out
              rw [htt] at hra hlc0 hosY3
              have HF := Lib.hid (And.intro hra (And.intro hlc0 (And.intro hosY3 ht.only)))
              have hwb : IntKind.i64.wrap (st.programs + 1) = st.programs + 1 := by have := HP.out; rw [IntKind.wrap_i64]; omega
              have HSb := Lib.hid hsb
              have HL1 := Lib.hid hl
              have HS := Lib.hid hs
              have HL2 := Lib.hid hl2
              clear hsy TY zy oy hbx hbr hosY hr4 hsb Tb zb ob hosY2 hr5 hl hs hl2 ht hoY hosY3 hlc0 hra htt hS7
              go_wp2_with (first | ((with_reducible refine wpList_store_at ?_ 3 (.tmp 106) (.tmp 105) ?_ _ ?_ _ ?_ HSb.out ?_); rfl; rfl; rfl; rfl) | ((with_reducible refine wpList_load_at ?_ 53 (.tmp 4) ?_ _ ?_ _ HL1.out ?_); rfl; rfl; rfl) | ((with_reducible refine wpList_store_at ?_ 53 (.tmp 8) (.tmp 107) ?_ _ ?_ _ ?_ HS.out ?_); rfl; rfl; rfl; rfl))
              refine bodyPost_ret (v := .tuple #[.agg A5, .int .i64 0]) ?_ rfl ⟨A5, rfl, _, _, HF.out⟩
              have := HL2.out
              simp [results, Try.results23, asAddr, this]
          · obtain ⟨g3, D3, hr, hc⟩ := cn_6 HC2.out t0
            have HC3 := Lib.hid hc
            refine op_exec (j := 6) rfl rfl (by rfl) _ (exec_bs 43 1 #[(0, .tmp 99)] rfl [(0, .string t0)] rfl _ hr) ?_
            refine ⟨HGB.out _ HC3.out.on, ?_⟩
            clear hr hc
            simp only [List.setIfInBounds_toArray, List.set]
            refine held_one (j := 3) (by kernel_rfl) ?_
            · obtain ⟨v4, D4, hr, hc⟩ := cn_3 HC3.out HPD.out HP.out.1
              have HC4 := Lib.hid hc
              refine op_exec (j := 3) rfl rfl (by rfl) _ (exec_app (.tmp 94) (.tmp 96) 43 rfl _ _ _ rfl rfl hr) ?_
              refine ⟨HGB.out _ HC4.out.on, ?_⟩
              clear hr hc
              simp only [List.setIfInBounds_toArray, List.set]
              obtain ⟨v7, D7, hr, hos, ho⟩ := cn_7 HC4.out HP.out.1
              have HR7 := Lib.hid hr
              have HOS := Lib.hid hos
              have HO7 := Lib.hid ho
              have hS7 : (fun W : World => W.heap[gb]? = some (.cells (rowB t0.data.toList) 5 (0, 0))) D7 := HGB.out _ ho
              clear hr hos ho
              refine held_execd (j := 7) (by kernel_rfl) rfl rfl (by rfl) _ (exec_app (.tmp 97) (.tmp 100) 43 rfl _ _ _ rfl rfl HR7.out) hS7 ?_
              simp only [List.setIfInBounds_toArray, List.set]
              refine held_pure (i := 8) (v := (.pointer (some ⟨w.heap.size, 136, none⟩))) rfl rfl (by kernel_rfl) (by kernel_rfl) (by kernel_rfl) (fun _ _ _ h => h) (Or.inl ⟨by rfl, fun w => by go_simp⟩) hS7 ?_
              simp only [List.setIfInBounds_toArray, List.set]
              obtain ⟨Y, hsy, TY, zy, oy⟩ := (HTD.out.on HO7.out).one 4 rfl 43 136 v7 info43s HOS.out.cell1 (by rw [HR3.out.size]; decide)
              replace TY : Tab [(gl, cu, 97), (w3.heap.size, p.next.cells, 48), (gb, rowB (t0.data.toList), 5), (w.heap.size + 1, Z53, 53), (w.heap.size, A3.setIfInBounds 136 v7, 53)] w Y := TY
              refine held_store (j := 9) (by kernel_rfl) rfl rfl rfl 43 (.tmp 102) (.tmp 101) rfl _ rfl _ rfl hsy (TY.get 2 rfl) ?_
              refine wpAnyH_done (by kernel_rfl) ?_ _
              have hbx : w.heap.size < D.heap.size := HTD.out.lt (p := (w.heap.size, A3, 53)) (by simp)
              have hbr : w.heap.size + 1 < D.heap.size := HTD.out.lt (p := (w.heap.size + 1, Z53, 53)) (by simp)
              have hosY : OS Y D.heap.size v7 (st.past ++ [t0]) := HOS.out.keep oy (fun k hk e => by have := HOS.out.base_le hk; omega)
              have hr4 := HR3.out.setPast v7 HOS.out.cell1
              generalize A3.setIfInBounds 136 v7 = A4 at *
              have f137 := TY.c 4 rfl 137 hr4.programs
              obtain ⟨Y2, hsb, Tb, zb, ob⟩ := TY.one 4 rfl 3 137 (.int .i64 (st.programs + 1)) info3s rfl (by rw [hr4.size]; omega)
              have hosY2 := hosY.keep ob (fun k hk e => by have := HOS.out.base_le hk; omega)
              have hr5 := hr4.setPrograms (st.programs + 1)
              replace Tb : Tab [(gl, cu, 97), (w3.heap.size, p.next.cells, 48), (gb, rowB (t0.data.toList), 5), (w.heap.size + 1, Z53, 53), (w.heap.size, A4.setIfInBounds 137 (.int .i64 (st.programs + 1)), 53)] w Y2 := Tb
              generalize A4.setIfInBounds 137 (.int .i64 (st.programs + 1)) = A5 at *
              obtain ⟨hl, Y3, hs, hl2, ht, hoY⟩ := c53_end' Tb (i := 3) (j := 4) rfl rfl Z53_size hr5.size hr5.one
              have hosY3 : OS Y3 w.heap.size v7 (st.past ++ [t0]) := (hosY2.keep hoY (fun k hk e => by have := HOS.out.base_le hk; omega)).mono HTD.out.only.size
              have hlc0 : LNew w Y3 (.slice (some ⟨gl, 0, none⟩) (st.segs * st.pages) cap) (st.prg i j t0) := Tab.rowNew ht 0 rfl HLA.out (by rw [HLL2.out.1]; exact HLL2.out.2.1) HLL2.out.2.2
              rw [HLL2.out.1] at hlc0
              have hra : RA A5 (.slice (some ⟨gl, 0, none⟩) L cap) v7 (st.prg i j t0) p.next := hr5.setPage (updP st.page i j (some t0)) (st.past ++ [t0])
              have htt : t0 = doneT p.next true (fillT s) := HT0.out
              rw [htt] at hra hlc0 hosY3
              have HF := Lib.hid (And.intro hra (And.intro hlc0 (And.intro hosY3 ht.only)))
              have hwb : IntKind.i64.wrap (st.programs + 1) = st.programs + 1 := by have := HP.out; rw [IntKind.wrap_i64]; omega
              have HSb := Lib.hid hsb
              have HL1 := Lib.hid hl
              have HS := Lib.hid hs
              have HL2 := Lib.hid hl2
              clear hsy TY zy oy hbx hbr hosY hr4 hsb Tb zb ob hosY2 hr5 hl hs hl2 ht hoY hosY3 hlc0 hra htt hS7
              go_wp2_with (first | ((with_reducible refine wpList_store_at ?_ 3 (.tmp 106) (.tmp 105) ?_ _ ?_ _ ?_ HSb.out ?_); rfl; rfl; rfl; rfl) | ((with_reducible refine wpList_load_at ?_ 53 (.tmp 4) ?_ _ ?_ _ HL1.out ?_); rfl; rfl; rfl) | ((with_reducible refine wpList_store_at ?_ 53 (.tmp 8) (.tmp 107) ?_ _ ?_ _ ?_ HS.out ?_); rfl; rfl; rfl; rfl))
              refine bodyPost_ret (v := .tuple #[.agg A5, .int .i64 0]) ?_ rfl ⟨A5, rfl, _, _, HF.out⟩
              have := HL2.out
              simp [results, Try.results23, asAddr, this]
        · obtain ⟨g2, D2, hr, hc⟩ := cn_6 HC0.out t0
          have HC2 := Lib.hid hc
          refine op_exec (j := 6) rfl rfl (by rfl) _ (exec_bs 43 1 #[(0, .tmp 99)] rfl [(0, .string t0)] rfl _ hr) ?_
          refine ⟨HGB.out _ HC2.out.on, ?_⟩
          clear hr hc
          simp only [List.setIfInBounds_toArray, List.set]
          refine held_one (j := 0) (by kernel_rfl) ?_
          · obtain ⟨v3, D3, hr, hc⟩ := cn_0 HC2.out
            have HC3 := Lib.hid hc
            refine op_exec (j := 0) rfl rfl (by rfl) _ (exec_bs 43 0 #[] rfl [] rfl _ hr) ?_
            refine ⟨HGB.out _ HC3.out.on, ?_⟩
            clear hr hc
            simp only [List.setIfInBounds_toArray, List.set]
            refine held_one (j := 3) (by kernel_rfl) ?_
            · obtain ⟨v4, D4, hr, hc⟩ := cn_3 HC3.out HPD.out HP.out.1
              have HC4 := Lib.hid hc
              refine op_exec (j := 3) rfl rfl (by rfl) _ (exec_app (.tmp 94) (.tmp 96) 43 rfl _ _ _ rfl rfl hr) ?_
              refine ⟨HGB.out _ HC4.out.on, ?_⟩
              clear hr hc
              simp only [List.setIfInBounds_toArray, List.set]
              obtain ⟨v7, D7, hr, hos, ho⟩ := cn_7 HC4.out HP.out.1
              have HR7 := Lib.hid hr
              have HOS := Lib.hid hos
              have HO7 := Lib.hid ho
              have hS7 : (fun W : World => W.heap[gb]? = some (.cells (rowB t0.data.toList) 5 (0, 0))) D7 := HGB.out _ ho
              clear hr hos ho
              refine held_execd (j := 7) (by kernel_rfl) rfl rfl (by rfl) _ (exec_app (.tmp 97) (.tmp 100) 43 rfl _ _ _ rfl rfl HR7.out) hS7 ?_
              simp only [List.setIfInBounds_toArray, List.set]
              refine held_pure (i := 8) (v := (.pointer (some ⟨w.heap.size, 136, none⟩))) rfl rfl (by kernel_rfl) (by kernel_rfl) (by kernel_rfl) (fun _ _ _ h => h) (Or.inl ⟨by rfl, fun w => by go_simp⟩) hS7 ?_
              simp only [List.setIfInBounds_toArray, List.set]
              obtain ⟨Y, hsy, TY, zy, oy⟩ := (HTD.out.on HO7.out).one 4 rfl 43 136 v7 info43s HOS.out.cell1 (by rw [HR3.out.size]; decide)
              replace TY : Tab [(gl, cu, 97), (w3.heap.size, p.next.cells, 48), (gb, rowB (t0.data.toList), 5), (w.heap.size + 1, Z53, 53), (w.heap.size, A3.setIfInBounds 136 v7, 53)] w Y := TY
              refine held_store (j := 9) (by kernel_rfl) rfl rfl rfl 43 (.tmp 102) (.tmp 101) rfl _ rfl _ rfl hsy (TY.get 2 rfl) ?_
              refine wpAnyH_done (by kernel_rfl) ?_ _
              have hbx : w.heap.size < D.heap.size := HTD.out.lt (p := (w.heap.size, A3, 53)) (by simp)
              have hbr : w.heap.size + 1 < D.heap.size := HTD.out.lt (p := (w.heap.size + 1, Z53, 53)) (by simp)
              have hosY : OS Y D.heap.size v7 (st.past ++ [t0]) := HOS.out.keep oy (fun k hk e => by have := HOS.out.base_le hk; omega)
              have hr4 := HR3.out.setPast v7 HOS.out.cell1
              generalize A3.setIfInBounds 136 v7 = A4 at *
              have f137 := TY.c 4 rfl 137 hr4.programs
              obtain ⟨Y2, hsb, Tb, zb, ob⟩ := TY.one 4 rfl 3 137 (.int .i64 (st.programs + 1)) info3s rfl (by rw [hr4.size]; omega)
              have hosY2 := hosY.keep ob (fun k hk e => by have := HOS.out.base_le hk; omega)
              have hr5 := hr4.setPrograms (st.programs + 1)
              replace Tb : Tab [(gl, cu, 97), (w3.heap.size, p.next.cells, 48), (gb, rowB (t0.data.toList), 5), (w.heap.size + 1, Z53, 53), (w.heap.size, A4.setIfInBounds 137 (.int .i64 (st.programs + 1)), 53)] w Y2 := Tb
              generalize A4.setIfInBounds 137 (.int .i64 (st.programs + 1)) = A5 at *
              obtain ⟨hl, Y3, hs, hl2, ht, hoY⟩ := c53_end' Tb (i := 3) (j := 4) rfl rfl Z53_size hr5.size hr5.one
              have hosY3 : OS Y3 w.heap.size v7 (st.past ++ [t0]) := (hosY2.keep hoY (fun k hk e => by have := HOS.out.base_le hk; omega)).mono HTD.out.only.size
              have hlc0 : LNew w Y3 (.slice (some ⟨gl, 0, none⟩) (st.segs * st.pages) cap) (st.prg i j t0) := Tab.rowNew ht 0 rfl HLA.out (by rw [HLL2.out.1]; exact HLL2.out.2.1) HLL2.out.2.2
              rw [HLL2.out.1] at hlc0
              have hra : RA A5 (.slice (some ⟨gl, 0, none⟩) L cap) v7 (st.prg i j t0) p.next := hr5.setPage (updP st.page i j (some t0)) (st.past ++ [t0])
              have htt : t0 = doneT p.next true (fillT s) := HT0.out
              rw [htt] at hra hlc0 hosY3
              have HF := Lib.hid (And.intro hra (And.intro hlc0 (And.intro hosY3 ht.only)))
              have hwb : IntKind.i64.wrap (st.programs + 1) = st.programs + 1 := by have := HP.out; rw [IntKind.wrap_i64]; omega
              have HSb := Lib.hid hsb
              have HL1 := Lib.hid hl
              have HS := Lib.hid hs
              have HL2 := Lib.hid hl2
              clear hsy TY zy oy hbx hbr hosY hr4 hsb Tb zb ob hosY2 hr5 hl hs hl2 ht hoY hosY3 hlc0 hra htt hS7
              go_wp2_with (first | ((with_reducible refine wpList_store_at ?_ 3 (.tmp 106) (.tmp 105) ?_ _ ?_ _ ?_ HSb.out ?_); rfl; rfl; rfl; rfl) | ((with_reducible refine wpList_load_at ?_ 53 (.tmp 4) ?_ _ ?_ _ HL1.out ?_); rfl; rfl; rfl) | ((with_reducible refine wpList_store_at ?_ 53 (.tmp 8) (.tmp 107) ?_ _ ?_ _ ?_ HS.out ?_); rfl; rfl; rfl; rfl))
              refine bodyPost_ret (v := .tuple #[.agg A5, .int .i64 0]) ?_ rfl ⟨A5, rfl, _, _, HF.out⟩
              have := HL2.out
              simp [results, Try.results23, asAddr, this]
      · obtain ⟨g1, D1, hr, hc⟩ := cn_6 HC0.out t0
        have HC1 := Lib.hid hc
        refine op_exec (j := 6) rfl rfl (by rfl) _ (exec_bs 43 1 #[(0, .tmp 99)] rfl [(0, .string t0)] rfl _ hr) ?_
        refine ⟨HGB.out _ HC1.out.on, ?_⟩
        clear hr hc
        simp only [List.setIfInBounds_toArray, List.set]
        refine held_two (j := 0) (k := 2) (by kernel_rfl) ?_ ?_
        · obtain ⟨v2, D2, hr, hc⟩ := cn_0 HC1.out
          have HC2 := Lib.hid hc
          refine op_exec (j := 0) rfl rfl (by rfl) _ (exec_bs 43 0 #[] rfl [] rfl _ hr) ?_
          refine ⟨HGB.out _ HC2.out.on, ?_⟩
          clear hr hc
          simp only [List.setIfInBounds_toArray, List.set]
          refine held_one (j := 2) (by kernel_rfl) ?_
          · refine op_exec (j := 2) rfl rfl (by rfl) pv (exec_load 43 (.tmp 95) rfl ⟨w.heap.size, 136, none⟩ rfl pv (HLO.out _ HC2.out.on)) ?_
            refine ⟨HGB.out _ HC2.out.on, ?_⟩
            simp only [List.setIfInBounds_toArray, List.set]
            refine held_one (j := 3) (by kernel_rfl) ?_
            · obtain ⟨v4, D4, hr, hc⟩ := cn_3 HC2.out HPD.out HP.out.1
              have HC4 := Lib.hid hc
              refine op_exec (j := 3) rfl rfl (by rfl) _ (exec_app (.tmp 94) (.tmp 96) 43 rfl _ _ _ rfl rfl hr) ?_
              refine ⟨HGB.out _ HC4.out.on, ?_⟩
              clear hr hc
              simp only [List.setIfInBounds_toArray, List.set]
              obtain ⟨v7, D7, hr, hos, ho⟩ := cn_7 HC4.out HP.out.1
              have HR7 := Lib.hid hr
              have HOS := Lib.hid hos
              have HO7 := Lib.hid ho
              have hS7 : (fun W : World => W.heap[gb]? = some (.cells (rowB t0.data.toList) 5 (0, 0))) D7 := HGB.out _ ho
              clear hr hos ho
              refine held_execd (j := 7) (by kernel_rfl) rfl rfl (by rfl) _ (exec_app (.tmp 97) (.tmp 100) 43 rfl _ _ _ rfl rfl HR7.out) hS7 ?_
              simp only [List.setIfInBounds_toArray, List.set]
              refine held_pure (i := 8) (v := (.pointer (some ⟨w.heap.size, 136, none⟩))) rfl rfl (by kernel_rfl) (by kernel_rfl) (by kernel_rfl) (fun _ _ _ h => h) (Or.inl ⟨by rfl, fun w => by go_simp⟩) hS7 ?_
              simp only [List.setIfInBounds_toArray, List.set]
              obtain ⟨Y, hsy, TY, zy, oy⟩ := (HTD.out.on HO7.out).one 4 rfl 43 136 v7 info43s HOS.out.cell1 (by rw [HR3.out.size]; decide)
              replace TY : Tab [(gl, cu, 97), (w3.heap.size, p.next.cells, 48), (gb, rowB (t0.data.toList), 5), (w.heap.size + 1, Z53, 53), (w.heap.size, A3.setIfInBounds 136 v7, 53)] w Y := TY
              refine held_store (j := 9) (by kernel_rfl) rfl rfl rfl 43 (.tmp 102) (.tmp 101) rfl _ rfl _ rfl hsy (TY.get 2 rfl) ?_
              refine wpAnyH_done (by kernel_rfl) ?_ _
              have hbx : w.heap.size < D.heap.size := HTD.out.lt (p := (w.heap.size, A3, 53)) (by simp)
              have hbr : w.heap.size + 1 < D.heap.size := HTD.out.lt (p := (w.heap.size + 1, Z53, 53)) (by simp)
              have hosY : OS Y D.heap.size v7 (st.past ++ [t0]) := HOS.out.keep oy (fun k hk e => by have := HOS.out.base_le hk; omega)
              have hr4 := HR3.out.setPast v7 HOS.out.cell1
              generalize A3.setIfInBounds 136 v7 = A4 at *
              have f137 := TY.c 4 rfl 137 hr4.programs
              obtain ⟨Y2, hsb, Tb, zb, ob⟩ := TY.one 4 rfl 3 137 (.int .i64 (st.programs + 1)) info3s rfl (by rw [hr4.size]; omega)
              have hosY2 := hosY.keep ob (fun k hk e => by have := HOS.out.base_le hk; omega)
              have hr5 := hr4.setPrograms (st.programs + 1)
              replace Tb : Tab [(gl, cu, 97), (w3.heap.size, p.next.cells, 48), (gb, rowB (t0.data.toList), 5), (w.heap.size + 1, Z53, 53), (w.heap.size, A4.setIfInBounds 137 (.int .i64 (st.programs + 1)), 53)] w Y2 := Tb
              generalize A4.setIfInBounds 137 (.int .i64 (st.programs + 1)) = A5 at *
              obtain ⟨hl, Y3, hs, hl2, ht, hoY⟩ := c53_end' Tb (i := 3) (j := 4) rfl rfl Z53_size hr5.size hr5.one
              have hosY3 : OS Y3 w.heap.size v7 (st.past ++ [t0]) := (hosY2.keep hoY (fun k hk e => by have := HOS.out.base_le hk; omega)).mono HTD.out.only.size
              have hlc0 : LNew w Y3 (.slice (some ⟨gl, 0, none⟩) (st.segs * st.pages) cap) (st.prg i j t0) := Tab.rowNew ht 0 rfl HLA.out (by rw [HLL2.out.1]; exact HLL2.out.2.1) HLL2.out.2.2
              rw [HLL2.out.1] at hlc0
              have hra : RA A5 (.slice (some ⟨gl, 0, none⟩) L cap) v7 (st.prg i j t0) p.next := hr5.setPage (updP st.page i j (some t0)) (st.past ++ [t0])
              have htt : t0 = doneT p.next true (fillT s) := HT0.out
              rw [htt] at hra hlc0 hosY3
              have HF := Lib.hid (And.intro hra (And.intro hlc0 (And.intro hosY3 ht.only)))
              have hwb : IntKind.i64.wrap (st.programs + 1) = st.programs + 1 := by have := HP.out; rw [IntKind.wrap_i64]; omega
              have HSb := Lib.hid hsb
              have HL1 := Lib.hid hl
              have HS := Lib.hid hs
              have HL2 := Lib.hid hl2
              clear hsy TY zy oy hbx hbr hosY hr4 hsb Tb zb ob hosY2 hr5 hl hs hl2 ht hoY hosY3 hlc0 hra htt hS7
              go_wp2_with (first | ((with_reducible refine wpList_store_at ?_ 3 (.tmp 106) (.tmp 105) ?_ _ ?_ _ ?_ HSb.out ?_); rfl; rfl; rfl; rfl) | ((with_reducible refine wpList_load_at ?_ 53 (.tmp 4) ?_ _ ?_ _ HL1.out ?_); rfl; rfl; rfl) | ((with_reducible refine wpList_store_at ?_ 53 (.tmp 8) (.tmp 107) ?_ _ ?_ _ ?_ HS.out ?_); rfl; rfl; rfl; rfl))
              refine bodyPost_ret (v := .tuple #[.agg A5, .int .i64 0]) ?_ rfl ⟨A5, rfl, _, _, HF.out⟩
              have := HL2.out
              simp [results, Try.results23, asAddr, this]
        · refine op_exec (j := 2) rfl rfl (by rfl) pv (exec_load 43 (.tmp 95) rfl ⟨w.heap.size, 136, none⟩ rfl pv (HLO.out _ HC1.out.on)) ?_
          refine ⟨HGB.out _ HC1.out.on, ?_⟩
          simp only [List.setIfInBounds_toArray, List.set]
          refine held_one (j := 0) (by kernel_rfl) ?_
          · obtain ⟨v3, D3, hr, hc⟩ := cn_0 HC1.out
            have HC3 := Lib.hid hc
            refine op_exec (j := 0) rfl rfl (by rfl) _ (exec_bs 43 0 #[] rfl [] rfl _ hr) ?_
            refine ⟨HGB.out _ HC3.out.on, ?_⟩
            clear hr hc
            simp only [List.setIfInBounds_toArray, List.set]
            refine held_one (j := 3) (by kernel_rfl) ?_
            · obtain ⟨v4, D4, hr, hc⟩ := cn_3 HC3.out HPD.out HP.out.1
              have HC4 := Lib.hid hc
              refine op_exec (j := 3) rfl rfl (by rfl) _ (exec_app (.tmp 94) (.tmp 96) 43 rfl _ _ _ rfl rfl hr) ?_
              refine ⟨HGB.out _ HC4.out.on, ?_⟩
              clear hr hc
              simp only [List.setIfInBounds_toArray, List.set]
              obtain ⟨v7, D7, hr, hos, ho⟩ := cn_7 HC4.out HP.out.1
              have HR7 := Lib.hid hr
              have HOS := Lib.hid hos
              have HO7 := Lib.hid ho
              have hS7 : (fun W : World => W.heap[gb]? = some (.cells (rowB t0.data.toList) 5 (0, 0))) D7 := HGB.out _ ho
              clear hr hos ho
              refine held_execd (j := 7) (by kernel_rfl) rfl rfl (by rfl) _ (exec_app (.tmp 97) (.tmp 100) 43 rfl _ _ _ rfl rfl HR7.out) hS7 ?_
              simp only [List.setIfInBounds_toArray, List.set]
              refine held_pure (i := 8) (v := (.pointer (some ⟨w.heap.size, 136, none⟩))) rfl rfl (by kernel_rfl) (by kernel_rfl) (by kernel_rfl) (fun _ _ _ h => h) (Or.inl ⟨by rfl, fun w => by go_simp⟩) hS7 ?_
              simp only [List.setIfInBounds_toArray, List.set]
              obtain ⟨Y, hsy, TY, zy, oy⟩ := (HTD.out.on HO7.out).one 4 rfl 43 136 v7 info43s HOS.out.cell1 (by rw [HR3.out.size]; decide)
              replace TY : Tab [(gl, cu, 97), (w3.heap.size, p.next.cells, 48), (gb, rowB (t0.data.toList), 5), (w.heap.size + 1, Z53, 53), (w.heap.size, A3.setIfInBounds 136 v7, 53)] w Y := TY
              refine held_store (j := 9) (by kernel_rfl) rfl rfl rfl 43 (.tmp 102) (.tmp 101) rfl _ rfl _ rfl hsy (TY.get 2 rfl) ?_
              refine wpAnyH_done (by kernel_rfl) ?_ _
              have hbx : w.heap.size < D.heap.size := HTD.out.lt (p := (w.heap.size, A3, 53)) (by simp)
              have hbr : w.heap.size + 1 < D.heap.size := HTD.out.lt (p := (w.heap.size + 1, Z53, 53)) (by simp)
              have hosY : OS Y D.heap.size v7 (st.past ++ [t0]) := HOS.out.keep oy (fun k hk e => by have := HOS.out.base_le hk; omega)
              have hr4 := HR3.out.setPast v7 HOS.out.cell1
              generalize A3.setIfInBounds 136 v7 = A4 at *
              have f137 := TY.c 4 rfl 137 hr4.programs
              obtain ⟨Y2, hsb, Tb, zb, ob⟩ := TY.one 4 rfl 3 137 (.int .i64 (st.programs + 1)) info3s rfl (by rw [hr4.size]; omega)
              have hosY2 := hosY.keep ob (fun k hk e => by have := HOS.out.base_le hk; omega)
              have hr5 := hr4.setPrograms (st.programs + 1)
              replace Tb : Tab [(gl, cu, 97), (w3.heap.size, p.next.cells, 48), (gb, rowB (t0.data.toList), 5), (w.heap.size + 1, Z53, 53), (w.heap.size, A4.setIfInBounds 137 (.int .i64 (st.programs + 1)), 53)] w Y2 := Tb
              generalize A4.setIfInBounds 137 (.int .i64 (st.programs + 1)) = A5 at *
              obtain ⟨hl, Y3, hs, hl2, ht, hoY⟩ := c53_end' Tb (i := 3) (j := 4) rfl rfl Z53_size hr5.size hr5.one
              have hosY3 : OS Y3 w.heap.size v7 (st.past ++ [t0]) := (hosY2.keep hoY (fun k hk e => by have := HOS.out.base_le hk; omega)).mono HTD.out.only.size
              have hlc0 : LNew w Y3 (.slice (some ⟨gl, 0, none⟩) (st.segs * st.pages) cap) (st.prg i j t0) := Tab.rowNew ht 0 rfl HLA.out (by rw [HLL2.out.1]; exact HLL2.out.2.1) HLL2.out.2.2
              rw [HLL2.out.1] at hlc0
              have hra : RA A5 (.slice (some ⟨gl, 0, none⟩) L cap) v7 (st.prg i j t0) p.next := hr5.setPage (updP st.page i j (some t0)) (st.past ++ [t0])
              have htt : t0 = doneT p.next true (fillT s) := HT0.out
              rw [htt] at hra hlc0 hosY3
              have HF := Lib.hid (And.intro hra (And.intro hlc0 (And.intro hosY3 ht.only)))
              have hwb : IntKind.i64.wrap (st.programs + 1) = st.programs + 1 := by have := HP.out; rw [IntKind.wrap_i64]; omega
              have HSb := Lib.hid hsb
              have HL1 := Lib.hid hl
              have HS := Lib.hid hs
              have HL2 := Lib.hid hl2
              clear hsy TY zy oy hbx hbr hosY hr4 hsb Tb zb ob hosY2 hr5 hl hs hl2 ht hoY hosY3 hlc0 hra htt hS7
              go_wp2_with (first | ((with_reducible refine wpList_store_at ?_ 3 (.tmp 106) (.tmp 105) ?_ _ ?_ _ ?_ HSb.out ?_); rfl; rfl; rfl; rfl) | ((with_reducible refine wpList_load_at ?_ 53 (.tmp 4) ?_ _ ?_ _ HL1.out ?_); rfl; rfl; rfl) | ((with_reducible refine wpList_store_at ?_ 53 (.tmp 8) (.tmp 107) ?_ _ ?_ _ ?_ HS.out ?_); rfl; rfl; rfl; rfl))
              refine bodyPost_ret (v := .tuple #[.agg A5, .int .i64 0]) ?_ rfl ⟨A5, rfl, _, _, HF.out⟩
              have := HL2.out
              simp [results, Try.results23, asAddr, this]
set_option maxRecDepth 100000 in
set_option maxHeartbeats 16000000 in
theorem rpr_t (h : RA A lv pv st p) (i j : Nat) (s : ByteArray) (w : World) (ho : p.off = false) (hi : i < st.segs) (hj : j < st.pages) (hs : s.size ≤ 256) (hl : LC w lv st) (hu : (st.page i j) = none) (hpv : SL w pv st.past) (hpi : p.In) (hN : st.past.length ≤ 100000) (hP : 0 ≤ st.programs ∧ st.programs ≤ 100000) (hwh : p.whole = false) :
    Calls Try.prog 23 #[.agg A, .int .i64 i, .int .i64 j, .string s] w fun e w' => ∃ A', e = .returned (.tuple #[.agg A', .int .i64 4]) ∧ ∃ lv' pv', RA A' lv' pv' (st.prg i j (doneT p.next false (fillT s))) p.next ∧ LNew w w' lv' (st.prg i j (doneT p.next false (fillT s))) ∧ OS w' w.heap.size pv' (st.past ++ [doneT p.next false (fillT s)]) ∧ Only (fun _ => False) w w' := by
  go_enter Try.func23, Try.ntmps23
  go_upto_region 1 with ((with_reducible refine wpList_alloc_at ?_ 53 ?_ _ (zero53 _) ?_); rfl; rfl)
  refine at_world (fun W => Tab [(w.heap.size + 1, Z53, 53), (w.heap.size, A, 53)] w W) (Tab.box2 w A Z53 53 53) ?_
  intro W1 T1
  have c0 := T1.c 1 rfl 0 h.p0.1
  rw [ho] at c0
  have HL := Lib.hid (T1.loadAll 1 rfl 53 _ Try.underlying53 rfl info53s h.size)
  have HI := Lib.hid (rin_any h i j W1)
  rw [show hasB st.segs st.pages (i : Int) (j : Int) = true by simp only [hasB, decide_eq_true_eq]; omega] at HI
  have HT := Lib.hid T1
  have HR := Lib.hid h
  have HLC := Lib.hid hl
  have hsz : ¬ (256 : Int) < (s.size : Int) := by omega
  have hlt := at_lt hi hj
  obtain ⟨hz0, hz1⟩ := lc_two hi hj
  have HLL := Lib.hid hl
  have HPV := Lib.hid hpv
  have HX := Lib.hid (And.intro hi (And.intro hj hs))
  have HPI := Lib.hid hpi
  have HP := Lib.hid (And.intro hN hP)
  have HWH := Lib.hid hwh
  obtain ⟨g, cap0, hlv, hc1, hc2, hcs⟩ := hl
  have hc0 := hcs _ _ hz0
  have hlen := h.lens
  have hmb : i * st.pages ≤ 64 * 16 := Nat.mul_le_mul (by omega) (by omega)
  have hcA := h.pages
  have hcL := h.l
  rw [hlv] at hcL
  have hmul : (i : Int) * (st.pages : Int) = ((i * st.pages : Nat) : Int) := by simp
  have hj16 : j < 16 := by omega
  obtain ⟨q, hq⟩ : ∃ q, st.pages = q := ⟨_, rfl⟩
  rw [hu] at hc0
  rw [hq] at hcA hlt hc0 hmb hcL hmul
  obtain ⟨M, hM⟩ : ∃ M, i * q = M := ⟨_, rfl⟩
  obtain ⟨L, hL⟩ : ∃ L, st.segs * q = L := ⟨_, rfl⟩
  rw [hM] at hlt hc0 hmb hmul
  rw [hL] at hlt hcL
  have hw1 : IntKind.i64.wrap (M : Int) = (M : Int) := by rw [IntKind.wrap_i64]; omega
  obtain ⟨N, hNN⟩ : ∃ N, M + j = N := ⟨_, rfl⟩
  have hadd : (M : Int) + (j : Int) = (N : Int) := by omega
  rw [hNN] at hlt hc0
  have hw2 : IntKind.i64.wrap (N : Int) = (N : Int) := by rw [IntKind.wrap_i64]; omega
  have hNL : (N : Int) < (L : Int) := by omega
  have HC := Lib.hid hc0
  have HNL := Lib.hid (And.intro hlt (And.intro hq (And.intro hM (And.intro hL hNN))))
  clear T1 h ho hlen hz0 hz1 hc0 hcs hc1 hc2 hlt hmb hu hj16 hq hM hL hNN hlv hi hj hs hpv hpi hN hP hwh
  go_upto_region 5 with (first | ((with_reducible refine wpList_load_at ?_ 53 (.tmp 4) ?_ _ ?_ _ HL.out ?_); rfl; rfl; rfl) | (go_at_call 41; (with_reducible refine HI.out.mono ?_); rintro e w2 ⟨rfl, k2⟩))
  have T2 := HT.out.on k2
  have HT2 := Lib.hid T2
  have d5 := T2.c 1 rfl 5 hcA
  have d71 := T2.c 1 rfl 71 hcL
  have dg := (World.cell?_of_block (T2.only.block _ (World.block_lt_of_cell? w _ HC.out) (fun x => x))).trans HC.out
  clear T2 k2 HT HL HI c0 hcA hcL
  go_upto_region 10 with ((with_reducible refine wpList_make_at ?_ 35 (.const (.int .i64 256)) (.const (.int .i64 256)) ?_ _ _ _ ?_ ?_ (make35 _) ?_); rfl; rfl; rfl; rfl)
  have T3 := HT2.out.alloc (rowB zrow) 5
  obtain ⟨gb, hgb⟩ : ∃ gb, gb = w2.heap.size := ⟨_, rfl⟩
  rw [← hgb] at T3 ⊢
  generalize w2.alloc (.cells (rowB zrow) 5) = W3 at *
  have HT3 := Lib.hid T3
  clear d5 d71 dg HT2 T3 hgb
  go_loopw [12] (fun x wr => ∃ (k : Nat), k ≤ s.size ∧ x = .int .i64 k ∧ Hid (Tab [(gb, rowB (filL s k), 5), (w.heap.size + 1, Z53, 53), (w.heap.size, A, 53)] w wr)) (fun x _ => s.size - (intOf x).toNat)
  case atStart => exact ⟨0, by omega, rfl, by rw [filL_0]; exact HT3.out⟩
  case round =>
    obtain ⟨k, hk, rfl, hx⟩ := hrel
    by_cases hlt : k < s.size
    · have hlt' : (k : Int) < s.size := by omega
      have HK := Lib.hid hlt
      have hk0 : (0 : Int) ≤ (k : Int) := by omega
      have hk256 : (k : Int) < 256 := by omega
      have hxx : s.data.toList[k]? = some (s[k]'hlt) := by simp [hlt]; rfl
      obtain ⟨Wa, hsa, Ta, za, oa⟩ := hx.out.one 0 rfl 5 k (.int .u8 ((s[k]'hlt).toNat : Int)) info5s rfl (by rw [rowB_size, filL_len s k hk HX.out.2.2]; omega)
      rw [rowB_set, filL_step s k hxx HX.out.2.2] at Ta
      have HTa : Hid (Tab [(gb, rowB (filL s (k + 1)), 5), (w.heap.size + 1, Z53, 53), (w.heap.size, A, 53)] w Wa) := Ta
      have HSa := Lib.hid hsa
      clear hx hsa Ta za oa hxx
      go_wp2_with (first | ((with_reducible refine wpList_store_at ?_ 5 (.tmp 58) (.tmp 57) ?_ _ ?_ _ ?_ HSa.out ?_); rfl; rfl; rfl; rfl))
      go_roundw
      case rel => exact ⟨k + 1, by have := HK.out; omega, by go_num, HTa.out⟩
      case measure => have := HK.out; simp [intOf]; omega
    · obtain rfl : k = s.size := by omega
      obtain ⟨t0, ht0⟩ : ∃ t0, t0 = fillT s := ⟨_, rfl⟩
      have HZ0 : Hid (t0.size = 256) := by rw [ht0]; exact fillT_len HX.out.2.2
      have hx2 := hx.out
      rw [filL_end, ← ht0] at hx2
      have hl61 := hx2.load 2 rfl 48 _ Try.underlying48 rfl 0 info48s (by rw [HR.out.size]; decide)
      rw [Nat.zero_add, HR.out.pw] at hl61
      have ha := ract_any p wr HPI.out.1
      rw [HWH.out] at ha
      have HX0 := Lib.hid hx2
      have HL61 := Lib.hid hl61
      have HA := Lib.hid ha
      have HT0 := Lib.hid ht0
      clear hx hx2 hl61 ha ht0
      go_wp2_with ((with_reducible refine wpList_load_at ?_ 48 (.tmp 60) ?_ _ ?_ _ HL61.out ?_); rfl; rfl; rfl)
      refine HA.out.mono ?_
      rintro e w3 ⟨rfl, k3⟩
      obtain ⟨W4, hs4, T5, z4, o4⟩ := (HX0.out.on k3).fresh (B := p.next.cells) #[.bool false, .int .i64 0, .int .i64 0, .int .u8 0] 48 info48s rfl rfl (p4_one _ _ _ _)
      have hl66 := T5.loadAll 0 rfl 48 _ Try.underlying48 rfl info48s rfl
      obtain ⟨W5, hs5, T6, z5, o5⟩ := T5.part (B := p.next.cells) 3 rfl 48 0 info48s rfl (by rw [HR.out.size]; decide) (p4_one _ _ _ _)
      replace T6 : Tab [(w3.heap.size, p.next.cells, 48), (gb, rowB (t0.data.toList), 5), (w.heap.size + 1, Z53, 53), (w.heap.size, splice A 0 p.next.cells, 53)] w W5 := T6
      have HR2 := Lib.hid (HR.out.setPw p.next)
      generalize splice A 0 p.next.cells = A2 at *
      have HT6 := Lib.hid T6
      have HS4 := Lib.hid hs4
      have HL66 := Lib.hid hl66
      have HS5 := Lib.hid hs5
      clear k3 hs4 T5 z4 o4 hl66 hs5 T6 z5 o5 HX0 HL61 HA
      obtain ⟨m, hm⟩ : ∃ m, m = min p.next.keep.toNat 256 := ⟨_, rfl⟩
      obtain ⟨x, hx8⟩ : ∃ x, x = UInt8.ofNat p.next.junk.toNat := ⟨_, rfl⟩
      have hin := next_in HPI.out
      have hm256 : m ≤ 256 := by omega
      have hjx : p.next.junk = (x.toNat : Int) := by
        rw [hx8]
        have := hin.2.2.2
        rw [UInt8.toNat_ofNat_of_lt' (by show p.next.junk.toNat < 256; omega)]
        omega
      have hmin : min p.next.keep (256 : Int) = (m : Int) := by have := hin.2.1; omega
      have e2 := HT6.out.c 0 rfl 2 (v := .int .i64 p.next.keep) rfl
      have HMX := Lib.hid (And.intro hm hx8)
      have HM := Lib.hid hm256
      have HJX := Lib.hid hjx
      clear hm hx8 hin hm256 hjx
      go_upto_region 18 with (first | ((with_reducible refine wpList_store_at ?_ 48 (.tmp 13) (.tmp 63) ?_ _ ?_ _ ?_ HS4.out ?_); rfl; rfl; rfl; rfl) | ((with_reducible refine wpList_load_at ?_ 48 (.tmp 13) ?_ _ ?_ _ HL66.out ?_); rfl; rfl; rfl) | ((with_reducible refine wpList_store_at ?_ 48 (.tmp 67) (.tmp 66) ?_ _ ?_ _ ?_ HS5.out ?_); rfl; rfl; rfl; rfl))
      clear e2 hmin HS4 HL66 HS5
      go_loopw [17] (fun y wr => ∃ (k : Nat), m ≤ k ∧ k ≤ 256 ∧ y = .int .i64 k ∧ Hid (Tab [(w3.heap.size, p.next.cells, 48), (gb, rowB (torL t0 m k x), 5), (w.heap.size + 1, Z53, 53), (w.heap.size, A2, 53)] w wr)) (fun y _ => 256 - (intOf y).toNat)
      case atStart => exact ⟨m, by omega, HM.out, rfl, by rw [torL_0]; exact HT6.out⟩
      case round =>
        obtain ⟨k, hmk, hk, rfl, hq⟩ := hrel
        by_cases hlt : k < 256
        · have hlt' : (k : Int) < 256 := by omega
          have HK := Lib.hid (And.intro hmk hlt)
          have hk0 : (0 : Int) ≤ (k : Int) := by omega
          have e3 := hq.out.c 0 rfl 3 (v := .int .u8 p.next.junk) rfl
          rw [HJX.out] at e3
          obtain ⟨Wa, hsa, Ta, za, oa⟩ := hq.out.one 1 rfl 5 k (.int .u8 (x.toNat : Int)) info5s rfl (by rw [rowB_size, torL_len x HZ0.out hmk hk]; omega)
          rw [rowB_set, torL_step x HZ0.out hmk hlt] at Ta
          have HTa : Hid (Tab [(w3.heap.size, p.next.cells, 48), (gb, rowB (torL t0 m (k + 1) x), 5), (w.heap.size + 1, Z53, 53), (w.heap.size, A2, 53)] w Wa) := Ta
          have HSa := Lib.hid hsa
          clear hq hsa Ta za oa
          go_wp2_with (first | ((with_reducible refine wpList_store_at ?_ 5 (.tmp 81) (.tmp 80) ?_ _ ?_ _ ?_ HSa.out ?_); rfl; rfl; rfl; rfl))
          go_roundw
          case rel => exact ⟨k + 1, by have := HK.out; omega, by have := HK.out; omega, by go_num, HTa.out⟩
          case measure => have := HK.out; simp [intOf]; omega
        · obtain rfl : k = 256 := by omega
          have hq2 := hq.out
          rw [torL_end m x HZ0.out] at hq2
          obtain ⟨t1, ht1⟩ : ∃ t1, t1 = tornT t0 m x := ⟨_, rfl⟩
          have HZ1 : Hid (t1.size = 256) := by rw [ht1]; exact tornT_size HZ0.out HM.out
          rw [← ht1] at hq2
          have HT7 := Lib.hid hq2
          have HT1 := Lib.hid ht1
          clear hq hq2 ht1
          have hLL : st.segs * st.pages = L := by rw [HNL.out.2.1, HNL.out.2.2.2.1]
          have hIJ : i * st.pages + j = N := by rw [HNL.out.2.1, HNL.out.2.2.1, HNL.out.2.2.2.2]
          have T6a := HT7.out.on ((Only.refl _ wr).alloc (.cells #[] 97))
          have e71 := T6a.c 3 rfl 71 HR2.out.l
          have hcp := copyL (HLL.out.keep HT7.out.only) HT7.out HR2.out.lens
          rw [hLL] at hcp
          obtain ⟨gl, cap, cur, W6, hap, hc1, hc2, T7, hLR, hgl⟩ := hcp
          obtain ⟨W7, hs7, T8, z7, o7⟩ := T7.one 4 rfl 50 71 (.slice (some ⟨gl, 0, none⟩) L cap) info50s rfl (by rw [HR2.out.size]; decide)
          replace T8 : Tab [(gl, cur, 97), (w3.heap.size, p.next.cells, 48), (gb, rowB (t1.data.toList), 5), (w.heap.size + 1, Z53, 53), (w.heap.size, A2.setIfInBounds 71 (.slice (some ⟨gl, 0, none⟩) L cap), 53)] w W7 := T8
          have HR3 := Lib.hid (HR2.out.setL (.slice (some ⟨gl, 0, none⟩) L cap) rfl)
          generalize A2.setIfInBounds 71 (.slice (some ⟨gl, 0, none⟩) L cap) = A3 at *
          have f71 := T8.c 4 rfl 71 HR3.out.l
          have hcv := rowB_conv (T8.get 2 rfl) HZ1.out
          have hfit : N * 2 + 2 ≤ cur.size := by have := hLR.1; have := HNL.out.1; omega
          obtain ⟨W8, hs8, T9, z8, o8⟩ := T8.part (B := #[.bool (some t1).isSome, .string ((some t1).getD ByteArray.empty)]) 0 rfl 97 (N * 2) info97s rfl hfit (by intro v hv; simp at hv; rcases hv with rfl | rfl <;> rfl)
          have hLa := hLR.put (i := i) (j := j) HX.out.1 HX.out.2.1 (some t1)
          rw [hIJ] at hLa
          replace T9 : Tab [(gl, splice cur (N * 2) #[.bool (some t1).isSome, .string ((some t1).getD ByteArray.empty)], 97), (w3.heap.size, p.next.cells, 48), (gb, rowB (t1.data.toList), 5), (w.heap.size + 1, Z53, 53), (w.heap.size, A3, 53)] w W8 := T9
          generalize splice cur (N * 2) #[.bool (some t1).isSome, .string ((some t1).getD ByteArray.empty)] = cu at *
          have HLL2 := Lib.hid (And.intro hLL (And.intro hc1 hc2))
          have HAP := Lib.hid hap
          have HS7 := Lib.hid hs7
          have HCV := Lib.hid hcv
          have HS8 := Lib.hid hs8
          have HT9 := Lib.hid T9
          have HLA := Lib.hid hLa
          clear hLL hIJ T6a hap hc1 hc2 T7 hLR hgl hs7 T8 z7 o7 hcv hfit hs8 T9 z8 o8 hLa
          go_wp2_with (first | ((with_reducible refine wpList_bs_at ?_ 50 0 #[] ?_ [] ?_ _ (cbuild_0 _) ?_); rfl; rfl; rfl) | ((with_reducible refine wpList_app_g ?_ (.tmp 82) (.tmp 84) 50 ?_ _ _ _ ?_ ?_ HAP.out ?_); rfl; rfl; rfl; rfl) | ((with_reducible refine wpList_store_at ?_ 50 (.tmp 86) (.tmp 85) ?_ _ ?_ _ ?_ HS7.out ?_); rfl; rfl; rfl; rfl) | ((with_reducible refine wpList_conv_at ?_ 35 9 (.tmp 90) ?_ _ ?_ _ HCV.out ?_); rfl; rfl; rfl) | ((with_reducible refine wpList_build_at ?_ 97 #[(0, .const (.bool true)), (1, .tmp 91)] ?_ [(0, .bool true), (1, .string t1)] ?_ _ (build97 t1 _) ?_); rfl; rfl; rfl) | ((with_reducible refine wpList_store_at ?_ 97 (.tmp 93) (.tmp 92) ?_ _ ?_ _ ?_ HS8.out ?_); rfl; rfl; rfl; rfl))
          clear e71 f71 HAP HS7 HCV HS8
          refine wp_region_held (S := fun W => W.heap[gb]? = some (.cells (rowB t1.data.toList) 5 (0, 0))) (by kernel_rfl) ?_
          change wpAnyH _ _ _ _ _ _ _ _ (World.drew _)
          obtain ⟨D, hD⟩ : ∃ D, D = World.drew W8 := ⟨_, rfl⟩
          have HTD : Hid (Tab [(gl, cu, 97), (w3.heap.size, p.next.cells, 48), (gb, rowB (t1.data.toList), 5), (w.heap.size + 1, Z53, 53), (w.heap.size, A3, 53)] w D) := by rw [hD]; exact HT9.out.drew
          rw [← hD]
          clear hD
          simp only [Act.put]
          have hS0 : (fun W : World => W.heap[gb]? = some (.cells (rowB t1.data.toList) 5 (0, 0))) D := HTD.out.get 2 rfl
          have HPD := Lib.hid (HPV.out.keep HTD.out.only)
          have HLO : Hid (∀ W, Only (fun _ => False) D W → (loadVar 43 ⟨w.heap.size, 136, none⟩).run Try.prog W = .ok pv W) := fun W o => load_one 43 _ Try.underlying43 rfl ((HTD.out.on o).c 4 rfl 136 HR3.out.past)
          have HGB : Hid (∀ W, Only (fun _ => False) D W → W.heap[gb]? = some (.cells (rowB t1.data.toList) 5 (0, 0))) := fun W o => (HTD.out.on o).get 2 rfl
          refine held_pure (i := 1) (v := (.pointer (some ⟨w.heap.size, 136, none⟩))) rfl rfl (by kernel_rfl) (by kernel_rfl) (by kernel_rfl) (fun _ _ _ h => h) (Or.inl ⟨by rfl, fun w => by go_simp⟩) hS0 ?_
          simp only [List.setIfInBounds_toArray, List.set]
          refine held_pure (i := 4) (v := (.slice (some ⟨gb, 0, none⟩) 256 256)) rfl rfl (by kernel_rfl) (by kernel_rfl) (by kernel_rfl) (fun _ _ _ h => h) (Or.inl ⟨by rfl, fun w => by go_simp⟩) hS0 ?_
          simp only [List.setIfInBounds_toArray, List.set]
          refine held_take (i := 5) (v := (.string t1)) rfl rfl (by kernel_rfl) (by kernel_rfl) (by kernel_rfl) (fun _ _ _ h => h) (yields_conv rfl 35 9 (.tmp 98) rfl _ rfl _ (fun W hS => rowB_conv hS HZ1.out)) hS0 ?_
          simp only [List.setIfInBounds_toArray, List.set]
          have HC0 := Lib.hid (Cn.zero D)
          refine held_three (j := 0) (k := 2) (l := 6) (by kernel_rfl) ?_ ?_ ?_
          · obtain ⟨v1, D1, hr, hc⟩ := cn_0 HC0.out
            have HC1 := Lib.hid hc
            refine op_exec (j := 0) rfl rfl (by rfl) _ (exec_bs 43 0 #[] rfl [] rfl _ hr) ?_
            refine ⟨HGB.out _ HC1.out.on, ?_⟩
            clear hr hc
            simp only [List.setIfInBounds_toArray, List.set]
            refine held_two (j := 2) (k := 6) (by kernel_rfl) ?_ ?_
            · refine op_exec (j := 2) rfl rfl (by rfl) pv (exec_load 43 (.tmp 95) rfl ⟨w.heap.size, 136, none⟩ rfl pv (HLO.out _ HC1.out.on)) ?_
              refine ⟨HGB.out _ HC1.out.on, ?_⟩
              simp only [List.setIfInBounds_toArray, List.set]
              refine held_two (j := 3) (k := 6) (by kernel_rfl) ?_ ?_
              · obtain ⟨v3, D3, hr, hc⟩ := cn_3 HC1.out HPD.out HP.out.1
                have HC3 := Lib.hid hc
                refine op_exec (j := 3) rfl rfl (by rfl) _ (exec_app (.tmp 94) (.tmp 96) 43 rfl _ _ _ rfl rfl hr) ?_
                refine ⟨HGB.out _ HC3.out.on, ?_⟩
                clear hr hc
                simp only [List.setIfInBounds_toArray, List.set]
                refine held_one (j := 6) (by kernel_rfl) ?_
                · obtain ⟨g4, D4, hr, hc⟩ := cn_6 HC3.out t1
                  have HC4 := Lib.hid hc
                  refine op_exec (j := 6) rfl rfl (by rfl) _ (exec_bs 43 1 #[(0, .tmp 99)] rfl [(0, .string t1)] rfl _ hr) ?_
                  refine ⟨HGB.out _ HC4.out.on, ?_⟩
                  clear hr hc
                  simp only [List.setIfInBounds_toArray, List.set]
                  obtain ⟨v7, D7, hr, hos, ho⟩ := cn_7 HC4.out HP.out.1
                  have HR7 := Lib.hid hr
                  have HOS := Lib.hid hos
                  have HO7 := Lib.hid ho
                  have hS7 : (fun W : World => W.heap[gb]? = some (.cells (rowB t1.data.toList) 5 (0, 0))) D7 := HGB.out _ ho
                  clear hr hos ho
                  refine held_execd (j := 7) (by kernel_rfl) rfl rfl (by rfl) _ (exec_app (.tmp 97) (.tmp 100) 43 rfl _ _ _ rfl rfl HR7.out) hS7 ?_
                  simp only [List.setIfInBounds_toArray, List.set]
                  refine held_pure (i := 8) (v := (.pointer (some ⟨w.heap.size, 136, none⟩))) rfl rfl (by kernel_rfl) (by kernel_rfl) (by kernel_rfl) (fun _ _ _ h => h) (Or.inl ⟨by rfl, fun w => by go_simp⟩) hS7 ?_
                  simp only [List.setIfInBounds_toArray, List.set]
                  obtain ⟨Y, hsy, TY, zy, oy⟩ := (HTD.out.on HO7.out).one 4 rfl 43 136 v7 info43s HOS.out.cell1 (by rw [HR3.out.size]; decide)
                  replace TY : Tab [(gl, cu, 97), (w3.heap.size, p.next.cells, 48), (gb, rowB (t1.data.toList), 5), (w.heap.size + 1, Z53, 53), (w.heap.size, A3.setIfInBounds 136 v7, 53)] w Y := TY
                  refine held_store (j := 9) (by kernel_rfl) rfl rfl rfl 43 (.tmp 102) (.tmp 101) rfl _ rfl _ rfl hsy (TY.get 2 rfl) ?_
                  refine wpAnyH_done (by kernel_rfl) ?_ _
                  have hbx : w.heap.size < D.heap.size := HTD.out.lt (p := (w.heap.size, A3, 53)) (by simp)
                  have hbr : w.heap.size + 1 < D.heap.size := HTD.out.lt (p := (w.heap.size + 1, Z53, 53)) (by simp)
                  have hosY : OS Y D.heap.size v7 (st.past ++ [t1]) := HOS.out.keep oy (fun k hk e => by have := HOS.out.base_le hk; omega)
                  have hr4 := HR3.out.setPast v7 HOS.out.cell1
                  generalize A3.setIfInBounds 136 v7 = A4 at *
                  have f137 := TY.c 4 rfl 137 hr4.programs
                  obtain ⟨Y2, hsb, Tb, zb, ob⟩ := TY.one 4 rfl 3 137 (.int .i64 (st.programs + 1)) info3s rfl (by rw [hr4.size]; omega)
                  have hosY2 := hosY.keep ob (fun k hk e => by have := HOS.out.base_le hk; omega)
                  have hr5 := hr4.setPrograms (st.programs + 1)
                  replace Tb : Tab [(gl, cu, 97), (w3.heap.size, p.next.cells, 48), (gb, rowB (t1.data.toList), 5), (w.heap.size + 1, Z53, 53), (w.heap.size, A4.setIfInBounds 137 (.int .i64 (st.programs + 1)), 53)] w Y2 := Tb
                  generalize A4.setIfInBounds 137 (.int .i64 (st.programs + 1)) = A5 at *
                  obtain ⟨hl, Y3, hs, hl2, ht, hoY⟩ := c53_end' Tb (i := 3) (j := 4) rfl rfl Z53_size hr5.size hr5.one
                  have hosY3 : OS Y3 w.heap.size v7 (st.past ++ [t1]) := (hosY2.keep hoY (fun k hk e => by have := HOS.out.base_le hk; omega)).mono HTD.out.only.size
                  have hlc0 : LNew w Y3 (.slice (some ⟨gl, 0, none⟩) (st.segs * st.pages) cap) (st.prg i j t1) := Tab.rowNew ht 0 rfl HLA.out (by rw [HLL2.out.1]; exact HLL2.out.2.1) HLL2.out.2.2
                  rw [HLL2.out.1] at hlc0
                  have hra : RA A5 (.slice (some ⟨gl, 0, none⟩) L cap) v7 (st.prg i j t1) p.next := hr5.setPage (updP st.page i j (some t1)) (st.past ++ [t1])
                  have htt : t1 = doneT p.next false (fillT s) := by rw [HT1.out, HT0.out, HMX.out.1, HMX.out.2]; rfl
                  rw [htt] at hra hlc0 hosY3
                  have HF := Lib.hid (And.intro hra (And.intro hlc0 (And.intro hosY3 ht.only)))
                  have hwb : IntKind.i64.wrap (st.programs + 1) = st.programs + 1 := by have := HP.out; rw [IntKind.wrap_i64]; omega
                  have HSb := Lib.hid hsb
                  have HL1 := Lib.hid hl
                  have HS := Lib.hid hs
                  have HL2 := Lib.hid hl2
                  clear hsy TY zy oy hbx hbr hosY hr4 hsb Tb zb ob hosY2 hr5 hl hs hl2 ht hoY hosY3 hlc0 hra htt hS7
                  go_wp2_with (first | ((with_reducible refine wpList_store_at ?_ 3 (.tmp 106) (.tmp 105) ?_ _ ?_ _ ?_ HSb.out ?_); rfl; rfl; rfl; rfl) | ((with_reducible refine wpList_load_at ?_ 53 (.tmp 4) ?_ _ ?_ _ HL1.out ?_); rfl; rfl; rfl) | ((with_reducible refine wpList_store_at ?_ 53 (.tmp 8) (.tmp 107) ?_ _ ?_ _ ?_ HS.out ?_); rfl; rfl; rfl; rfl))
                  refine bodyPost_ret (v := .tuple #[.agg A5, .int .i64 4]) ?_ rfl ⟨A5, rfl, _, _, HF.out⟩
                  have := HL2.out
                  simp [results, Try.results23, asAddr, this]
              · obtain ⟨g3, D3, hr, hc⟩ := cn_6 HC1.out t1
                have HC3 := Lib.hid hc
                refine op_exec (j := 6) rfl rfl (by rfl) _ (exec_bs 43 1 #[(0, .tmp 99)] rfl [(0, .string t1)] rfl _ hr) ?_
                refine ⟨HGB.out _ HC3.out.on, ?_⟩
                clear hr hc
                simp only [List.setIfInBounds_toArray, List.set]
                refine held_one (j := 3) (by kernel_rfl) ?_
                · obtain ⟨v4, D4, hr, hc⟩ := cn_3 HC3.out HPD.out HP.out.1
                  have HC4 := Lib.hid hc
                  refine op_exec (j := 3) rfl rfl (by rfl) _ (exec_app (.tmp 94) (.tmp 96) 43 rfl _ _ _ rfl rfl hr) ?_
                  refine ⟨HGB.out _ HC4.out.on, ?_⟩
                  clear hr hc
                  simp only [List.setIfInBounds_toArray, List.set]
                  obtain ⟨v7, D7, hr, hos, ho⟩ := cn_7 HC4.out HP.out.1
                  have HR7 := Lib.hid hr
                  have HOS := Lib.hid hos
                  have HO7 := Lib.hid ho
                  have hS7 : (fun W : World => W.heap[gb]? = some (.cells (rowB t1.data.toList) 5 (0, 0))) D7 := HGB.out _ ho
                  clear hr hos ho
                  refine held_execd (j := 7) (by kernel_rfl) rfl rfl (by rfl) _ (exec_app (.tmp 97) (.tmp 100) 43 rfl _ _ _ rfl rfl HR7.out) hS7 ?_
                  simp only [List.setIfInBounds_toArray, List.set]
                  refine held_pure (i := 8) (v := (.pointer (some ⟨w.heap.size, 136, none⟩))) rfl rfl (by kernel_rfl) (by kernel_rfl) (by kernel_rfl) (fun _ _ _ h => h) (Or.inl ⟨by rfl, fun w => by go_simp⟩) hS7 ?_
                  simp only [List.setIfInBounds_toArray, List.set]
                  obtain ⟨Y, hsy, TY, zy, oy⟩ := (HTD.out.on HO7.out).one 4 rfl 43 136 v7 info43s HOS.out.cell1 (by rw [HR3.out.size]; decide)
                  replace TY : Tab [(gl, cu, 97), (w3.heap.size, p.next.cells, 48), (gb, rowB (t1.data.toList), 5), (w.heap.size + 1, Z53, 53), (w.heap.size, A3.setIfInBounds 136 v7, 53)] w Y := TY
                  refine held_store (j := 9) (by kernel_rfl) rfl rfl rfl 43 (.tmp 102) (.tmp 101) rfl _ rfl _ rfl hsy (TY.get 2 rfl) ?_
                  refine wpAnyH_done (by kernel_rfl) ?_ _
                  have hbx : w.heap.size < D.heap.size := HTD.out.lt (p := (w.heap.size, A3, 53)) (by simp)
                  have hbr : w.heap.size + 1 < D.heap.size := HTD.out.lt (p := (w.heap.size + 1, Z53, 53)) (by simp)
                  have hosY : OS Y D.heap.size v7 (st.past ++ [t1]) := HOS.out.keep oy (fun k hk e => by have := HOS.out.base_le hk; omega)
                  have hr4 := HR3.out.setPast v7 HOS.out.cell1
                  generalize A3.setIfInBounds 136 v7 = A4 at *
                  have f137 := TY.c 4 rfl 137 hr4.programs
                  obtain ⟨Y2, hsb, Tb, zb, ob⟩ := TY.one 4 rfl 3 137 (.int .i64 (st.programs + 1)) info3s rfl (by rw [hr4.size]; omega)
                  have hosY2 := hosY.keep ob (fun k hk e => by have := HOS.out.base_le hk; omega)
                  have hr5 := hr4.setPrograms (st.programs + 1)
                  replace Tb : Tab [(gl, cu, 97), (w3.heap.size, p.next.cells, 48), (gb, rowB (t1.data.toList), 5), (w.heap.size + 1, Z53, 53), (w.heap.size, A4.setIfInBounds 137 (.int .i64 (st.programs + 1)), 53)] w Y2 := Tb
                  generalize A4.setIfInBounds 137 (.int .i64 (st.programs + 1)) = A5 at *
                  obtain ⟨hl, Y3, hs, hl2, ht, hoY⟩ := c53_end' Tb (i := 3) (j := 4) rfl rfl Z53_size hr5.size hr5.one
                  have hosY3 : OS Y3 w.heap.size v7 (st.past ++ [t1]) := (hosY2.keep hoY (fun k hk e => by have := HOS.out.base_le hk; omega)).mono HTD.out.only.size
                  have hlc0 : LNew w Y3 (.slice (some ⟨gl, 0, none⟩) (st.segs * st.pages) cap) (st.prg i j t1) := Tab.rowNew ht 0 rfl HLA.out (by rw [HLL2.out.1]; exact HLL2.out.2.1) HLL2.out.2.2
                  rw [HLL2.out.1] at hlc0
                  have hra : RA A5 (.slice (some ⟨gl, 0, none⟩) L cap) v7 (st.prg i j t1) p.next := hr5.setPage (updP st.page i j (some t1)) (st.past ++ [t1])
                  have htt : t1 = doneT p.next false (fillT s) := by rw [HT1.out, HT0.out, HMX.out.1, HMX.out.2]; rfl
                  rw [htt] at hra hlc0 hosY3
                  have HF := Lib.hid (And.intro hra (And.intro hlc0 (And.intro hosY3 ht.only)))
                  have hwb : IntKind.i64.wrap (st.programs + 1) = st.programs + 1 := by have := HP.out; rw [IntKind.wrap_i64]; omega
                  have HSb := Lib.hid hsb
                  have HL1 := Lib.hid hl
                  have HS := Lib.hid hs
                  have HL2 := Lib.hid hl2
                  clear hsy TY zy oy hbx hbr hosY hr4 hsb Tb zb ob hosY2 hr5 hl hs hl2 ht hoY hosY3 hlc0 hra htt hS7
                  go_wp2_with (first | ((with_reducible refine wpList_store_at ?_ 3 (.tmp 106) (.tmp 105) ?_ _ ?_ _ ?_ HSb.out ?_); rfl; rfl; rfl; rfl) | ((with_reducible refine wpList_load_at ?_ 53 (.tmp 4) ?_ _ ?_ _ HL1.out ?_); rfl; rfl; rfl) | ((with_reducible refine wpList_store_at ?_ 53 (.tmp 8) (.tmp 107) ?_ _ ?_ _ ?_ HS.out ?_); rfl; rfl; rfl; rfl))
                  refine bodyPost_ret (v := .tuple #[.agg A5, .int .i64 4]) ?_ rfl ⟨A5, rfl, _, _, HF.out⟩
                  have := HL2.out
                  simp [results, Try.results23, asAddr, this]
            · obtain ⟨g2, D2, hr, hc⟩ := cn_6 HC1.out t1
              have HC2 := Lib.hid hc
              refine op_exec (j := 6) rfl rfl (by rfl) _ (exec_bs 43 1 #[(0, .tmp 99)] rfl [(0, .string t1)] rfl _ hr) ?_
              refine ⟨HGB.out _ HC2.out.on, ?_⟩
              clear hr hc
              simp only [List.setIfInBounds_toArray, List.set]
              refine held_one (j := 2) (by kernel_rfl) ?_
              · refine op_exec (j := 2) rfl rfl (by rfl) pv (exec_load 43 (.tmp 95) rfl ⟨w.heap.size, 136, none⟩ rfl pv (HLO.out _ HC2.out.on)) ?_
                refine ⟨HGB.out _ HC2.out.on, ?_⟩
                simp only [List.setIfInBounds_toArray, List.set]
                refine held_one (j := 3) (by kernel_rfl) ?_
                · obtain ⟨v4, D4, hr, hc⟩ := cn_3 HC2.out HPD.out HP.out.1
                  have HC4 := Lib.hid hc
                  refine op_exec (j := 3) rfl rfl (by rfl) _ (exec_app (.tmp 94) (.tmp 96) 43 rfl _ _ _ rfl rfl hr) ?_
                  refine ⟨HGB.out _ HC4.out.on, ?_⟩
                  clear hr hc
                  simp only [List.setIfInBounds_toArray, List.set]
                  obtain ⟨v7, D7, hr, hos, ho⟩ := cn_7 HC4.out HP.out.1
                  have HR7 := Lib.hid hr
                  have HOS := Lib.hid hos
                  have HO7 := Lib.hid ho
                  have hS7 : (fun W : World => W.heap[gb]? = some (.cells (rowB t1.data.toList) 5 (0, 0))) D7 := HGB.out _ ho
                  clear hr hos ho
                  refine held_execd (j := 7) (by kernel_rfl) rfl rfl (by rfl) _ (exec_app (.tmp 97) (.tmp 100) 43 rfl _ _ _ rfl rfl HR7.out) hS7 ?_
                  simp only [List.setIfInBounds_toArray, List.set]
                  refine held_pure (i := 8) (v := (.pointer (some ⟨w.heap.size, 136, none⟩))) rfl rfl (by kernel_rfl) (by kernel_rfl) (by kernel_rfl) (fun _ _ _ h => h) (Or.inl ⟨by rfl, fun w => by go_simp⟩) hS7 ?_
                  simp only [List.setIfInBounds_toArray, List.set]
                  obtain ⟨Y, hsy, TY, zy, oy⟩ := (HTD.out.on HO7.out).one 4 rfl 43 136 v7 info43s HOS.out.cell1 (by rw [HR3.out.size]; decide)
                  replace TY : Tab [(gl, cu, 97), (w3.heap.size, p.next.cells, 48), (gb, rowB (t1.data.toList), 5), (w.heap.size + 1, Z53, 53), (w.heap.size, A3.setIfInBounds 136 v7, 53)] w Y := TY
                  refine held_store (j := 9) (by kernel_rfl) rfl rfl rfl 43 (.tmp 102) (.tmp 101) rfl _ rfl _ rfl hsy (TY.get 2 rfl) ?_
                  refine wpAnyH_done (by kernel_rfl) ?_ _
                  have hbx : w.heap.size < D.heap.size := HTD.out.lt (p := (w.heap.size, A3, 53)) (by simp)
                  have hbr : w.heap.size + 1 < D.heap.size := HTD.out.lt (p := (w.heap.size + 1, Z53, 53)) (by simp)
                  have hosY : OS Y D.heap.size v7 (st.past ++ [t1]) := HOS.out.keep oy (fun k hk e => by have := HOS.out.base_le hk; omega)
                  have hr4 := HR3.out.setPast v7 HOS.out.cell1
                  generalize A3.setIfInBounds 136 v7 = A4 at *
                  have f137 := TY.c 4 rfl 137 hr4.programs
                  obtain ⟨Y2, hsb, Tb, zb, ob⟩ := TY.one 4 rfl 3 137 (.int .i64 (st.programs + 1)) info3s rfl (by rw [hr4.size]; omega)
                  have hosY2 := hosY.keep ob (fun k hk e => by have := HOS.out.base_le hk; omega)
                  have hr5 := hr4.setPrograms (st.programs + 1)
                  replace Tb : Tab [(gl, cu, 97), (w3.heap.size, p.next.cells, 48), (gb, rowB (t1.data.toList), 5), (w.heap.size + 1, Z53, 53), (w.heap.size, A4.setIfInBounds 137 (.int .i64 (st.programs + 1)), 53)] w Y2 := Tb
                  generalize A4.setIfInBounds 137 (.int .i64 (st.programs + 1)) = A5 at *
                  obtain ⟨hl, Y3, hs, hl2, ht, hoY⟩ := c53_end' Tb (i := 3) (j := 4) rfl rfl Z53_size hr5.size hr5.one
                  have hosY3 : OS Y3 w.heap.size v7 (st.past ++ [t1]) := (hosY2.keep hoY (fun k hk e => by have := HOS.out.base_le hk; omega)).mono HTD.out.only.size
                  have hlc0 : LNew w Y3 (.slice (some ⟨gl, 0, none⟩) (st.segs * st.pages) cap) (st.prg i j t1) := Tab.rowNew ht 0 rfl HLA.out (by rw [HLL2.out.1]; exact HLL2.out.2.1) HLL2.out.2.2
                  rw [HLL2.out.1] at hlc0
                  have hra : RA A5 (.slice (some ⟨gl, 0, none⟩) L cap) v7 (st.prg i j t1) p.next := hr5.setPage (updP st.page i j (some t1)) (st.past ++ [t1])
                  have htt : t1 = doneT p.next false (fillT s) := by rw [HT1.out, HT0.out, HMX.out.1, HMX.out.2]; rfl
                  rw [htt] at hra hlc0 hosY3
                  have HF := Lib.hid (And.intro hra (And.intro hlc0 (And.intro hosY3 ht.only)))
                  have hwb : IntKind.i64.wrap (st.programs + 1) = st.programs + 1 := by have := HP.out; rw [IntKind.wrap_i64]; omega
                  have HSb := Lib.hid hsb
                  have HL1 := Lib.hid hl
                  have HS := Lib.hid hs
                  have HL2 := Lib.hid hl2
                  clear hsy TY zy oy hbx hbr hosY hr4 hsb Tb zb ob hosY2 hr5 hl hs hl2 ht hoY hosY3 hlc0 hra htt hS7
                  go_wp2_with (first | ((with_reducible refine wpList_store_at ?_ 3 (.tmp 106) (.tmp 105) ?_ _ ?_ _ ?_ HSb.out ?_); rfl; rfl; rfl; rfl) | ((with_reducible refine wpList_load_at ?_ 53 (.tmp 4) ?_ _ ?_ _ HL1.out ?_); rfl; rfl; rfl) | ((with_reducible refine wpList_store_at ?_ 53 (.tmp 8) (.tmp 107) ?_ _ ?_ _ ?_ HS.out ?_); rfl; rfl; rfl; rfl))
                  refine bodyPost_ret (v := .tuple #[.agg A5, .int .i64 4]) ?_ rfl ⟨A5, rfl, _, _, HF.out⟩
                  have := HL2.out
                  simp [results, Try.results23, asAddr, this]
          · refine op_exec (j := 2) rfl rfl (by rfl) pv (exec_load 43 (.tmp 95) rfl ⟨w.heap.size, 136, none⟩ rfl pv (HLO.out _ HC0.out.on)) ?_
            refine ⟨HGB.out _ HC0.out.on, ?_⟩
            simp only [List.setIfInBounds_toArray, List.set]
            refine held_two (j := 0) (k := 6) (by kernel_rfl) ?_ ?_
            · obtain ⟨v2, D2, hr, hc⟩ := cn_0 HC0.out
              have HC2 := Lib.hid hc
              refine op_exec (j := 0) rfl rfl (by rfl) _ (exec_bs 43 0 #[] rfl [] rfl _ hr) ?_
              refine ⟨HGB.out _ HC2.out.on, ?_⟩
              clear hr hc
              simp only [List.setIfInBounds_toArray, List.set]
              refine held_two (j := 3) (k := 6) (by kernel_rfl) ?_ ?_
              · obtain ⟨v3, D3, hr, hc⟩ := cn_3 HC2.out HPD.out HP.out.1
                have HC3 := Lib.hid hc
                refine op_exec (j := 3) rfl rfl (by rfl) _ (exec_app (.tmp 94) (.tmp 96) 43 rfl _ _ _ rfl rfl hr) ?_
                refine ⟨HGB.out _ HC3.out.on, ?_⟩
                clear hr hc
                simp only [List.setIfInBounds_toArray, List.set]
                refine held_one (j := 6) (by kernel_rfl) ?_
                · obtain ⟨g4, D4, hr, hc⟩ := cn_6 HC3.out t1
                  have HC4 := Lib.hid hc
                  refine op_exec (j := 6) rfl rfl (by rfl) _ (exec_bs 43 1 #[(0, .tmp 99)] rfl [(0, .string t1)] rfl _ hr) ?_
                  refine ⟨HGB.out _ HC4.out.on, ?_⟩
                  clear hr hc
                  simp only [List.setIfInBounds_toArray, List.set]
                  obtain ⟨v7, D7, hr, hos, ho⟩ := cn_7 HC4.out HP.out.1
                  have HR7 := Lib.hid hr
                  have HOS := Lib.hid hos
                  have HO7 := Lib.hid ho
                  have hS7 : (fun W : World => W.heap[gb]? = some (.cells (rowB t1.data.toList) 5 (0, 0))) D7 := HGB.out _ ho
                  clear hr hos ho
                  refine held_execd (j := 7) (by kernel_rfl) rfl rfl (by rfl) _ (exec_app (.tmp 97) (.tmp 100) 43 rfl _ _ _ rfl rfl HR7.out) hS7 ?_
                  simp only [List.setIfInBounds_toArray, List.set]
                  refine held_pure (i := 8) (v := (.pointer (some ⟨w.heap.size, 136, none⟩))) rfl rfl (by kernel_rfl) (by kernel_rfl) (by kernel_rfl) (fun _ _ _ h => h) (Or.inl ⟨by rfl, fun w => by go_simp⟩) hS7 ?_
                  simp only [List.setIfInBounds_toArray, List.set]
                  obtain ⟨Y, hsy, TY, zy, oy⟩ := (HTD.out.on HO7.out).one 4 rfl 43 136 v7 info43s HOS.out.cell1 (by rw [HR3.out.size]; decide)
                  replace TY : Tab [(gl, cu, 97), (w3.heap.size, p.next.cells, 48), (gb, rowB (t1.data.toList), 5), (w.heap.size + 1, Z53, 53), (w.heap.size, A3.setIfInBounds 136 v7, 53)] w Y := TY
                  refine held_store (j := 9) (by kernel_rfl) rfl rfl rfl 43 (.tmp 102) (.tmp 101) rfl _ rfl _ rfl hsy (TY.get 2 rfl) ?_
                  refine wpAnyH_done (by kernel_rfl) ?_ _
                  have hbx : w.heap.size < D.heap.size := HTD.out.lt (p := (w.heap.size, A3, 53)) (by simp)
                  have hbr : w.heap.size + 1 < D.heap.size := HTD.out.lt (p := (w.heap.size + 1, Z53, 53)) (by simp)
                  have hosY : OS Y D.heap.size v7 (st.past ++ [t1]) := HOS.out.keep oy (fun k hk e => by have := HOS.out.base_le hk; omega)
                  have hr4 := HR3.out.setPast v7 HOS.out.cell1
                  generalize A3.setIfInBounds 136 v7 = A4 at *
                  have f137 := TY.c 4 rfl 137 hr4.programs
                  obtain ⟨Y2, hsb, Tb, zb, ob⟩ := TY.one 4 rfl 3 137 (.int .i64 (st.programs + 1)) info3s rfl (by rw [hr4.size]; omega)
                  have hosY2 := hosY.keep ob (fun k hk e => by have := HOS.out.base_le hk; omega)
                  have hr5 := hr4.setPrograms (st.programs + 1)
                  replace Tb : Tab [(gl, cu, 97), (w3.heap.size, p.next.cells, 48), (gb, rowB (t1.data.toList), 5), (w.heap.size + 1, Z53, 53), (w.heap.size, A4.setIfInBounds 137 (.int .i64 (st.programs + 1)), 53)] w Y2 := Tb
                  generalize A4.setIfInBounds 137 (.int .i64 (st.programs + 1)) = A5 at *
                  obtain ⟨hl, Y3, hs, hl2, ht, hoY⟩ := c53_end' Tb (i := 3) (j := 4) rfl rfl Z53_size hr5.size hr5.one
                  have hosY3 : OS Y3 w.heap.size v7 (st.past ++ [t1]) := (hosY2.keep hoY (fun k hk e => by have := HOS.out.base_le hk; omega)).mono HTD.out.only.size
                  have hlc0 : LNew w Y3 (.slice (some ⟨gl, 0, none⟩) (st.segs * st.pages) cap) (st.prg i j t1) := Tab.rowNew ht 0 rfl HLA.out (by rw [HLL2.out.1]; exact HLL2.out.2.1) HLL2.out.2.2
                  rw [HLL2.out.1] at hlc0
                  have hra : RA A5 (.slice (some ⟨gl, 0, none⟩) L cap) v7 (st.prg i j t1) p.next := hr5.setPage (updP st.page i j (some t1)) (st.past ++ [t1])
                  have htt : t1 = doneT p.next false (fillT s) := by rw [HT1.out, HT0.out, HMX.out.1, HMX.out.2]; rfl
                  rw [htt] at hra hlc0 hosY3
                  have HF := Lib.hid (And.intro hra (And.intro hlc0 (And.intro hosY3 ht.only)))
                  have hwb : IntKind.i64.wrap (st.programs + 1) = st.programs + 1 := by have := HP.out; rw [IntKind.wrap_i64]; omega
                  have HSb := Lib.hid hsb
                  have HL1 := Lib.hid hl
                  have HS := Lib.hid hs
                  have HL2 := Lib.hid hl2
                  clear hsy TY zy oy hbx hbr hosY hr4 hsb Tb zb ob hosY2 hr5 hl hs hl2 ht hoY hosY3 hlc0 hra htt hS7
                  go_wp2_with (first | ((with_reducible refine wpList_store_at ?_ 3 (.tmp 106) (.tmp 105) ?_ _ ?_ _ ?_ HSb.out ?_); rfl; rfl; rfl; rfl) | ((with_reducible refine wpList_load_at ?_ 53 (.tmp 4) ?_ _ ?_ _ HL1.out ?_); rfl; rfl; rfl) | ((with_reducible refine wpList_store_at ?_ 53 (.tmp 8) (.tmp 107) ?_ _ ?_ _ ?_ HS.out ?_); rfl; rfl; rfl; rfl))
                  refine bodyPost_ret (v := .tuple #[.agg A5, .int .i64 4]) ?_ rfl ⟨A5, rfl, _, _, HF.out⟩
                  have := HL2.out
                  simp [results, Try.results23, asAddr, this]
              · obtain ⟨g3, D3, hr, hc⟩ := cn_6 HC2.out t1
                have HC3 := Lib.hid hc
                refine op_exec (j := 6) rfl rfl (by rfl) _ (exec_bs 43 1 #[(0, .tmp 99)] rfl [(0, .string t1)] rfl _ hr) ?_
                refine ⟨HGB.out _ HC3.out.on, ?_⟩
                clear hr hc
                simp only [List.setIfInBounds_toArray, List.set]
                refine held_one (j := 3) (by kernel_rfl) ?_
                · obtain ⟨v4, D4, hr, hc⟩ := cn_3 HC3.out HPD.out HP.out.1
                  have HC4 := Lib.hid hc
                  refine op_exec (j := 3) rfl rfl (by rfl) _ (exec_app (.tmp 94) (.tmp 96) 43 rfl _ _ _ rfl rfl hr) ?_
                  refine ⟨HGB.out _ HC4.out.on, ?_⟩
                  clear hr hc
                  simp only [List.setIfInBounds_toArray, List.set]
                  obtain ⟨v7, D7, hr, hos, ho⟩ := cn_7 HC4.out HP.out.1
                  have HR7 := Lib.hid hr
                  have HOS := Lib.hid hos
                  have HO7 := Lib.hid ho
                  have hS7 : (fun W : World => W.heap[gb]? = some (.cells (rowB t1.data.toList) 5 (0, 0))) D7 := HGB.out _ ho
                  clear hr hos ho
                  refine held_execd (j := 7) (by kernel_rfl) rfl rfl (by rfl) _ (exec_app (.tmp 97) (.tmp 100) 43 rfl _ _ _ rfl rfl HR7.out) hS7 ?_
                  simp only [List.setIfInBounds_toArray, List.set]
                  refine held_pure (i := 8) (v := (.pointer (some ⟨w.heap.size, 136, none⟩))) rfl rfl (by kernel_rfl) (by kernel_rfl) (by kernel_rfl) (fun _ _ _ h => h) (Or.inl ⟨by rfl, fun w => by go_simp⟩) hS7 ?_
                  simp only [List.setIfInBounds_toArray, List.set]
                  obtain ⟨Y, hsy, TY, zy, oy⟩ := (HTD.out.on HO7.out).one 4 rfl 43 136 v7 info43s HOS.out.cell1 (by rw [HR3.out.size]; decide)
                  replace TY : Tab [(gl, cu, 97), (w3.heap.size, p.next.cells, 48), (gb, rowB (t1.data.toList), 5), (w.heap.size + 1, Z53, 53), (w.heap.size, A3.setIfInBounds 136 v7, 53)] w Y := TY
                  refine held_store (j := 9) (by kernel_rfl) rfl rfl rfl 43 (.tmp 102) (.tmp 101) rfl _ rfl _ rfl hsy (TY.get 2 rfl) ?_
                  refine wpAnyH_done (by kernel_rfl) ?_ _
                  have hbx : w.heap.size < D.heap.size := HTD.out.lt (p := (w.heap.size, A3, 53)) (by simp)
                  have hbr : w.heap.size + 1 < D.heap.size := HTD.out.lt (p := (w.heap.size + 1, Z53, 53)) (by simp)
                  have hosY : OS Y D.heap.size v7 (st.past ++ [t1]) := HOS.out.keep oy (fun k hk e => by have := HOS.out.base_le hk; omega)
                  have hr4 := HR3.out.setPast v7 HOS.out.cell1
                  generalize A3.setIfInBounds 136 v7 = A4 at *
                  have f137 := TY.c 4 rfl 137 hr4.programs
                  obtain ⟨Y2, hsb, Tb, zb, ob⟩ := TY.one 4 rfl 3 137 (.int .i64 (st.programs + 1)) info3s rfl (by rw [hr4.size]; omega)
                  have hosY2 := hosY.keep ob (fun k hk e => by have := HOS.out.base_le hk; omega)
                  have hr5 := hr4.setPrograms (st.programs + 1)
                  replace Tb : Tab [(gl, cu, 97), (w3.heap.size, p.next.cells, 48), (gb, rowB (t1.data.toList), 5), (w.heap.size + 1, Z53, 53), (w.heap.size, A4.setIfInBounds 137 (.int .i64 (st.programs + 1)), 53)] w Y2 := Tb
                  generalize A4.setIfInBounds 137 (.int .i64 (st.programs + 1)) = A5 at *
                  obtain ⟨hl, Y3, hs, hl2, ht, hoY⟩ := c53_end' Tb (i := 3) (j := 4) rfl rfl Z53_size hr5.size hr5.one
                  have hosY3 : OS Y3 w.heap.size v7 (st.past ++ [t1]) := (hosY2.keep hoY (fun k hk e => by have := HOS.out.base_le hk; omega)).mono HTD.out.only.size
                  have hlc0 : LNew w Y3 (.slice (some ⟨gl, 0, none⟩) (st.segs * st.pages) cap) (st.prg i j t1) := Tab.rowNew ht 0 rfl HLA.out (by rw [HLL2.out.1]; exact HLL2.out.2.1) HLL2.out.2.2
                  rw [HLL2.out.1] at hlc0
                  have hra : RA A5 (.slice (some ⟨gl, 0, none⟩) L cap) v7 (st.prg i j t1) p.next := hr5.setPage (updP st.page i j (some t1)) (st.past ++ [t1])
                  have htt : t1 = doneT p.next false (fillT s) := by rw [HT1.out, HT0.out, HMX.out.1, HMX.out.2]; rfl
                  rw [htt] at hra hlc0 hosY3
                  have HF := Lib.hid (And.intro hra (And.intro hlc0 (And.intro hosY3 ht.only)))
                  have hwb : IntKind.i64.wrap (st.programs + 1) = st.programs + 1 := by have := HP.out; rw [IntKind.wrap_i64]; omega
                  have HSb := Lib.hid hsb
                  have HL1 := Lib.hid hl
                  have HS := Lib.hid hs
                  have HL2 := Lib.hid hl2
                  clear hsy TY zy oy hbx hbr hosY hr4 hsb Tb zb ob hosY2 hr5 hl hs hl2 ht hoY hosY3 hlc0 hra htt hS7
                  go_wp2_with (first | ((with_reducible refine wpList_store_at ?_ 3 (.tmp 106) (.tmp 105) ?_ _ ?_ _ ?_ HSb.out ?_); rfl; rfl; rfl; rfl) | ((with_reducible refine wpList_load_at ?_ 53 (.tmp 4) ?_ _ ?_ _ HL1.out ?_); rfl; rfl; rfl) | ((with_reducible refine wpList_store_at ?_ 53 (.tmp 8) (.tmp 107) ?_ _ ?_ _ ?_ HS.out ?_); rfl; rfl; rfl; rfl))
                  refine bodyPost_ret (v := .tuple #[.agg A5, .int .i64 4]) ?_ rfl ⟨A5, rfl, _, _, HF.out⟩
                  have := HL2.out
                  simp [results, Try.results23, asAddr, this]
            · obtain ⟨g2, D2, hr, hc⟩ := cn_6 HC0.out t1
              have HC2 := Lib.hid hc
              refine op_exec (j := 6) rfl rfl (by rfl) _ (exec_bs 43 1 #[(0, .tmp 99)] rfl [(0, .string t1)] rfl _ hr) ?_
              refine ⟨HGB.out _ HC2.out.on, ?_⟩
              clear hr hc
              simp only [List.setIfInBounds_toArray, List.set]
              refine held_one (j := 0) (by kernel_rfl) ?_
              · obtain ⟨v3, D3, hr, hc⟩ := cn_0 HC2.out
                have HC3 := Lib.hid hc
                refine op_exec (j := 0) rfl rfl (by rfl) _ (exec_bs 43 0 #[] rfl [] rfl _ hr) ?_
                refine ⟨HGB.out _ HC3.out.on, ?_⟩
                clear hr hc
                simp only [List.setIfInBounds_toArray, List.set]
                refine held_one (j := 3) (by kernel_rfl) ?_
                · obtain ⟨v4, D4, hr, hc⟩ := cn_3 HC3.out HPD.out HP.out.1
                  have HC4 := Lib.hid hc
                  refine op_exec (j := 3) rfl rfl (by rfl) _ (exec_app (.tmp 94) (.tmp 96) 43 rfl _ _ _ rfl rfl hr) ?_
                  refine ⟨HGB.out _ HC4.out.on, ?_⟩
                  clear hr hc
                  simp only [List.setIfInBounds_toArray, List.set]
                  obtain ⟨v7, D7, hr, hos, ho⟩ := cn_7 HC4.out HP.out.1
                  have HR7 := Lib.hid hr
                  have HOS := Lib.hid hos
                  have HO7 := Lib.hid ho
                  have hS7 : (fun W : World => W.heap[gb]? = some (.cells (rowB t1.data.toList) 5 (0, 0))) D7 := HGB.out _ ho
                  clear hr hos ho
                  refine held_execd (j := 7) (by kernel_rfl) rfl rfl (by rfl) _ (exec_app (.tmp 97) (.tmp 100) 43 rfl _ _ _ rfl rfl HR7.out) hS7 ?_
                  simp only [List.setIfInBounds_toArray, List.set]
                  refine held_pure (i := 8) (v := (.pointer (some ⟨w.heap.size, 136, none⟩))) rfl rfl (by kernel_rfl) (by kernel_rfl) (by kernel_rfl) (fun _ _ _ h => h) (Or.inl ⟨by rfl, fun w => by go_simp⟩) hS7 ?_
                  simp only [List.setIfInBounds_toArray, List.set]
                  obtain ⟨Y, hsy, TY, zy, oy⟩ := (HTD.out.on HO7.out).one 4 rfl 43 136 v7 info43s HOS.out.cell1 (by rw [HR3.out.size]; decide)
                  replace TY : Tab [(gl, cu, 97), (w3.heap.size, p.next.cells, 48), (gb, rowB (t1.data.toList), 5), (w.heap.size + 1, Z53, 53), (w.heap.size, A3.setIfInBounds 136 v7, 53)] w Y := TY
                  refine held_store (j := 9) (by kernel_rfl) rfl rfl rfl 43 (.tmp 102) (.tmp 101) rfl _ rfl _ rfl hsy (TY.get 2 rfl) ?_
                  refine wpAnyH_done (by kernel_rfl) ?_ _
                  have hbx : w.heap.size < D.heap.size := HTD.out.lt (p := (w.heap.size, A3, 53)) (by simp)
                  have hbr : w.heap.size + 1 < D.heap.size := HTD.out.lt (p := (w.heap.size + 1, Z53, 53)) (by simp)
                  have hosY : OS Y D.heap.size v7 (st.past ++ [t1]) := HOS.out.keep oy (fun k hk e => by have := HOS.out.base_le hk; omega)
                  have hr4 := HR3.out.setPast v7 HOS.out.cell1
                  generalize A3.setIfInBounds 136 v7 = A4 at *
                  have f137 := TY.c 4 rfl 137 hr4.programs
                  obtain ⟨Y2, hsb, Tb, zb, ob⟩ := TY.one 4 rfl 3 137 (.int .i64 (st.programs + 1)) info3s rfl (by rw [hr4.size]; omega)
                  have hosY2 := hosY.keep ob (fun k hk e => by have := HOS.out.base_le hk; omega)
                  have hr5 := hr4.setPrograms (st.programs + 1)
                  replace Tb : Tab [(gl, cu, 97), (w3.heap.size, p.next.cells, 48), (gb, rowB (t1.data.toList), 5), (w.heap.size + 1, Z53, 53), (w.heap.size, A4.setIfInBounds 137 (.int .i64 (st.programs + 1)), 53)] w Y2 := Tb
                  generalize A4.setIfInBounds 137 (.int .i64 (st.programs + 1)) = A5 at *
                  obtain ⟨hl, Y3, hs, hl2, ht, hoY⟩ := c53_end' Tb (i := 3) (j := 4) rfl rfl Z53_size hr5.size hr5.one
                  have hosY3 : OS Y3 w.heap.size v7 (st.past ++ [t1]) := (hosY2.keep hoY (fun k hk e => by have := HOS.out.base_le hk; omega)).mono HTD.out.only.size
                  have hlc0 : LNew w Y3 (.slice (some ⟨gl, 0, none⟩) (st.segs * st.pages) cap) (st.prg i j t1) := Tab.rowNew ht 0 rfl HLA.out (by rw [HLL2.out.1]; exact HLL2.out.2.1) HLL2.out.2.2
                  rw [HLL2.out.1] at hlc0
                  have hra : RA A5 (.slice (some ⟨gl, 0, none⟩) L cap) v7 (st.prg i j t1) p.next := hr5.setPage (updP st.page i j (some t1)) (st.past ++ [t1])
                  have htt : t1 = doneT p.next false (fillT s) := by rw [HT1.out, HT0.out, HMX.out.1, HMX.out.2]; rfl
                  rw [htt] at hra hlc0 hosY3
                  have HF := Lib.hid (And.intro hra (And.intro hlc0 (And.intro hosY3 ht.only)))
                  have hwb : IntKind.i64.wrap (st.programs + 1) = st.programs + 1 := by have := HP.out; rw [IntKind.wrap_i64]; omega
                  have HSb := Lib.hid hsb
                  have HL1 := Lib.hid hl
                  have HS := Lib.hid hs
                  have HL2 := Lib.hid hl2
                  clear hsy TY zy oy hbx hbr hosY hr4 hsb Tb zb ob hosY2 hr5 hl hs hl2 ht hoY hosY3 hlc0 hra htt hS7
                  go_wp2_with (first | ((with_reducible refine wpList_store_at ?_ 3 (.tmp 106) (.tmp 105) ?_ _ ?_ _ ?_ HSb.out ?_); rfl; rfl; rfl; rfl) | ((with_reducible refine wpList_load_at ?_ 53 (.tmp 4) ?_ _ ?_ _ HL1.out ?_); rfl; rfl; rfl) | ((with_reducible refine wpList_store_at ?_ 53 (.tmp 8) (.tmp 107) ?_ _ ?_ _ ?_ HS.out ?_); rfl; rfl; rfl; rfl))
                  refine bodyPost_ret (v := .tuple #[.agg A5, .int .i64 4]) ?_ rfl ⟨A5, rfl, _, _, HF.out⟩
                  have := HL2.out
                  simp [results, Try.results23, asAddr, this]
          · obtain ⟨g1, D1, hr, hc⟩ := cn_6 HC0.out t1
            have HC1 := Lib.hid hc
            refine op_exec (j := 6) rfl rfl (by rfl) _ (exec_bs 43 1 #[(0, .tmp 99)] rfl [(0, .string t1)] rfl _ hr) ?_
            refine ⟨HGB.out _ HC1.out.on, ?_⟩
            clear hr hc
            simp only [List.setIfInBounds_toArray, List.set]
            refine held_two (j := 0) (k := 2) (by kernel_rfl) ?_ ?_
            · obtain ⟨v2, D2, hr, hc⟩ := cn_0 HC1.out
              have HC2 := Lib.hid hc
              refine op_exec (j := 0) rfl rfl (by rfl) _ (exec_bs 43 0 #[] rfl [] rfl _ hr) ?_
              refine ⟨HGB.out _ HC2.out.on, ?_⟩
              clear hr hc
              simp only [List.setIfInBounds_toArray, List.set]
              refine held_one (j := 2) (by kernel_rfl) ?_
              · refine op_exec (j := 2) rfl rfl (by rfl) pv (exec_load 43 (.tmp 95) rfl ⟨w.heap.size, 136, none⟩ rfl pv (HLO.out _ HC2.out.on)) ?_
                refine ⟨HGB.out _ HC2.out.on, ?_⟩
                simp only [List.setIfInBounds_toArray, List.set]
                refine held_one (j := 3) (by kernel_rfl) ?_
                · obtain ⟨v4, D4, hr, hc⟩ := cn_3 HC2.out HPD.out HP.out.1
                  have HC4 := Lib.hid hc
                  refine op_exec (j := 3) rfl rfl (by rfl) _ (exec_app (.tmp 94) (.tmp 96) 43 rfl _ _ _ rfl rfl hr) ?_
                  refine ⟨HGB.out _ HC4.out.on, ?_⟩
                  clear hr hc
                  simp only [List.setIfInBounds_toArray, List.set]
                  obtain ⟨v7, D7, hr, hos, ho⟩ := cn_7 HC4.out HP.out.1
                  have HR7 := Lib.hid hr
                  have HOS := Lib.hid hos
                  have HO7 := Lib.hid ho
                  have hS7 : (fun W : World => W.heap[gb]? = some (.cells (rowB t1.data.toList) 5 (0, 0))) D7 := HGB.out _ ho
                  clear hr hos ho
                  refine held_execd (j := 7) (by kernel_rfl) rfl rfl (by rfl) _ (exec_app (.tmp 97) (.tmp 100) 43 rfl _ _ _ rfl rfl HR7.out) hS7 ?_
                  simp only [List.setIfInBounds_toArray, List.set]
                  refine held_pure (i := 8) (v := (.pointer (some ⟨w.heap.size, 136, none⟩))) rfl rfl (by kernel_rfl) (by kernel_rfl) (by kernel_rfl) (fun _ _ _ h => h) (Or.inl ⟨by rfl, fun w => by go_simp⟩) hS7 ?_
                  simp only [List.setIfInBounds_toArray, List.set]
                  obtain ⟨Y, hsy, TY, zy, oy⟩ := (HTD.out.on HO7.out).one 4 rfl 43 136 v7 info43s HOS.out.cell1 (by rw [HR3.out.size]; decide)
                  replace TY : Tab [(gl, cu, 97), (w3.heap.size, p.next.cells, 48), (gb, rowB (t1.data.toList), 5), (w.heap.size + 1, Z53, 53), (w.heap.size, A3.setIfInBounds 136 v7, 53)] w Y := TY
                  refine held_store (j := 9) (by kernel_rfl) rfl rfl rfl 43 (.tmp 102) (.tmp 101) rfl _ rfl _ rfl hsy (TY.get 2 rfl) ?_
                  refine wpAnyH_done (by kernel_rfl) ?_ _
                  have hbx : w.heap.size < D.heap.size := HTD.out.lt (p := (w.heap.size, A3, 53)) (by simp)
                  have hbr : w.heap.size + 1 < D.heap.size := HTD.out.lt (p := (w.heap.size + 1, Z53, 53)) (by simp)
                  have hosY : OS Y D.heap.size v7 (st.past ++ [t1]) := HOS.out.keep oy (fun k hk e => by have := HOS.out.base_le hk; omega)
                  have hr4 := HR3.out.setPast v7 HOS.out.cell1
                  generalize A3.setIfInBounds 136 v7 = A4 at *
                  have f137 := TY.c 4 rfl 137 hr4.programs
                  obtain ⟨Y2, hsb, Tb, zb, ob⟩ := TY.one 4 rfl 3 137 (.int .i64 (st.programs + 1)) info3s rfl (by rw [hr4.size]; omega)
                  have hosY2 := hosY.keep ob (fun k hk e => by have := HOS.out.base_le hk; omega)
                  have hr5 := hr4.setPrograms (st.programs + 1)
                  replace Tb : Tab [(gl, cu, 97), (w3.heap.size, p.next.cells, 48), (gb, rowB (t1.data.toList), 5), (w.heap.size + 1, Z53, 53), (w.heap.size, A4.setIfInBounds 137 (.int .i64 (st.programs + 1)), 53)] w Y2 := Tb
                  generalize A4.setIfInBounds 137 (.int .i64 (st.programs + 1)) = A5 at *
                  obtain ⟨hl, Y3, hs, hl2, ht, hoY⟩ := c53_end' Tb (i := 3) (j := 4) rfl rfl Z53_size hr5.size hr5.one
                  have hosY3 : OS Y3 w.heap.size v7 (st.past ++ [t1]) := (hosY2.keep hoY (fun k hk e => by have := HOS.out.base_le hk; omega)).mono HTD.out.only.size
                  have hlc0 : LNew w Y3 (.slice (some ⟨gl, 0, none⟩) (st.segs * st.pages) cap) (st.prg i j t1) := Tab.rowNew ht 0 rfl HLA.out (by rw [HLL2.out.1]; exact HLL2.out.2.1) HLL2.out.2.2
                  rw [HLL2.out.1] at hlc0
                  have hra : RA A5 (.slice (some ⟨gl, 0, none⟩) L cap) v7 (st.prg i j t1) p.next := hr5.setPage (updP st.page i j (some t1)) (st.past ++ [t1])
                  have htt : t1 = doneT p.next false (fillT s) := by rw [HT1.out, HT0.out, HMX.out.1, HMX.out.2]; rfl
                  rw [htt] at hra hlc0 hosY3
                  have HF := Lib.hid (And.intro hra (And.intro hlc0 (And.intro hosY3 ht.only)))
                  have hwb : IntKind.i64.wrap (st.programs + 1) = st.programs + 1 := by have := HP.out; rw [IntKind.wrap_i64]; omega
                  have HSb := Lib.hid hsb
                  have HL1 := Lib.hid hl
                  have HS := Lib.hid hs
                  have HL2 := Lib.hid hl2
                  clear hsy TY zy oy hbx hbr hosY hr4 hsb Tb zb ob hosY2 hr5 hl hs hl2 ht hoY hosY3 hlc0 hra htt hS7
                  go_wp2_with (first | ((with_reducible refine wpList_store_at ?_ 3 (.tmp 106) (.tmp 105) ?_ _ ?_ _ ?_ HSb.out ?_); rfl; rfl; rfl; rfl) | ((with_reducible refine wpList_load_at ?_ 53 (.tmp 4) ?_ _ ?_ _ HL1.out ?_); rfl; rfl; rfl) | ((with_reducible refine wpList_store_at ?_ 53 (.tmp 8) (.tmp 107) ?_ _ ?_ _ ?_ HS.out ?_); rfl; rfl; rfl; rfl))
                  refine bodyPost_ret (v := .tuple #[.agg A5, .int .i64 4]) ?_ rfl ⟨A5, rfl, _, _, HF.out⟩
                  have := HL2.out
                  simp [results, Try.results23, asAddr, this]
            · refine op_exec (j := 2) rfl rfl (by rfl) pv (exec_load 43 (.tmp 95) rfl ⟨w.heap.size, 136, none⟩ rfl pv (HLO.out _ HC1.out.on)) ?_
              refine ⟨HGB.out _ HC1.out.on, ?_⟩
              simp only [List.setIfInBounds_toArray, List.set]
              refine held_one (j := 0) (by kernel_rfl) ?_
              · obtain ⟨v3, D3, hr, hc⟩ := cn_0 HC1.out
                have HC3 := Lib.hid hc
                refine op_exec (j := 0) rfl rfl (by rfl) _ (exec_bs 43 0 #[] rfl [] rfl _ hr) ?_
                refine ⟨HGB.out _ HC3.out.on, ?_⟩
                clear hr hc
                simp only [List.setIfInBounds_toArray, List.set]
                refine held_one (j := 3) (by kernel_rfl) ?_
                · obtain ⟨v4, D4, hr, hc⟩ := cn_3 HC3.out HPD.out HP.out.1
                  have HC4 := Lib.hid hc
                  refine op_exec (j := 3) rfl rfl (by rfl) _ (exec_app (.tmp 94) (.tmp 96) 43 rfl _ _ _ rfl rfl hr) ?_
                  refine ⟨HGB.out _ HC4.out.on, ?_⟩
                  clear hr hc
                  simp only [List.setIfInBounds_toArray, List.set]
                  obtain ⟨v7, D7, hr, hos, ho⟩ := cn_7 HC4.out HP.out.1
                  have HR7 := Lib.hid hr
                  have HOS := Lib.hid hos
                  have HO7 := Lib.hid ho
                  have hS7 : (fun W : World => W.heap[gb]? = some (.cells (rowB t1.data.toList) 5 (0, 0))) D7 := HGB.out _ ho
                  clear hr hos ho
                  refine held_execd (j := 7) (by kernel_rfl) rfl rfl (by rfl) _ (exec_app (.tmp 97) (.tmp 100) 43 rfl _ _ _ rfl rfl HR7.out) hS7 ?_
                  simp only [List.setIfInBounds_toArray, List.set]
                  refine held_pure (i := 8) (v := (.pointer (some ⟨w.heap.size, 136, none⟩))) rfl rfl (by kernel_rfl) (by kernel_rfl) (by kernel_rfl) (fun _ _ _ h => h) (Or.inl ⟨by rfl, fun w => by go_simp⟩) hS7 ?_
                  simp only [List.setIfInBounds_toArray, List.set]
                  obtain ⟨Y, hsy, TY, zy, oy⟩ := (HTD.out.on HO7.out).one 4 rfl 43 136 v7 info43s HOS.out.cell1 (by rw [HR3.out.size]; decide)
                  replace TY : Tab [(gl, cu, 97), (w3.heap.size, p.next.cells, 48), (gb, rowB (t1.data.toList), 5), (w.heap.size + 1, Z53, 53), (w.heap.size, A3.setIfInBounds 136 v7, 53)] w Y := TY
                  refine held_store (j := 9) (by kernel_rfl) rfl rfl rfl 43 (.tmp 102) (.tmp 101) rfl _ rfl _ rfl hsy (TY.get 2 rfl) ?_
                  refine wpAnyH_done (by kernel_rfl) ?_ _
                  have hbx : w.heap.size < D.heap.size := HTD.out.lt (p := (w.heap.size, A3, 53)) (by simp)
                  have hbr : w.heap.size + 1 < D.heap.size := HTD.out.lt (p := (w.heap.size + 1, Z53, 53)) (by simp)
                  have hosY : OS Y D.heap.size v7 (st.past ++ [t1]) := HOS.out.keep oy (fun k hk e => by have := HOS.out.base_le hk; omega)
                  have hr4 := HR3.out.setPast v7 HOS.out.cell1
                  generalize A3.setIfInBounds 136 v7 = A4 at *
                  have f137 := TY.c 4 rfl 137 hr4.programs
                  obtain ⟨Y2, hsb, Tb, zb, ob⟩ := TY.one 4 rfl 3 137 (.int .i64 (st.programs + 1)) info3s rfl (by rw [hr4.size]; omega)
                  have hosY2 := hosY.keep ob (fun k hk e => by have := HOS.out.base_le hk; omega)
                  have hr5 := hr4.setPrograms (st.programs + 1)
                  replace Tb : Tab [(gl, cu, 97), (w3.heap.size, p.next.cells, 48), (gb, rowB (t1.data.toList), 5), (w.heap.size + 1, Z53, 53), (w.heap.size, A4.setIfInBounds 137 (.int .i64 (st.programs + 1)), 53)] w Y2 := Tb
                  generalize A4.setIfInBounds 137 (.int .i64 (st.programs + 1)) = A5 at *
                  obtain ⟨hl, Y3, hs, hl2, ht, hoY⟩ := c53_end' Tb (i := 3) (j := 4) rfl rfl Z53_size hr5.size hr5.one
                  have hosY3 : OS Y3 w.heap.size v7 (st.past ++ [t1]) := (hosY2.keep hoY (fun k hk e => by have := HOS.out.base_le hk; omega)).mono HTD.out.only.size
                  have hlc0 : LNew w Y3 (.slice (some ⟨gl, 0, none⟩) (st.segs * st.pages) cap) (st.prg i j t1) := Tab.rowNew ht 0 rfl HLA.out (by rw [HLL2.out.1]; exact HLL2.out.2.1) HLL2.out.2.2
                  rw [HLL2.out.1] at hlc0
                  have hra : RA A5 (.slice (some ⟨gl, 0, none⟩) L cap) v7 (st.prg i j t1) p.next := hr5.setPage (updP st.page i j (some t1)) (st.past ++ [t1])
                  have htt : t1 = doneT p.next false (fillT s) := by rw [HT1.out, HT0.out, HMX.out.1, HMX.out.2]; rfl
                  rw [htt] at hra hlc0 hosY3
                  have HF := Lib.hid (And.intro hra (And.intro hlc0 (And.intro hosY3 ht.only)))
                  have hwb : IntKind.i64.wrap (st.programs + 1) = st.programs + 1 := by have := HP.out; rw [IntKind.wrap_i64]; omega
                  have HSb := Lib.hid hsb
                  have HL1 := Lib.hid hl
                  have HS := Lib.hid hs
                  have HL2 := Lib.hid hl2
                  clear hsy TY zy oy hbx hbr hosY hr4 hsb Tb zb ob hosY2 hr5 hl hs hl2 ht hoY hosY3 hlc0 hra htt hS7
                  go_wp2_with (first | ((with_reducible refine wpList_store_at ?_ 3 (.tmp 106) (.tmp 105) ?_ _ ?_ _ ?_ HSb.out ?_); rfl; rfl; rfl; rfl) | ((with_reducible refine wpList_load_at ?_ 53 (.tmp 4) ?_ _ ?_ _ HL1.out ?_); rfl; rfl; rfl) | ((with_reducible refine wpList_store_at ?_ 53 (.tmp 8) (.tmp 107) ?_ _ ?_ _ ?_ HS.out ?_); rfl; rfl; rfl; rfl))
                  refine bodyPost_ret (v := .tuple #[.agg A5, .int .i64 4]) ?_ rfl ⟨A5, rfl, _, _, HF.out⟩
                  have := HL2.out
                  simp [results, Try.results23, asAddr, this]
theorem rpr_any {w : World} (h1 : RA A lv pv st p) (h2 : LC w lv st) (h3 : SL w pv st.past) (i j : Int) (s : ByteArray) (hpi : p.In) (hN : st.past.length ≤ 100000) (hP : 0 ≤ st.programs ∧ st.programs ≤ 100000) :
    Calls Try.prog 23 #[.agg A, .int .i64 i, .int .i64 j, .string s] w fun e w' => ∃ A', e = .returned (.tuple #[.agg A', .int .i64 (st.prE p i j s)]) ∧ Out w w' A pv st p A' (st.prS p i j s) (st.prP p i j s) ∧ Only (fun _ => False) w w' := by
  unfold Cp.prE Cp.prS Cp.prP
  by_cases ho : p.off = true
  · have hf : st.fits p i j s = false := by simp [Cp.fits, ho]
    rw [if_pos ho, hf, if_neg (by simp), if_neg (by simp)]
    refine (rpr_off h1 i j s w ho).mono ?_
    rintro e w' ⟨rfl, k⟩
    exact ⟨A, rfl, .inl ⟨rfl, rfl, rfl⟩, k⟩
  · have ho' : p.off = false := by simpa using ho
    rw [if_neg ho]
    cases hh : hasB st.segs st.pages i j
    · have hf : st.fits p i j s = false := by simp [Cp.fits, hh]
      rw [if_pos (.inl rfl), hf, if_neg (by simp), if_neg (by simp)]
      refine (rpr_arg h1 i j s w ho' hh).mono ?_
      rintro e w' ⟨rfl, k⟩
      exact ⟨A, rfl, .inl ⟨rfl, rfl, rfl⟩, k⟩
    · by_cases hs : 256 < s.size
      · have hf : st.fits p i j s = false := by
          unfold Cp.fits
          rw [decide_eq_false (show ¬ s.size ≤ 256 by omega)]
          simp
        rw [if_pos (.inr hs), hf, if_neg (by simp), if_neg (by simp)]
        refine (rpr_big h1 i j s w ho' hh hs).mono ?_
        rintro e w' ⟨rfl, k⟩
        exact ⟨A, rfl, .inl ⟨rfl, rfl, rfl⟩, k⟩
      · rw [if_neg (by simp; omega)]
        have hx := has_iff hh
        obtain ⟨a, rfl⟩ := Int.eq_ofNat_of_zero_le hx.1
        obtain ⟨b, rfl⟩ := Int.eq_ofNat_of_zero_le hx.2.2.1
        have ha : a < st.segs := by omega
        have hb : b < st.pages := by omega
        rw [Int.toNat_natCast, Int.toNat_natCast]
        cases hu : st.page a b with
        | some y =>
          have hf : st.fits p (a : Int) (b : Int) s = false := by simp [Cp.fits, hu]
          rw [if_pos (show (some y).isSome = true from rfl), hf, if_neg (by simp), if_neg (by simp)]
          refine (rpr_used h1 a b s w ho' ha hb (by omega) h2 (by rw [hu]; rfl)).mono ?_
          rintro e w' ⟨rfl, k⟩
          exact ⟨A, rfl, .inl ⟨rfl, rfl, rfl⟩, k⟩
        | none =>
          have hf : st.fits p (a : Int) (b : Int) s = true := by simp [Cp.fits, hu, ho', hh]; omega
          rw [if_neg (by simp), hf, if_pos rfl, if_pos rfl]
          unfold Pw.err
          cases hwh : p.whole
          · rw [if_neg (by simp)]
            refine (rpr_t h1 a b s w ho' ha hb (by omega) h2 hu h3 hpi hN hP hwh).mono ?_
            rintro e w' ⟨A', rfl, lv', pv', k1, k2, k4, k3⟩
            exact ⟨A', rfl, .inr ⟨lv', pv', k1, k2, .inr k4⟩, k3⟩
          · rw [if_pos rfl]
            refine (rpr_w h1 a b s w ho' ha hb (by omega) h2 hu h3 hpi hN hP hwh).mono ?_
            rintro e w' ⟨A', rfl, lv', pv', k1, k2, k4, k3⟩
            exact ⟨A', rfl, .inr ⟨lv', pv', k1, k2, .inr k4⟩, k3⟩
end
end Go.Proofs.Ytjnjnkkdpglfhaa
