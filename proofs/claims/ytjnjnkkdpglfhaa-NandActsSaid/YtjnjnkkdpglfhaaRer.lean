/-
  The reference: Erase. (Printed by mkrer.py.)
-/
import Derived.Test.YtjnjnkkdpglfhaaRst
set_option linter.unusedVariables false
namespace Go.Proofs.Ytjnjnkkdpglfhaa
open Go.RowKit
section
variable {A : Array Value} {lv pv : Value} {st : Cp} {p : Pw}
set_option maxRecDepth 100000 in
set_option maxHeartbeats 4000000 in
theorem rer_off (h : RA A lv pv st p) (i : Int) (w : World) (ho : p.off = true) : Calls Try.prog 24 #[.agg A, .int .i64 i] w fun e w' => e = .returned (.tuple #[.agg A, .int .i64 4]) ∧ Only (fun _ => False) w w' := by
  go_enter Try.func24, Try.ntmps24
  go_upto_region 1 with ((with_reducible refine wpList_alloc_at ?_ 53 ?_ _ (zero53 _) ?_); rfl; rfl)
  refine at_world (fun W => Tab [(w.heap.size + 1, Z53, 53), (w.heap.size, A, 53)] w W) (Tab.box2 w A Z53 53 53) ?_
  intro W1 T1
  have c0 := T1.c 1 rfl 0 h.p0.1
  rw [ho] at c0
  obtain ⟨hl, W, hs, hl2, hO, -⟩ := c53_end T1 (i := 0) (j := 1) rfl rfl Z53_size h.size h.one
  have HL := Lib.hid hl
  have HS := Lib.hid hs
  have HL2 := Lib.hid hl2
  clear T1 h ho hl hs hl2
  go_wp2_with (first | ((with_reducible refine wpList_load_at ?_ 53 (.tmp 2) ?_ _ ?_ _ HL.out ?_); rfl; rfl; rfl) | ((with_reducible refine wpList_store_at ?_ 53 (.tmp 4) (.tmp 15) ?_ _ ?_ _ ?_ HS.out ?_); rfl; rfl; rfl; rfl))
  refine bodyPost_ret (v := .tuple #[.agg A, .int .i64 4]) ?_ rfl ⟨rfl, hO⟩
  have := HL2.out
  simp [results, Try.results24, asAddr, this]
set_option maxRecDepth 100000 in
set_option maxHeartbeats 4000000 in
theorem rer_arg (h : RA A lv pv st p) (i : Int) (w : World) (ho : p.off = false) (hh : hasB st.segs st.pages i 0 = false) : Calls Try.prog 24 #[.agg A, .int .i64 i] w fun e w' => e = .returned (.tuple #[.agg A, .int .i64 1]) ∧ Only (fun _ => False) w w' := by
  go_enter Try.func24, Try.ntmps24
  go_upto_region 1 with ((with_reducible refine wpList_alloc_at ?_ 53 ?_ _ (zero53 _) ?_); rfl; rfl)
  refine at_world (fun W => Tab [(w.heap.size + 1, Z53, 53), (w.heap.size, A, 53)] w W) (Tab.box2 w A Z53 53 53) ?_
  intro W1 T1
  have c0 := T1.c 1 rfl 0 h.p0.1
  rw [ho] at c0
  have HL := Lib.hid (T1.loadAll 1 rfl 53 _ Try.underlying53 rfl info53s h.size)
  have HI := Lib.hid (rin_any h i 0 W1)
  rw [hh] at HI
  have HT := Lib.hid T1
  have HR := Lib.hid h
  clear T1 h ho hh
  go_wp2_with ((with_reducible refine wpList_load_at ?_ 53 (.tmp 2) ?_ _ ?_ _ HL.out ?_); rfl; rfl; rfl)
  refine HI.out.mono ?_
  rintro e w2 ⟨rfl, k2⟩
  obtain ⟨hl, W, hs, hl2, hO, -⟩ := c53_end (HT.out.on k2) (i := 0) (j := 1) rfl rfl Z53_size HR.out.size HR.out.one
  have HL1 := Lib.hid hl
  have HS := Lib.hid hs
  have HL2 := Lib.hid hl2
  clear hl hs hl2 k2 HT HL
  go_wp2_with (first | ((with_reducible refine wpList_load_at ?_ 53 (.tmp 2) ?_ _ ?_ _ HL1.out ?_); rfl; rfl; rfl) | ((with_reducible refine wpList_store_at ?_ 53 (.tmp 4) (.tmp 20) ?_ _ ?_ _ ?_ HS.out ?_); rfl; rfl; rfl; rfl))
  refine bodyPost_ret (v := .tuple #[.agg A, .int .i64 1]) ?_ rfl ⟨rfl, hO⟩
  have := HL2.out
  simp [results, Try.results24, asAddr, this]
set_option maxRecDepth 100000 in
set_option maxHeartbeats 8000000 in
theorem rer_worn (h : RA A lv pv st p) (i : Nat) (w : World) (ho : p.off = false) (hi : i < st.segs) (hz : st.bad i = true ∨ st.rated ≤ st.wear i) : Calls Try.prog 24 #[.agg A, .int .i64 i] w fun e w' => e = .returned (.tuple #[.agg A, .int .i64 101]) ∧ Only (fun _ => False) w w' := by
  have hh : hasB st.segs st.pages (i : Int) 0 = true := by have := h.lens; simp only [hasB, decide_eq_true_eq]; omega
  go_enter Try.func24, Try.ntmps24
  go_upto_region 1 with ((with_reducible refine wpList_alloc_at ?_ 53 ?_ _ (zero53 _) ?_); rfl; rfl)
  refine at_world (fun W => Tab [(w.heap.size + 1, Z53, 53), (w.heap.size, A, 53)] w W) (Tab.box2 w A Z53 53 53) ?_
  intro W1 T1
  have c0 := T1.c 1 rfl 0 h.p0.1
  rw [ho] at c0
  have HL := Lib.hid (T1.loadAll 1 rfl 53 _ Try.underlying53 rfl info53s h.size)
  have HI := Lib.hid (rin_any h i 0 W1)
  rw [hh] at HI
  have HT := Lib.hid T1
  have HR := Lib.hid h
  have HIX := Lib.hid hi
  have HZ := Lib.hid hz
  have hi64 : i < 64 := by have := h.lens; omega
  have hi64' : (i : Int) < 64 := by omega
  clear T1 h ho hh hz hi
  go_upto_region 5 with (first | ((with_reducible refine wpList_load_at ?_ 53 (.tmp 2) ?_ _ ?_ _ HL.out ?_); rfl; rfl; rfl) | (go_at_call 41; (with_reducible refine HI.out.mono ?_); rintro e w2 ⟨rfl, k2⟩))
  have T2 := HT.out.on k2
  have HT2 := Lib.hid T2
  have d0 := T2.c 1 rfl (7 + i) (HR.out.bad i HIX.out)
  have d1 := T2.c 1 rfl (72 + i) (HR.out.worn i HIX.out)
  have d2 := T2.c 1 rfl 6 HR.out.rated
  clear k2 HT HL HI T2 c0
  cases hb : st.bad i
  · have hrw : st.rated ≤ st.wear i := by have := HZ.out; rw [hb] at this; simpa using this
    have hd : decide (st.rated ≤ st.wear i) = true := decide_eq_true hrw
    rw [hb] at d0
    go_quiet (fail)
    obtain ⟨hl, W, hs, hl2, hO, -⟩ := c53_end (HT2.out.drewN _) (i := 0) (j := 1) rfl rfl Z53_size HR.out.size HR.out.one
    have HL1 := Lib.hid hl
    have HS := Lib.hid hs
    have HL2 := Lib.hid hl2
    clear hl hs hl2
    go_wp2_with (first | ((with_reducible refine wpList_load_at ?_ 53 (.tmp 2) ?_ _ ?_ _ HL1.out ?_); rfl; rfl; rfl) | ((with_reducible refine wpList_store_at ?_ 53 (.tmp 4) (.tmp 34) ?_ _ ?_ _ ?_ HS.out ?_); rfl; rfl; rfl; rfl))
    refine bodyPost_ret (v := .tuple #[.agg A, .int .i64 101]) ?_ rfl ⟨rfl, hO⟩
    have := HL2.out
    simp [results, Try.results24, asAddr, this]
  · rw [hb] at d0
    go_quiet (fail)
    obtain ⟨hl, W, hs, hl2, hO, -⟩ := c53_end (HT2.out.drewN _) (i := 0) (j := 1) rfl rfl Z53_size HR.out.size HR.out.one
    have HL1 := Lib.hid hl
    have HS := Lib.hid hs
    have HL2 := Lib.hid hl2
    clear hl hs hl2
    go_wp2_with (first | ((with_reducible refine wpList_load_at ?_ 53 (.tmp 2) ?_ _ ?_ _ HL1.out ?_); rfl; rfl; rfl) | ((with_reducible refine wpList_store_at ?_ 53 (.tmp 4) (.tmp 34) ?_ _ ?_ _ ?_ HS.out ?_); rfl; rfl; rfl; rfl))
    refine bodyPost_ret (v := .tuple #[.agg A, .int .i64 101]) ?_ rfl ⟨rfl, hO⟩
    have := HL2.out
    simp [results, Try.results24, asAddr, this]
set_option maxRecDepth 100000 in
set_option maxHeartbeats 8000000 in
theorem rer_w (h : RA A lv pv st p) (i : Nat) (w : World) (ho : p.off = false) (hi : i < st.segs) (hbad : st.bad i = false) (hwr : st.wear i < st.rated) (hl : LC w lv st) (hpi : p.In) (hE : 0 ≤ st.erases ∧ st.erases ≤ 100000000) (hW : 0 ≤ st.wear i) (hrt : st.rated ≤ 9223372036854775807) (hwh : p.whole = true) :
    Calls Try.prog 24 #[.agg A, .int .i64 i] w fun e w' => ∃ A', e = .returned (.tuple #[.agg A', .int .i64 0]) ∧ ∃ lv', RA A' lv' pv (st.ers i (erN st p.next true)) p.next ∧ LNew w w' lv' (st.ers i (erN st p.next true)) ∧ Only (fun _ => False) w w' := by
  have hh : hasB st.segs st.pages (i : Int) 0 = true := by have := h.lens; simp only [hasB, decide_eq_true_eq]; omega
  go_enter Try.func24, Try.ntmps24
  go_upto_region 1 with ((with_reducible refine wpList_alloc_at ?_ 53 ?_ _ (zero53 _) ?_); rfl; rfl)
  refine at_world (fun W => Tab [(w.heap.size + 1, Z53, 53), (w.heap.size, A, 53)] w W) (Tab.box2 w A Z53 53 53) ?_
  intro W1 T1
  have c0 := T1.c 1 rfl 0 h.p0.1
  rw [ho] at c0
  have HL := Lib.hid (T1.loadAll 1 rfl 53 _ Try.underlying53 rfl info53s h.size)
  have HI := Lib.hid (rin_any h i 0 W1)
  rw [hh] at HI
  have HT := Lib.hid T1
  have HR := Lib.hid h
  have HIX := Lib.hid hi
  have HLC := Lib.hid hl
  have HPI := Lib.hid hpi
  have HE := Lib.hid hE
  have HW := Lib.hid hW
  have HWR := Lib.hid (And.intro hwr hrt)
  have hi64 : i < 64 := by have := h.lens; omega
  have hi64' : (i : Int) < 64 := by omega
  have HWH := Lib.hid hwh
  have HBD := Lib.hid hbad
  clear T1 h ho hh hi hl hpi hE hW hrt hwh hbad hwr
  go_upto_region 5 with (first | ((with_reducible refine wpList_load_at ?_ 53 (.tmp 2) ?_ _ ?_ _ HL.out ?_); rfl; rfl; rfl) | (go_at_call 41; (with_reducible refine HI.out.mono ?_); rintro e w2 ⟨rfl, k2⟩))
  have T2 := HT.out.on k2
  have HT2 := Lib.hid T2
  have d0 := T2.c 1 rfl (7 + i) (HR.out.bad i HIX.out)
  have d1 := T2.c 1 rfl (72 + i) (HR.out.worn i HIX.out)
  have d2 := T2.c 1 rfl 6 HR.out.rated
  rw [HBD.out] at d0
  clear k2 HT HL HI T2 c0
  have hd : decide (st.rated ≤ st.wear i) = false := decide_eq_false (by have := HWR.out.1; omega)
  go_quiet (fail)
  have T3 := HT2.out.drewN nq
  generalize w2.drewN nq = X at *
  have hl37 := T3.load 1 rfl 48 _ Try.underlying48 rfl 0 info48s (by rw [HR.out.size]; decide)
  rw [Nat.zero_add, HR.out.pw] at hl37
  have HL37 := Lib.hid hl37
  have ha := ract_any p X HPI.out.1
  rw [HWH.out] at ha
  have HA := Lib.hid ha
  have HT3 := Lib.hid T3
  clear d0 d1 d2 hd HT2 hl37 ha T3
  go_wp2_with ((with_reducible refine wpList_load_at ?_ 48 (.tmp 36) ?_ _ ?_ _ HL37.out ?_); rfl; rfl; rfl)
  refine HA.out.mono ?_
  rintro e w3 ⟨rfl, k3⟩
  obtain ⟨W4, hs4, T5, z4, o4⟩ := (HT3.out.on k3).fresh (B := p.next.cells) #[.bool false, .int .i64 0, .int .i64 0, .int .u8 0] 48 info48s rfl rfl (p4_one _ _ _ _)
  have hl42 := T5.loadAll 0 rfl 48 _ Try.underlying48 rfl info48s rfl
  obtain ⟨W5, hs5, T6, z5, o5⟩ := T5.part (B := p.next.cells) 2 rfl 48 0 info48s rfl (by rw [HR.out.size]; decide) (p4_one _ _ _ _)
  replace T6 : Tab [(w3.heap.size, p.next.cells, 48), (w.heap.size + 1, Z53, 53), (w.heap.size, splice A 0 p.next.cells, 53)] w W5 := T6
  have HR2 := Lib.hid (HR.out.setPw p.next)
  generalize splice A 0 p.next.cells = A2 at *
  have e5 := T6.c 2 rfl 5 HR2.out.pages
  have e2 := T6.c 0 rfl 2 (v := .int .i64 p.next.keep) rfl
  have T6a := T6.on ((Only.refl _ W5).alloc (.cells #[] 97))
  have e71 := T6a.c 2 rfl 71 HR2.out.l
  obtain ⟨gl, cap, cur, W6, hap, hc1, hc2, T7, hLR, hgl⟩ := copyL (HLC.out.keep T6.only) T6 HR2.out.lens
  obtain ⟨W7, hs7, T8, z7, o7⟩ := T7.one 3 rfl 50 71 (.slice (some ⟨gl, 0, none⟩) (st.segs * st.pages) cap) info50s rfl (by rw [HR2.out.size]; decide)
  replace T8 : Tab [(gl, cur, 97), (w3.heap.size, p.next.cells, 48), (w.heap.size + 1, Z53, 53), (w.heap.size, A2.setIfInBounds 71 (.slice (some ⟨gl, 0, none⟩) (st.segs * st.pages) cap), 53)] w W7 := T8
  have HR3 := Lib.hid (HR2.out.setL (.slice (some ⟨gl, 0, none⟩) (st.segs * st.pages) cap) rfl)
  generalize A2.setIfInBounds 71 (.slice (some ⟨gl, 0, none⟩) (st.segs * st.pages) cap) = A3 at *
  have HS4 := Lib.hid hs4
  have HL42 := Lib.hid hl42
  have HS5 := Lib.hid hs5
  have HAP := Lib.hid hap
  have HS7 := Lib.hid hs7
  have HT8 := Lib.hid T8
  have HLR := Lib.hid hLR
  have HCP := Lib.hid (And.intro hc1 hc2)
  obtain ⟨n, hn⟩ : ∃ n, n = erN st p.next true := ⟨_, rfl⟩
  have HN : Hid (n ≤ st.pages) := by
    rw [hn]
    unfold erN Hid
    rw [if_pos rfl]; exact Nat.le_refl _
  have hnp : (st.pages : Int) = (n : Int) := by rw [hn]; rfl
  have HNP := Lib.hid hn
  rw [hnp] at e5
  clear k3 hs4 T5 z4 o4 hl42 hs5 T6 z5 o5 T6a hap hc1 hc2 T7 hLR hgl hs7 T8 z7 o7 HT3 HL37 HA hn
  go_upto_region 16 with (first | ((with_reducible refine wpList_store_at ?_ 48 (.tmp 6) (.tmp 39) ?_ _ ?_ _ ?_ HS4.out ?_); rfl; rfl; rfl; rfl) | ((with_reducible refine wpList_load_at ?_ 48 (.tmp 6) ?_ _ ?_ _ HL42.out ?_); rfl; rfl; rfl) | ((with_reducible refine wpList_store_at ?_ 48 (.tmp 43) (.tmp 42) ?_ _ ?_ _ ?_ HS5.out ?_); rfl; rfl; rfl; rfl) | ((with_reducible refine wpList_bs_at ?_ 50 0 #[] ?_ [] ?_ _ (cbuild_0 _) ?_); rfl; rfl; rfl) | ((with_reducible refine wpList_app_g ?_ (.tmp 52) (.tmp 54) 50 ?_ _ _ _ ?_ ?_ HAP.out ?_); rfl; rfl; rfl; rfl) | ((with_reducible refine wpList_store_at ?_ 50 (.tmp 56) (.tmp 55) ?_ _ ?_ _ ?_ HS7.out ?_); rfl; rfl; rfl; rfl))
  clear e5 e2 e71 HS4 HL42 HS5 HAP HS7 hnp
  go_loopw [11] (fun x wr => ∃ (k : Nat) (cu : Array Value), k ≤ n ∧ x = .int .i64 k ∧ Hid (Tab [(gl, cu, 97), (w3.heap.size, p.next.cells, 48), (w.heap.size + 1, Z53, 53), (w.heap.size, A3, 53)] w wr ∧ LR cu { st with page := clrP st.page i k })) (fun x _ => n - (intOf x).toNat)
  case atStart => exact ⟨0, cur, by omega, rfl, HT8.out, by rw [clr_0]; exact HLR.out⟩
  case round =>
    obtain ⟨k, cu, hk, rfl, hx⟩ := hrel
    by_cases hlt : k < n
    · have hlt' : (k : Int) < n := by omega
      have HK := Lib.hid hlt
      have f5 := hx.out.1.c 3 rfl 5 HR3.out.pages
      have f71 := hx.out.1.c 3 rfl 71 HR3.out.l
      have hkp : k < st.pages := Nat.lt_of_lt_of_le hlt HN.out
      have hnl := HR3.out.lens
      have hlt2 := at_lt (s := st.segs) (p := st.pages) HIX.out hkp
      have hmb : i * st.pages ≤ 64 * 16 := Nat.mul_le_mul (by omega) (by omega)
      obtain ⟨Wa, hsa, Ta, za, oa⟩ := hx.out.1.part (B := #[.bool (none : Option ByteArray).isSome, .string ((none : Option ByteArray).getD ByteArray.empty)]) 0 rfl 97 ((i * st.pages + k) * 2) info97s rfl (by have := hx.out.2.1; dsimp only at this; omega) (by intro v hv; simp at hv; rcases hv with rfl | rfl <;> rfl)
      have hLa := hx.out.2.put (i := i) (j := k) HIX.out hkp none
      replace Ta : Tab [(gl, splice cu ((i * st.pages + k) * 2) #[.bool (none : Option ByteArray).isSome, .string ((none : Option ByteArray).getD ByteArray.empty)], 97), (w3.heap.size, p.next.cells, 48), (w.heap.size + 1, Z53, 53), (w.heap.size, A3, 53)] w Wa := Ta
      dsimp only at hLa
      rw [clr_upd] at hLa
      have HTa := Lib.hid (And.intro Ta hLa)
      have hmul : (i : Int) * (st.pages : Int) = ((i * st.pages : Nat) : Int) := by simp
      obtain ⟨q, hq⟩ : ∃ q, st.pages = q := ⟨_, rfl⟩
      rw [hq] at f5 hlt2 hmb f71 hmul hsa
      obtain ⟨M, hM⟩ : ∃ M, i * q = M := ⟨_, rfl⟩
      obtain ⟨L, hL⟩ : ∃ L, st.segs * q = L := ⟨_, rfl⟩
      rw [hM] at hlt2 hmb hmul hsa
      rw [hL] at hlt2 f71
      have hw1 : IntKind.i64.wrap (M : Int) = (M : Int) := by rw [IntKind.wrap_i64]; omega
      obtain ⟨N, hN⟩ : ∃ N, M + k = N := ⟨_, rfl⟩
      have hadd : (M : Int) + (k : Int) = (N : Int) := by omega
      rw [hN] at hlt2 hsa
      have hk16 : k < 16 := by omega
      have hw2 : IntKind.i64.wrap (N : Int) = (N : Int) := by rw [IntKind.wrap_i64]; omega
      have hNL : (N : Int) < (L : Int) := by omega
      have HSa := Lib.hid hsa
      clear hx hsa Ta hLa za oa hq hM hL hN hnl hlt
      go_wp2_with (first | ((with_reducible refine wpList_store_at ?_ 97 (.tmp 71) (.tmp 70) ?_ _ ?_ _ ?_ HSa.out ?_); rfl; rfl; rfl; rfl))
      go_roundw
      case rel => exact ⟨k + 1, _, by have := HK.out; omega, by go_num, HTa.out⟩
      case measure => have := HK.out; simp [intOf]; omega
    · obtain rfl : k = n := by omega
      have g75 := hx.out.1.c 3 rfl (72 + i) (HR3.out.worn i HIX.out)
      obtain ⟨Wa, hsa, Ta, za, oa⟩ := hx.out.1.one 3 rfl 3 (72 + i) (.int .i64 (st.wear i + 1)) info3s rfl (by rw [HR3.out.size]; omega)
      have hr4 := HR3.out.setWorn HIX.out (st.wear i + 1)
      replace Ta : Tab [(gl, cu, 97), (w3.heap.size, p.next.cells, 48), (w.heap.size + 1, Z53, 53), (w.heap.size, A3.setIfInBounds (72 + i) (.int .i64 (st.wear i + 1)), 53)] w Wa := Ta
      generalize A3.setIfInBounds (72 + i) (.int .i64 (st.wear i + 1)) = A4 at *
      have g80 := Ta.c 3 rfl 138 hr4.erases
      obtain ⟨Wb, hsb, Tb, zb, ob⟩ := Ta.one 3 rfl 3 138 (.int .i64 (st.erases + 1)) info3s rfl (by rw [hr4.size]; omega)
      have hr5 := hr4.setErases (st.erases + 1)
      replace Tb : Tab [(gl, cu, 97), (w3.heap.size, p.next.cells, 48), (w.heap.size + 1, Z53, 53), (w.heap.size, A4.setIfInBounds 138 (.int .i64 (st.erases + 1)), 53)] w Wb := Tb
      generalize A4.setIfInBounds 138 (.int .i64 (st.erases + 1)) = A5 at *
      obtain ⟨hl, W, hs, hl2, hO, ht⟩ := c53_end Tb (i := 2) (j := 3) rfl rfl Z53_size hr5.size hr5.one
      have hlc : LNew w W (.slice (some ⟨gl, 0, none⟩) (st.segs * st.pages) cap) (st.ers i k) := Tab.rowNew ht 0 rfl hx.out.2 HCP.out.1 HCP.out.2
      have hra : RA A5 (.slice (some ⟨gl, 0, none⟩) (st.segs * st.pages) cap) pv (st.ers i k) p.next := hr5.setPage (clrP st.page i k) st.past
      rw [HNP.out] at hra hlc
      have HF := Lib.hid (And.intro hra (And.intro hlc hO))
      have hwa : IntKind.i64.wrap (st.wear i + 1) = st.wear i + 1 := by have := HW.out; have := HWR.out; rw [IntKind.wrap_i64]; omega
      have hwb : IntKind.i64.wrap (st.erases + 1) = st.erases + 1 := by have := HE.out; rw [IntKind.wrap_i64]; omega
      have HSa := Lib.hid hsa
      have HSb := Lib.hid hsb
      have HL1 := Lib.hid hl
      have HS := Lib.hid hs
      have HL2 := Lib.hid hl2
      have HNP' := HNP
      clear hx hsa Ta za oa hr4 hsb Tb zb ob hr5 hl hs hl2 hO ht hlc hra HNP
      go_wp2_with (first | ((with_reducible refine wpList_store_at ?_ 3 (.tmp 78) (.tmp 76) ?_ _ ?_ _ ?_ HSa.out ?_); rfl; rfl; rfl; rfl) | ((with_reducible refine wpList_store_at ?_ 3 (.tmp 82) (.tmp 81) ?_ _ ?_ _ ?_ HSb.out ?_); rfl; rfl; rfl; rfl) | ((with_reducible refine wpList_load_at ?_ 53 (.tmp 2) ?_ _ ?_ _ HL1.out ?_); rfl; rfl; rfl) | ((with_reducible refine wpList_store_at ?_ 53 (.tmp 4) (.tmp 83) ?_ _ ?_ _ ?_ HS.out ?_); rfl; rfl; rfl; rfl))
      refine bodyPost_ret (v := .tuple #[.agg A5, .int .i64 0]) ?_ rfl ⟨A5, rfl, _, HF.out⟩
      have := HL2.out
      simp [results, Try.results24, asAddr, this]
set_option maxRecDepth 100000 in
set_option maxHeartbeats 8000000 in
theorem rer_t (h : RA A lv pv st p) (i : Nat) (w : World) (ho : p.off = false) (hi : i < st.segs) (hbad : st.bad i = false) (hwr : st.wear i < st.rated) (hl : LC w lv st) (hpi : p.In) (hE : 0 ≤ st.erases ∧ st.erases ≤ 100000000) (hW : 0 ≤ st.wear i) (hrt : st.rated ≤ 9223372036854775807) (hwh : p.whole = false) :
    Calls Try.prog 24 #[.agg A, .int .i64 i] w fun e w' => ∃ A', e = .returned (.tuple #[.agg A', .int .i64 4]) ∧ ∃ lv', RA A' lv' pv (st.ers i (erN st p.next false)) p.next ∧ LNew w w' lv' (st.ers i (erN st p.next false)) ∧ Only (fun _ => False) w w' := by
  have hh : hasB st.segs st.pages (i : Int) 0 = true := by have := h.lens; simp only [hasB, decide_eq_true_eq]; omega
  go_enter Try.func24, Try.ntmps24
  go_upto_region 1 with ((with_reducible refine wpList_alloc_at ?_ 53 ?_ _ (zero53 _) ?_); rfl; rfl)
  refine at_world (fun W => Tab [(w.heap.size + 1, Z53, 53), (w.heap.size, A, 53)] w W) (Tab.box2 w A Z53 53 53) ?_
  intro W1 T1
  have c0 := T1.c 1 rfl 0 h.p0.1
  rw [ho] at c0
  have HL := Lib.hid (T1.loadAll 1 rfl 53 _ Try.underlying53 rfl info53s h.size)
  have HI := Lib.hid (rin_any h i 0 W1)
  rw [hh] at HI
  have HT := Lib.hid T1
  have HR := Lib.hid h
  have HIX := Lib.hid hi
  have HLC := Lib.hid hl
  have HPI := Lib.hid hpi
  have HE := Lib.hid hE
  have HW := Lib.hid hW
  have HWR := Lib.hid (And.intro hwr hrt)
  have hi64 : i < 64 := by have := h.lens; omega
  have hi64' : (i : Int) < 64 := by omega
  have HWH := Lib.hid hwh
  have HBD := Lib.hid hbad
  clear T1 h ho hh hi hl hpi hE hW hrt hwh hbad hwr
  go_upto_region 5 with (first | ((with_reducible refine wpList_load_at ?_ 53 (.tmp 2) ?_ _ ?_ _ HL.out ?_); rfl; rfl; rfl) | (go_at_call 41; (with_reducible refine HI.out.mono ?_); rintro e w2 ⟨rfl, k2⟩))
  have T2 := HT.out.on k2
  have HT2 := Lib.hid T2
  have d0 := T2.c 1 rfl (7 + i) (HR.out.bad i HIX.out)
  have d1 := T2.c 1 rfl (72 + i) (HR.out.worn i HIX.out)
  have d2 := T2.c 1 rfl 6 HR.out.rated
  rw [HBD.out] at d0
  clear k2 HT HL HI T2 c0
  have hd : decide (st.rated ≤ st.wear i) = false := decide_eq_false (by have := HWR.out.1; omega)
  go_quiet (fail)
  have T3 := HT2.out.drewN nq
  generalize w2.drewN nq = X at *
  have hl37 := T3.load 1 rfl 48 _ Try.underlying48 rfl 0 info48s (by rw [HR.out.size]; decide)
  rw [Nat.zero_add, HR.out.pw] at hl37
  have HL37 := Lib.hid hl37
  have ha := ract_any p X HPI.out.1
  rw [HWH.out] at ha
  have HA := Lib.hid ha
  have HT3 := Lib.hid T3
  clear d0 d1 d2 hd HT2 hl37 ha T3
  go_wp2_with ((with_reducible refine wpList_load_at ?_ 48 (.tmp 36) ?_ _ ?_ _ HL37.out ?_); rfl; rfl; rfl)
  refine HA.out.mono ?_
  rintro e w3 ⟨rfl, k3⟩
  obtain ⟨W4, hs4, T5, z4, o4⟩ := (HT3.out.on k3).fresh (B := p.next.cells) #[.bool false, .int .i64 0, .int .i64 0, .int .u8 0] 48 info48s rfl rfl (p4_one _ _ _ _)
  have hl42 := T5.loadAll 0 rfl 48 _ Try.underlying48 rfl info48s rfl
  obtain ⟨W5, hs5, T6, z5, o5⟩ := T5.part (B := p.next.cells) 2 rfl 48 0 info48s rfl (by rw [HR.out.size]; decide) (p4_one _ _ _ _)
  replace T6 : Tab [(w3.heap.size, p.next.cells, 48), (w.heap.size + 1, Z53, 53), (w.heap.size, splice A 0 p.next.cells, 53)] w W5 := T6
  have HR2 := Lib.hid (HR.out.setPw p.next)
  generalize splice A 0 p.next.cells = A2 at *
  have e5 := T6.c 2 rfl 5 HR2.out.pages
  have e2 := T6.c 0 rfl 2 (v := .int .i64 p.next.keep) rfl
  have T6a := T6.on ((Only.refl _ W5).alloc (.cells #[] 97))
  have e71 := T6a.c 2 rfl 71 HR2.out.l
  obtain ⟨gl, cap, cur, W6, hap, hc1, hc2, T7, hLR, hgl⟩ := copyL (HLC.out.keep T6.only) T6 HR2.out.lens
  obtain ⟨W7, hs7, T8, z7, o7⟩ := T7.one 3 rfl 50 71 (.slice (some ⟨gl, 0, none⟩) (st.segs * st.pages) cap) info50s rfl (by rw [HR2.out.size]; decide)
  replace T8 : Tab [(gl, cur, 97), (w3.heap.size, p.next.cells, 48), (w.heap.size + 1, Z53, 53), (w.heap.size, A2.setIfInBounds 71 (.slice (some ⟨gl, 0, none⟩) (st.segs * st.pages) cap), 53)] w W7 := T8
  have HR3 := Lib.hid (HR2.out.setL (.slice (some ⟨gl, 0, none⟩) (st.segs * st.pages) cap) rfl)
  generalize A2.setIfInBounds 71 (.slice (some ⟨gl, 0, none⟩) (st.segs * st.pages) cap) = A3 at *
  have HS4 := Lib.hid hs4
  have HL42 := Lib.hid hl42
  have HS5 := Lib.hid hs5
  have HAP := Lib.hid hap
  have HS7 := Lib.hid hs7
  have HT8 := Lib.hid T8
  have HLR := Lib.hid hLR
  have HCP := Lib.hid (And.intro hc1 hc2)
  obtain ⟨n, hn⟩ : ∃ n, n = erN st p.next false := ⟨_, rfl⟩
  have HN : Hid (n ≤ st.pages) := by
    rw [hn]
    unfold erN Hid
    rw [if_neg (by simp)]; exact Nat.min_le_left _ _
  have hnp : min p.next.keep (st.pages : Int) = (n : Int) := by have := (next_in HPI.out).2.1; rw [hn]; unfold erN; rw [if_neg (by simp)]; omega
  have HNP := Lib.hid hn
  clear k3 hs4 T5 z4 o4 hl42 hs5 T6 z5 o5 T6a hap hc1 hc2 T7 hLR hgl hs7 T8 z7 o7 HT3 HL37 HA hn
  go_upto_region 16 with (first | ((with_reducible refine wpList_store_at ?_ 48 (.tmp 6) (.tmp 39) ?_ _ ?_ _ ?_ HS4.out ?_); rfl; rfl; rfl; rfl) | ((with_reducible refine wpList_load_at ?_ 48 (.tmp 6) ?_ _ ?_ _ HL42.out ?_); rfl; rfl; rfl) | ((with_reducible refine wpList_store_at ?_ 48 (.tmp 43) (.tmp 42) ?_ _ ?_ _ ?_ HS5.out ?_); rfl; rfl; rfl; rfl) | ((with_reducible refine wpList_bs_at ?_ 50 0 #[] ?_ [] ?_ _ (cbuild_0 _) ?_); rfl; rfl; rfl) | ((with_reducible refine wpList_app_g ?_ (.tmp 52) (.tmp 54) 50 ?_ _ _ _ ?_ ?_ HAP.out ?_); rfl; rfl; rfl; rfl) | ((with_reducible refine wpList_store_at ?_ 50 (.tmp 56) (.tmp 55) ?_ _ ?_ _ ?_ HS7.out ?_); rfl; rfl; rfl; rfl))
  clear e5 e2 e71 HS4 HL42 HS5 HAP HS7 hnp
  go_loopw [11] (fun x wr => ∃ (k : Nat) (cu : Array Value), k ≤ n ∧ x = .int .i64 k ∧ Hid (Tab [(gl, cu, 97), (w3.heap.size, p.next.cells, 48), (w.heap.size + 1, Z53, 53), (w.heap.size, A3, 53)] w wr ∧ LR cu { st with page := clrP st.page i k })) (fun x _ => n - (intOf x).toNat)
  case atStart => exact ⟨0, cur, by omega, rfl, HT8.out, by rw [clr_0]; exact HLR.out⟩
  case round =>
    obtain ⟨k, cu, hk, rfl, hx⟩ := hrel
    by_cases hlt : k < n
    · have hlt' : (k : Int) < n := by omega
      have HK := Lib.hid hlt
      have f5 := hx.out.1.c 3 rfl 5 HR3.out.pages
      have f71 := hx.out.1.c 3 rfl 71 HR3.out.l
      have hkp : k < st.pages := Nat.lt_of_lt_of_le hlt HN.out
      have hnl := HR3.out.lens
      have hlt2 := at_lt (s := st.segs) (p := st.pages) HIX.out hkp
      have hmb : i * st.pages ≤ 64 * 16 := Nat.mul_le_mul (by omega) (by omega)
      obtain ⟨Wa, hsa, Ta, za, oa⟩ := hx.out.1.part (B := #[.bool (none : Option ByteArray).isSome, .string ((none : Option ByteArray).getD ByteArray.empty)]) 0 rfl 97 ((i * st.pages + k) * 2) info97s rfl (by have := hx.out.2.1; dsimp only at this; omega) (by intro v hv; simp at hv; rcases hv with rfl | rfl <;> rfl)
      have hLa := hx.out.2.put (i := i) (j := k) HIX.out hkp none
      replace Ta : Tab [(gl, splice cu ((i * st.pages + k) * 2) #[.bool (none : Option ByteArray).isSome, .string ((none : Option ByteArray).getD ByteArray.empty)], 97), (w3.heap.size, p.next.cells, 48), (w.heap.size + 1, Z53, 53), (w.heap.size, A3, 53)] w Wa := Ta
      dsimp only at hLa
      rw [clr_upd] at hLa
      have HTa := Lib.hid (And.intro Ta hLa)
      have hmul : (i : Int) * (st.pages : Int) = ((i * st.pages : Nat) : Int) := by simp
      obtain ⟨q, hq⟩ : ∃ q, st.pages = q := ⟨_, rfl⟩
      rw [hq] at f5 hlt2 hmb f71 hmul hsa
      obtain ⟨M, hM⟩ : ∃ M, i * q = M := ⟨_, rfl⟩
      obtain ⟨L, hL⟩ : ∃ L, st.segs * q = L := ⟨_, rfl⟩
      rw [hM] at hlt2 hmb hmul hsa
      rw [hL] at hlt2 f71
      have hw1 : IntKind.i64.wrap (M : Int) = (M : Int) := by rw [IntKind.wrap_i64]; omega
      obtain ⟨N, hN⟩ : ∃ N, M + k = N := ⟨_, rfl⟩
      have hadd : (M : Int) + (k : Int) = (N : Int) := by omega
      rw [hN] at hlt2 hsa
      have hk16 : k < 16 := by omega
      have hw2 : IntKind.i64.wrap (N : Int) = (N : Int) := by rw [IntKind.wrap_i64]; omega
      have hNL : (N : Int) < (L : Int) := by omega
      have HSa := Lib.hid hsa
      clear hx hsa Ta hLa za oa hq hM hL hN hnl hlt
      go_wp2_with (first | ((with_reducible refine wpList_store_at ?_ 97 (.tmp 71) (.tmp 70) ?_ _ ?_ _ ?_ HSa.out ?_); rfl; rfl; rfl; rfl))
      go_roundw
      case rel => exact ⟨k + 1, _, by have := HK.out; omega, by go_num, HTa.out⟩
      case measure => have := HK.out; simp [intOf]; omega
    · obtain rfl : k = n := by omega
      have g75 := hx.out.1.c 3 rfl (72 + i) (HR3.out.worn i HIX.out)
      obtain ⟨Wa, hsa, Ta, za, oa⟩ := hx.out.1.one 3 rfl 3 (72 + i) (.int .i64 (st.wear i + 1)) info3s rfl (by rw [HR3.out.size]; omega)
      have hr4 := HR3.out.setWorn HIX.out (st.wear i + 1)
      replace Ta : Tab [(gl, cu, 97), (w3.heap.size, p.next.cells, 48), (w.heap.size + 1, Z53, 53), (w.heap.size, A3.setIfInBounds (72 + i) (.int .i64 (st.wear i + 1)), 53)] w Wa := Ta
      generalize A3.setIfInBounds (72 + i) (.int .i64 (st.wear i + 1)) = A4 at *
      have g80 := Ta.c 3 rfl 138 hr4.erases
      obtain ⟨Wb, hsb, Tb, zb, ob⟩ := Ta.one 3 rfl 3 138 (.int .i64 (st.erases + 1)) info3s rfl (by rw [hr4.size]; omega)
      have hr5 := hr4.setErases (st.erases + 1)
      replace Tb : Tab [(gl, cu, 97), (w3.heap.size, p.next.cells, 48), (w.heap.size + 1, Z53, 53), (w.heap.size, A4.setIfInBounds 138 (.int .i64 (st.erases + 1)), 53)] w Wb := Tb
      generalize A4.setIfInBounds 138 (.int .i64 (st.erases + 1)) = A5 at *
      obtain ⟨hl, W, hs, hl2, hO, ht⟩ := c53_end Tb (i := 2) (j := 3) rfl rfl Z53_size hr5.size hr5.one
      have hlc : LNew w W (.slice (some ⟨gl, 0, none⟩) (st.segs * st.pages) cap) (st.ers i k) := Tab.rowNew ht 0 rfl hx.out.2 HCP.out.1 HCP.out.2
      have hra : RA A5 (.slice (some ⟨gl, 0, none⟩) (st.segs * st.pages) cap) pv (st.ers i k) p.next := hr5.setPage (clrP st.page i k) st.past
      rw [HNP.out] at hra hlc
      have HF := Lib.hid (And.intro hra (And.intro hlc hO))
      have hwa : IntKind.i64.wrap (st.wear i + 1) = st.wear i + 1 := by have := HW.out; have := HWR.out; rw [IntKind.wrap_i64]; omega
      have hwb : IntKind.i64.wrap (st.erases + 1) = st.erases + 1 := by have := HE.out; rw [IntKind.wrap_i64]; omega
      have HSa := Lib.hid hsa
      have HSb := Lib.hid hsb
      have HL1 := Lib.hid hl
      have HS := Lib.hid hs
      have HL2 := Lib.hid hl2
      have HNP' := HNP
      clear hx hsa Ta za oa hr4 hsb Tb zb ob hr5 hl hs hl2 hO ht hlc hra HNP
      go_wp2_with (first | ((with_reducible refine wpList_store_at ?_ 3 (.tmp 78) (.tmp 76) ?_ _ ?_ _ ?_ HSa.out ?_); rfl; rfl; rfl; rfl) | ((with_reducible refine wpList_store_at ?_ 3 (.tmp 82) (.tmp 81) ?_ _ ?_ _ ?_ HSb.out ?_); rfl; rfl; rfl; rfl) | ((with_reducible refine wpList_load_at ?_ 53 (.tmp 2) ?_ _ ?_ _ HL1.out ?_); rfl; rfl; rfl) | ((with_reducible refine wpList_store_at ?_ 53 (.tmp 4) (.tmp 83) ?_ _ ?_ _ ?_ HS.out ?_); rfl; rfl; rfl; rfl))
      refine bodyPost_ret (v := .tuple #[.agg A5, .int .i64 4]) ?_ rfl ⟨A5, rfl, _, HF.out⟩
      have := HL2.out
      simp [results, Try.results24, asAddr, this]
/-- What a call makes of the cells: they are as they were, or new. -/
def Out (w w' : World) (A : Array Value) (pv : Value) (st : Cp) (p : Pw) (A' : Array Value) (s' : Cp) (p' : Pw) : Prop :=
  (A' = A ∧ s' = st ∧ p' = p) ∨ ∃ lv' pv', RA A' lv' pv' s' p' ∧ LNew w w' lv' s' ∧ ((pv' = pv ∧ s'.past = st.past) ∨ w'.ownsRow w.heap.size 9 1 pv' s'.past.length (s'.past.map Value.string))
theorem rer_any {w : World} (h1 : RA A lv pv st p) (h2 : LC w lv st) (i : Int) (hpi : p.In) (hE : 0 ≤ st.erases ∧ st.erases ≤ 100000000) (hW : ∀ i, 0 ≤ st.wear i) (hrt : st.rated ≤ 9223372036854775807) :
    Calls Try.prog 24 #[.agg A, .int .i64 i] w fun e w' => ∃ A', e = .returned (.tuple #[.agg A', .int .i64 (st.erE p i)]) ∧ Out w w' A pv st p A' (st.erS p i) (st.erP p i) ∧ Only (fun _ => False) w w' := by
  unfold Cp.erE Cp.erS Cp.erP
  by_cases ho : p.off = true
  · have hf : st.erOk p i = false := by simp [Cp.erOk, ho]
    rw [if_pos ho, hf, if_neg (by simp), if_neg (by simp)]
    refine (rer_off h1 i w ho).mono ?_
    rintro e w' ⟨rfl, k⟩
    exact ⟨A, rfl, .inl ⟨rfl, rfl, rfl⟩, k⟩
  · have ho' : p.off = false := by simpa using ho
    rw [if_neg ho]
    cases hh : hasB st.segs st.pages i 0
    · have hf : st.erOk p i = false := by simp [Cp.erOk, hh]
      rw [if_pos rfl, hf, if_neg (by simp), if_neg (by simp)]
      refine (rer_arg h1 i w ho' hh).mono ?_
      rintro e w' ⟨rfl, k⟩
      exact ⟨A, rfl, .inl ⟨rfl, rfl, rfl⟩, k⟩
    · rw [if_neg (by simp)]
      have hx := has_iff hh
      obtain ⟨a, rfl⟩ := Int.eq_ofNat_of_zero_le hx.1
      have ha : a < st.segs := by omega
      rw [Int.toNat_natCast]
      by_cases hz : st.bad a = true ∨ st.rated ≤ st.wear a
      · have hf : st.erOk p (a : Int) = false := by
          simp only [Cp.erOk, Int.toNat_natCast]
          rcases hz with hz | hz
          · simp [hz]
          · rw [decide_eq_false (by omega), Bool.and_false]
        rw [if_pos hz, hf, if_neg (by simp), if_neg (by simp)]
        refine (rer_worn h1 a w ho' ha hz).mono ?_
        rintro e w' ⟨rfl, k⟩
        exact ⟨A, rfl, .inl ⟨rfl, rfl, rfl⟩, k⟩
      · have hb : st.bad a = false := by
          cases hq : st.bad a
          · rfl
          · exact absurd (.inl hq) hz
        have hw : st.wear a < st.rated := by
          by_cases hq : st.rated ≤ st.wear a
          · exact absurd (.inr hq) hz
          · omega
        have hf : st.erOk p (a : Int) = true := by
          simp only [Cp.erOk, Int.toNat_natCast]
          rw [ho', hh, hb, decide_eq_true hw]
          rfl
        rw [if_neg hz, hf, if_pos rfl, if_pos rfl]
        unfold Pw.err
        cases hwh : p.whole
        · rw [if_neg (by simp)]
          refine (rer_t h1 a w ho' ha hb hw h2 hpi hE (hW a) hrt hwh).mono ?_
          rintro e w' ⟨A', rfl, lv', k1, k2, k3⟩
          exact ⟨A', rfl, .inr ⟨lv', pv, k1, k2, .inl ⟨rfl, rfl⟩⟩, k3⟩
        · rw [if_pos rfl]
          refine (rer_w h1 a w ho' ha hb hw h2 hpi hE (hW a) hrt hwh).mono ?_
          rintro e w' ⟨A', rfl, lv', k1, k2, k3⟩
          exact ⟨A', rfl, .inr ⟨lv', pv, k1, k2, .inl ⟨rfl, rfl⟩⟩, k3⟩
end
end Go.Proofs.Ytjnjnkkdpglfhaa
