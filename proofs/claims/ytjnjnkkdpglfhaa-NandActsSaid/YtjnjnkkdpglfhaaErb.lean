/-
  The chip: Erase. (Printed by mkerb.py.)
-/
import Derived.Test.YtjnjnkkdpglfhaaEra
set_option linter.unusedVariables false
namespace Go.Proofs.Ytjnjnkkdpglfhaa
open Go.RowKit
section
variable {B gc gl gp : Nat} {pg : Nat → Nat} {pv : Value} {st : Cp} {p : Pw} {a w : World} {T : List (Nat × Array Value × TypeId)}
theorem er1_any {bi bc i : Nat} (wh : Bool) (h : Chip B gc gl gp pg pv st p w) (hT : Tab ((bi, #[.int .i64 i], 3) :: (bc, #[.pointer (some ⟨gc, 0, none⟩)], 23) :: T) a w) (hno : ∀ q ∈ ((bi, #[.int .i64 i], 3) :: (bc, #[.pointer (some ⟨gc, 0, none⟩)], 23) :: T), ¬ Mine gc gl gp pg pv st.segs q.1) (hB : a.heap.size ≤ B) (hpi : p.In) (hi : i < st.segs) (hE : 0 ≤ st.erases ∧ st.erases ≤ 100000000) (hW : 0 ≤ st.wear i ∧ st.wear i < 9223372036854775807) :
    Calls Try.prog 36 #[.bool wh, .pointer (some ⟨bc, 0, none⟩), .pointer (some ⟨bi, 0, none⟩)] w fun e w' => e = .returned (.tuple #[]) ∧ Chip B gc gl gp pg pv (st.ers i (erN st p wh)) p w' ∧ Held ((bi, #[.int .i64 i], 3) :: (bc, #[.pointer (some ⟨gc, 0, none⟩)], 23) :: T) a B gc gl gp pg pv st.segs w' := by
  cases wh
  · exact er1_t h hT hno hB hpi hi hE hW
  · exact er1_w h hT hno hB hpi hi hE hW
set_option maxHeartbeats 2000000 in
theorem act_er {bi bc i : Nat} (h : Chip B gc gl gp pg pv st p w) (hT : Tab ((bi, #[.int .i64 i], 3) :: (bc, #[.pointer (some ⟨gc, 0, none⟩)], 23) :: T) a w) (hno : ∀ q ∈ ((bi, #[.int .i64 i], 3) :: (bc, #[.pointer (some ⟨gc, 0, none⟩)], 23) :: T), ¬ Mine gc gl gp pg pv st.segs q.1) (hB : a.heap.size ≤ B) (hpi : p.In) (hi : i < st.segs) (hE : 0 ≤ st.erases ∧ st.erases ≤ 100000000) (hW : 0 ≤ st.wear i ∧ st.wear i < 9223372036854775807) :
    Calls Try.prog 35 #[.pointer (some ⟨gc, 0, none⟩), .func (.func 36) #[] #[.pointer (some ⟨bc, 0, none⟩), .pointer (some ⟨bi, 0, none⟩)]] w fun e w' => e = .returned (.int .i64 p.err) ∧
      Chip B gc gl gp pg pv (st.ers i (erN st p.next p.whole)) p.next w' ∧ Held ((bi, #[.int .i64 i], 3) :: (bc, #[.pointer (some ⟨gc, 0, none⟩)], 23) :: T) a B gc gl gp pg pv st.segs w' := by
  have c2 := h.c2
  have HA := Lib.hid (act_any gp p w h.pw hpi.1)
  have HX : Hid (∀ w1, IsPw gp p.next w1 → Only (fun k => k = gp) w w1 → Calls Try.prog 36 #[.bool p.whole, .pointer (some ⟨bc, 0, none⟩), .pointer (some ⟨bi, 0, none⟩)] w1 fun e w' => e = .returned (.tuple #[]) ∧
      Chip B gc gl gp pg pv (st.ers i (erN st p.next p.whole)) p.next w' ∧ Held ((bi, #[.int .i64 i], 3) :: (bc, #[.pointer (some ⟨gc, 0, none⟩)], 23) :: T) a B gc gl gp pg pv st.segs w') := fun w1 h1 h2 =>
    er1_any p.whole (h.power h1 h2) (hT.move h2 (fun q hq hk => hno q hq (.inr (.inr (.inl hk)))) (fun k hk => by rw [hk]; exact Nat.le_trans hB h.base.2.2.1)) hno hB (next_in hpi) hi hE hW
  unfold Pw.err
  clear h hT hno hB hpi hi hE hW
  cases hw : p.whole
  · rw [hw] at HX
    rw [if_neg (by simp)]
    go_enter Try.func35, Try.ntmps35
    go_wp2_with fail
    refine HA.out.mono ?_
    rintro e w1 ⟨rfl, h1, h2⟩
    have HX1 := Lib.hid (HX.out w1 h1 h2)
    clear h1 h2
    rw [hw]
    go_wp2_with fail
    refine HX1.out.mono ?_
    rintro e w2 ⟨rfl, h3⟩
    have H3 := Lib.hid h3
    clear h3
    go_wp2_with fail
    go_ret
    exact ⟨rfl, H3.out⟩
  · rw [hw] at HX
    rw [if_pos rfl]
    go_enter Try.func35, Try.ntmps35
    go_wp2_with fail
    refine HA.out.mono ?_
    rintro e w1 ⟨rfl, h1, h2⟩
    have HX1 := Lib.hid (HX.out w1 h1 h2)
    clear h1 h2
    rw [hw]
    go_wp2_with fail
    refine HX1.out.mono ?_
    rintro e w2 ⟨rfl, h3⟩
    have H3 := Lib.hid h3
    clear h3
    go_wp2_with fail
    go_ret
    exact ⟨rfl, H3.out⟩
theorem box2' (h : Tab T a w) (A C : Array Value) (q r : TypeId) : Tab ((w.heap.size + 1, C, r) :: (w.heap.size, A, q) :: T) a ((w.alloc (.cells A q)).alloc (.cells C r)) := by
  have h2 := (h.alloc A q).alloc C r
  rwa [show (w.alloc (.cells A q)).heap.size = w.heap.size + 1 by simp] at h2
theorem box2_only (w : World) (A C : Array Value) (q r : TypeId) : Only (fun _ => False) w ((w.alloc (.cells A q)).alloc (.cells C r)) := ((Only.refl _ w).alloc _).alloc _


theorem erase_off (h : Chip B gc gl gp pg pv st p w) (hh : Held T a B gc gl gp pg pv st.segs w) (i : Int) (ho : p.off = true) : Calls Try.prog 11 #[.pointer (some ⟨gc, 0, none⟩), .int .i64 i] w fun e w' =>  e = .returned (.int .i64 4) ∧ Chip B gc gl gp pg pv st p w' ∧ Held T a B gc gl gp pg pv st.segs w' := by
  have HT0 : Hid (Tab (((w.heap.size + 1), #[.int .i64 i], 3) :: (w.heap.size, #[.pointer (some ⟨gc, 0, none⟩)], 23) :: T) a ((w.alloc (.cells #[.pointer (some ⟨gc, 0, none⟩)] 23)).alloc (.cells #[.int .i64 i] 3))) := box2' hh.tab _ _ _ _
  have HC0 : Hid (Chip B gc gl gp pg pv st p ((w.alloc (.cells #[.pointer (some ⟨gc, 0, none⟩)] 23)).alloc (.cells #[.int .i64 i] 3))) := h.keep (box2_only _ _ _ _ _)
  have HH0 : Hid (Held T a B gc gl gp pg pv st.segs ((w.alloc (.cells #[.pointer (some ⟨gc, 0, none⟩)] 23)).alloc (.cells #[.int .i64 i] 3))) := hh.on (box2_only _ _ _ _ _)
  have HU := Lib.hid (up_any gp p _ HC0.out.pw)
  rw [ho] at HU
  have b0 := HT0.out.c 1 rfl 0 (v := .pointer (some ⟨gc, 0, none⟩)) rfl
  have c2 := HC0.out.c2
  clear h hh ho
  go_enter Try.func11, Try.ntmps11
  go_wp2_with fail
  refine HU.out.mono ?_
  rintro e w1 ⟨rfl, rfl⟩
  go_wp2_with fail
  go_ret
  exact ⟨rfl, HC0.out, HH0.out⟩


set_option maxHeartbeats 4000000 in
theorem erase_has (h : Chip B gc gl gp pg pv st p w) (hh : Held T a B gc gl gp pg pv st.segs w) (i : Int) (ho : p.off = false) (hx : hasB st.segs st.pages i 0 = false) : Calls Try.prog 11 #[.pointer (some ⟨gc, 0, none⟩), .int .i64 i] w fun e w' =>  e = .returned (.int .i64 1) ∧ Chip B gc gl gp pg pv st p w' ∧ Held T a B gc gl gp pg pv st.segs w' := by
  have HT0 : Hid (Tab (((w.heap.size + 1), #[.int .i64 i], 3) :: (w.heap.size, #[.pointer (some ⟨gc, 0, none⟩)], 23) :: T) a ((w.alloc (.cells #[.pointer (some ⟨gc, 0, none⟩)] 23)).alloc (.cells #[.int .i64 i] 3))) := box2' hh.tab _ _ _ _
  have HC0 : Hid (Chip B gc gl gp pg pv st p ((w.alloc (.cells #[.pointer (some ⟨gc, 0, none⟩)] 23)).alloc (.cells #[.int .i64 i] 3))) := h.keep (box2_only _ _ _ _ _)
  have HH0 : Hid (Held T a B gc gl gp pg pv st.segs ((w.alloc (.cells #[.pointer (some ⟨gc, 0, none⟩)] 23)).alloc (.cells #[.int .i64 i] 3))) := hh.on (box2_only _ _ _ _ _)
  have HU := Lib.hid (up_any gp p _ HC0.out.pw)
  rw [ho] at HU
  have b0 := HT0.out.c 1 rfl 0 (v := .pointer (some ⟨gc, 0, none⟩)) rfl
  have c2 := HC0.out.c2
  have HH1 := Lib.hid (fun W => has_any st.segs st.pages i 0 W h.lens.1 h.lens.2)
  rw [hx] at HH1
  clear h hh ho hx
  go_enter Try.func11, Try.ntmps11
  go_wp2_with fail
  refine HU.out.mono ?_
  rintro e w1 ⟨rfl, rfl⟩
  go_wp2_with fail
  refine wp_region_held (S := (fun W => Tab (((w.heap.size + 1), #[.int .i64 i], 3) :: (w.heap.size, #[.pointer (some ⟨gc, 0, none⟩)], 23) :: T) a W ∧ Chip B gc gl gp pg pv st p W)) (by kernel_rfl) ?_
  change wpAnyH _ _ _ _ _ _ _ _ (World.drew _)
  have hS0 : (fun W => Tab (((w.heap.size + 1), #[.int .i64 i], 3) :: (w.heap.size, #[.pointer (some ⟨gc, 0, none⟩)], 23) :: T) a W ∧ Chip B gc gl gp pg pv st p W) (World.drew ((w.alloc (.cells #[.pointer (some ⟨gc, 0, none⟩)] 23)).alloc (.cells #[.int .i64 i] 3))) := ⟨HT0.out.drew, HC0.out.keep (Only.refl _ _).drew⟩
  have F0 := Lib.hid (fun W (h : (fun W => Tab (((w.heap.size + 1), #[.int .i64 i], 3) :: (w.heap.size, #[.pointer (some ⟨gc, 0, none⟩)], 23) :: T) a W ∧ Chip B gc gl gp pg pv st p W) W) => h.1.c 1 rfl 0 (v := .pointer (some ⟨gc, 0, none⟩)) rfl)
  have F3 := Lib.hid (fun W (h : (fun W => Tab (((w.heap.size + 1), #[.int .i64 i], 3) :: (w.heap.size, #[.pointer (some ⟨gc, 0, none⟩)], 23) :: T) a W ∧ Chip B gc gl gp pg pv st p W) W) => h.2.size)
  have F4 := Lib.hid (fun W (h : (fun W => Tab (((w.heap.size + 1), #[.int .i64 i], 3) :: (w.heap.size, #[.pointer (some ⟨gc, 0, none⟩)], 23) :: T) a W ∧ Chip B gc gl gp pg pv st p W) W) => h.1.c 0 rfl 0 (v := .int .i64 i) rfl)
  refine held_take (i := 0) (v := (.pointer (some ⟨gc, 0, none⟩))) rfl rfl (by kernel_rfl) (by kernel_rfl) (by kernel_rfl) (fun _ _ _ h => h) (Or.inl ⟨by rfl, fun w hS => by have hc := F0.out w hS; go_simp⟩) hS0 ?_
  simp only [List.setIfInBounds_toArray, List.set]
  refine held_pure (i := 1) (v := (.pointer (some ⟨gc, 0, none⟩))) rfl rfl (by kernel_rfl) (by kernel_rfl) (by kernel_rfl) (fun _ _ _ h => h) (Or.inl ⟨by rfl, fun w => by go_simp⟩) hS0 ?_
  simp only [List.setIfInBounds_toArray, List.set]
  refine held_pure (i := 2) (v := (.pointer (some ⟨gc, 0, none⟩))) rfl rfl (by kernel_rfl) (by kernel_rfl) (by kernel_rfl) (fun _ _ _ h => h) (Or.inl ⟨by rfl, fun w => by go_simp⟩) hS0 ?_
  simp only [List.setIfInBounds_toArray, List.set]
  refine held_take (i := 3) (v := (.agg (szA st.segs st.pages))) rfl rfl (by kernel_rfl) (by kernel_rfl) (by kernel_rfl) (fun _ _ _ h => h) (yields_load_w (by rfl) 72 (.tmp 15) rfl _ rfl _ F3.out) hS0 ?_
  simp only [List.setIfInBounds_toArray, List.set]
  refine held_take (i := 4) (v := (.int .i64 i)) rfl rfl (by kernel_rfl) (by kernel_rfl) (by kernel_rfl) (fun _ _ _ h => h) (Or.inl ⟨by rfl, fun w hS => by have hc := F4.out w hS; go_simp⟩) hS0 ?_
  simp only [List.setIfInBounds_toArray, List.set]
  refine held_call (j := 5) (by kernel_rfl) rfl rfl (by rfl) Try.func34 (by kernel_rfl) rfl rfl [.agg (szA st.segs st.pages), .int .i64 i, .int .i64 0] rfl (HH1.out _) ?_
  intro y1 k1
  have HT1 := Lib.hid (hS0.1.call k1)
  have HC1 := Lib.hid (hS0.2.call k1)
  have HD1 := Lib.hid ((HH0.out.on (Only.refl _ _).drew).on (Only.of_below k1))
  clear k1
  refine ⟨⟨HT1.out, HC1.out⟩, ?_⟩
  simp only [List.setIfInBounds_toArray, List.set]
  refine held_pure (i := 6) (v := (.bool true)) rfl rfl (by kernel_rfl) (by kernel_rfl) (by kernel_rfl) (fun _ _ _ h => h) (Or.inl ⟨by rfl, fun w => by go_simp⟩) ⟨HT1.out, HC1.out⟩ ?_
  simp only [List.setIfInBounds_toArray, List.set]
  refine held_pure (i := 7) (v := (.bool true)) rfl rfl (by kernel_rfl) (by kernel_rfl) (by kernel_rfl) (fun _ _ _ h => h) (Or.inl ⟨by rfl, fun w => by go_simp⟩) ⟨HT1.out, HC1.out⟩ ?_
  simp only [List.setIfInBounds_toArray, List.set]
  refine wpAnyH_done (by kernel_rfl) ?_ _
  clear F0 F3 F4 hS0
  go_wp2_with fail
  go_ret
  exact ⟨rfl, HC1.out, HD1.out⟩


set_option maxHeartbeats 4000000 in
theorem erase_bad (h : Chip B gc gl gp pg pv st p w) (hh : Held T a B gc gl gp pg pv st.segs w) (i : Nat) (ho : p.off = false) (hi : i < st.segs) (hpz : 0 < st.pages) (hbad : st.bad i = true) : Calls Try.prog 11 #[.pointer (some ⟨gc, 0, none⟩), .int .i64 i] w fun e w' =>  e = .returned (.int .i64 101) ∧ Chip B gc gl gp pg pv st p w' ∧ Held T a B gc gl gp pg pv st.segs w' := by
  have HT0 : Hid (Tab (((w.heap.size + 1), #[.int .i64 i], 3) :: (w.heap.size, #[.pointer (some ⟨gc, 0, none⟩)], 23) :: T) a ((w.alloc (.cells #[.pointer (some ⟨gc, 0, none⟩)] 23)).alloc (.cells #[.int .i64 i] 3))) := box2' hh.tab _ _ _ _
  have HC0 : Hid (Chip B gc gl gp pg pv st p ((w.alloc (.cells #[.pointer (some ⟨gc, 0, none⟩)] 23)).alloc (.cells #[.int .i64 i] 3))) := h.keep (box2_only _ _ _ _ _)
  have HH0 : Hid (Held T a B gc gl gp pg pv st.segs ((w.alloc (.cells #[.pointer (some ⟨gc, 0, none⟩)] 23)).alloc (.cells #[.int .i64 i] 3))) := hh.on (box2_only _ _ _ _ _)
  have HU := Lib.hid (up_any gp p _ HC0.out.pw)
  rw [ho] at HU
  have b0 := HT0.out.c 1 rfl 0 (v := .pointer (some ⟨gc, 0, none⟩)) rfl
  have c2 := HC0.out.c2
  have HH1 := Lib.hid (fun W => has_any st.segs st.pages i 0 W h.lens.1 h.lens.2)
  rw [show hasB st.segs st.pages (i : Int) 0 = true by simp only [hasB, decide_eq_true_eq]; omega] at HH1
  have HI := Lib.hid hi
  have HBD := Lib.hid hbad
  have hij : (i : Int) < (st.segs : Int) := by omega
  have hi0 : (0 : Int) ≤ (i : Int) := by omega
  clear h hh ho hi hpz hbad
  go_enter Try.func11, Try.ntmps11
  go_wp2_with fail
  refine HU.out.mono ?_
  rintro e w1 ⟨rfl, rfl⟩
  go_wp2_with fail
  refine wp_region_held (S := (fun W => Tab (((w.heap.size + 1), #[.int .i64 i], 3) :: (w.heap.size, #[.pointer (some ⟨gc, 0, none⟩)], 23) :: T) a W ∧ Chip B gc gl gp pg pv st p W)) (by kernel_rfl) ?_
  change wpAnyH _ _ _ _ _ _ _ _ (World.drew _)
  have hS0 : (fun W => Tab (((w.heap.size + 1), #[.int .i64 i], 3) :: (w.heap.size, #[.pointer (some ⟨gc, 0, none⟩)], 23) :: T) a W ∧ Chip B gc gl gp pg pv st p W) (World.drew ((w.alloc (.cells #[.pointer (some ⟨gc, 0, none⟩)] 23)).alloc (.cells #[.int .i64 i] 3))) := ⟨HT0.out.drew, HC0.out.keep (Only.refl _ _).drew⟩
  have F0 := Lib.hid (fun W (h : (fun W => Tab (((w.heap.size + 1), #[.int .i64 i], 3) :: (w.heap.size, #[.pointer (some ⟨gc, 0, none⟩)], 23) :: T) a W ∧ Chip B gc gl gp pg pv st p W) W) => h.1.c 1 rfl 0 (v := .pointer (some ⟨gc, 0, none⟩)) rfl)
  have F3 := Lib.hid (fun W (h : (fun W => Tab (((w.heap.size + 1), #[.int .i64 i], 3) :: (w.heap.size, #[.pointer (some ⟨gc, 0, none⟩)], 23) :: T) a W ∧ Chip B gc gl gp pg pv st p W) W) => h.2.size)
  have F4 := Lib.hid (fun W (h : (fun W => Tab (((w.heap.size + 1), #[.int .i64 i], 3) :: (w.heap.size, #[.pointer (some ⟨gc, 0, none⟩)], 23) :: T) a W ∧ Chip B gc gl gp pg pv st p W) W) => h.1.c 0 rfl 0 (v := .int .i64 i) rfl)
  refine held_take (i := 0) (v := (.pointer (some ⟨gc, 0, none⟩))) rfl rfl (by kernel_rfl) (by kernel_rfl) (by kernel_rfl) (fun _ _ _ h => h) (Or.inl ⟨by rfl, fun w hS => by have hc := F0.out w hS; go_simp⟩) hS0 ?_
  simp only [List.setIfInBounds_toArray, List.set]
  refine held_pure (i := 1) (v := (.pointer (some ⟨gc, 0, none⟩))) rfl rfl (by kernel_rfl) (by kernel_rfl) (by kernel_rfl) (fun _ _ _ h => h) (Or.inl ⟨by rfl, fun w => by go_simp⟩) hS0 ?_
  simp only [List.setIfInBounds_toArray, List.set]
  refine held_pure (i := 2) (v := (.pointer (some ⟨gc, 0, none⟩))) rfl rfl (by kernel_rfl) (by kernel_rfl) (by kernel_rfl) (fun _ _ _ h => h) (Or.inl ⟨by rfl, fun w => by go_simp⟩) hS0 ?_
  simp only [List.setIfInBounds_toArray, List.set]
  refine held_take (i := 3) (v := (.agg (szA st.segs st.pages))) rfl rfl (by kernel_rfl) (by kernel_rfl) (by kernel_rfl) (fun _ _ _ h => h) (yields_load_w (by rfl) 72 (.tmp 15) rfl _ rfl _ F3.out) hS0 ?_
  simp only [List.setIfInBounds_toArray, List.set]
  refine held_take (i := 4) (v := (.int .i64 i)) rfl rfl (by kernel_rfl) (by kernel_rfl) (by kernel_rfl) (fun _ _ _ h => h) (Or.inl ⟨by rfl, fun w hS => by have hc := F4.out w hS; go_simp⟩) hS0 ?_
  simp only [List.setIfInBounds_toArray, List.set]
  refine held_call (j := 5) (by kernel_rfl) rfl rfl (by rfl) Try.func34 (by kernel_rfl) rfl rfl [.agg (szA st.segs st.pages), .int .i64 i, .int .i64 0] rfl (HH1.out _) ?_
  intro y1 k1
  have HT1 := Lib.hid (hS0.1.call k1)
  have HC1 := Lib.hid (hS0.2.call k1)
  have HD1 := Lib.hid ((HH0.out.on (Only.refl _ _).drew).on (Only.of_below k1))
  clear k1
  refine ⟨⟨HT1.out, HC1.out⟩, ?_⟩
  simp only [List.setIfInBounds_toArray, List.set]
  refine held_pure (i := 6) (v := (.bool false)) rfl rfl (by kernel_rfl) (by kernel_rfl) (by kernel_rfl) (fun _ _ _ h => h) (Or.inl ⟨by rfl, fun w => by go_simp⟩) ⟨HT1.out, HC1.out⟩ ?_
  simp only [List.setIfInBounds_toArray, List.set]
  refine held_pure (i := 7) (v := (.bool false)) rfl rfl (by kernel_rfl) (by kernel_rfl) (by kernel_rfl) (fun _ _ _ h => h) (Or.inl ⟨by rfl, fun w => by go_simp⟩) ⟨HT1.out, HC1.out⟩ ?_
  simp only [List.setIfInBounds_toArray, List.set]
  refine wpAnyH_done (by kernel_rfl) ?_ _
  clear F0 F3 F4 hS0
  go_wp2_with fail
  have HC5 := Lib.hid (HC1.out.keep (Only.refl _ y1).drew)
  have HT5 := Lib.hid HT1.out.drew
  have HD5 := Lib.hid (HD1.out.on (Only.refl _ y1).drew)
  have cb := HC1.out.bd HI.out
  rw [HBD.out] at cb
  refine wp_region_held (S := (fun W => W = World.drew y1)) (by kernel_rfl) ?_
  change wpAnyH _ _ _ _ _ _ _ _ (World.drew _)
  have hS0 : (fun W => W = World.drew y1) (World.drew y1) := rfl
  have G0 := Lib.hid (fun W (h : (fun W => W = World.drew y1) W) => HT1.out.c 1 rfl 0 (v := .pointer (some ⟨gc, 0, none⟩)) rfl)
  have G3 := Lib.hid (fun W (h : (fun W => W = World.drew y1) W) => HC1.out.c4)
  have G4 := Lib.hid (fun W (h : (fun W => W = World.drew y1) W) => HT1.out.c 0 rfl 0 (v := .int .i64 i) rfl)
  have G7 := Lib.hid (fun W (h : (fun W => W = World.drew y1) W) => cb)
  have G8 := Lib.hid (fun W (h : (fun W => W = World.drew y1) W) => HC1.out.wr HI.out)
  have G9 := Lib.hid (fun W (h : (fun W => W = World.drew y1) W) => HC1.out.c3)
  clear cb
  refine held_take (i := 0) (v := (.pointer (some ⟨gc, 0, none⟩))) rfl rfl (by kernel_rfl) (by kernel_rfl) (by kernel_rfl) (fun _ _ _ h => h) (Or.inl ⟨by rfl, fun w hS => by have hc := G0.out w hS; go_simp⟩) hS0 ?_
  simp only [List.setIfInBounds_toArray, List.set]
  refine held_pure (i := 1) (v := (.pointer (some ⟨gc, 0, none⟩))) rfl rfl (by kernel_rfl) (by kernel_rfl) (by kernel_rfl) (fun _ _ _ h => h) (Or.inl ⟨by rfl, fun w => by go_simp⟩) hS0 ?_
  simp only [List.setIfInBounds_toArray, List.set]
  refine held_pure (i := 2) (v := (.pointer (some ⟨gc, 4, none⟩))) rfl rfl (by kernel_rfl) (by kernel_rfl) (by kernel_rfl) (fun _ _ _ h => h) (Or.inl ⟨by rfl, fun w => by go_simp⟩) hS0 ?_
  simp only [List.setIfInBounds_toArray, List.set]
  refine held_take (i := 3) (v := (.slice (some ⟨gl, 0, none⟩) st.segs st.segs)) rfl rfl (by kernel_rfl) (by kernel_rfl) (by kernel_rfl) (fun _ _ _ h => h) (Or.inl ⟨by rfl, fun w hS => by have hc := G3.out w hS; go_simp⟩) hS0 ?_
  simp only [List.setIfInBounds_toArray, List.set]
  refine held_take (i := 4) (v := (.int .i64 i)) rfl rfl (by kernel_rfl) (by kernel_rfl) (by kernel_rfl) (fun _ _ _ h => h) (Or.inl ⟨by rfl, fun w hS => by have hc := G4.out w hS; go_simp⟩) hS0 ?_
  simp only [List.setIfInBounds_toArray, List.set]
  refine held_pure (i := 5) (v := (.pointer (some ⟨gl, i * 3, none⟩))) rfl rfl (by kernel_rfl) (by kernel_rfl) (by kernel_rfl) (fun _ _ _ h => h) (Or.inl ⟨by rfl, fun w => by go_simp⟩) hS0 ?_
  simp only [List.setIfInBounds_toArray, List.set]
  refine held_pure (i := 6) (v := (.pointer (some ⟨gl, i * 3 + 2, none⟩))) rfl rfl (by kernel_rfl) (by kernel_rfl) (by kernel_rfl) (fun _ _ _ h => h) (Or.inl ⟨by rfl, fun w => by go_simp⟩) hS0 ?_
  simp only [List.setIfInBounds_toArray, List.set]
  refine held_take (i := 7) (v := (.bool true)) rfl rfl (by kernel_rfl) (by kernel_rfl) (by kernel_rfl) (fun _ _ _ h => h) (Or.inl ⟨by rfl, fun w hS => by have hc := G7.out w hS; go_simp⟩) hS0 ?_
  simp only [List.setIfInBounds_toArray, List.set]
  refine held_pure (i := 8) (v := (.bool true)) rfl rfl (by kernel_rfl) (by kernel_rfl) (by kernel_rfl) (fun _ _ _ h => h) (Or.inl ⟨by rfl, fun w => by go_simp⟩) hS0 ?_
  simp only [List.setIfInBounds_toArray, List.set]
  refine held_take (i := 9) (v := undef) rfl rfl (by kernel_rfl) (by kernel_rfl) (by kernel_rfl) (fun _ _ _ h => h) (Or.inr ⟨by rfl, rfl⟩) hS0 ?_
  simp only [List.setIfInBounds_toArray, List.set]
  refine held_take (i := 10) (v := undef) rfl rfl (by kernel_rfl) (by kernel_rfl) (by kernel_rfl) (fun _ _ _ h => h) (Or.inr ⟨by rfl, rfl⟩) hS0 ?_
  simp only [List.setIfInBounds_toArray, List.set]
  refine held_take (i := 11) (v := undef) rfl rfl (by kernel_rfl) (by kernel_rfl) (by kernel_rfl) (fun _ _ _ h => h) (Or.inr ⟨by rfl, rfl⟩) hS0 ?_
  simp only [List.setIfInBounds_toArray, List.set]
  refine held_take (i := 12) (v := undef) rfl rfl (by kernel_rfl) (by kernel_rfl) (by kernel_rfl) (fun _ _ _ h => h) (Or.inr ⟨by rfl, rfl⟩) hS0 ?_
  simp only [List.setIfInBounds_toArray, List.set]
  refine held_take (i := 13) (v := undef) rfl rfl (by kernel_rfl) (by kernel_rfl) (by kernel_rfl) (fun _ _ _ h => h) (Or.inr ⟨by rfl, rfl⟩) hS0 ?_
  simp only [List.setIfInBounds_toArray, List.set]
  refine held_take (i := 14) (v := undef) rfl rfl (by kernel_rfl) (by kernel_rfl) (by kernel_rfl) (fun _ _ _ h => h) (Or.inr ⟨by rfl, rfl⟩) hS0 ?_
  simp only [List.setIfInBounds_toArray, List.set]
  refine held_take (i := 15) (v := undef) rfl rfl (by kernel_rfl) (by kernel_rfl) (by kernel_rfl) (fun _ _ _ h => h) (Or.inr ⟨by rfl, rfl⟩) hS0 ?_
  simp only [List.setIfInBounds_toArray, List.set]
  refine held_take (i := 16) (v := undef) rfl rfl (by kernel_rfl) (by kernel_rfl) (by kernel_rfl) (fun _ _ _ h => h) (Or.inr ⟨by rfl, rfl⟩) hS0 ?_
  simp only [List.setIfInBounds_toArray, List.set]
  refine held_take (i := 17) (v := undef) rfl rfl (by kernel_rfl) (by kernel_rfl) (by kernel_rfl) (fun _ _ _ h => h) (Or.inr ⟨by rfl, rfl⟩) hS0 ?_
  simp only [List.setIfInBounds_toArray, List.set]
  refine held_take (i := 18) (v := undef) rfl rfl (by kernel_rfl) (by kernel_rfl) (by kernel_rfl) (fun _ _ _ h => h) (Or.inr ⟨by rfl, rfl⟩) hS0 ?_
  simp only [List.setIfInBounds_toArray, List.set]
  refine held_take (i := 19) (v := undef) rfl rfl (by kernel_rfl) (by kernel_rfl) (by kernel_rfl) (fun _ _ _ h => h) (Or.inr ⟨by rfl, rfl⟩) hS0 ?_
  simp only [List.setIfInBounds_toArray, List.set]
  refine held_take (i := 20) (v := undef) rfl rfl (by kernel_rfl) (by kernel_rfl) (by kernel_rfl) (fun _ _ _ h => h) (Or.inr ⟨by rfl, rfl⟩) hS0 ?_
  simp only [List.setIfInBounds_toArray, List.set]
  refine held_take (i := 21) (v := undef) rfl rfl (by kernel_rfl) (by kernel_rfl) (by kernel_rfl) (fun _ _ _ h => h) (Or.inr ⟨by rfl, rfl⟩) hS0 ?_
  simp only [List.setIfInBounds_toArray, List.set]
  refine held_pure (i := 22) (v := (.bool true)) rfl rfl (by kernel_rfl) (by kernel_rfl) (by kernel_rfl) (fun _ _ _ h => h) (Or.inl ⟨by rfl, fun w => by go_simp⟩) hS0 ?_
  simp only [List.setIfInBounds_toArray, List.set]
  refine held_pure (i := 23) (v := (.bool true)) rfl rfl (by kernel_rfl) (by kernel_rfl) (by kernel_rfl) (fun _ _ _ h => h) (Or.inl ⟨by rfl, fun w => by go_simp⟩) hS0 ?_
  simp only [List.setIfInBounds_toArray, List.set]
  refine wpAnyH_done (by kernel_rfl) ?_ _
  clear G0 G3 G4 G7 G8 G9 hS0
  have bx := HT1.out.c 1 rfl 0 (v := .pointer (some ⟨gc, 0, none⟩)) rfl
  go_wp2_with fail
  go_ret
  exact ⟨rfl, HC5.out, HD5.out⟩


set_option maxHeartbeats 4000000 in
theorem erase_worn (h : Chip B gc gl gp pg pv st p w) (hh : Held T a B gc gl gp pg pv st.segs w) (i : Nat) (ho : p.off = false) (hi : i < st.segs) (hpz : 0 < st.pages) (hbad : st.bad i = false) (hwr : st.rated ≤ st.wear i) : Calls Try.prog 11 #[.pointer (some ⟨gc, 0, none⟩), .int .i64 i] w fun e w' =>  e = .returned (.int .i64 101) ∧ Chip B gc gl gp pg pv st p w' ∧ Held T a B gc gl gp pg pv st.segs w' := by
  have HT0 : Hid (Tab (((w.heap.size + 1), #[.int .i64 i], 3) :: (w.heap.size, #[.pointer (some ⟨gc, 0, none⟩)], 23) :: T) a ((w.alloc (.cells #[.pointer (some ⟨gc, 0, none⟩)] 23)).alloc (.cells #[.int .i64 i] 3))) := box2' hh.tab _ _ _ _
  have HC0 : Hid (Chip B gc gl gp pg pv st p ((w.alloc (.cells #[.pointer (some ⟨gc, 0, none⟩)] 23)).alloc (.cells #[.int .i64 i] 3))) := h.keep (box2_only _ _ _ _ _)
  have HH0 : Hid (Held T a B gc gl gp pg pv st.segs ((w.alloc (.cells #[.pointer (some ⟨gc, 0, none⟩)] 23)).alloc (.cells #[.int .i64 i] 3))) := hh.on (box2_only _ _ _ _ _)
  have HU := Lib.hid (up_any gp p _ HC0.out.pw)
  rw [ho] at HU
  have b0 := HT0.out.c 1 rfl 0 (v := .pointer (some ⟨gc, 0, none⟩)) rfl
  have c2 := HC0.out.c2
  have HH1 := Lib.hid (fun W => has_any st.segs st.pages i 0 W h.lens.1 h.lens.2)
  rw [show hasB st.segs st.pages (i : Int) 0 = true by simp only [hasB, decide_eq_true_eq]; omega] at HH1
  have HI := Lib.hid hi
  have HBD := Lib.hid hbad
  have hij : (i : Int) < (st.segs : Int) := by omega
  have hi0 : (0 : Int) ≤ (i : Int) := by omega
  have hwd : decide (st.rated ≤ st.wear i) = true := decide_eq_true hwr
  clear h hh ho hi hpz hbad
  go_enter Try.func11, Try.ntmps11
  go_wp2_with fail
  refine HU.out.mono ?_
  rintro e w1 ⟨rfl, rfl⟩
  go_wp2_with fail
  refine wp_region_held (S := (fun W => Tab (((w.heap.size + 1), #[.int .i64 i], 3) :: (w.heap.size, #[.pointer (some ⟨gc, 0, none⟩)], 23) :: T) a W ∧ Chip B gc gl gp pg pv st p W)) (by kernel_rfl) ?_
  change wpAnyH _ _ _ _ _ _ _ _ (World.drew _)
  have hS0 : (fun W => Tab (((w.heap.size + 1), #[.int .i64 i], 3) :: (w.heap.size, #[.pointer (some ⟨gc, 0, none⟩)], 23) :: T) a W ∧ Chip B gc gl gp pg pv st p W) (World.drew ((w.alloc (.cells #[.pointer (some ⟨gc, 0, none⟩)] 23)).alloc (.cells #[.int .i64 i] 3))) := ⟨HT0.out.drew, HC0.out.keep (Only.refl _ _).drew⟩
  have F0 := Lib.hid (fun W (h : (fun W => Tab (((w.heap.size + 1), #[.int .i64 i], 3) :: (w.heap.size, #[.pointer (some ⟨gc, 0, none⟩)], 23) :: T) a W ∧ Chip B gc gl gp pg pv st p W) W) => h.1.c 1 rfl 0 (v := .pointer (some ⟨gc, 0, none⟩)) rfl)
  have F3 := Lib.hid (fun W (h : (fun W => Tab (((w.heap.size + 1), #[.int .i64 i], 3) :: (w.heap.size, #[.pointer (some ⟨gc, 0, none⟩)], 23) :: T) a W ∧ Chip B gc gl gp pg pv st p W) W) => h.2.size)
  have F4 := Lib.hid (fun W (h : (fun W => Tab (((w.heap.size + 1), #[.int .i64 i], 3) :: (w.heap.size, #[.pointer (some ⟨gc, 0, none⟩)], 23) :: T) a W ∧ Chip B gc gl gp pg pv st p W) W) => h.1.c 0 rfl 0 (v := .int .i64 i) rfl)
  refine held_take (i := 0) (v := (.pointer (some ⟨gc, 0, none⟩))) rfl rfl (by kernel_rfl) (by kernel_rfl) (by kernel_rfl) (fun _ _ _ h => h) (Or.inl ⟨by rfl, fun w hS => by have hc := F0.out w hS; go_simp⟩) hS0 ?_
  simp only [List.setIfInBounds_toArray, List.set]
  refine held_pure (i := 1) (v := (.pointer (some ⟨gc, 0, none⟩))) rfl rfl (by kernel_rfl) (by kernel_rfl) (by kernel_rfl) (fun _ _ _ h => h) (Or.inl ⟨by rfl, fun w => by go_simp⟩) hS0 ?_
  simp only [List.setIfInBounds_toArray, List.set]
  refine held_pure (i := 2) (v := (.pointer (some ⟨gc, 0, none⟩))) rfl rfl (by kernel_rfl) (by kernel_rfl) (by kernel_rfl) (fun _ _ _ h => h) (Or.inl ⟨by rfl, fun w => by go_simp⟩) hS0 ?_
  simp only [List.setIfInBounds_toArray, List.set]
  refine held_take (i := 3) (v := (.agg (szA st.segs st.pages))) rfl rfl (by kernel_rfl) (by kernel_rfl) (by kernel_rfl) (fun _ _ _ h => h) (yields_load_w (by rfl) 72 (.tmp 15) rfl _ rfl _ F3.out) hS0 ?_
  simp only [List.setIfInBounds_toArray, List.set]
  refine held_take (i := 4) (v := (.int .i64 i)) rfl rfl (by kernel_rfl) (by kernel_rfl) (by kernel_rfl) (fun _ _ _ h => h) (Or.inl ⟨by rfl, fun w hS => by have hc := F4.out w hS; go_simp⟩) hS0 ?_
  simp only [List.setIfInBounds_toArray, List.set]
  refine held_call (j := 5) (by kernel_rfl) rfl rfl (by rfl) Try.func34 (by kernel_rfl) rfl rfl [.agg (szA st.segs st.pages), .int .i64 i, .int .i64 0] rfl (HH1.out _) ?_
  intro y1 k1
  have HT1 := Lib.hid (hS0.1.call k1)
  have HC1 := Lib.hid (hS0.2.call k1)
  have HD1 := Lib.hid ((HH0.out.on (Only.refl _ _).drew).on (Only.of_below k1))
  clear k1
  refine ⟨⟨HT1.out, HC1.out⟩, ?_⟩
  simp only [List.setIfInBounds_toArray, List.set]
  refine held_pure (i := 6) (v := (.bool false)) rfl rfl (by kernel_rfl) (by kernel_rfl) (by kernel_rfl) (fun _ _ _ h => h) (Or.inl ⟨by rfl, fun w => by go_simp⟩) ⟨HT1.out, HC1.out⟩ ?_
  simp only [List.setIfInBounds_toArray, List.set]
  refine held_pure (i := 7) (v := (.bool false)) rfl rfl (by kernel_rfl) (by kernel_rfl) (by kernel_rfl) (fun _ _ _ h => h) (Or.inl ⟨by rfl, fun w => by go_simp⟩) ⟨HT1.out, HC1.out⟩ ?_
  simp only [List.setIfInBounds_toArray, List.set]
  refine wpAnyH_done (by kernel_rfl) ?_ _
  clear F0 F3 F4 hS0
  go_wp2_with fail
  have HC5 := Lib.hid (HC1.out.keep (Only.refl _ y1).drew)
  have HT5 := Lib.hid HT1.out.drew
  have HD5 := Lib.hid (HD1.out.on (Only.refl _ y1).drew)
  have cb := HC1.out.bd HI.out
  rw [HBD.out] at cb
  refine wp_region_held (S := (fun W => W = World.drew y1)) (by kernel_rfl) ?_
  change wpAnyH _ _ _ _ _ _ _ _ (World.drew _)
  have hS0 : (fun W => W = World.drew y1) (World.drew y1) := rfl
  have G0 := Lib.hid (fun W (h : (fun W => W = World.drew y1) W) => HT1.out.c 1 rfl 0 (v := .pointer (some ⟨gc, 0, none⟩)) rfl)
  have G3 := Lib.hid (fun W (h : (fun W => W = World.drew y1) W) => HC1.out.c4)
  have G4 := Lib.hid (fun W (h : (fun W => W = World.drew y1) W) => HT1.out.c 0 rfl 0 (v := .int .i64 i) rfl)
  have G7 := Lib.hid (fun W (h : (fun W => W = World.drew y1) W) => cb)
  have G8 := Lib.hid (fun W (h : (fun W => W = World.drew y1) W) => HC1.out.wr HI.out)
  have G9 := Lib.hid (fun W (h : (fun W => W = World.drew y1) W) => HC1.out.c3)
  clear cb
  refine held_take (i := 0) (v := (.pointer (some ⟨gc, 0, none⟩))) rfl rfl (by kernel_rfl) (by kernel_rfl) (by kernel_rfl) (fun _ _ _ h => h) (Or.inl ⟨by rfl, fun w hS => by have hc := G0.out w hS; go_simp⟩) hS0 ?_
  simp only [List.setIfInBounds_toArray, List.set]
  refine held_pure (i := 1) (v := (.pointer (some ⟨gc, 0, none⟩))) rfl rfl (by kernel_rfl) (by kernel_rfl) (by kernel_rfl) (fun _ _ _ h => h) (Or.inl ⟨by rfl, fun w => by go_simp⟩) hS0 ?_
  simp only [List.setIfInBounds_toArray, List.set]
  refine held_pure (i := 2) (v := (.pointer (some ⟨gc, 4, none⟩))) rfl rfl (by kernel_rfl) (by kernel_rfl) (by kernel_rfl) (fun _ _ _ h => h) (Or.inl ⟨by rfl, fun w => by go_simp⟩) hS0 ?_
  simp only [List.setIfInBounds_toArray, List.set]
  refine held_take (i := 3) (v := (.slice (some ⟨gl, 0, none⟩) st.segs st.segs)) rfl rfl (by kernel_rfl) (by kernel_rfl) (by kernel_rfl) (fun _ _ _ h => h) (Or.inl ⟨by rfl, fun w hS => by have hc := G3.out w hS; go_simp⟩) hS0 ?_
  simp only [List.setIfInBounds_toArray, List.set]
  refine held_take (i := 4) (v := (.int .i64 i)) rfl rfl (by kernel_rfl) (by kernel_rfl) (by kernel_rfl) (fun _ _ _ h => h) (Or.inl ⟨by rfl, fun w hS => by have hc := G4.out w hS; go_simp⟩) hS0 ?_
  simp only [List.setIfInBounds_toArray, List.set]
  refine held_pure (i := 5) (v := (.pointer (some ⟨gl, i * 3, none⟩))) rfl rfl (by kernel_rfl) (by kernel_rfl) (by kernel_rfl) (fun _ _ _ h => h) (Or.inl ⟨by rfl, fun w => by go_simp⟩) hS0 ?_
  simp only [List.setIfInBounds_toArray, List.set]
  refine held_pure (i := 6) (v := (.pointer (some ⟨gl, i * 3 + 2, none⟩))) rfl rfl (by kernel_rfl) (by kernel_rfl) (by kernel_rfl) (fun _ _ _ h => h) (Or.inl ⟨by rfl, fun w => by go_simp⟩) hS0 ?_
  simp only [List.setIfInBounds_toArray, List.set]
  refine held_take (i := 7) (v := (.bool false)) rfl rfl (by kernel_rfl) (by kernel_rfl) (by kernel_rfl) (fun _ _ _ h => h) (Or.inl ⟨by rfl, fun w hS => by have hc := G7.out w hS; go_simp⟩) hS0 ?_
  simp only [List.setIfInBounds_toArray, List.set]
  refine held_pure (i := 8) (v := (.bool false)) rfl rfl (by kernel_rfl) (by kernel_rfl) (by kernel_rfl) (fun _ _ _ h => h) (Or.inl ⟨by rfl, fun w => by go_simp⟩) hS0 ?_
  simp only [List.setIfInBounds_toArray, List.set]
  refine held_take (i := 9) (v := (.pointer (some ⟨gc, 0, none⟩))) rfl rfl (by kernel_rfl) (by kernel_rfl) (by kernel_rfl) (fun _ _ _ h => h) (Or.inl ⟨by rfl, fun w hS => by have hc := G0.out w hS; go_simp⟩) hS0 ?_
  simp only [List.setIfInBounds_toArray, List.set]
  refine held_pure (i := 10) (v := (.pointer (some ⟨gc, 0, none⟩))) rfl rfl (by kernel_rfl) (by kernel_rfl) (by kernel_rfl) (fun _ _ _ h => h) (Or.inl ⟨by rfl, fun w => by go_simp⟩) hS0 ?_
  simp only [List.setIfInBounds_toArray, List.set]
  refine held_pure (i := 11) (v := (.pointer (some ⟨gc, 4, none⟩))) rfl rfl (by kernel_rfl) (by kernel_rfl) (by kernel_rfl) (fun _ _ _ h => h) (Or.inl ⟨by rfl, fun w => by go_simp⟩) hS0 ?_
  simp only [List.setIfInBounds_toArray, List.set]
  refine held_take (i := 12) (v := (.slice (some ⟨gl, 0, none⟩) st.segs st.segs)) rfl rfl (by kernel_rfl) (by kernel_rfl) (by kernel_rfl) (fun _ _ _ h => h) (Or.inl ⟨by rfl, fun w hS => by have hc := G3.out w hS; go_simp⟩) hS0 ?_
  simp only [List.setIfInBounds_toArray, List.set]
  refine held_take (i := 13) (v := (.int .i64 i)) rfl rfl (by kernel_rfl) (by kernel_rfl) (by kernel_rfl) (fun _ _ _ h => h) (Or.inl ⟨by rfl, fun w hS => by have hc := G4.out w hS; go_simp⟩) hS0 ?_
  simp only [List.setIfInBounds_toArray, List.set]
  refine held_pure (i := 14) (v := (.pointer (some ⟨gl, i * 3, none⟩))) rfl rfl (by kernel_rfl) (by kernel_rfl) (by kernel_rfl) (fun _ _ _ h => h) (Or.inl ⟨by rfl, fun w => by go_simp⟩) hS0 ?_
  simp only [List.setIfInBounds_toArray, List.set]
  refine held_pure (i := 15) (v := (.pointer (some ⟨gl, i * 3 + 1, none⟩))) rfl rfl (by kernel_rfl) (by kernel_rfl) (by kernel_rfl) (fun _ _ _ h => h) (Or.inl ⟨by rfl, fun w => by go_simp⟩) hS0 ?_
  simp only [List.setIfInBounds_toArray, List.set]
  refine held_take (i := 16) (v := (.int .i64 (st.wear i))) rfl rfl (by kernel_rfl) (by kernel_rfl) (by kernel_rfl) (fun _ _ _ h => h) (Or.inl ⟨by rfl, fun w hS => by have hc := G8.out w hS; go_simp⟩) hS0 ?_
  simp only [List.setIfInBounds_toArray, List.set]
  refine held_take (i := 17) (v := (.pointer (some ⟨gc, 0, none⟩))) rfl rfl (by kernel_rfl) (by kernel_rfl) (by kernel_rfl) (fun _ _ _ h => h) (Or.inl ⟨by rfl, fun w hS => by have hc := G0.out w hS; go_simp⟩) hS0 ?_
  simp only [List.setIfInBounds_toArray, List.set]
  refine held_pure (i := 18) (v := (.pointer (some ⟨gc, 0, none⟩))) rfl rfl (by kernel_rfl) (by kernel_rfl) (by kernel_rfl) (fun _ _ _ h => h) (Or.inl ⟨by rfl, fun w => by go_simp⟩) hS0 ?_
  simp only [List.setIfInBounds_toArray, List.set]
  refine held_pure (i := 19) (v := (.pointer (some ⟨gc, 3, none⟩))) rfl rfl (by kernel_rfl) (by kernel_rfl) (by kernel_rfl) (fun _ _ _ h => h) (Or.inl ⟨by rfl, fun w => by go_simp⟩) hS0 ?_
  simp only [List.setIfInBounds_toArray, List.set]
  refine held_take (i := 20) (v := (.int .i64 st.rated)) rfl rfl (by kernel_rfl) (by kernel_rfl) (by kernel_rfl) (fun _ _ _ h => h) (Or.inl ⟨by rfl, fun w hS => by have hc := G9.out w hS; go_simp⟩) hS0 ?_
  simp only [List.setIfInBounds_toArray, List.set]
  refine held_pure (i := 21) (v := (.bool true)) rfl rfl (by kernel_rfl) (by kernel_rfl) (by kernel_rfl) (fun _ _ _ h => h) (Or.inl ⟨by rfl, fun w => by go_simp⟩) hS0 ?_
  simp only [List.setIfInBounds_toArray, List.set]
  refine held_pure (i := 22) (v := (.bool true)) rfl rfl (by kernel_rfl) (by kernel_rfl) (by kernel_rfl) (fun _ _ _ h => h) (Or.inl ⟨by rfl, fun w => by go_simp⟩) hS0 ?_
  simp only [List.setIfInBounds_toArray, List.set]
  refine held_pure (i := 23) (v := (.bool true)) rfl rfl (by kernel_rfl) (by kernel_rfl) (by kernel_rfl) (fun _ _ _ h => h) (Or.inl ⟨by rfl, fun w => by go_simp⟩) hS0 ?_
  simp only [List.setIfInBounds_toArray, List.set]
  refine wpAnyH_done (by kernel_rfl) ?_ _
  clear G0 G3 G4 G7 G8 G9 hS0
  have bx := HT1.out.c 1 rfl 0 (v := .pointer (some ⟨gc, 0, none⟩)) rfl
  go_wp2_with fail
  go_ret
  exact ⟨rfl, HC5.out, HD5.out⟩


set_option maxHeartbeats 4000000 in
theorem erase_do (h : Chip B gc gl gp pg pv st p w) (hh : Held T a B gc gl gp pg pv st.segs w) (i : Nat) (ho : p.off = false) (hi : i < st.segs) (hpz : 0 < st.pages) (hbad : st.bad i = false) (hwr : st.wear i < st.rated) (hpi : p.In) (hE : 0 ≤ st.erases ∧ st.erases ≤ 100000000) (hW : 0 ≤ st.wear i) (hrt : st.rated ≤ 9223372036854775807) :
    Calls Try.prog 11 #[.pointer (some ⟨gc, 0, none⟩), .int .i64 i] w fun e w' =>  e = .returned (.int .i64 p.err) ∧ Chip B gc gl gp pg pv (st.ers i (erN st p.next p.whole)) p.next w' ∧ Held T a B gc gl gp pg pv st.segs w' := by
  have HT0 : Hid (Tab (((w.heap.size + 1), #[.int .i64 i], 3) :: (w.heap.size, #[.pointer (some ⟨gc, 0, none⟩)], 23) :: T) a ((w.alloc (.cells #[.pointer (some ⟨gc, 0, none⟩)] 23)).alloc (.cells #[.int .i64 i] 3))) := box2' hh.tab _ _ _ _
  have HC0 : Hid (Chip B gc gl gp pg pv st p ((w.alloc (.cells #[.pointer (some ⟨gc, 0, none⟩)] 23)).alloc (.cells #[.int .i64 i] 3))) := h.keep (box2_only _ _ _ _ _)
  have HH0 : Hid (Held T a B gc gl gp pg pv st.segs ((w.alloc (.cells #[.pointer (some ⟨gc, 0, none⟩)] 23)).alloc (.cells #[.int .i64 i] 3))) := hh.on (box2_only _ _ _ _ _)
  have HU := Lib.hid (up_any gp p _ HC0.out.pw)
  rw [ho] at HU
  have b0 := HT0.out.c 1 rfl 0 (v := .pointer (some ⟨gc, 0, none⟩)) rfl
  have c2 := HC0.out.c2
  have HH1 := Lib.hid (fun W => has_any st.segs st.pages i 0 W h.lens.1 h.lens.2)
  rw [show hasB st.segs st.pages (i : Int) 0 = true by simp only [hasB, decide_eq_true_eq]; omega] at HH1
  have HI := Lib.hid hi
  have HBD := Lib.hid hbad
  have hij : (i : Int) < (st.segs : Int) := by omega
  have hi0 : (0 : Int) ≤ (i : Int) := by omega
  have hwd : decide (st.rated ≤ st.wear i) = false := decide_eq_false (by omega)
  have hwn : ¬ st.rated ≤ st.wear i := by omega
  have HPI := Lib.hid hpi
  have HE := Lib.hid hE
  have HWW : Hid (0 ≤ st.wear i ∧ st.wear i < 9223372036854775807) := ⟨hW, by omega⟩
  have HNB : Hid (∀ k, w.heap.size ≤ k → ¬ Mine gc gl gp pg pv st.segs k) := fun k hk hm => by have := h.mine_lt hm; omega
  have HNR : Hid (∀ q ∈ (((w.heap.size + 1), #[.int .i64 i], 3) :: (w.heap.size, #[.pointer (some ⟨gc, 0, none⟩)], 23) :: T), ¬ Mine gc gl gp pg pv st.segs q.1) := fun q hq => by
    rcases List.mem_cons.1 hq with rfl | hq
    · exact HNB.out _ (by simp only; omega)
    · rcases List.mem_cons.1 hq with rfl | hq
      · exact HNB.out _ (by simp only; omega)
      · exact hh.no q hq
  clear h hh ho hi hpz hbad hpi hE hW hrt
  go_enter Try.func11, Try.ntmps11
  go_wp2_with fail
  refine HU.out.mono ?_
  rintro e w1 ⟨rfl, rfl⟩
  go_wp2_with fail
  refine wp_region_held (S := (fun W => Tab (((w.heap.size + 1), #[.int .i64 i], 3) :: (w.heap.size, #[.pointer (some ⟨gc, 0, none⟩)], 23) :: T) a W ∧ Chip B gc gl gp pg pv st p W)) (by kernel_rfl) ?_
  change wpAnyH _ _ _ _ _ _ _ _ (World.drew _)
  have hS0 : (fun W => Tab (((w.heap.size + 1), #[.int .i64 i], 3) :: (w.heap.size, #[.pointer (some ⟨gc, 0, none⟩)], 23) :: T) a W ∧ Chip B gc gl gp pg pv st p W) (World.drew ((w.alloc (.cells #[.pointer (some ⟨gc, 0, none⟩)] 23)).alloc (.cells #[.int .i64 i] 3))) := ⟨HT0.out.drew, HC0.out.keep (Only.refl _ _).drew⟩
  have F0 := Lib.hid (fun W (h : (fun W => Tab (((w.heap.size + 1), #[.int .i64 i], 3) :: (w.heap.size, #[.pointer (some ⟨gc, 0, none⟩)], 23) :: T) a W ∧ Chip B gc gl gp pg pv st p W) W) => h.1.c 1 rfl 0 (v := .pointer (some ⟨gc, 0, none⟩)) rfl)
  have F3 := Lib.hid (fun W (h : (fun W => Tab (((w.heap.size + 1), #[.int .i64 i], 3) :: (w.heap.size, #[.pointer (some ⟨gc, 0, none⟩)], 23) :: T) a W ∧ Chip B gc gl gp pg pv st p W) W) => h.2.size)
  have F4 := Lib.hid (fun W (h : (fun W => Tab (((w.heap.size + 1), #[.int .i64 i], 3) :: (w.heap.size, #[.pointer (some ⟨gc, 0, none⟩)], 23) :: T) a W ∧ Chip B gc gl gp pg pv st p W) W) => h.1.c 0 rfl 0 (v := .int .i64 i) rfl)
  refine held_take (i := 0) (v := (.pointer (some ⟨gc, 0, none⟩))) rfl rfl (by kernel_rfl) (by kernel_rfl) (by kernel_rfl) (fun _ _ _ h => h) (Or.inl ⟨by rfl, fun w hS => by have hc := F0.out w hS; go_simp⟩) hS0 ?_
  simp only [List.setIfInBounds_toArray, List.set]
  refine held_pure (i := 1) (v := (.pointer (some ⟨gc, 0, none⟩))) rfl rfl (by kernel_rfl) (by kernel_rfl) (by kernel_rfl) (fun _ _ _ h => h) (Or.inl ⟨by rfl, fun w => by go_simp⟩) hS0 ?_
  simp only [List.setIfInBounds_toArray, List.set]
  refine held_pure (i := 2) (v := (.pointer (some ⟨gc, 0, none⟩))) rfl rfl (by kernel_rfl) (by kernel_rfl) (by kernel_rfl) (fun _ _ _ h => h) (Or.inl ⟨by rfl, fun w => by go_simp⟩) hS0 ?_
  simp only [List.setIfInBounds_toArray, List.set]
  refine held_take (i := 3) (v := (.agg (szA st.segs st.pages))) rfl rfl (by kernel_rfl) (by kernel_rfl) (by kernel_rfl) (fun _ _ _ h => h) (yields_load_w (by rfl) 72 (.tmp 15) rfl _ rfl _ F3.out) hS0 ?_
  simp only [List.setIfInBounds_toArray, List.set]
  refine held_take (i := 4) (v := (.int .i64 i)) rfl rfl (by kernel_rfl) (by kernel_rfl) (by kernel_rfl) (fun _ _ _ h => h) (Or.inl ⟨by rfl, fun w hS => by have hc := F4.out w hS; go_simp⟩) hS0 ?_
  simp only [List.setIfInBounds_toArray, List.set]
  refine held_call (j := 5) (by kernel_rfl) rfl rfl (by rfl) Try.func34 (by kernel_rfl) rfl rfl [.agg (szA st.segs st.pages), .int .i64 i, .int .i64 0] rfl (HH1.out _) ?_
  intro y1 k1
  have HT1 := Lib.hid (hS0.1.call k1)
  have HC1 := Lib.hid (hS0.2.call k1)
  have HD1 := Lib.hid ((HH0.out.on (Only.refl _ _).drew).on (Only.of_below k1))
  clear k1
  refine ⟨⟨HT1.out, HC1.out⟩, ?_⟩
  simp only [List.setIfInBounds_toArray, List.set]
  refine held_pure (i := 6) (v := (.bool false)) rfl rfl (by kernel_rfl) (by kernel_rfl) (by kernel_rfl) (fun _ _ _ h => h) (Or.inl ⟨by rfl, fun w => by go_simp⟩) ⟨HT1.out, HC1.out⟩ ?_
  simp only [List.setIfInBounds_toArray, List.set]
  refine held_pure (i := 7) (v := (.bool false)) rfl rfl (by kernel_rfl) (by kernel_rfl) (by kernel_rfl) (fun _ _ _ h => h) (Or.inl ⟨by rfl, fun w => by go_simp⟩) ⟨HT1.out, HC1.out⟩ ?_
  simp only [List.setIfInBounds_toArray, List.set]
  refine wpAnyH_done (by kernel_rfl) ?_ _
  clear F0 F3 F4 hS0
  go_wp2_with fail
  have HC5 := Lib.hid (HC1.out.keep (Only.refl _ y1).drew)
  have HT5 := Lib.hid HT1.out.drew
  have HD5 := Lib.hid (HD1.out.on (Only.refl _ y1).drew)
  have cb := HC1.out.bd HI.out
  rw [HBD.out] at cb
  refine wp_region_held (S := (fun W => W = World.drew y1)) (by kernel_rfl) ?_
  change wpAnyH _ _ _ _ _ _ _ _ (World.drew _)
  have hS0 : (fun W => W = World.drew y1) (World.drew y1) := rfl
  have G0 := Lib.hid (fun W (h : (fun W => W = World.drew y1) W) => HT1.out.c 1 rfl 0 (v := .pointer (some ⟨gc, 0, none⟩)) rfl)
  have G3 := Lib.hid (fun W (h : (fun W => W = World.drew y1) W) => HC1.out.c4)
  have G4 := Lib.hid (fun W (h : (fun W => W = World.drew y1) W) => HT1.out.c 0 rfl 0 (v := .int .i64 i) rfl)
  have G7 := Lib.hid (fun W (h : (fun W => W = World.drew y1) W) => cb)
  have G8 := Lib.hid (fun W (h : (fun W => W = World.drew y1) W) => HC1.out.wr HI.out)
  have G9 := Lib.hid (fun W (h : (fun W => W = World.drew y1) W) => HC1.out.c3)
  clear cb
  refine held_take (i := 0) (v := (.pointer (some ⟨gc, 0, none⟩))) rfl rfl (by kernel_rfl) (by kernel_rfl) (by kernel_rfl) (fun _ _ _ h => h) (Or.inl ⟨by rfl, fun w hS => by have hc := G0.out w hS; go_simp⟩) hS0 ?_
  simp only [List.setIfInBounds_toArray, List.set]
  refine held_pure (i := 1) (v := (.pointer (some ⟨gc, 0, none⟩))) rfl rfl (by kernel_rfl) (by kernel_rfl) (by kernel_rfl) (fun _ _ _ h => h) (Or.inl ⟨by rfl, fun w => by go_simp⟩) hS0 ?_
  simp only [List.setIfInBounds_toArray, List.set]
  refine held_pure (i := 2) (v := (.pointer (some ⟨gc, 4, none⟩))) rfl rfl (by kernel_rfl) (by kernel_rfl) (by kernel_rfl) (fun _ _ _ h => h) (Or.inl ⟨by rfl, fun w => by go_simp⟩) hS0 ?_
  simp only [List.setIfInBounds_toArray, List.set]
  refine held_take (i := 3) (v := (.slice (some ⟨gl, 0, none⟩) st.segs st.segs)) rfl rfl (by kernel_rfl) (by kernel_rfl) (by kernel_rfl) (fun _ _ _ h => h) (Or.inl ⟨by rfl, fun w hS => by have hc := G3.out w hS; go_simp⟩) hS0 ?_
  simp only [List.setIfInBounds_toArray, List.set]
  refine held_take (i := 4) (v := (.int .i64 i)) rfl rfl (by kernel_rfl) (by kernel_rfl) (by kernel_rfl) (fun _ _ _ h => h) (Or.inl ⟨by rfl, fun w hS => by have hc := G4.out w hS; go_simp⟩) hS0 ?_
  simp only [List.setIfInBounds_toArray, List.set]
  refine held_pure (i := 5) (v := (.pointer (some ⟨gl, i * 3, none⟩))) rfl rfl (by kernel_rfl) (by kernel_rfl) (by kernel_rfl) (fun _ _ _ h => h) (Or.inl ⟨by rfl, fun w => by go_simp⟩) hS0 ?_
  simp only [List.setIfInBounds_toArray, List.set]
  refine held_pure (i := 6) (v := (.pointer (some ⟨gl, i * 3 + 2, none⟩))) rfl rfl (by kernel_rfl) (by kernel_rfl) (by kernel_rfl) (fun _ _ _ h => h) (Or.inl ⟨by rfl, fun w => by go_simp⟩) hS0 ?_
  simp only [List.setIfInBounds_toArray, List.set]
  refine held_take (i := 7) (v := (.bool false)) rfl rfl (by kernel_rfl) (by kernel_rfl) (by kernel_rfl) (fun _ _ _ h => h) (Or.inl ⟨by rfl, fun w hS => by have hc := G7.out w hS; go_simp⟩) hS0 ?_
  simp only [List.setIfInBounds_toArray, List.set]
  refine held_pure (i := 8) (v := (.bool false)) rfl rfl (by kernel_rfl) (by kernel_rfl) (by kernel_rfl) (fun _ _ _ h => h) (Or.inl ⟨by rfl, fun w => by go_simp⟩) hS0 ?_
  simp only [List.setIfInBounds_toArray, List.set]
  refine held_take (i := 9) (v := (.pointer (some ⟨gc, 0, none⟩))) rfl rfl (by kernel_rfl) (by kernel_rfl) (by kernel_rfl) (fun _ _ _ h => h) (Or.inl ⟨by rfl, fun w hS => by have hc := G0.out w hS; go_simp⟩) hS0 ?_
  simp only [List.setIfInBounds_toArray, List.set]
  refine held_pure (i := 10) (v := (.pointer (some ⟨gc, 0, none⟩))) rfl rfl (by kernel_rfl) (by kernel_rfl) (by kernel_rfl) (fun _ _ _ h => h) (Or.inl ⟨by rfl, fun w => by go_simp⟩) hS0 ?_
  simp only [List.setIfInBounds_toArray, List.set]
  refine held_pure (i := 11) (v := (.pointer (some ⟨gc, 4, none⟩))) rfl rfl (by kernel_rfl) (by kernel_rfl) (by kernel_rfl) (fun _ _ _ h => h) (Or.inl ⟨by rfl, fun w => by go_simp⟩) hS0 ?_
  simp only [List.setIfInBounds_toArray, List.set]
  refine held_take (i := 12) (v := (.slice (some ⟨gl, 0, none⟩) st.segs st.segs)) rfl rfl (by kernel_rfl) (by kernel_rfl) (by kernel_rfl) (fun _ _ _ h => h) (Or.inl ⟨by rfl, fun w hS => by have hc := G3.out w hS; go_simp⟩) hS0 ?_
  simp only [List.setIfInBounds_toArray, List.set]
  refine held_take (i := 13) (v := (.int .i64 i)) rfl rfl (by kernel_rfl) (by kernel_rfl) (by kernel_rfl) (fun _ _ _ h => h) (Or.inl ⟨by rfl, fun w hS => by have hc := G4.out w hS; go_simp⟩) hS0 ?_
  simp only [List.setIfInBounds_toArray, List.set]
  refine held_pure (i := 14) (v := (.pointer (some ⟨gl, i * 3, none⟩))) rfl rfl (by kernel_rfl) (by kernel_rfl) (by kernel_rfl) (fun _ _ _ h => h) (Or.inl ⟨by rfl, fun w => by go_simp⟩) hS0 ?_
  simp only [List.setIfInBounds_toArray, List.set]
  refine held_pure (i := 15) (v := (.pointer (some ⟨gl, i * 3 + 1, none⟩))) rfl rfl (by kernel_rfl) (by kernel_rfl) (by kernel_rfl) (fun _ _ _ h => h) (Or.inl ⟨by rfl, fun w => by go_simp⟩) hS0 ?_
  simp only [List.setIfInBounds_toArray, List.set]
  refine held_take (i := 16) (v := (.int .i64 (st.wear i))) rfl rfl (by kernel_rfl) (by kernel_rfl) (by kernel_rfl) (fun _ _ _ h => h) (Or.inl ⟨by rfl, fun w hS => by have hc := G8.out w hS; go_simp⟩) hS0 ?_
  simp only [List.setIfInBounds_toArray, List.set]
  refine held_take (i := 17) (v := (.pointer (some ⟨gc, 0, none⟩))) rfl rfl (by kernel_rfl) (by kernel_rfl) (by kernel_rfl) (fun _ _ _ h => h) (Or.inl ⟨by rfl, fun w hS => by have hc := G0.out w hS; go_simp⟩) hS0 ?_
  simp only [List.setIfInBounds_toArray, List.set]
  refine held_pure (i := 18) (v := (.pointer (some ⟨gc, 0, none⟩))) rfl rfl (by kernel_rfl) (by kernel_rfl) (by kernel_rfl) (fun _ _ _ h => h) (Or.inl ⟨by rfl, fun w => by go_simp⟩) hS0 ?_
  simp only [List.setIfInBounds_toArray, List.set]
  refine held_pure (i := 19) (v := (.pointer (some ⟨gc, 3, none⟩))) rfl rfl (by kernel_rfl) (by kernel_rfl) (by kernel_rfl) (fun _ _ _ h => h) (Or.inl ⟨by rfl, fun w => by go_simp⟩) hS0 ?_
  simp only [List.setIfInBounds_toArray, List.set]
  refine held_take (i := 20) (v := (.int .i64 st.rated)) rfl rfl (by kernel_rfl) (by kernel_rfl) (by kernel_rfl) (fun _ _ _ h => h) (Or.inl ⟨by rfl, fun w hS => by have hc := G9.out w hS; go_simp⟩) hS0 ?_
  simp only [List.setIfInBounds_toArray, List.set]
  refine held_pure (i := 21) (v := (.bool false)) rfl rfl (by kernel_rfl) (by kernel_rfl) (by kernel_rfl) (fun _ _ _ h => h) (Or.inl ⟨by rfl, fun w => by go_simp⟩) hS0 ?_
  simp only [List.setIfInBounds_toArray, List.set]
  refine held_pure (i := 22) (v := (.bool false)) rfl rfl (by kernel_rfl) (by kernel_rfl) (by kernel_rfl) (fun _ _ _ h => h) (Or.inl ⟨by rfl, fun w => by go_simp⟩) hS0 ?_
  simp only [List.setIfInBounds_toArray, List.set]
  refine held_pure (i := 23) (v := (.bool false)) rfl rfl (by kernel_rfl) (by kernel_rfl) (by kernel_rfl) (fun _ _ _ h => h) (Or.inl ⟨by rfl, fun w => by go_simp⟩) hS0 ?_
  simp only [List.setIfInBounds_toArray, List.set]
  refine wpAnyH_done (by kernel_rfl) ?_ _
  clear G0 G3 G4 G7 G8 G9 hS0
  have bx := HT1.out.c 1 rfl 0 (v := .pointer (some ⟨gc, 0, none⟩)) rfl
  go_wp2_with fail
  have HAP := Lib.hid (act_er HC5.out HT5.out HNR.out HD5.out.base HPI.out HI.out HE.out HWW.out)
  refine HAP.out.mono ?_
  rintro e w9 ⟨rfl, hc9, hh9⟩
  have HFIN := Lib.hid (And.intro hc9 hh9.tail.tail)
  clear hc9 hh9
  go_wp2_with fail
  go_ret
  exact ⟨rfl, HFIN.out⟩


/-- Erase: what it answers, and leaves. -/
def Cp.erOk (st : Cp) (p : Pw) (i : Int) : Bool := !p.off && hasB st.segs st.pages i 0 && !st.bad i.toNat && decide (st.wear i.toNat < st.rated)
def Cp.erE (st : Cp) (p : Pw) (i : Int) : Int := if p.off = true then 4 else if hasB st.segs st.pages i 0 = false then 1 else if st.bad i.toNat = true ∨ st.rated ≤ st.wear i.toNat then 101 else p.err
def Cp.erS (st : Cp) (p : Pw) (i : Int) : Cp := if st.erOk p i = true then st.ers i.toNat (erN st p.next p.whole) else st
def Cp.erP (st : Cp) (p : Pw) (i : Int) : Pw := if st.erOk p i = true then p.next else p
theorem erase_any (h : Chip B gc gl gp pg pv st p w) (hh : Held T a B gc gl gp pg pv st.segs w) (i : Int) (hpi : p.In) (hE : 0 ≤ st.erases ∧ st.erases ≤ 100000000) (hW : ∀ i, 0 ≤ st.wear i) (hrt : st.rated ≤ 9223372036854775807) :
    Calls Try.prog 11 #[.pointer (some ⟨gc, 0, none⟩), .int .i64 i] w fun e w' => e = .returned (.int .i64 (st.erE p i)) ∧ Chip B gc gl gp pg pv (st.erS p i) (st.erP p i) w' ∧ Held T a B gc gl gp pg pv st.segs w' := by
  unfold Cp.erE Cp.erS Cp.erP
  by_cases ho : p.off = true
  · have hf : st.erOk p i = false := by simp [Cp.erOk, ho]
    rw [if_pos ho, hf, if_neg (by simp), if_neg (by simp)]
    exact erase_off h hh i ho
  · have ho' : p.off = false := by simpa using ho
    rw [if_neg ho]
    cases hx : hasB st.segs st.pages i 0
    · have hf : st.erOk p i = false := by simp [Cp.erOk, hx]
      rw [if_pos rfl, hf, if_neg (by simp), if_neg (by simp)]
      exact erase_has h hh i ho' hx
    · rw [if_neg (by simp)]
      have hxi := has_iff hx
      obtain ⟨i, rfl⟩ := Int.eq_ofNat_of_zero_le hxi.1
      simp only [Int.toNat_natCast]
      have hi : i < st.segs := by omega
      have hpz : 0 < st.pages := by omega
      by_cases hb : st.bad i = true
      · have hf : st.erOk p i = false := by
          unfold Cp.erOk
          rw [Int.toNat_natCast, hb]
          simp
        rw [if_pos (.inl hb), hf, if_neg (by simp), if_neg (by simp)]
        exact erase_bad h hh i ho' hi hpz hb
      · have hb' : st.bad i = false := by simpa using hb
        by_cases hw : st.rated ≤ st.wear i
        · have hf : st.erOk p i = false := by
            unfold Cp.erOk
            rw [Int.toNat_natCast, show decide (st.wear i < st.rated) = false from decide_eq_false (by omega)]
            simp
          rw [if_pos (.inr hw), hf, if_neg (by simp), if_neg (by simp)]
          exact erase_worn h hh i ho' hi hpz hb' hw
        · have hf : st.erOk p i = true := by
            unfold Cp.erOk
            rw [Int.toNat_natCast, show decide (st.wear i < st.rated) = true from decide_eq_true (by omega), ho', hx, hb']
            rfl
          rw [if_neg (by simp [hb', hw]), hf, if_pos rfl, if_pos rfl]
          exact erase_do h hh i ho' hi hpz hb' (by omega) hpi hE (hW i) hrt

end
end Go.Proofs.Ytjnjnkkdpglfhaa
