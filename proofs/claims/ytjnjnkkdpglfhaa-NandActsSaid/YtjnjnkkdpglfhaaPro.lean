/-
  The chip: Program. (Printed by mkpro.py.)
-/
import Derived.Test.YtjnjnkkdpglfhaaPrg
set_option linter.unusedVariables false
namespace Go.Proofs.Ytjnjnkkdpglfhaa
open Go.RowKit

theorem next_keep (p : Pw) : p.next.keep = p.keep := by
  unfold Pw.next
  split
  · rfl
  · split <;> rfl
theorem next_junk (p : Pw) : p.next.junk = p.junk := by
  unfold Pw.next
  split
  · rfl
  · split <;> rfl
theorem next_in {p : Pw} (h : p.In) : p.next.In := ⟨Pw.next_ok h.1, by rw [next_keep]; exact h.2.1, by rw [next_keep]; exact h.2.2.1, by rw [next_junk]; exact h.2.2.2.1, by rw [next_junk]; exact h.2.2.2.2⟩
section
variable {B gc gl gp : Nat} {pg : Nat → Nat} {pv : Value} {st : Cp} {p : Pw} {a w : World} {T : List (Nat × Array Value × TypeId)}
theorem Free.keepS {bs : Nat} {w' : World} {S : Nat → Prop} (hf : Free bs pg st.segs w) (h : Chip B gc gl gp pg pv st p w) (o : Only S w w') (hs : ∀ k, k < st.segs → ¬ S (pg k)) : Free bs pg st.segs w' := by
  intro k hk cs hc j b hj
  obtain ⟨cs', h1, _⟩ := h.page k hk
  have := keepRow o h1 (hs k hk)
  rw [hc] at this
  have e : cs = cs' := by simpa using this
  subst e
  exact hf k hk cs h1 j b hj
theorem prog1_any {bs bp bi bc : Nat} {s : ByteArray} {i j : Nat} (wh : Bool) (h : Chip B gc gl gp pg pv st p w) (hT : Tab ((bs, #[.string s], 9) :: (bp, #[.int .i64 j], 3) :: (bi, #[.int .i64 i], 3) :: (bc, #[.pointer (some ⟨gc, 0, none⟩)], 23) :: T) a w) (hno : ∀ q ∈ ((bs, #[.string s], 9) :: (bp, #[.int .i64 j], 3) :: (bi, #[.int .i64 i], 3) :: (bc, #[.pointer (some ⟨gc, 0, none⟩)], 23) :: T), ¬ Mine gc gl gp pg pv st.segs q.1) (hB : a.heap.size ≤ B) (hpi : p.In) (hi : i < st.segs) (hj : j < st.pages) (hs : s.size = 256) (hN : st.past.length ≤ 100000) (hP : 0 ≤ st.programs ∧ st.programs ≤ 100000) (hf : Free bs pg st.segs w) :
    Calls Try.prog 38 #[.bool wh, .pointer (some ⟨bc, 0, none⟩), .pointer (some ⟨bs, 0, none⟩), .pointer (some ⟨bi, 0, none⟩), .pointer (some ⟨bp, 0, none⟩)] w fun e w' => e = .returned (.tuple #[]) ∧
      ∃ pv', Chip B gc gl gp pg pv' (st.prg i j (doneT p wh s)) p w' ∧ Held ((bs, #[.string (doneT p wh s)], 9) :: (bp, #[.int .i64 j], 3) :: (bi, #[.int .i64 i], 3) :: (bc, #[.pointer (some ⟨gc, 0, none⟩)], 23) :: T) a B gc gl gp pg pv' st.segs w' := by
  cases wh
  · exact prog1_t h hT hno hB hpi hi hj hs hN hP hf
  · exact prog1_w h hT hno hB hpi hi hj hs hN hP hf

set_option maxHeartbeats 2000000 in
theorem act_prog {bs bp bi bc : Nat} {s : ByteArray} {i j : Nat} (h : Chip B gc gl gp pg pv st p w) (hT : Tab ((bs, #[.string s], 9) :: (bp, #[.int .i64 j], 3) :: (bi, #[.int .i64 i], 3) :: (bc, #[.pointer (some ⟨gc, 0, none⟩)], 23) :: T) a w) (hno : ∀ q ∈ ((bs, #[.string s], 9) :: (bp, #[.int .i64 j], 3) :: (bi, #[.int .i64 i], 3) :: (bc, #[.pointer (some ⟨gc, 0, none⟩)], 23) :: T), ¬ Mine gc gl gp pg pv st.segs q.1) (hB : a.heap.size ≤ B) (hpi : p.In) (hi : i < st.segs) (hj : j < st.pages) (hs : s.size = 256) (hN : st.past.length ≤ 100000) (hP : 0 ≤ st.programs ∧ st.programs ≤ 100000) (hf : Free bs pg st.segs w) :
    Calls Try.prog 35 #[.pointer (some ⟨gc, 0, none⟩), .func (.func 38) #[] #[.pointer (some ⟨bc, 0, none⟩), .pointer (some ⟨bs, 0, none⟩), .pointer (some ⟨bi, 0, none⟩), .pointer (some ⟨bp, 0, none⟩)]] w fun e w' => e = .returned (.int .i64 p.err) ∧
      ∃ pv', Chip B gc gl gp pg pv' (st.prg i j (doneT p.next p.whole s)) p.next w' ∧ Held ((bs, #[.string (doneT p.next p.whole s)], 9) :: (bp, #[.int .i64 j], 3) :: (bi, #[.int .i64 i], 3) :: (bc, #[.pointer (some ⟨gc, 0, none⟩)], 23) :: T) a B gc gl gp pg pv' st.segs w' := by
  have c2 := h.c2
  have HA := Lib.hid (act_any gp p w h.pw hpi.1)
  have HX : Hid (∀ w1, IsPw gp p.next w1 → Only (fun k => k = gp) w w1 → Calls Try.prog 38 #[.bool p.whole, .pointer (some ⟨bc, 0, none⟩), .pointer (some ⟨bs, 0, none⟩), .pointer (some ⟨bi, 0, none⟩), .pointer (some ⟨bp, 0, none⟩)] w1 fun e w' => e = .returned (.tuple #[]) ∧
      ∃ pv', Chip B gc gl gp pg pv' (st.prg i j (doneT p.next p.whole s)) p.next w' ∧ Held ((bs, #[.string (doneT p.next p.whole s)], 9) :: (bp, #[.int .i64 j], 3) :: (bi, #[.int .i64 i], 3) :: (bc, #[.pointer (some ⟨gc, 0, none⟩)], 23) :: T) a B gc gl gp pg pv' st.segs w') := fun w1 h1 h2 =>
    prog1_any p.whole (h.power h1 h2) (hT.move h2 (fun q hq hk => hno q hq (.inr (.inr (.inl hk)))) (fun k hk => by rw [hk]; exact Nat.le_trans hB h.base.2.2.1)) hno hB (next_in hpi) hi hj hs hN hP
      (hf.keepS h h2 fun k hk e => by obtain ⟨cs, hc⟩ := h.row_pg hk; exact heap_ne hc h.pw (by decide) e)
  unfold Pw.err
  clear h hT hno hB hpi hi hj hs hN hP hf
  cases hw : p.whole
  · rw [hw] at HX
    rw [if_neg (by simp)]
    go_enter Try.func35, Try.ntmps35
    go_wp2_with fail
    refine HA.out.mono ?_
    rintro e w1 ⟨rfl, h1, h2⟩
    have HX1 := Lib.hid (HX.out w1 h1 h2)
    clear h1 h2
    rw [hw]
    go_wp2_with fail
    refine HX1.out.mono ?_
    rintro e w2 ⟨rfl, h3⟩
    have H3 := Lib.hid h3
    clear h3
    go_wp2_with fail
    go_ret
    exact ⟨rfl, H3.out⟩
  · rw [hw] at HX
    rw [if_pos rfl]
    go_enter Try.func35, Try.ntmps35
    go_wp2_with fail
    refine HA.out.mono ?_
    rintro e w1 ⟨rfl, h1, h2⟩
    have HX1 := Lib.hid (HX.out w1 h1 h2)
    clear h1 h2
    rw [hw]
    go_wp2_with fail
    refine HX1.out.mono ?_
    rintro e w2 ⟨rfl, h3⟩
    have H3 := Lib.hid h3
    clear h3
    go_wp2_with fail
    go_ret
    exact ⟨rfl, H3.out⟩


theorem box4 (h : Tab T a w) (A C D E : Array Value) (q r s t : TypeId) :
    Tab ((w.heap.size + 1 + 1 + 1, E, t) :: (w.heap.size + 1 + 1, D, s) :: (w.heap.size + 1, C, r) :: (w.heap.size, A, q) :: T) a ((((w.alloc (.cells A q)).alloc (.cells C r)).alloc (.cells D s)).alloc (.cells E t)) := by
  have h1 := h.alloc A q
  have h2 := h1.alloc C r
  rw [show (w.alloc (.cells A q)).heap.size = w.heap.size + 1 by simp] at h2
  have h3 := h2.alloc D s
  rw [show ((w.alloc (.cells A q)).alloc (.cells C r)).heap.size = w.heap.size + 1 + 1 by simp] at h3
  have h4 := h3.alloc E t
  rwa [show (((w.alloc (.cells A q)).alloc (.cells C r)).alloc (.cells D s)).heap.size = w.heap.size + 1 + 1 + 1 by simp] at h4
theorem box4_only (w : World) (A C D E : Array Value) (q r s t : TypeId) : Only (fun _ => False) w ((((w.alloc (.cells A q)).alloc (.cells C r)).alloc (.cells D s)).alloc (.cells E t)) := ((((Only.refl _ w).alloc _).alloc _).alloc _).alloc _
theorem Held.tail {q : Nat × Array Value × TypeId} {n : Nat} (h : Held (q :: T) a B gc gl gp pg pv n w) : Held T a B gc gl gp pg pv n w := ⟨h.tab.tail, fun r hr => h.no r (List.mem_cons_of_mem _ hr), h.base⟩


theorem program_off (h : Chip B gc gl gp pg pv st p w) (hh : Held T a B gc gl gp pg pv st.segs w) (i j : Int) (s : ByteArray) (ho : p.off = true) :
    Calls Try.prog 15 #[.pointer (some ⟨gc, 0, none⟩), .int .i64 i, .int .i64 j, .string s] w fun e w' =>  e = .returned (.int .i64 4) ∧ Chip B gc gl gp pg pv st p w' ∧ Held T a B gc gl gp pg pv st.segs w' := by
  have HT0 : Hid (Tab (((w.heap.size + 1 + 1 + 1), #[.string s], 9) :: ((w.heap.size + 1 + 1), #[.int .i64 j], 3) :: ((w.heap.size + 1), #[.int .i64 i], 3) :: (w.heap.size, #[.pointer (some ⟨gc, 0, none⟩)], 23) :: T) a ((((w.alloc (.cells #[.pointer (some ⟨gc, 0, none⟩)] 23)).alloc (.cells #[.int .i64 i] 3)).alloc (.cells #[.int .i64 j] 3)).alloc (.cells #[.string s] 9))) := box4 hh.tab _ _ _ _ _ _ _ _
  have HC0 : Hid (Chip B gc gl gp pg pv st p ((((w.alloc (.cells #[.pointer (some ⟨gc, 0, none⟩)] 23)).alloc (.cells #[.int .i64 i] 3)).alloc (.cells #[.int .i64 j] 3)).alloc (.cells #[.string s] 9))) := h.keep (box4_only _ _ _ _ _ _ _ _ _)
  have HH0 : Hid (Held T a B gc gl gp pg pv st.segs ((((w.alloc (.cells #[.pointer (some ⟨gc, 0, none⟩)] 23)).alloc (.cells #[.int .i64 i] 3)).alloc (.cells #[.int .i64 j] 3)).alloc (.cells #[.string s] 9))) := hh.on (box4_only _ _ _ _ _ _ _ _ _)
  have HU := Lib.hid (up_any gp p _ HC0.out.pw)
  rw [ho] at HU
  have b0 := HT0.out.c 3 rfl 0 (v := .pointer (some ⟨gc, 0, none⟩)) rfl
  have c2 := HC0.out.c2
  clear h hh ho
  go_enter Try.func15, Try.ntmps15
  go_wp2_with fail
  refine HU.out.mono ?_
  rintro e w1 ⟨rfl, rfl⟩
  go_wp2_with fail
  go_ret
  exact ⟨rfl, HC0.out, HH0.out⟩


set_option maxHeartbeats 4000000 in
theorem program_has (h : Chip B gc gl gp pg pv st p w) (hh : Held T a B gc gl gp pg pv st.segs w) (i j : Int) (s : ByteArray) (ho : p.off = false) (hx : hasB st.segs st.pages i j = false) :
    Calls Try.prog 15 #[.pointer (some ⟨gc, 0, none⟩), .int .i64 i, .int .i64 j, .string s] w fun e w' =>  e = .returned (.int .i64 1) ∧ Chip B gc gl gp pg pv st p w' ∧ Held T a B gc gl gp pg pv st.segs w' := by
  have HT0 : Hid (Tab (((w.heap.size + 1 + 1 + 1), #[.string s], 9) :: ((w.heap.size + 1 + 1), #[.int .i64 j], 3) :: ((w.heap.size + 1), #[.int .i64 i], 3) :: (w.heap.size, #[.pointer (some ⟨gc, 0, none⟩)], 23) :: T) a ((((w.alloc (.cells #[.pointer (some ⟨gc, 0, none⟩)] 23)).alloc (.cells #[.int .i64 i] 3)).alloc (.cells #[.int .i64 j] 3)).alloc (.cells #[.string s] 9))) := box4 hh.tab _ _ _ _ _ _ _ _
  have HC0 : Hid (Chip B gc gl gp pg pv st p ((((w.alloc (.cells #[.pointer (some ⟨gc, 0, none⟩)] 23)).alloc (.cells #[.int .i64 i] 3)).alloc (.cells #[.int .i64 j] 3)).alloc (.cells #[.string s] 9))) := h.keep (box4_only _ _ _ _ _ _ _ _ _)
  have HH0 : Hid (Held T a B gc gl gp pg pv st.segs ((((w.alloc (.cells #[.pointer (some ⟨gc, 0, none⟩)] 23)).alloc (.cells #[.int .i64 i] 3)).alloc (.cells #[.int .i64 j] 3)).alloc (.cells #[.string s] 9))) := hh.on (box4_only _ _ _ _ _ _ _ _ _)
  have HU := Lib.hid (up_any gp p _ HC0.out.pw)
  rw [ho] at HU
  have HH1 := Lib.hid (fun W => has_any st.segs st.pages i j W h.lens.1 h.lens.2)
  rw [hx] at HH1
  have HFR := Lib.hid ((Free.new (bs := w.heap.size + 1 + 1 + 1) h (by omega)).keep h (box4_only w #[.pointer (some ⟨gc, 0, none⟩)] #[.int .i64 i] #[.int .i64 j] #[.string s] 23 3 3 9))
  have b0 := HT0.out.c 3 rfl 0 (v := .pointer (some ⟨gc, 0, none⟩)) rfl
  have c2 := HC0.out.c2
  clear h hh ho hx
  go_enter Try.func15, Try.ntmps15
  go_wp2_with fail
  refine HU.out.mono ?_
  rintro e w1 ⟨rfl, rfl⟩
  go_wp2_with fail
  refine wp_region_held (S := (fun W => Tab (((w.heap.size + 1 + 1 + 1), #[.string s], 9) :: ((w.heap.size + 1 + 1), #[.int .i64 j], 3) :: ((w.heap.size + 1), #[.int .i64 i], 3) :: (w.heap.size, #[.pointer (some ⟨gc, 0, none⟩)], 23) :: T) a W ∧ Chip B gc gl gp pg pv st p W)) (by kernel_rfl) ?_
  change wpAnyH _ _ _ _ _ _ _ _ (World.drew _)
  have hS0 : (fun W => Tab (((w.heap.size + 1 + 1 + 1), #[.string s], 9) :: ((w.heap.size + 1 + 1), #[.int .i64 j], 3) :: ((w.heap.size + 1), #[.int .i64 i], 3) :: (w.heap.size, #[.pointer (some ⟨gc, 0, none⟩)], 23) :: T) a W ∧ Chip B gc gl gp pg pv st p W) (World.drew ((((w.alloc (.cells #[.pointer (some ⟨gc, 0, none⟩)] 23)).alloc (.cells #[.int .i64 i] 3)).alloc (.cells #[.int .i64 j] 3)).alloc (.cells #[.string s] 9))) := ⟨HT0.out.drew, HC0.out.keep (Only.refl _ _).drew⟩
  have F0 := Lib.hid (fun W (h : (fun W => Tab (((w.heap.size + 1 + 1 + 1), #[.string s], 9) :: ((w.heap.size + 1 + 1), #[.int .i64 j], 3) :: ((w.heap.size + 1), #[.int .i64 i], 3) :: (w.heap.size, #[.pointer (some ⟨gc, 0, none⟩)], 23) :: T) a W ∧ Chip B gc gl gp pg pv st p W) W) => h.1.c 3 rfl 0 (v := .pointer (some ⟨gc, 0, none⟩)) rfl)
  have F3 := Lib.hid (fun W (h : (fun W => Tab (((w.heap.size + 1 + 1 + 1), #[.string s], 9) :: ((w.heap.size + 1 + 1), #[.int .i64 j], 3) :: ((w.heap.size + 1), #[.int .i64 i], 3) :: (w.heap.size, #[.pointer (some ⟨gc, 0, none⟩)], 23) :: T) a W ∧ Chip B gc gl gp pg pv st p W) W) => h.2.size)
  have F4 := Lib.hid (fun W (h : (fun W => Tab (((w.heap.size + 1 + 1 + 1), #[.string s], 9) :: ((w.heap.size + 1 + 1), #[.int .i64 j], 3) :: ((w.heap.size + 1), #[.int .i64 i], 3) :: (w.heap.size, #[.pointer (some ⟨gc, 0, none⟩)], 23) :: T) a W ∧ Chip B gc gl gp pg pv st p W) W) => h.1.c 2 rfl 0 (v := .int .i64 i) rfl)
  have F5 := Lib.hid (fun W (h : (fun W => Tab (((w.heap.size + 1 + 1 + 1), #[.string s], 9) :: ((w.heap.size + 1 + 1), #[.int .i64 j], 3) :: ((w.heap.size + 1), #[.int .i64 i], 3) :: (w.heap.size, #[.pointer (some ⟨gc, 0, none⟩)], 23) :: T) a W ∧ Chip B gc gl gp pg pv st p W) W) => h.1.c 1 rfl 0 (v := .int .i64 j) rfl)
  have F9 := Lib.hid (fun W (h : (fun W => Tab (((w.heap.size + 1 + 1 + 1), #[.string s], 9) :: ((w.heap.size + 1 + 1), #[.int .i64 j], 3) :: ((w.heap.size + 1), #[.int .i64 i], 3) :: (w.heap.size, #[.pointer (some ⟨gc, 0, none⟩)], 23) :: T) a W ∧ Chip B gc gl gp pg pv st p W) W) => h.1.c 0 rfl 0 (v := .string s) rfl)
  refine held_take (i := 0) (v := (.pointer (some ⟨gc, 0, none⟩))) rfl rfl (by kernel_rfl) (by kernel_rfl) (by kernel_rfl) (fun _ _ _ h => h) (Or.inl ⟨by rfl, fun w hS => by have hc := F0.out w hS; go_simp⟩) hS0 ?_
  simp only [List.setIfInBounds_toArray, List.set]
  refine held_pure (i := 1) (v := (.pointer (some ⟨gc, 0, none⟩))) rfl rfl (by kernel_rfl) (by kernel_rfl) (by kernel_rfl) (fun _ _ _ h => h) (Or.inl ⟨by rfl, fun w => by go_simp⟩) hS0 ?_
  simp only [List.setIfInBounds_toArray, List.set]
  refine held_pure (i := 2) (v := (.pointer (some ⟨gc, 0, none⟩))) rfl rfl (by kernel_rfl) (by kernel_rfl) (by kernel_rfl) (fun _ _ _ h => h) (Or.inl ⟨by rfl, fun w => by go_simp⟩) hS0 ?_
  simp only [List.setIfInBounds_toArray, List.set]
  refine held_take (i := 3) (v := (.agg (szA st.segs st.pages))) rfl rfl (by kernel_rfl) (by kernel_rfl) (by kernel_rfl) (fun _ _ _ h => h) (yields_load_w (by rfl) 72 (.tmp 19) rfl _ rfl _ F3.out) hS0 ?_
  simp only [List.setIfInBounds_toArray, List.set]
  refine held_take (i := 4) (v := (.int .i64 i)) rfl rfl (by kernel_rfl) (by kernel_rfl) (by kernel_rfl) (fun _ _ _ h => h) (Or.inl ⟨by rfl, fun w hS => by have hc := F4.out w hS; go_simp⟩) hS0 ?_
  simp only [List.setIfInBounds_toArray, List.set]
  refine held_take (i := 5) (v := (.int .i64 j)) rfl rfl (by kernel_rfl) (by kernel_rfl) (by kernel_rfl) (fun _ _ _ h => h) (Or.inl ⟨by rfl, fun w hS => by have hc := F5.out w hS; go_simp⟩) hS0 ?_
  simp only [List.setIfInBounds_toArray, List.set]
  refine held_call (j := 6) (by kernel_rfl) rfl rfl (by rfl) Try.func34 (by kernel_rfl) rfl rfl [.agg (szA st.segs st.pages), .int .i64 i, .int .i64 j] rfl (HH1.out _) ?_
  intro y1 k1
  have HT1 := Lib.hid (hS0.1.call k1)
  have HC1 := Lib.hid (hS0.2.call k1)
  have HD1 := Lib.hid ((HH0.out.on (Only.refl _ _).drew).on (Only.of_below k1))
  have HN1 : Hid (w.heap.size ≤ y1.heap.size) := Nat.le_trans (by simp; omega) k1.size
  have HF1 := Lib.hid ((HFR.out.keep HC0.out (Only.refl _ _).drew).keep (HC0.out.keep (Only.refl _ _).drew) (Only.of_below k1))
  clear k1
  refine ⟨⟨HT1.out, HC1.out⟩, ?_⟩
  simp only [List.setIfInBounds_toArray, List.set]
  refine held_pure (i := 7) (v := (.bool true)) rfl rfl (by kernel_rfl) (by kernel_rfl) (by kernel_rfl) (fun _ _ _ h => h) (Or.inl ⟨by rfl, fun w => by go_simp⟩) ⟨HT1.out, HC1.out⟩ ?_
  simp only [List.setIfInBounds_toArray, List.set]
  refine held_pure (i := 8) (v := (.bool true)) rfl rfl (by kernel_rfl) (by kernel_rfl) (by kernel_rfl) (fun _ _ _ h => h) (Or.inl ⟨by rfl, fun w => by go_simp⟩) ⟨HT1.out, HC1.out⟩ ?_
  simp only [List.setIfInBounds_toArray, List.set]
  refine held_take (i := 9) (v := undef) rfl rfl (by kernel_rfl) (by kernel_rfl) (by kernel_rfl) (fun _ _ _ h => h) (Or.inr ⟨by rfl, rfl⟩) ⟨HT1.out, HC1.out⟩ ?_
  simp only [List.setIfInBounds_toArray, List.set]
  refine held_take (i := 10) (v := undef) rfl rfl (by kernel_rfl) (by kernel_rfl) (by kernel_rfl) (fun _ _ _ h => h) (Or.inr ⟨by rfl, rfl⟩) ⟨HT1.out, HC1.out⟩ ?_
  simp only [List.setIfInBounds_toArray, List.set]
  refine held_take (i := 11) (v := undef) rfl rfl (by kernel_rfl) (by kernel_rfl) (by kernel_rfl) (fun _ _ _ h => h) (Or.inr ⟨by rfl, rfl⟩) ⟨HT1.out, HC1.out⟩ ?_
  simp only [List.setIfInBounds_toArray, List.set]
  refine held_pure (i := 12) (v := (.bool true)) rfl rfl (by kernel_rfl) (by kernel_rfl) (by kernel_rfl) (fun _ _ _ h => h) (Or.inl ⟨by rfl, fun w => by go_simp⟩) ⟨HT1.out, HC1.out⟩ ?_
  simp only [List.setIfInBounds_toArray, List.set]
  refine held_pure (i := 13) (v := (.bool true)) rfl rfl (by kernel_rfl) (by kernel_rfl) (by kernel_rfl) (fun _ _ _ h => h) (Or.inl ⟨by rfl, fun w => by go_simp⟩) ⟨HT1.out, HC1.out⟩ ?_
  simp only [List.setIfInBounds_toArray, List.set]
  refine wpAnyH_done (by kernel_rfl) ?_ _
  clear F0 F3 F4 F5 F9 hS0
  go_wp2_with fail
  go_ret
  exact ⟨rfl, HC1.out, HD1.out⟩


set_option maxHeartbeats 4000000 in
theorem program_big (h : Chip B gc gl gp pg pv st p w) (hh : Held T a B gc gl gp pg pv st.segs w) (i j : Int) (s : ByteArray) (ho : p.off = false) (hx : hasB st.segs st.pages i j = true) (hb : 256 < s.size) :
    Calls Try.prog 15 #[.pointer (some ⟨gc, 0, none⟩), .int .i64 i, .int .i64 j, .string s] w fun e w' =>  e = .returned (.int .i64 1) ∧ Chip B gc gl gp pg pv st p w' ∧ Held T a B gc gl gp pg pv st.segs w' := by
  have HT0 : Hid (Tab (((w.heap.size + 1 + 1 + 1), #[.string s], 9) :: ((w.heap.size + 1 + 1), #[.int .i64 j], 3) :: ((w.heap.size + 1), #[.int .i64 i], 3) :: (w.heap.size, #[.pointer (some ⟨gc, 0, none⟩)], 23) :: T) a ((((w.alloc (.cells #[.pointer (some ⟨gc, 0, none⟩)] 23)).alloc (.cells #[.int .i64 i] 3)).alloc (.cells #[.int .i64 j] 3)).alloc (.cells #[.string s] 9))) := box4 hh.tab _ _ _ _ _ _ _ _
  have HC0 : Hid (Chip B gc gl gp pg pv st p ((((w.alloc (.cells #[.pointer (some ⟨gc, 0, none⟩)] 23)).alloc (.cells #[.int .i64 i] 3)).alloc (.cells #[.int .i64 j] 3)).alloc (.cells #[.string s] 9))) := h.keep (box4_only _ _ _ _ _ _ _ _ _)
  have HH0 : Hid (Held T a B gc gl gp pg pv st.segs ((((w.alloc (.cells #[.pointer (some ⟨gc, 0, none⟩)] 23)).alloc (.cells #[.int .i64 i] 3)).alloc (.cells #[.int .i64 j] 3)).alloc (.cells #[.string s] 9))) := hh.on (box4_only _ _ _ _ _ _ _ _ _)
  have HU := Lib.hid (up_any gp p _ HC0.out.pw)
  rw [ho] at HU
  have HH1 := Lib.hid (fun W => has_any st.segs st.pages i j W h.lens.1 h.lens.2)
  rw [hx] at HH1
  have HFR := Lib.hid ((Free.new (bs := w.heap.size + 1 + 1 + 1) h (by omega)).keep h (box4_only w #[.pointer (some ⟨gc, 0, none⟩)] #[.int .i64 i] #[.int .i64 j] #[.string s] 23 3 3 9))
  have b0 := HT0.out.c 3 rfl 0 (v := .pointer (some ⟨gc, 0, none⟩)) rfl
  have c2 := HC0.out.c2
  have hbi : (256 : Int) < (s.size : Int) := by omega
  have hbd : decide ((256 : Int) < (s.size : Int)) = true := decide_eq_true hbi
  clear h hh ho hx
  go_enter Try.func15, Try.ntmps15
  go_wp2_with fail
  refine HU.out.mono ?_
  rintro e w1 ⟨rfl, rfl⟩
  go_wp2_with fail
  refine wp_region_held (S := (fun W => Tab (((w.heap.size + 1 + 1 + 1), #[.string s], 9) :: ((w.heap.size + 1 + 1), #[.int .i64 j], 3) :: ((w.heap.size + 1), #[.int .i64 i], 3) :: (w.heap.size, #[.pointer (some ⟨gc, 0, none⟩)], 23) :: T) a W ∧ Chip B gc gl gp pg pv st p W)) (by kernel_rfl) ?_
  change wpAnyH _ _ _ _ _ _ _ _ (World.drew _)
  have hS0 : (fun W => Tab (((w.heap.size + 1 + 1 + 1), #[.string s], 9) :: ((w.heap.size + 1 + 1), #[.int .i64 j], 3) :: ((w.heap.size + 1), #[.int .i64 i], 3) :: (w.heap.size, #[.pointer (some ⟨gc, 0, none⟩)], 23) :: T) a W ∧ Chip B gc gl gp pg pv st p W) (World.drew ((((w.alloc (.cells #[.pointer (some ⟨gc, 0, none⟩)] 23)).alloc (.cells #[.int .i64 i] 3)).alloc (.cells #[.int .i64 j] 3)).alloc (.cells #[.string s] 9))) := ⟨HT0.out.drew, HC0.out.keep (Only.refl _ _).drew⟩
  have F0 := Lib.hid (fun W (h : (fun W => Tab (((w.heap.size + 1 + 1 + 1), #[.string s], 9) :: ((w.heap.size + 1 + 1), #[.int .i64 j], 3) :: ((w.heap.size + 1), #[.int .i64 i], 3) :: (w.heap.size, #[.pointer (some ⟨gc, 0, none⟩)], 23) :: T) a W ∧ Chip B gc gl gp pg pv st p W) W) => h.1.c 3 rfl 0 (v := .pointer (some ⟨gc, 0, none⟩)) rfl)
  have F3 := Lib.hid (fun W (h : (fun W => Tab (((w.heap.size + 1 + 1 + 1), #[.string s], 9) :: ((w.heap.size + 1 + 1), #[.int .i64 j], 3) :: ((w.heap.size + 1), #[.int .i64 i], 3) :: (w.heap.size, #[.pointer (some ⟨gc, 0, none⟩)], 23) :: T) a W ∧ Chip B gc gl gp pg pv st p W) W) => h.2.size)
  have F4 := Lib.hid (fun W (h : (fun W => Tab (((w.heap.size + 1 + 1 + 1), #[.string s], 9) :: ((w.heap.size + 1 + 1), #[.int .i64 j], 3) :: ((w.heap.size + 1), #[.int .i64 i], 3) :: (w.heap.size, #[.pointer (some ⟨gc, 0, none⟩)], 23) :: T) a W ∧ Chip B gc gl gp pg pv st p W) W) => h.1.c 2 rfl 0 (v := .int .i64 i) rfl)
  have F5 := Lib.hid (fun W (h : (fun W => Tab (((w.heap.size + 1 + 1 + 1), #[.string s], 9) :: ((w.heap.size + 1 + 1), #[.int .i64 j], 3) :: ((w.heap.size + 1), #[.int .i64 i], 3) :: (w.heap.size, #[.pointer (some ⟨gc, 0, none⟩)], 23) :: T) a W ∧ Chip B gc gl gp pg pv st p W) W) => h.1.c 1 rfl 0 (v := .int .i64 j) rfl)
  have F9 := Lib.hid (fun W (h : (fun W => Tab (((w.heap.size + 1 + 1 + 1), #[.string s], 9) :: ((w.heap.size + 1 + 1), #[.int .i64 j], 3) :: ((w.heap.size + 1), #[.int .i64 i], 3) :: (w.heap.size, #[.pointer (some ⟨gc, 0, none⟩)], 23) :: T) a W ∧ Chip B gc gl gp pg pv st p W) W) => h.1.c 0 rfl 0 (v := .string s) rfl)
  refine held_take (i := 0) (v := (.pointer (some ⟨gc, 0, none⟩))) rfl rfl (by kernel_rfl) (by kernel_rfl) (by kernel_rfl) (fun _ _ _ h => h) (Or.inl ⟨by rfl, fun w hS => by have hc := F0.out w hS; go_simp⟩) hS0 ?_
  simp only [List.setIfInBounds_toArray, List.set]
  refine held_pure (i := 1) (v := (.pointer (some ⟨gc, 0, none⟩))) rfl rfl (by kernel_rfl) (by kernel_rfl) (by kernel_rfl) (fun _ _ _ h => h) (Or.inl ⟨by rfl, fun w => by go_simp⟩) hS0 ?_
  simp only [List.setIfInBounds_toArray, List.set]
  refine held_pure (i := 2) (v := (.pointer (some ⟨gc, 0, none⟩))) rfl rfl (by kernel_rfl) (by kernel_rfl) (by kernel_rfl) (fun _ _ _ h => h) (Or.inl ⟨by rfl, fun w => by go_simp⟩) hS0 ?_
  simp only [List.setIfInBounds_toArray, List.set]
  refine held_take (i := 3) (v := (.agg (szA st.segs st.pages))) rfl rfl (by kernel_rfl) (by kernel_rfl) (by kernel_rfl) (fun _ _ _ h => h) (yields_load_w (by rfl) 72 (.tmp 19) rfl _ rfl _ F3.out) hS0 ?_
  simp only [List.setIfInBounds_toArray, List.set]
  refine held_take (i := 4) (v := (.int .i64 i)) rfl rfl (by kernel_rfl) (by kernel_rfl) (by kernel_rfl) (fun _ _ _ h => h) (Or.inl ⟨by rfl, fun w hS => by have hc := F4.out w hS; go_simp⟩) hS0 ?_
  simp only [List.setIfInBounds_toArray, List.set]
  refine held_take (i := 5) (v := (.int .i64 j)) rfl rfl (by kernel_rfl) (by kernel_rfl) (by kernel_rfl) (fun _ _ _ h => h) (Or.inl ⟨by rfl, fun w hS => by have hc := F5.out w hS; go_simp⟩) hS0 ?_
  simp only [List.setIfInBounds_toArray, List.set]
  refine held_call (j := 6) (by kernel_rfl) rfl rfl (by rfl) Try.func34 (by kernel_rfl) rfl rfl [.agg (szA st.segs st.pages), .int .i64 i, .int .i64 j] rfl (HH1.out _) ?_
  intro y1 k1
  have HT1 := Lib.hid (hS0.1.call k1)
  have HC1 := Lib.hid (hS0.2.call k1)
  have HD1 := Lib.hid ((HH0.out.on (Only.refl _ _).drew).on (Only.of_below k1))
  have HN1 : Hid (w.heap.size ≤ y1.heap.size) := Nat.le_trans (by simp; omega) k1.size
  have HF1 := Lib.hid ((HFR.out.keep HC0.out (Only.refl _ _).drew).keep (HC0.out.keep (Only.refl _ _).drew) (Only.of_below k1))
  clear k1
  refine ⟨⟨HT1.out, HC1.out⟩, ?_⟩
  simp only [List.setIfInBounds_toArray, List.set]
  refine held_pure (i := 7) (v := (.bool false)) rfl rfl (by kernel_rfl) (by kernel_rfl) (by kernel_rfl) (fun _ _ _ h => h) (Or.inl ⟨by rfl, fun w => by go_simp⟩) ⟨HT1.out, HC1.out⟩ ?_
  simp only [List.setIfInBounds_toArray, List.set]
  refine held_pure (i := 8) (v := (.bool false)) rfl rfl (by kernel_rfl) (by kernel_rfl) (by kernel_rfl) (fun _ _ _ h => h) (Or.inl ⟨by rfl, fun w => by go_simp⟩) ⟨HT1.out, HC1.out⟩ ?_
  simp only [List.setIfInBounds_toArray, List.set]
  refine held_take (i := 9) (v := (.string s)) rfl rfl (by kernel_rfl) (by kernel_rfl) (by kernel_rfl) (fun _ _ _ h => h) (Or.inl ⟨by rfl, fun w hS => by have hc := F9.out w hS; go_simp⟩) ⟨HT1.out, HC1.out⟩ ?_
  simp only [List.setIfInBounds_toArray, List.set]
  refine held_pure (i := 10) (v := (.int .i64 s.size)) rfl rfl (by kernel_rfl) (by kernel_rfl) (by kernel_rfl) (fun _ _ _ h => h) (Or.inl ⟨by rfl, fun w => by go_simp⟩) ⟨HT1.out, HC1.out⟩ ?_
  simp only [List.setIfInBounds_toArray, List.set]
  refine held_pure (i := 11) (v := (.bool true)) rfl rfl (by kernel_rfl) (by kernel_rfl) (by kernel_rfl) (fun _ _ _ h => h) (Or.inl ⟨by rfl, fun w => by go_simp⟩) ⟨HT1.out, HC1.out⟩ ?_
  simp only [List.setIfInBounds_toArray, List.set]
  refine held_pure (i := 12) (v := (.bool true)) rfl rfl (by kernel_rfl) (by kernel_rfl) (by kernel_rfl) (fun _ _ _ h => h) (Or.inl ⟨by rfl, fun w => by go_simp⟩) ⟨HT1.out, HC1.out⟩ ?_
  simp only [List.setIfInBounds_toArray, List.set]
  refine held_pure (i := 13) (v := (.bool true)) rfl rfl (by kernel_rfl) (by kernel_rfl) (by kernel_rfl) (fun _ _ _ h => h) (Or.inl ⟨by rfl, fun w => by go_simp⟩) ⟨HT1.out, HC1.out⟩ ?_
  simp only [List.setIfInBounds_toArray, List.set]
  refine wpAnyH_done (by kernel_rfl) ?_ _
  clear F0 F3 F4 F5 F9 hS0
  go_wp2_with fail
  go_ret
  exact ⟨rfl, HC1.out, HD1.out⟩


set_option maxHeartbeats 4000000 in
theorem program_used (h : Chip B gc gl gp pg pv st p w) (hh : Held T a B gc gl gp pg pv st.segs w) (i j : Nat) (s : ByteArray) (ho : p.off = false) (hi : i < st.segs) (hj : j < st.pages) (hs : s.size ≤ 256) (hu : (st.page i j).isSome = true) :
    Calls Try.prog 15 #[.pointer (some ⟨gc, 0, none⟩), .int .i64 i, .int .i64 j, .string s] w fun e w' =>  e = .returned (.int .i64 100) ∧ Chip B gc gl gp pg pv st p w' ∧ Held T a B gc gl gp pg pv st.segs w' := by
  have HT0 : Hid (Tab (((w.heap.size + 1 + 1 + 1), #[.string s], 9) :: ((w.heap.size + 1 + 1), #[.int .i64 j], 3) :: ((w.heap.size + 1), #[.int .i64 i], 3) :: (w.heap.size, #[.pointer (some ⟨gc, 0, none⟩)], 23) :: T) a ((((w.alloc (.cells #[.pointer (some ⟨gc, 0, none⟩)] 23)).alloc (.cells #[.int .i64 i] 3)).alloc (.cells #[.int .i64 j] 3)).alloc (.cells #[.string s] 9))) := box4 hh.tab _ _ _ _ _ _ _ _
  have HC0 : Hid (Chip B gc gl gp pg pv st p ((((w.alloc (.cells #[.pointer (some ⟨gc, 0, none⟩)] 23)).alloc (.cells #[.int .i64 i] 3)).alloc (.cells #[.int .i64 j] 3)).alloc (.cells #[.string s] 9))) := h.keep (box4_only _ _ _ _ _ _ _ _ _)
  have HH0 : Hid (Held T a B gc gl gp pg pv st.segs ((((w.alloc (.cells #[.pointer (some ⟨gc, 0, none⟩)] 23)).alloc (.cells #[.int .i64 i] 3)).alloc (.cells #[.int .i64 j] 3)).alloc (.cells #[.string s] 9))) := hh.on (box4_only _ _ _ _ _ _ _ _ _)
  have HU := Lib.hid (up_any gp p _ HC0.out.pw)
  rw [ho] at HU
  have HH1 := Lib.hid (fun W => has_any st.segs st.pages i j W h.lens.1 h.lens.2)
  rw [show hasB st.segs st.pages (i : Int) (j : Int) = true by simp only [hasB, decide_eq_true_eq]; omega] at HH1
  have HFR := Lib.hid ((Free.new (bs := w.heap.size + 1 + 1 + 1) h (by omega)).keep h (box4_only w #[.pointer (some ⟨gc, 0, none⟩)] #[.int .i64 i] #[.int .i64 j] #[.string s] 23 3 3 9))
  have b0 := HT0.out.c 3 rfl 0 (v := .pointer (some ⟨gc, 0, none⟩)) rfl
  have c2 := HC0.out.c2
  have HI := Lib.hid hi
  have HJ := Lib.hid hj
  have hbi : ¬ (256 : Int) < (s.size : Int) := by omega
  have hbd : decide ((256 : Int) < (s.size : Int)) = false := decide_eq_false hbi
  have hij : (i : Int) < (st.segs : Int) := by omega
  have hjj : (j : Int) < (st.pages : Int) := by omega
  have hi0 : (0 : Int) ≤ (i : Int) := by omega
  have hj0 : (0 : Int) ≤ (j : Int) := by omega
  have HU5 := Lib.hid hu
  clear h hh ho hu hi hj hs
  go_enter Try.func15, Try.ntmps15
  go_wp2_with fail
  refine HU.out.mono ?_
  rintro e w1 ⟨rfl, rfl⟩
  go_wp2_with fail
  refine wp_region_held (S := (fun W => Tab (((w.heap.size + 1 + 1 + 1), #[.string s], 9) :: ((w.heap.size + 1 + 1), #[.int .i64 j], 3) :: ((w.heap.size + 1), #[.int .i64 i], 3) :: (w.heap.size, #[.pointer (some ⟨gc, 0, none⟩)], 23) :: T) a W ∧ Chip B gc gl gp pg pv st p W)) (by kernel_rfl) ?_
  change wpAnyH _ _ _ _ _ _ _ _ (World.drew _)
  have hS0 : (fun W => Tab (((w.heap.size + 1 + 1 + 1), #[.string s], 9) :: ((w.heap.size + 1 + 1), #[.int .i64 j], 3) :: ((w.heap.size + 1), #[.int .i64 i], 3) :: (w.heap.size, #[.pointer (some ⟨gc, 0, none⟩)], 23) :: T) a W ∧ Chip B gc gl gp pg pv st p W) (World.drew ((((w.alloc (.cells #[.pointer (some ⟨gc, 0, none⟩)] 23)).alloc (.cells #[.int .i64 i] 3)).alloc (.cells #[.int .i64 j] 3)).alloc (.cells #[.string s] 9))) := ⟨HT0.out.drew, HC0.out.keep (Only.refl _ _).drew⟩
  have F0 := Lib.hid (fun W (h : (fun W => Tab (((w.heap.size + 1 + 1 + 1), #[.string s], 9) :: ((w.heap.size + 1 + 1), #[.int .i64 j], 3) :: ((w.heap.size + 1), #[.int .i64 i], 3) :: (w.heap.size, #[.pointer (some ⟨gc, 0, none⟩)], 23) :: T) a W ∧ Chip B gc gl gp pg pv st p W) W) => h.1.c 3 rfl 0 (v := .pointer (some ⟨gc, 0, none⟩)) rfl)
  have F3 := Lib.hid (fun W (h : (fun W => Tab (((w.heap.size + 1 + 1 + 1), #[.string s], 9) :: ((w.heap.size + 1 + 1), #[.int .i64 j], 3) :: ((w.heap.size + 1), #[.int .i64 i], 3) :: (w.heap.size, #[.pointer (some ⟨gc, 0, none⟩)], 23) :: T) a W ∧ Chip B gc gl gp pg pv st p W) W) => h.2.size)
  have F4 := Lib.hid (fun W (h : (fun W => Tab (((w.heap.size + 1 + 1 + 1), #[.string s], 9) :: ((w.heap.size + 1 + 1), #[.int .i64 j], 3) :: ((w.heap.size + 1), #[.int .i64 i], 3) :: (w.heap.size, #[.pointer (some ⟨gc, 0, none⟩)], 23) :: T) a W ∧ Chip B gc gl gp pg pv st p W) W) => h.1.c 2 rfl 0 (v := .int .i64 i) rfl)
  have F5 := Lib.hid (fun W (h : (fun W => Tab (((w.heap.size + 1 + 1 + 1), #[.string s], 9) :: ((w.heap.size + 1 + 1), #[.int .i64 j], 3) :: ((w.heap.size + 1), #[.int .i64 i], 3) :: (w.heap.size, #[.pointer (some ⟨gc, 0, none⟩)], 23) :: T) a W ∧ Chip B gc gl gp pg pv st p W) W) => h.1.c 1 rfl 0 (v := .int .i64 j) rfl)
  have F9 := Lib.hid (fun W (h : (fun W => Tab (((w.heap.size + 1 + 1 + 1), #[.string s], 9) :: ((w.heap.size + 1 + 1), #[.int .i64 j], 3) :: ((w.heap.size + 1), #[.int .i64 i], 3) :: (w.heap.size, #[.pointer (some ⟨gc, 0, none⟩)], 23) :: T) a W ∧ Chip B gc gl gp pg pv st p W) W) => h.1.c 0 rfl 0 (v := .string s) rfl)
  refine held_take (i := 0) (v := (.pointer (some ⟨gc, 0, none⟩))) rfl rfl (by kernel_rfl) (by kernel_rfl) (by kernel_rfl) (fun _ _ _ h => h) (Or.inl ⟨by rfl, fun w hS => by have hc := F0.out w hS; go_simp⟩) hS0 ?_
  simp only [List.setIfInBounds_toArray, List.set]
  refine held_pure (i := 1) (v := (.pointer (some ⟨gc, 0, none⟩))) rfl rfl (by kernel_rfl) (by kernel_rfl) (by kernel_rfl) (fun _ _ _ h => h) (Or.inl ⟨by rfl, fun w => by go_simp⟩) hS0 ?_
  simp only [List.setIfInBounds_toArray, List.set]
  refine held_pure (i := 2) (v := (.pointer (some ⟨gc, 0, none⟩))) rfl rfl (by kernel_rfl) (by kernel_rfl) (by kernel_rfl) (fun _ _ _ h => h) (Or.inl ⟨by rfl, fun w => by go_simp⟩) hS0 ?_
  simp only [List.setIfInBounds_toArray, List.set]
  refine held_take (i := 3) (v := (.agg (szA st.segs st.pages))) rfl rfl (by kernel_rfl) (by kernel_rfl) (by kernel_rfl) (fun _ _ _ h => h) (yields_load_w (by rfl) 72 (.tmp 19) rfl _ rfl _ F3.out) hS0 ?_
  simp only [List.setIfInBounds_toArray, List.set]
  refine held_take (i := 4) (v := (.int .i64 i)) rfl rfl (by kernel_rfl) (by kernel_rfl) (by kernel_rfl) (fun _ _ _ h => h) (Or.inl ⟨by rfl, fun w hS => by have hc := F4.out w hS; go_simp⟩) hS0 ?_
  simp only [List.setIfInBounds_toArray, List.set]
  refine held_take (i := 5) (v := (.int .i64 j)) rfl rfl (by kernel_rfl) (by kernel_rfl) (by kernel_rfl) (fun _ _ _ h => h) (Or.inl ⟨by rfl, fun w hS => by have hc := F5.out w hS; go_simp⟩) hS0 ?_
  simp only [List.setIfInBounds_toArray, List.set]
  refine held_call (j := 6) (by kernel_rfl) rfl rfl (by rfl) Try.func34 (by kernel_rfl) rfl rfl [.agg (szA st.segs st.pages), .int .i64 i, .int .i64 j] rfl (HH1.out _) ?_
  intro y1 k1
  have HT1 := Lib.hid (hS0.1.call k1)
  have HC1 := Lib.hid (hS0.2.call k1)
  have HD1 := Lib.hid ((HH0.out.on (Only.refl _ _).drew).on (Only.of_below k1))
  have HN1 : Hid (w.heap.size ≤ y1.heap.size) := Nat.le_trans (by simp; omega) k1.size
  have HF1 := Lib.hid ((HFR.out.keep HC0.out (Only.refl _ _).drew).keep (HC0.out.keep (Only.refl _ _).drew) (Only.of_below k1))
  clear k1
  refine ⟨⟨HT1.out, HC1.out⟩, ?_⟩
  simp only [List.setIfInBounds_toArray, List.set]
  refine held_pure (i := 7) (v := (.bool false)) rfl rfl (by kernel_rfl) (by kernel_rfl) (by kernel_rfl) (fun _ _ _ h => h) (Or.inl ⟨by rfl, fun w => by go_simp⟩) ⟨HT1.out, HC1.out⟩ ?_
  simp only [List.setIfInBounds_toArray, List.set]
  refine held_pure (i := 8) (v := (.bool false)) rfl rfl (by kernel_rfl) (by kernel_rfl) (by kernel_rfl) (fun _ _ _ h => h) (Or.inl ⟨by rfl, fun w => by go_simp⟩) ⟨HT1.out, HC1.out⟩ ?_
  simp only [List.setIfInBounds_toArray, List.set]
  refine held_take (i := 9) (v := (.string s)) rfl rfl (by kernel_rfl) (by kernel_rfl) (by kernel_rfl) (fun _ _ _ h => h) (Or.inl ⟨by rfl, fun w hS => by have hc := F9.out w hS; go_simp⟩) ⟨HT1.out, HC1.out⟩ ?_
  simp only [List.setIfInBounds_toArray, List.set]
  refine held_pure (i := 10) (v := (.int .i64 s.size)) rfl rfl (by kernel_rfl) (by kernel_rfl) (by kernel_rfl) (fun _ _ _ h => h) (Or.inl ⟨by rfl, fun w => by go_simp⟩) ⟨HT1.out, HC1.out⟩ ?_
  simp only [List.setIfInBounds_toArray, List.set]
  refine held_pure (i := 11) (v := (.bool false)) rfl rfl (by kernel_rfl) (by kernel_rfl) (by kernel_rfl) (fun _ _ _ h => h) (Or.inl ⟨by rfl, fun w => by go_simp⟩) ⟨HT1.out, HC1.out⟩ ?_
  simp only [List.setIfInBounds_toArray, List.set]
  refine held_pure (i := 12) (v := (.bool false)) rfl rfl (by kernel_rfl) (by kernel_rfl) (by kernel_rfl) (fun _ _ _ h => h) (Or.inl ⟨by rfl, fun w => by go_simp⟩) ⟨HT1.out, HC1.out⟩ ?_
  simp only [List.setIfInBounds_toArray, List.set]
  refine held_pure (i := 13) (v := (.bool false)) rfl rfl (by kernel_rfl) (by kernel_rfl) (by kernel_rfl) (fun _ _ _ h => h) (Or.inl ⟨by rfl, fun w => by go_simp⟩) ⟨HT1.out, HC1.out⟩ ?_
  simp only [List.setIfInBounds_toArray, List.set]
  refine wpAnyH_done (by kernel_rfl) ?_ _
  clear F0 F3 F4 F5 F9 hS0
  go_wp2_with fail
  have HC5 := Lib.hid (HC1.out.keep (Only.refl _ y1).drew)
  have HT5 := Lib.hid HT1.out.drew
  have HD5 := Lib.hid (HD1.out.on (Only.refl _ y1).drew)
  have HF5 := Lib.hid (HF1.out.keep HC1.out (Only.refl _ y1).drew)
  obtain ⟨v, cv, hv⟩ := HC1.out.pc HI.out HJ.out
  obtain ⟨b, rfl⟩ : ∃ b, v = .pointer (some ⟨b, 0, none⟩) := by
    rcases hv with ⟨e, _⟩ | ⟨b, _, _, e, _⟩
    · have := HU5.out; rw [e] at this; cases this
    · exact ⟨b, e⟩
  have CV := Lib.hid cv
  clear hv cv
  refine wp_region_held (S := (fun W => W = World.drew y1)) (by kernel_rfl) ?_
  change wpAnyH _ _ _ _ _ _ _ _ (World.drew _)
  have hS0 : (fun W => W = World.drew y1) (World.drew y1) := rfl
  have G0 := Lib.hid (fun W (h : (fun W => W = World.drew y1) W) => (HT1.out.c 3 rfl 0 (v := .pointer (some ⟨gc, 0, none⟩)) rfl))
  have G3 := Lib.hid (fun W (h : (fun W => W = World.drew y1) W) => (HC1.out.c4))
  have G4 := Lib.hid (fun W (h : (fun W => W = World.drew y1) W) => (HT1.out.c 2 rfl 0 (v := .int .i64 i) rfl))
  have G7 := Lib.hid (fun W (h : (fun W => W = World.drew y1) W) => (HC1.out.pgs HI.out))
  have G8 := Lib.hid (fun W (h : (fun W => W = World.drew y1) W) => (HT1.out.c 1 rfl 0 (v := .int .i64 j) rfl))
  have G9 := Lib.hid (fun W (h : (fun W => W = World.drew y1) W) => (CV.out))
  refine held_take (i := 0) (v := (.pointer (some ⟨gc, 0, none⟩))) rfl rfl (by kernel_rfl) (by kernel_rfl) (by kernel_rfl) (fun _ _ _ h => h) (Or.inl ⟨by rfl, fun w hS => by have hc := G0.out w hS; go_simp⟩) hS0 ?_
  simp only [List.setIfInBounds_toArray, List.set]
  refine held_pure (i := 1) (v := (.pointer (some ⟨gc, 0, none⟩))) rfl rfl (by kernel_rfl) (by kernel_rfl) (by kernel_rfl) (fun _ _ _ h => h) (Or.inl ⟨by rfl, fun w => by go_simp⟩) hS0 ?_
  simp only [List.setIfInBounds_toArray, List.set]
  refine held_pure (i := 2) (v := (.pointer (some ⟨gc, 4, none⟩))) rfl rfl (by kernel_rfl) (by kernel_rfl) (by kernel_rfl) (fun _ _ _ h => h) (Or.inl ⟨by rfl, fun w => by go_simp⟩) hS0 ?_
  simp only [List.setIfInBounds_toArray, List.set]
  refine held_take (i := 3) (v := (.slice (some ⟨gl, 0, none⟩) st.segs st.segs)) rfl rfl (by kernel_rfl) (by kernel_rfl) (by kernel_rfl) (fun _ _ _ h => h) (Or.inl ⟨by rfl, fun w hS => by have hc := G3.out w hS; go_simp⟩) hS0 ?_
  simp only [List.setIfInBounds_toArray, List.set]
  refine held_take (i := 4) (v := (.int .i64 i)) rfl rfl (by kernel_rfl) (by kernel_rfl) (by kernel_rfl) (fun _ _ _ h => h) (Or.inl ⟨by rfl, fun w hS => by have hc := G4.out w hS; go_simp⟩) hS0 ?_
  simp only [List.setIfInBounds_toArray, List.set]
  refine held_pure (i := 5) (v := (.pointer (some ⟨gl, i * 3, none⟩))) rfl rfl (by kernel_rfl) (by kernel_rfl) (by kernel_rfl) (fun _ _ _ h => h) (Or.inl ⟨by rfl, fun w => by go_simp⟩) hS0 ?_
  simp only [List.setIfInBounds_toArray, List.set]
  refine held_pure (i := 6) (v := (.pointer (some ⟨gl, i * 3, none⟩))) rfl rfl (by kernel_rfl) (by kernel_rfl) (by kernel_rfl) (fun _ _ _ h => h) (Or.inl ⟨by rfl, fun w => by go_simp⟩) hS0 ?_
  simp only [List.setIfInBounds_toArray, List.set]
  refine held_take (i := 7) (v := (.slice (some ⟨pg i, 0, none⟩) st.pages st.pages)) rfl rfl (by kernel_rfl) (by kernel_rfl) (by kernel_rfl) (fun _ _ _ h => h) (Or.inl ⟨by rfl, fun w hS => by have hc := G7.out w hS; go_simp⟩) hS0 ?_
  simp only [List.setIfInBounds_toArray, List.set]
  refine held_take (i := 8) (v := (.int .i64 j)) rfl rfl (by kernel_rfl) (by kernel_rfl) (by kernel_rfl) (fun _ _ _ h => h) (Or.inl ⟨by rfl, fun w hS => by have hc := G8.out w hS; go_simp⟩) hS0 ?_
  simp only [List.setIfInBounds_toArray, List.set]
  refine held_pure (i := 9) (v := (.pointer (some ⟨pg i, j, none⟩))) rfl rfl (by kernel_rfl) (by kernel_rfl) (by kernel_rfl) (fun _ _ _ h => h) (Or.inl ⟨by rfl, fun w => by go_simp⟩) hS0 ?_
  simp only [List.setIfInBounds_toArray, List.set]
  refine held_take (i := 10) (v := (.pointer (some ⟨b, 0, none⟩))) rfl rfl (by kernel_rfl) (by kernel_rfl) (by kernel_rfl) (fun _ _ _ h => h) (Or.inl ⟨by rfl, fun w hS => by have hc := G9.out w hS; go_simp⟩) hS0 ?_
  simp only [List.setIfInBounds_toArray, List.set]
  refine held_pure (i := 11) (v := (.bool true)) rfl rfl (by kernel_rfl) (by kernel_rfl) (by kernel_rfl) (fun _ _ _ h => h) (Or.inl ⟨by rfl, fun w => by go_simp⟩) hS0 ?_
  simp only [List.setIfInBounds_toArray, List.set]
  refine held_pure (i := 12) (v := (.bool true)) rfl rfl (by kernel_rfl) (by kernel_rfl) (by kernel_rfl) (fun _ _ _ h => h) (Or.inl ⟨by rfl, fun w => by go_simp⟩) hS0 ?_
  simp only [List.setIfInBounds_toArray, List.set]
  refine wpAnyH_done (by kernel_rfl) ?_ _
  clear G0 G3 G4 G7 G8 G9 hS0
  go_wp2_with fail
  go_ret
  exact ⟨rfl, HC5.out, HD5.out⟩


theorem fillT_size {s : ByteArray} (h : s.size ≤ 256) : (fillT s).size = 256 := by
  rw [fillT, ByteArray.size_append]
  have : (ByteArray.mk (Lib.repeatL [0] (256 - s.size)).toArray).size = 256 - s.size := by
    show (Lib.repeatL [0] (256 - s.size)).toArray.size = _
    simp [repeatL_size]
  omega
set_option maxHeartbeats 8000000 in
theorem program_do (h : Chip B gc gl gp pg pv st p w) (hh : Held T a B gc gl gp pg pv st.segs w) (i j : Nat) (s : ByteArray) (ho : p.off = false) (hi : i < st.segs) (hj : j < st.pages) (hs : s.size ≤ 256) (hu : (st.page i j).isSome = false) (hpi : p.In) (hN : st.past.length ≤ 100000) (hP : 0 ≤ st.programs ∧ st.programs ≤ 100000) :
    Calls Try.prog 15 #[.pointer (some ⟨gc, 0, none⟩), .int .i64 i, .int .i64 j, .string s] w fun e w' =>  e = .returned (.int .i64 p.err) ∧ ∃ pv', Chip B gc gl gp pg pv' (st.prg i j (doneT p.next p.whole (fillT s))) p.next w' ∧ Held T a B gc gl gp pg pv' st.segs w' := by
  have HT0 : Hid (Tab (((w.heap.size + 1 + 1 + 1), #[.string s], 9) :: ((w.heap.size + 1 + 1), #[.int .i64 j], 3) :: ((w.heap.size + 1), #[.int .i64 i], 3) :: (w.heap.size, #[.pointer (some ⟨gc, 0, none⟩)], 23) :: T) a ((((w.alloc (.cells #[.pointer (some ⟨gc, 0, none⟩)] 23)).alloc (.cells #[.int .i64 i] 3)).alloc (.cells #[.int .i64 j] 3)).alloc (.cells #[.string s] 9))) := box4 hh.tab _ _ _ _ _ _ _ _
  have HC0 : Hid (Chip B gc gl gp pg pv st p ((((w.alloc (.cells #[.pointer (some ⟨gc, 0, none⟩)] 23)).alloc (.cells #[.int .i64 i] 3)).alloc (.cells #[.int .i64 j] 3)).alloc (.cells #[.string s] 9))) := h.keep (box4_only _ _ _ _ _ _ _ _ _)
  have HH0 : Hid (Held T a B gc gl gp pg pv st.segs ((((w.alloc (.cells #[.pointer (some ⟨gc, 0, none⟩)] 23)).alloc (.cells #[.int .i64 i] 3)).alloc (.cells #[.int .i64 j] 3)).alloc (.cells #[.string s] 9))) := hh.on (box4_only _ _ _ _ _ _ _ _ _)
  have HU := Lib.hid (up_any gp p _ HC0.out.pw)
  rw [ho] at HU
  have HH1 := Lib.hid (fun W => has_any st.segs st.pages i j W h.lens.1 h.lens.2)
  rw [show hasB st.segs st.pages (i : Int) (j : Int) = true by simp only [hasB, decide_eq_true_eq]; omega] at HH1
  have HFR := Lib.hid ((Free.new (bs := w.heap.size + 1 + 1 + 1) h (by omega)).keep h (box4_only w #[.pointer (some ⟨gc, 0, none⟩)] #[.int .i64 i] #[.int .i64 j] #[.string s] 23 3 3 9))
  have b0 := HT0.out.c 3 rfl 0 (v := .pointer (some ⟨gc, 0, none⟩)) rfl
  have c2 := HC0.out.c2
  have HI := Lib.hid hi
  have HJ := Lib.hid hj
  have hbi : ¬ (256 : Int) < (s.size : Int) := by omega
  have hbd : decide ((256 : Int) < (s.size : Int)) = false := decide_eq_false hbi
  have hij : (i : Int) < (st.segs : Int) := by omega
  have hjj : (j : Int) < (st.pages : Int) := by omega
  have hi0 : (0 : Int) ≤ (i : Int) := by omega
  have hj0 : (0 : Int) ≤ (j : Int) := by omega
  have HU5 := Lib.hid hu
  have HPI := Lib.hid hpi
  have HPN := Lib.hid hN
  have HPP := Lib.hid hP
  have HFS := Lib.hid (fillT_size hs)
  have HNB : Hid (∀ k, w.heap.size ≤ k → ¬ Mine gc gl gp pg pv st.segs k) := fun k hk hm => by have := h.mine_lt hm; omega
  have HNR : Hid (∀ q ∈ (((w.heap.size + 1 + 1 + 1), #[.string (fillT s)], 9) :: ((w.heap.size + 1 + 1), #[.int .i64 j], 3) :: ((w.heap.size + 1), #[.int .i64 i], 3) :: (w.heap.size, #[.pointer (some ⟨gc, 0, none⟩)], 23) :: T), ¬ Mine gc gl gp pg pv st.segs q.1) := fun q hq => by
    rcases List.mem_cons.1 hq with rfl | hq
    · exact HNB.out _ (by simp only; omega)
    · rcases List.mem_cons.1 hq with rfl | hq
      · exact HNB.out _ (by simp only; omega)
      · rcases List.mem_cons.1 hq with rfl | hq
        · exact HNB.out _ (by simp only; omega)
        · rcases List.mem_cons.1 hq with rfl | hq
          · exact HNB.out _ (by simp only; omega)
          · exact hh.no q hq
  have HRP := Lib.hid (fun W => Try.strings_Repeat ⟨#[0]⟩ (256 - s.size) W (by omega) (by show 1 * (256 - s.size) ≤ _; omega))
  have HAD2 : Hid (s.size + (Lib.repeatL [0] (256 - s.size)).length ≤ 9223372036854775807) := by
    unfold Hid
    rw [repeatL_size]
    omega
  have HSB : Hid (IntKind.i64.wrap (256 - (s.size : Int)) = ((256 - s.size : Nat) : Int)) := by
    unfold Hid
    rw [IntKind.wrap_i64]
    omega
  clear h hh ho hu hi hj hs hpi hN hP
  go_enter Try.func15, Try.ntmps15
  go_wp2_with fail
  refine HU.out.mono ?_
  rintro e w1 ⟨rfl, rfl⟩
  go_wp2_with fail
  refine wp_region_held (S := (fun W => Tab (((w.heap.size + 1 + 1 + 1), #[.string s], 9) :: ((w.heap.size + 1 + 1), #[.int .i64 j], 3) :: ((w.heap.size + 1), #[.int .i64 i], 3) :: (w.heap.size, #[.pointer (some ⟨gc, 0, none⟩)], 23) :: T) a W ∧ Chip B gc gl gp pg pv st p W)) (by kernel_rfl) ?_
  change wpAnyH _ _ _ _ _ _ _ _ (World.drew _)
  have hS0 : (fun W => Tab (((w.heap.size + 1 + 1 + 1), #[.string s], 9) :: ((w.heap.size + 1 + 1), #[.int .i64 j], 3) :: ((w.heap.size + 1), #[.int .i64 i], 3) :: (w.heap.size, #[.pointer (some ⟨gc, 0, none⟩)], 23) :: T) a W ∧ Chip B gc gl gp pg pv st p W) (World.drew ((((w.alloc (.cells #[.pointer (some ⟨gc, 0, none⟩)] 23)).alloc (.cells #[.int .i64 i] 3)).alloc (.cells #[.int .i64 j] 3)).alloc (.cells #[.string s] 9))) := ⟨HT0.out.drew, HC0.out.keep (Only.refl _ _).drew⟩
  have F0 := Lib.hid (fun W (h : (fun W => Tab (((w.heap.size + 1 + 1 + 1), #[.string s], 9) :: ((w.heap.size + 1 + 1), #[.int .i64 j], 3) :: ((w.heap.size + 1), #[.int .i64 i], 3) :: (w.heap.size, #[.pointer (some ⟨gc, 0, none⟩)], 23) :: T) a W ∧ Chip B gc gl gp pg pv st p W) W) => h.1.c 3 rfl 0 (v := .pointer (some ⟨gc, 0, none⟩)) rfl)
  have F3 := Lib.hid (fun W (h : (fun W => Tab (((w.heap.size + 1 + 1 + 1), #[.string s], 9) :: ((w.heap.size + 1 + 1), #[.int .i64 j], 3) :: ((w.heap.size + 1), #[.int .i64 i], 3) :: (w.heap.size, #[.pointer (some ⟨gc, 0, none⟩)], 23) :: T) a W ∧ Chip B gc gl gp pg pv st p W) W) => h.2.size)
  have F4 := Lib.hid (fun W (h : (fun W => Tab (((w.heap.size + 1 + 1 + 1), #[.string s], 9) :: ((w.heap.size + 1 + 1), #[.int .i64 j], 3) :: ((w.heap.size + 1), #[.int .i64 i], 3) :: (w.heap.size, #[.pointer (some ⟨gc, 0, none⟩)], 23) :: T) a W ∧ Chip B gc gl gp pg pv st p W) W) => h.1.c 2 rfl 0 (v := .int .i64 i) rfl)
  have F5 := Lib.hid (fun W (h : (fun W => Tab (((w.heap.size + 1 + 1 + 1), #[.string s], 9) :: ((w.heap.size + 1 + 1), #[.int .i64 j], 3) :: ((w.heap.size + 1), #[.int .i64 i], 3) :: (w.heap.size, #[.pointer (some ⟨gc, 0, none⟩)], 23) :: T) a W ∧ Chip B gc gl gp pg pv st p W) W) => h.1.c 1 rfl 0 (v := .int .i64 j) rfl)
  have F9 := Lib.hid (fun W (h : (fun W => Tab (((w.heap.size + 1 + 1 + 1), #[.string s], 9) :: ((w.heap.size + 1 + 1), #[.int .i64 j], 3) :: ((w.heap.size + 1), #[.int .i64 i], 3) :: (w.heap.size, #[.pointer (some ⟨gc, 0, none⟩)], 23) :: T) a W ∧ Chip B gc gl gp pg pv st p W) W) => h.1.c 0 rfl 0 (v := .string s) rfl)
  refine held_take (i := 0) (v := (.pointer (some ⟨gc, 0, none⟩))) rfl rfl (by kernel_rfl) (by kernel_rfl) (by kernel_rfl) (fun _ _ _ h => h) (Or.inl ⟨by rfl, fun w hS => by have hc := F0.out w hS; go_simp⟩) hS0 ?_
  simp only [List.setIfInBounds_toArray, List.set]
  refine held_pure (i := 1) (v := (.pointer (some ⟨gc, 0, none⟩))) rfl rfl (by kernel_rfl) (by kernel_rfl) (by kernel_rfl) (fun _ _ _ h => h) (Or.inl ⟨by rfl, fun w => by go_simp⟩) hS0 ?_
  simp only [List.setIfInBounds_toArray, List.set]
  refine held_pure (i := 2) (v := (.pointer (some ⟨gc, 0, none⟩))) rfl rfl (by kernel_rfl) (by kernel_rfl) (by kernel_rfl) (fun _ _ _ h => h) (Or.inl ⟨by rfl, fun w => by go_simp⟩) hS0 ?_
  simp only [List.setIfInBounds_toArray, List.set]
  refine held_take (i := 3) (v := (.agg (szA st.segs st.pages))) rfl rfl (by kernel_rfl) (by kernel_rfl) (by kernel_rfl) (fun _ _ _ h => h) (yields_load_w (by rfl) 72 (.tmp 19) rfl _ rfl _ F3.out) hS0 ?_
  simp only [List.setIfInBounds_toArray, List.set]
  refine held_take (i := 4) (v := (.int .i64 i)) rfl rfl (by kernel_rfl) (by kernel_rfl) (by kernel_rfl) (fun _ _ _ h => h) (Or.inl ⟨by rfl, fun w hS => by have hc := F4.out w hS; go_simp⟩) hS0 ?_
  simp only [List.setIfInBounds_toArray, List.set]
  refine held_take (i := 5) (v := (.int .i64 j)) rfl rfl (by kernel_rfl) (by kernel_rfl) (by kernel_rfl) (fun _ _ _ h => h) (Or.inl ⟨by rfl, fun w hS => by have hc := F5.out w hS; go_simp⟩) hS0 ?_
  simp only [List.setIfInBounds_toArray, List.set]
  refine held_call (j := 6) (by kernel_rfl) rfl rfl (by rfl) Try.func34 (by kernel_rfl) rfl rfl [.agg (szA st.segs st.pages), .int .i64 i, .int .i64 j] rfl (HH1.out _) ?_
  intro y1 k1
  have HT1 := Lib.hid (hS0.1.call k1)
  have HC1 := Lib.hid (hS0.2.call k1)
  have HD1 := Lib.hid ((HH0.out.on (Only.refl _ _).drew).on (Only.of_below k1))
  have HN1 : Hid (w.heap.size ≤ y1.heap.size) := Nat.le_trans (by simp; omega) k1.size
  have HF1 := Lib.hid ((HFR.out.keep HC0.out (Only.refl _ _).drew).keep (HC0.out.keep (Only.refl _ _).drew) (Only.of_below k1))
  clear k1
  refine ⟨⟨HT1.out, HC1.out⟩, ?_⟩
  simp only [List.setIfInBounds_toArray, List.set]
  refine held_pure (i := 7) (v := (.bool false)) rfl rfl (by kernel_rfl) (by kernel_rfl) (by kernel_rfl) (fun _ _ _ h => h) (Or.inl ⟨by rfl, fun w => by go_simp⟩) ⟨HT1.out, HC1.out⟩ ?_
  simp only [List.setIfInBounds_toArray, List.set]
  refine held_pure (i := 8) (v := (.bool false)) rfl rfl (by kernel_rfl) (by kernel_rfl) (by kernel_rfl) (fun _ _ _ h => h) (Or.inl ⟨by rfl, fun w => by go_simp⟩) ⟨HT1.out, HC1.out⟩ ?_
  simp only [List.setIfInBounds_toArray, List.set]
  refine held_take (i := 9) (v := (.string s)) rfl rfl (by kernel_rfl) (by kernel_rfl) (by kernel_rfl) (fun _ _ _ h => h) (Or.inl ⟨by rfl, fun w hS => by have hc := F9.out w hS; go_simp⟩) ⟨HT1.out, HC1.out⟩ ?_
  simp only [List.setIfInBounds_toArray, List.set]
  refine held_pure (i := 10) (v := (.int .i64 s.size)) rfl rfl (by kernel_rfl) (by kernel_rfl) (by kernel_rfl) (fun _ _ _ h => h) (Or.inl ⟨by rfl, fun w => by go_simp⟩) ⟨HT1.out, HC1.out⟩ ?_
  simp only [List.setIfInBounds_toArray, List.set]
  refine held_pure (i := 11) (v := (.bool false)) rfl rfl (by kernel_rfl) (by kernel_rfl) (by kernel_rfl) (fun _ _ _ h => h) (Or.inl ⟨by rfl, fun w => by go_simp⟩) ⟨HT1.out, HC1.out⟩ ?_
  simp only [List.setIfInBounds_toArray, List.set]
  refine held_pure (i := 12) (v := (.bool false)) rfl rfl (by kernel_rfl) (by kernel_rfl) (by kernel_rfl) (fun _ _ _ h => h) (Or.inl ⟨by rfl, fun w => by go_simp⟩) ⟨HT1.out, HC1.out⟩ ?_
  simp only [List.setIfInBounds_toArray, List.set]
  refine held_pure (i := 13) (v := (.bool false)) rfl rfl (by kernel_rfl) (by kernel_rfl) (by kernel_rfl) (fun _ _ _ h => h) (Or.inl ⟨by rfl, fun w => by go_simp⟩) ⟨HT1.out, HC1.out⟩ ?_
  simp only [List.setIfInBounds_toArray, List.set]
  refine wpAnyH_done (by kernel_rfl) ?_ _
  clear F0 F3 F4 F5 F9 hS0
  go_wp2_with fail
  have HC5 := Lib.hid (HC1.out.keep (Only.refl _ y1).drew)
  have HT5 := Lib.hid HT1.out.drew
  have HD5 := Lib.hid (HD1.out.on (Only.refl _ y1).drew)
  have HF5 := Lib.hid (HF1.out.keep HC1.out (Only.refl _ y1).drew)
  obtain ⟨v, cv, hv⟩ := HC1.out.pc HI.out HJ.out
  obtain rfl : v = .pointer none := by
    rcases hv with ⟨_, e⟩ | ⟨b, _, e, _⟩
    · exact e
    · have := HU5.out; rw [e] at this; cases this
  have CV := Lib.hid cv
  clear hv cv
  refine wp_region_held (S := (fun W => W = World.drew y1)) (by kernel_rfl) ?_
  change wpAnyH _ _ _ _ _ _ _ _ (World.drew _)
  have hS0 : (fun W => W = World.drew y1) (World.drew y1) := rfl
  have G0 := Lib.hid (fun W (h : (fun W => W = World.drew y1) W) => (HT1.out.c 3 rfl 0 (v := .pointer (some ⟨gc, 0, none⟩)) rfl))
  have G3 := Lib.hid (fun W (h : (fun W => W = World.drew y1) W) => (HC1.out.c4))
  have G4 := Lib.hid (fun W (h : (fun W => W = World.drew y1) W) => (HT1.out.c 2 rfl 0 (v := .int .i64 i) rfl))
  have G7 := Lib.hid (fun W (h : (fun W => W = World.drew y1) W) => (HC1.out.pgs HI.out))
  have G8 := Lib.hid (fun W (h : (fun W => W = World.drew y1) W) => (HT1.out.c 1 rfl 0 (v := .int .i64 j) rfl))
  have G9 := Lib.hid (fun W (h : (fun W => W = World.drew y1) W) => (CV.out))
  refine held_take (i := 0) (v := (.pointer (some ⟨gc, 0, none⟩))) rfl rfl (by kernel_rfl) (by kernel_rfl) (by kernel_rfl) (fun _ _ _ h => h) (Or.inl ⟨by rfl, fun w hS => by have hc := G0.out w hS; go_simp⟩) hS0 ?_
  simp only [List.setIfInBounds_toArray, List.set]
  refine held_pure (i := 1) (v := (.pointer (some ⟨gc, 0, none⟩))) rfl rfl (by kernel_rfl) (by kernel_rfl) (by kernel_rfl) (fun _ _ _ h => h) (Or.inl ⟨by rfl, fun w => by go_simp⟩) hS0 ?_
  simp only [List.setIfInBounds_toArray, List.set]
  refine held_pure (i := 2) (v := (.pointer (some ⟨gc, 4, none⟩))) rfl rfl (by kernel_rfl) (by kernel_rfl) (by kernel_rfl) (fun _ _ _ h => h) (Or.inl ⟨by rfl, fun w => by go_simp⟩) hS0 ?_
  simp only [List.setIfInBounds_toArray, List.set]
  refine held_take (i := 3) (v := (.slice (some ⟨gl, 0, none⟩) st.segs st.segs)) rfl rfl (by kernel_rfl) (by kernel_rfl) (by kernel_rfl) (fun _ _ _ h => h) (Or.inl ⟨by rfl, fun w hS => by have hc := G3.out w hS; go_simp⟩) hS0 ?_
  simp only [List.setIfInBounds_toArray, List.set]
  refine held_take (i := 4) (v := (.int .i64 i)) rfl rfl (by kernel_rfl) (by kernel_rfl) (by kernel_rfl) (fun _ _ _ h => h) (Or.inl ⟨by rfl, fun w hS => by have hc := G4.out w hS; go_simp⟩) hS0 ?_
  simp only [List.setIfInBounds_toArray, List.set]
  refine held_pure (i := 5) (v := (.pointer (some ⟨gl, i * 3, none⟩))) rfl rfl (by kernel_rfl) (by kernel_rfl) (by kernel_rfl) (fun _ _ _ h => h) (Or.inl ⟨by rfl, fun w => by go_simp⟩) hS0 ?_
  simp only [List.setIfInBounds_toArray, List.set]
  refine held_pure (i := 6) (v := (.pointer (some ⟨gl, i * 3, none⟩))) rfl rfl (by kernel_rfl) (by kernel_rfl) (by kernel_rfl) (fun _ _ _ h => h) (Or.inl ⟨by rfl, fun w => by go_simp⟩) hS0 ?_
  simp only [List.setIfInBounds_toArray, List.set]
  refine held_take (i := 7) (v := (.slice (some ⟨pg i, 0, none⟩) st.pages st.pages)) rfl rfl (by kernel_rfl) (by kernel_rfl) (by kernel_rfl) (fun _ _ _ h => h) (Or.inl ⟨by rfl, fun w hS => by have hc := G7.out w hS; go_simp⟩) hS0 ?_
  simp only [List.setIfInBounds_toArray, List.set]
  refine held_take (i := 8) (v := (.int .i64 j)) rfl rfl (by kernel_rfl) (by kernel_rfl) (by kernel_rfl) (fun _ _ _ h => h) (Or.inl ⟨by rfl, fun w hS => by have hc := G8.out w hS; go_simp⟩) hS0 ?_
  simp only [List.setIfInBounds_toArray, List.set]
  refine held_pure (i := 9) (v := (.pointer (some ⟨pg i, j, none⟩))) rfl rfl (by kernel_rfl) (by kernel_rfl) (by kernel_rfl) (fun _ _ _ h => h) (Or.inl ⟨by rfl, fun w => by go_simp⟩) hS0 ?_
  simp only [List.setIfInBounds_toArray, List.set]
  refine held_take (i := 10) (v := (.pointer none)) rfl rfl (by kernel_rfl) (by kernel_rfl) (by kernel_rfl) (fun _ _ _ h => h) (Or.inl ⟨by rfl, fun w hS => by have hc := G9.out w hS; go_simp⟩) hS0 ?_
  simp only [List.setIfInBounds_toArray, List.set]
  refine held_pure (i := 11) (v := (.bool false)) rfl rfl (by kernel_rfl) (by kernel_rfl) (by kernel_rfl) (fun _ _ _ h => h) (Or.inl ⟨by rfl, fun w => by go_simp⟩) hS0 ?_
  simp only [List.setIfInBounds_toArray, List.set]
  refine held_pure (i := 12) (v := (.bool false)) rfl rfl (by kernel_rfl) (by kernel_rfl) (by kernel_rfl) (fun _ _ _ h => h) (Or.inl ⟨by rfl, fun w => by go_simp⟩) hS0 ?_
  simp only [List.setIfInBounds_toArray, List.set]
  refine wpAnyH_done (by kernel_rfl) ?_ _
  clear G0 G3 G4 G7 G8 G9 hS0
  go_wp2_with fail
  have HT7 := Lib.hid HT5.out.drew
  have HC7 := Lib.hid (HC5.out.keep (Only.refl _ _).drew)
  have HF7 := Lib.hid (HF5.out.keep HC5.out (Only.refl _ _).drew)
  have HLD := Lib.hid (load_one 9 _ Try.underlying9 rfl (HT7.out.c 0 rfl 0 (v := .string s) rfl))
  refine wp_region_held (S := fun _ => True) (by kernel_rfl) ?_
  change wpAnyH _ _ _ _ _ _ _ _ (World.drew _)
  have hsub := HSB.out
  have had2 := HAD2.out
  have had : True := trivial
  refine held_two (j := 0) (k := 1) (by kernel_rfl) ?_ ?_
  · refine op_exec (j := 0) rfl rfl (by rfl) (.string s) (exec_load 9 (.tmp 7) rfl ⟨w.heap.size + 1 + 1 + 1, 0, none⟩ rfl _ HLD.out) ?_
    refine ⟨trivial, ?_⟩
    simp only [List.setIfInBounds_toArray, List.set]
    refine held_execd (j := 1) (by kernel_rfl) rfl rfl (by rfl) (.string s) (exec_load 9 (.tmp 7) rfl ⟨w.heap.size + 1 + 1 + 1, 0, none⟩ rfl _ HLD.out) trivial ?_
    simp only [List.setIfInBounds_toArray, List.set]
    refine held_pure (i := 2) (v := (.int .i64 s.size)) rfl rfl (by kernel_rfl) (by kernel_rfl) (by kernel_rfl) (fun _ _ _ h => h) (Or.inl ⟨by rfl, fun w => by go_simp⟩) trivial ?_
    simp only [List.setIfInBounds_toArray, List.set]
    refine held_pure (i := 3) (v := (.int .i64 ((256 - s.size : Nat) : Int))) rfl rfl (by kernel_rfl) (by kernel_rfl) (by kernel_rfl) (fun _ _ _ h => h) (Or.inl ⟨by rfl, fun w => by go_simp⟩) trivial ?_
    simp only [List.setIfInBounds_toArray, List.set]
    refine held_call (j := 4) (by kernel_rfl) rfl rfl (by rfl) Try.func37 (by kernel_rfl) rfl rfl [.string ⟨#[0]⟩, .int .i64 ((256 - s.size : Nat) : Int)] rfl (HRP.out _) ?_
    intro y2 k2
    refine ⟨trivial, ?_⟩
    simp only [List.setIfInBounds_toArray, List.set]
    refine held_pure (i := 5) (v := (.string (s ++ ⟨(Lib.repeatL [0] (256 - s.size)).toArray⟩))) rfl rfl (by kernel_rfl) (by kernel_rfl) (by kernel_rfl) (fun _ _ _ h => h) (Or.inl ⟨by rfl, fun w => by go_simp⟩) trivial ?_
    simp only [List.setIfInBounds_toArray, List.set]
    have HT8 := Lib.hid (HT7.out.call k2)
    have HC8 := Lib.hid (HC7.out.call k2)
    have HF8 := Lib.hid (HF7.out.keep HC7.out (Only.of_below k2))
    obtain ⟨X, hs4, T4, -, o4⟩ := HT8.out.one 0 rfl 9 0 (.string (fillT s)) info9s rfl (by show 0 < 1; omega)
    refine held_store (j := 6) (by kernel_rfl) rfl rfl rfl 9 (.tmp 7) (.tmp 48) rfl _ rfl _ rfl hs4 trivial ?_
    have HCX := HC8.out.box o4 (HNB.out _ (Nat.le_succ_of_le (Nat.le_succ_of_le (Nat.le_succ _)))) HF8.out
    have HFX : Free (w.heap.size + 1 + 1 + 1) pg st.segs X := HF8.out.keepS HC8.out o4 (fun k hk e => HNB.out _ (Nat.le_succ_of_le (Nat.le_succ_of_le (Nat.le_succ _))) (.inr (.inr (.inr (.inl ⟨k, hk, e.symm⟩)))))
    have HTX : Tab (((w.heap.size + 1 + 1 + 1), #[.string (fillT s)], 9) :: ((w.heap.size + 1 + 1), #[.int .i64 j], 3) :: ((w.heap.size + 1), #[.int .i64 i], 3) :: (w.heap.size, #[.pointer (some ⟨gc, 0, none⟩)], 23) :: T) a X := T4
    have HAP := Lib.hid (act_prog HCX HTX HNR.out HD5.out.base HPI.out HI.out HJ.out HFS.out HPN.out HPP.out HFX)
    have cx := HTX.c 3 rfl 0 (v := .pointer (some ⟨gc, 0, none⟩)) rfl
    clear k2 hs4 T4 o4 HCX HFX HTX hsub had had2
    refine wpAnyH_done (by kernel_rfl) ?_ _
    go_wp2_with fail
    refine HAP.out.mono ?_
    rintro e w9 ⟨rfl, pv', hc9, hh9⟩
    have HFIN := Lib.hid (And.intro hc9 hh9.tail.tail.tail.tail)
    clear hc9 hh9
    go_wp2_with fail
    go_ret
    exact ⟨rfl, pv', HFIN.out⟩
  · refine op_exec (j := 1) rfl rfl (by rfl) (.string s) (exec_load 9 (.tmp 7) rfl ⟨w.heap.size + 1 + 1 + 1, 0, none⟩ rfl _ HLD.out) ?_
    refine ⟨trivial, ?_⟩
    simp only [List.setIfInBounds_toArray, List.set]
    refine held_pure (i := 2) (v := (.int .i64 s.size)) rfl rfl (by kernel_rfl) (by kernel_rfl) (by kernel_rfl) (fun _ _ _ h => h) (Or.inl ⟨by rfl, fun w => by go_simp⟩) trivial ?_
    simp only [List.setIfInBounds_toArray, List.set]
    refine held_pure (i := 3) (v := (.int .i64 ((256 - s.size : Nat) : Int))) rfl rfl (by kernel_rfl) (by kernel_rfl) (by kernel_rfl) (fun _ _ _ h => h) (Or.inl ⟨by rfl, fun w => by go_simp⟩) trivial ?_
    simp only [List.setIfInBounds_toArray, List.set]
    refine held_two (j := 0) (k := 4) (by kernel_rfl) ?_ ?_
    · refine op_exec (j := 0) rfl rfl (by rfl) (.string s) (exec_load 9 (.tmp 7) rfl ⟨w.heap.size + 1 + 1 + 1, 0, none⟩ rfl _ HLD.out) ?_
      refine ⟨trivial, ?_⟩
      simp only [List.setIfInBounds_toArray, List.set]
      refine held_call (j := 4) (by kernel_rfl) rfl rfl (by rfl) Try.func37 (by kernel_rfl) rfl rfl [.string ⟨#[0]⟩, .int .i64 ((256 - s.size : Nat) : Int)] rfl (HRP.out _) ?_
      intro y2 k2
      refine ⟨trivial, ?_⟩
      simp only [List.setIfInBounds_toArray, List.set]
      refine held_pure (i := 5) (v := (.string (s ++ ⟨(Lib.repeatL [0] (256 - s.size)).toArray⟩))) rfl rfl (by kernel_rfl) (by kernel_rfl) (by kernel_rfl) (fun _ _ _ h => h) (Or.inl ⟨by rfl, fun w => by go_simp⟩) trivial ?_
      simp only [List.setIfInBounds_toArray, List.set]
      have HT8 := Lib.hid (HT7.out.call k2)
      have HC8 := Lib.hid (HC7.out.call k2)
      have HF8 := Lib.hid (HF7.out.keep HC7.out (Only.of_below k2))
      obtain ⟨X, hs4, T4, -, o4⟩ := HT8.out.one 0 rfl 9 0 (.string (fillT s)) info9s rfl (by show 0 < 1; omega)
      refine held_store (j := 6) (by kernel_rfl) rfl rfl rfl 9 (.tmp 7) (.tmp 48) rfl _ rfl _ rfl hs4 trivial ?_
      have HCX := HC8.out.box o4 (HNB.out _ (Nat.le_succ_of_le (Nat.le_succ_of_le (Nat.le_succ _)))) HF8.out
      have HFX : Free (w.heap.size + 1 + 1 + 1) pg st.segs X := HF8.out.keepS HC8.out o4 (fun k hk e => HNB.out _ (Nat.le_succ_of_le (Nat.le_succ_of_le (Nat.le_succ _))) (.inr (.inr (.inr (.inl ⟨k, hk, e.symm⟩)))))
      have HTX : Tab (((w.heap.size + 1 + 1 + 1), #[.string (fillT s)], 9) :: ((w.heap.size + 1 + 1), #[.int .i64 j], 3) :: ((w.heap.size + 1), #[.int .i64 i], 3) :: (w.heap.size, #[.pointer (some ⟨gc, 0, none⟩)], 23) :: T) a X := T4
      have HAP := Lib.hid (act_prog HCX HTX HNR.out HD5.out.base HPI.out HI.out HJ.out HFS.out HPN.out HPP.out HFX)
      have cx := HTX.c 3 rfl 0 (v := .pointer (some ⟨gc, 0, none⟩)) rfl
      clear k2 hs4 T4 o4 HCX HFX HTX hsub had had2
      refine wpAnyH_done (by kernel_rfl) ?_ _
      go_wp2_with fail
      refine HAP.out.mono ?_
      rintro e w9 ⟨rfl, pv', hc9, hh9⟩
      have HFIN := Lib.hid (And.intro hc9 hh9.tail.tail.tail.tail)
      clear hc9 hh9
      go_wp2_with fail
      go_ret
      exact ⟨rfl, pv', HFIN.out⟩
    · refine op_call (j := 4) rfl rfl (by rfl) Try.func37 (by kernel_rfl) rfl rfl [.string ⟨#[0]⟩, .int .i64 ((256 - s.size : Nat) : Int)] rfl (HRP.out _) ?_
      intro y2 k2
      refine ⟨trivial, ?_⟩
      simp only [List.setIfInBounds_toArray, List.set]
      have HLD2 := Lib.hid (load_one 9 _ Try.underlying9 rfl ((HT7.out.call k2).c 0 rfl 0 (v := .string s) rfl))
      refine held_execd (j := 0) (by kernel_rfl) rfl rfl (by rfl) (.string s) (exec_load 9 (.tmp 7) rfl ⟨w.heap.size + 1 + 1 + 1, 0, none⟩ rfl _ HLD2.out) trivial ?_
      simp only [List.setIfInBounds_toArray, List.set]
      refine held_pure (i := 5) (v := (.string (s ++ ⟨(Lib.repeatL [0] (256 - s.size)).toArray⟩))) rfl rfl (by kernel_rfl) (by kernel_rfl) (by kernel_rfl) (fun _ _ _ h => h) (Or.inl ⟨by rfl, fun w => by go_simp⟩) trivial ?_
      simp only [List.setIfInBounds_toArray, List.set]
      have HT8 := Lib.hid (HT7.out.call k2)
      have HC8 := Lib.hid (HC7.out.call k2)
      have HF8 := Lib.hid (HF7.out.keep HC7.out (Only.of_below k2))
      obtain ⟨X, hs4, T4, -, o4⟩ := HT8.out.one 0 rfl 9 0 (.string (fillT s)) info9s rfl (by show 0 < 1; omega)
      refine held_store (j := 6) (by kernel_rfl) rfl rfl rfl 9 (.tmp 7) (.tmp 48) rfl _ rfl _ rfl hs4 trivial ?_
      have HCX := HC8.out.box o4 (HNB.out _ (Nat.le_succ_of_le (Nat.le_succ_of_le (Nat.le_succ _)))) HF8.out
      have HFX : Free (w.heap.size + 1 + 1 + 1) pg st.segs X := HF8.out.keepS HC8.out o4 (fun k hk e => HNB.out _ (Nat.le_succ_of_le (Nat.le_succ_of_le (Nat.le_succ _))) (.inr (.inr (.inr (.inl ⟨k, hk, e.symm⟩)))))
      have HTX : Tab (((w.heap.size + 1 + 1 + 1), #[.string (fillT s)], 9) :: ((w.heap.size + 1 + 1), #[.int .i64 j], 3) :: ((w.heap.size + 1), #[.int .i64 i], 3) :: (w.heap.size, #[.pointer (some ⟨gc, 0, none⟩)], 23) :: T) a X := T4
      have HAP := Lib.hid (act_prog HCX HTX HNR.out HD5.out.base HPI.out HI.out HJ.out HFS.out HPN.out HPP.out HFX)
      have cx := HTX.c 3 rfl 0 (v := .pointer (some ⟨gc, 0, none⟩)) rfl
      clear k2 hs4 T4 o4 HCX HFX HTX hsub had had2
      refine wpAnyH_done (by kernel_rfl) ?_ _
      go_wp2_with fail
      refine HAP.out.mono ?_
      rintro e w9 ⟨rfl, pv', hc9, hh9⟩
      have HFIN := Lib.hid (And.intro hc9 hh9.tail.tail.tail.tail)
      clear hc9 hh9
      go_wp2_with fail
      go_ret
      exact ⟨rfl, pv', HFIN.out⟩


/-- Program: what it answers, and leaves. -/
def Cp.fits (st : Cp) (p : Pw) (i j : Int) (s : ByteArray) : Bool := !p.off && hasB st.segs st.pages i j && decide (s.size ≤ 256) && (st.page i.toNat j.toNat).isNone
def Cp.prE (st : Cp) (p : Pw) (i j : Int) (s : ByteArray) : Int := if p.off = true then 4 else if hasB st.segs st.pages i j = false ∨ 256 < s.size then 1 else if (st.page i.toNat j.toNat).isSome = true then 100 else p.err
def Cp.prS (st : Cp) (p : Pw) (i j : Int) (s : ByteArray) : Cp := if st.fits p i j s = true then st.prg i.toNat j.toNat (doneT p.next p.whole (fillT s)) else st
def Cp.prP (st : Cp) (p : Pw) (i j : Int) (s : ByteArray) : Pw := if st.fits p i j s = true then p.next else p
theorem program_any (h : Chip B gc gl gp pg pv st p w) (hh : Held T a B gc gl gp pg pv st.segs w) (i j : Int) (s : ByteArray) (hpi : p.In) (hN : st.past.length ≤ 100000) (hP : 0 ≤ st.programs ∧ st.programs ≤ 100000) :
    Calls Try.prog 15 #[.pointer (some ⟨gc, 0, none⟩), .int .i64 i, .int .i64 j, .string s] w fun e w' => e = .returned (.int .i64 (st.prE p i j s)) ∧ ∃ pv', Chip B gc gl gp pg pv' (st.prS p i j s) (st.prP p i j s) w' ∧ Held T a B gc gl gp pg pv' st.segs w' := by
  unfold Cp.prE Cp.prS Cp.prP
  by_cases ho : p.off = true
  · have hf : st.fits p i j s = false := by simp [Cp.fits, ho]
    rw [if_pos ho, hf, if_neg (by simp), if_neg (by simp)]
    refine (program_off h hh i j s ho).mono ?_
    rintro e w' ⟨rfl, h1, h2⟩
    exact ⟨rfl, pv, h1, h2⟩
  · have ho' : p.off = false := by simpa using ho
    rw [if_neg ho]
    cases hx : hasB st.segs st.pages i j
    · have hf : st.fits p i j s = false := by simp [Cp.fits, hx]
      rw [if_pos (.inl rfl), hf, if_neg (by simp), if_neg (by simp)]
      refine (program_has h hh i j s ho' hx).mono ?_
      rintro e w' ⟨rfl, h1, h2⟩
      exact ⟨rfl, pv, h1, h2⟩
    · by_cases hb : 256 < s.size
      · have hf : st.fits p i j s = false := by
          unfold Cp.fits
          rw [show decide (s.size ≤ 256) = false from decide_eq_false (by omega)]
          simp
        rw [if_pos (.inr hb), hf, if_neg (by simp), if_neg (by simp)]
        refine (program_big h hh i j s ho' hx hb).mono ?_
        rintro e w' ⟨rfl, h1, h2⟩
        exact ⟨rfl, pv, h1, h2⟩
      · rw [if_neg (by simp [hb])]
        have hxi := has_iff hx
        obtain ⟨i, rfl⟩ := Int.eq_ofNat_of_zero_le hxi.1
        obtain ⟨j, rfl⟩ := Int.eq_ofNat_of_zero_le hxi.2.2.1
        simp only [Int.toNat_natCast]
        have hi : i < st.segs := by omega
        have hj : j < st.pages := by omega
        by_cases hu : (st.page i j).isSome = true
        · have hf : st.fits p i j s = false := by
            unfold Cp.fits
            rw [Int.toNat_natCast, Int.toNat_natCast, Option.isNone_eq_false_iff.2 hu]
            simp
          rw [if_pos hu, hf, if_neg (by simp), if_neg (by simp)]
          refine (program_used h hh i j s ho' hi hj (by omega) hu).mono ?_
          rintro e w' ⟨rfl, h1, h2⟩
          exact ⟨rfl, pv, h1, h2⟩
        · have hf : st.fits p i j s = true := by
            unfold Cp.fits
            rw [Int.toNat_natCast, Int.toNat_natCast, ho', hx, show decide (s.size ≤ 256) = true from decide_eq_true (by omega)]
            simpa using hu
          rw [if_neg hu, hf, if_pos rfl, if_pos rfl]
          exact program_do h hh i j s ho' hi hj (by omega) (by simpa using hu) hpi hN hP

end
end Go.Proofs.Ytjnjnkkdpglfhaa
