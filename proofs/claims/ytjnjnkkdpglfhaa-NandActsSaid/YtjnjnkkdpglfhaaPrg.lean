/-
  The chip: Program. (Printed by mkprg.py.)
-/
import Derived.Test.YtjnjnkkdpglfhaaTrn
set_option linter.unusedVariables false
namespace Go.Proofs.Ytjnjnkkdpglfhaa
open Go.RowKit

/-- A text filled up with bytes 0; a text of which a beginning was programmed, and junk behind. -/
def fillT (s : ByteArray) : ByteArray := s ++ ⟨(Lib.repeatL [0] (256 - s.size)).toArray⟩
def tornT (s : ByteArray) (m : Nat) (x : UInt8) : ByteArray := s.extract 0 m ++ ⟨(Lib.repeatL [x] (256 - m)).toArray⟩
def Pw.In (p : Pw) : Prop := p.Ok ∧ 0 ≤ p.keep ∧ p.keep ≤ 9223372036854775807 ∧ 0 ≤ p.junk ∧ p.junk ≤ 255
def Pw.err (p : Pw) : Int := if p.whole = true then 0 else 4
/-- What a page has behind a programming. -/
def doneT (p : Pw) (wh : Bool) (s : ByteArray) : ByteArray := if wh = true then s else tornT s (min p.keep.toNat 256) (UInt8.ofNat p.junk.toNat)
def Cp.prg (st : Cp) (i j : Nat) (s : ByteArray) : Cp := { st with page := updP st.page i j (some s), past := st.past ++ [s], programs := st.programs + 1 }
/-- What a call keeps: the caller's rows, and that they are none of the chip's. -/
structure Held (T : List (Nat × Array Value × TypeId)) (a : World) (B gc gl gp : Nat) (pg : Nat → Nat) (pv : Value) (n : Nat) (w : World) : Prop where
  tab : Tab T a w
  no : ∀ q ∈ T, ¬ Mine gc gl gp pg pv n q.1
  base : a.heap.size ≤ B
/-- No page of the chip is the text in bs. -/
def Free (bs : Nat) (pg : Nat → Nat) (n : Nat) (w : World) : Prop := ∀ k, k < n → ∀ cs, w.heap[pg k]? = some (.cells cs 91 (0, 0)) → ∀ (j b : Nat), cs[j]? = some (.pointer (some ⟨b, 0, none⟩)) → b ≠ bs
theorem repeatL_size (x : UInt8) (c : Nat) : (Lib.repeatL [x] c).length = c := by rw [Lib.repeatL_length]; simp
theorem tornT_size {s : ByteArray} {m : Nat} {x : UInt8} (h : s.size = 256) (hm : m ≤ 256) : (tornT s m x).size = 256 := by
  rw [tornT, ByteArray.size_append, ByteArray.size_extract]
  have : (ByteArray.mk (Lib.repeatL [x] (256 - m)).toArray).size = 256 - m := by
    show (Lib.repeatL [x] (256 - m)).toArray.size = _
    simp [repeatL_size]
  rw [this]
  omega

section
variable {B gc gl gp : Nat} {pg : Nat → Nat} {pv : Value} {st : Cp} {p : Pw} {a w : World} {T : List (Nat × Array Value × TypeId)}
theorem Held.on {w' : World} (h : Held T a B gc gl gp pg pv st.segs w) (o : Only (fun _ => False) w w') : Held T a B gc gl gp pg pv st.segs w' := ⟨h.tab.on o, h.no, h.base⟩
theorem Held.mine {w' : World} (h : Held T a B gc gl gp pg pv st.segs w) (hc : Chip B gc gl gp pg pv st p w) {S : Nat → Prop} (hS : ∀ k, S k → Mine gc gl gp pg pv st.segs k) (o : Only S w w') : Tab T a w' :=
  h.tab.move o (fun q hq hs => h.no q hq (hS _ hs)) (fun k hk => Nat.le_trans h.base (hc.mine (hS k hk)))
theorem Chip.box {bs : Nat} {w' : World} (h : Chip B gc gl gp pg pv st p w) (o : Only (fun k => k = bs) w w') (hm : ¬ Mine gc gl gp pg pv st.segs bs) (hf : Free bs pg st.segs w) : Chip B gc gl gp pg pv st p w' := by
  refine ⟨keepRow o h.chip (fun e => hm (.inl e.symm)), keepSegs o h.segs (fun e => hm (.inr (.inl e.symm))), fun i hi => ?_, keepRow o h.pw (fun e => hm (.inr (.inr (.inl e.symm)))), keepOwn o h.past (fun k hk e => hm (.inr (.inr (.inr (.inr (e ▸ hk)))))), h.inj, h.lens, h.base⟩
  obtain ⟨cs, h1, h2, h3⟩ := h.page i hi
  refine ⟨cs, keepRow o h1 (fun e => hm (.inr (.inr (.inr (.inl ⟨i, hi, e.symm⟩))))), h2, fun j hj => ?_⟩
  obtain ⟨v, h4, h5⟩ := h3 j hj
  refine ⟨v, h4, ?_⟩
  rcases h5 with h5 | ⟨b, s, k1, k2, k3, k4⟩
  · exact .inl h5
  · exact .inr ⟨b, s, k1, k2, keepRow o k3 (hf i hi cs h1 j b (by rw [h4, k2])), k4⟩
theorem Free.keep {bs : Nat} {w' : World} (hf : Free bs pg st.segs w) (h : Chip B gc gl gp pg pv st p w) (o : Only (fun _ => False) w w') : Free bs pg st.segs w' := by
  intro k hk cs hc j b hj
  obtain ⟨cs', h1, _⟩ := h.page k hk
  have := keepRow o h1 (fun x => x)
  rw [hc] at this
  have e : cs = cs' := by simpa using this
  subst e
  exact hf k hk cs h1 j b hj
theorem Free.new {bs : Nat} (h : Chip B gc gl gp pg pv st p w) (hb : w.heap.size ≤ bs) : Free bs pg st.segs w := by
  intro k hk cs hc j b hj
  obtain ⟨cs', h1, h2, h3⟩ := h.page k hk
  rw [hc] at h1
  have e : cs = cs' := by simpa using h1
  subst e
  have hjl : j < st.pages := by
    have := (Array.getElem?_eq_some_iff.1 hj).1
    omega
  obtain ⟨v, h4, h5⟩ := h3 j hjl
  rw [hj] at h4
  obtain rfl := Option.some.inj h4
  rcases h5 with ⟨_, h5⟩ | ⟨b', s, k1, k2, k3, k4⟩
  · cases h5
  · have : b = b' := by simpa using k2
    subst this
    have := (Array.getElem?_eq_some_iff.1 k3).1
    omega


set_option maxHeartbeats 8000000 in
theorem prog1_w {bs bp bi bc : Nat} {s : ByteArray} {i j : Nat} (h : Chip B gc gl gp pg pv st p w) (hT : Tab ((bs, #[.string s], 9) :: (bp, #[.int .i64 j], 3) :: (bi, #[.int .i64 i], 3) :: (bc, #[.pointer (some ⟨gc, 0, none⟩)], 23) :: T) a w) (hno : ∀ q ∈ ((bs, #[.string s], 9) :: (bp, #[.int .i64 j], 3) :: (bi, #[.int .i64 i], 3) :: (bc, #[.pointer (some ⟨gc, 0, none⟩)], 23) :: T), ¬ Mine gc gl gp pg pv st.segs q.1) (hB : a.heap.size ≤ B) (hpi : p.In) (hi : i < st.segs) (hj : j < st.pages) (hs : s.size = 256) (hN : st.past.length ≤ 100000) (hP : 0 ≤ st.programs ∧ st.programs ≤ 100000) (hf : Free bs pg st.segs w) :
    Calls Try.prog 38 #[.bool true, .pointer (some ⟨bc, 0, none⟩), .pointer (some ⟨bs, 0, none⟩), .pointer (some ⟨bi, 0, none⟩), .pointer (some ⟨bp, 0, none⟩)] w fun e w' => e = .returned (.tuple #[]) ∧
      ∃ pv', Chip B gc gl gp pg pv' (st.prg i j (doneT p true s)) p w' ∧ Held ((bs, #[.string (doneT p true s)], 9) :: (bp, #[.int .i64 j], 3) :: (bi, #[.int .i64 i], 3) :: (bc, #[.pointer (some ⟨gc, 0, none⟩)], 23) :: T) a B gc gl gp pg pv' st.segs w' := by
  obtain ⟨i9, hi9, hz9, hz91, hz92⟩ := info_parts info9
  have HI := Lib.hid hi
  have HJ := Lib.hid hj
  have HBA := Lib.hid hB
  have HP := Lib.hid hP
  have HNO0 := Lib.hid hno
  have HL1 : Hid (st.past.length + 1 ≤ maxLen) := by unfold Hid maxLen; omega
  have HL2 : Hid ((st.past.length + 1) * 16 ≤ 140737488355328) := by unfold Hid; omega
  have c2 := h.c2
  have b1 := hT.c 3 rfl 0 (v := .pointer (some ⟨gc, 0, none⟩)) rfl
  have HK := Lib.hid (kept_any gp p w h.pw)
  have HW := Lib.hid h
  have HTW := Lib.hid hT
  have HFR := Lib.hid hf
  have hij : (i : Int) < (st.segs : Int) := by omega
  have hjj : (j : Int) < (st.pages : Int) := by omega
  have hi0 : (0 : Int) ≤ (i : Int) := by omega
  have hj0 : (0 : Int) ≤ (j : Int) := by omega
  have HNO : Hid (∀ q ∈ ((bs, #[.string s], 9) :: (bp, #[.int .i64 j], 3) :: (bi, #[.int .i64 i], 3) :: (bc, #[.pointer (some ⟨gc, 0, none⟩)], 23) :: T), (¬ Mine gc gl gp pg pv st.segs q.1) ∧ True) := fun q hq => ⟨hno q hq, trivial⟩
  rw [show doneT p true s = s from rfl]
  clear h hT hno hB hi hj hs hN hP hpi hf HFR HNO0
  go_enter Try.func38, Try.ntmps38
  go_wp2_with fail
  refine HK.out.mono ?_
  rintro e w1 ⟨rfl, n, rfl⟩
  go_wp2_with fail
  obtain ⟨X, hX⟩ : ∃ X, X = w.drewN n := ⟨_, rfl⟩
  have HC := Lib.hid (HW.out.keep ((Only.refl _ w).drewN n))
  have HTT := Lib.hid (HTW.out.drewN n)
  rw [← hX] at HC HTT ⊢
  clear hX
  refine wp_region_held (S := (fun W => Tab ((bs, #[.string s], 9) :: (bp, #[.int .i64 j], 3) :: (bi, #[.int .i64 i], 3) :: (bc, #[.pointer (some ⟨gc, 0, none⟩)], 23) :: T) a W ∧ W.cell? ⟨gc, 4, none⟩ = some (.slice (some ⟨gl, 0, none⟩) st.segs st.segs) ∧ W.cell? ⟨gl, i * 3, none⟩ = some (.slice (some ⟨pg i, 0, none⟩) st.pages st.pages))) (by kernel_rfl) ?_
  change wpAnyH _ _ _ _ _ _ _ _ (World.drew _)
  have hC4 := HC.out.keep (Only.refl _ _).drew
  have hT4 := HTT.out.drew
  have hS0 : (fun W => Tab ((bs, #[.string s], 9) :: (bp, #[.int .i64 j], 3) :: (bi, #[.int .i64 i], 3) :: (bc, #[.pointer (some ⟨gc, 0, none⟩)], 23) :: T) a W ∧ W.cell? ⟨gc, 4, none⟩ = some (.slice (some ⟨gl, 0, none⟩) st.segs st.segs) ∧ W.cell? ⟨gl, i * 3, none⟩ = some (.slice (some ⟨pg i, 0, none⟩) st.pages st.pages)) (World.drew X) := ⟨hT4, hC4.c4, hC4.pgs HI.out⟩
  have F1 := Lib.hid (fun W (h : (fun W => Tab ((bs, #[.string s], 9) :: (bp, #[.int .i64 j], 3) :: (bi, #[.int .i64 i], 3) :: (bc, #[.pointer (some ⟨gc, 0, none⟩)], 23) :: T) a W ∧ W.cell? ⟨gc, 4, none⟩ = some (.slice (some ⟨gl, 0, none⟩) st.segs st.segs) ∧ W.cell? ⟨gl, i * 3, none⟩ = some (.slice (some ⟨pg i, 0, none⟩) st.pages st.pages)) W) => h.1.c 3 rfl 0 (v := .pointer (some ⟨gc, 0, none⟩)) rfl)
  have F2 := Lib.hid (fun W (h : (fun W => Tab ((bs, #[.string s], 9) :: (bp, #[.int .i64 j], 3) :: (bi, #[.int .i64 i], 3) :: (bc, #[.pointer (some ⟨gc, 0, none⟩)], 23) :: T) a W ∧ W.cell? ⟨gc, 4, none⟩ = some (.slice (some ⟨gl, 0, none⟩) st.segs st.segs) ∧ W.cell? ⟨gl, i * 3, none⟩ = some (.slice (some ⟨pg i, 0, none⟩) st.pages st.pages)) W) => h.2.1)
  have F3 := Lib.hid (fun W (h : (fun W => Tab ((bs, #[.string s], 9) :: (bp, #[.int .i64 j], 3) :: (bi, #[.int .i64 i], 3) :: (bc, #[.pointer (some ⟨gc, 0, none⟩)], 23) :: T) a W ∧ W.cell? ⟨gc, 4, none⟩ = some (.slice (some ⟨gl, 0, none⟩) st.segs st.segs) ∧ W.cell? ⟨gl, i * 3, none⟩ = some (.slice (some ⟨pg i, 0, none⟩) st.pages st.pages)) W) => h.1.c 2 rfl 0 (v := .int .i64 i) rfl)
  have F4 := Lib.hid (fun W (h : (fun W => Tab ((bs, #[.string s], 9) :: (bp, #[.int .i64 j], 3) :: (bi, #[.int .i64 i], 3) :: (bc, #[.pointer (some ⟨gc, 0, none⟩)], 23) :: T) a W ∧ W.cell? ⟨gc, 4, none⟩ = some (.slice (some ⟨gl, 0, none⟩) st.segs st.segs) ∧ W.cell? ⟨gl, i * 3, none⟩ = some (.slice (some ⟨pg i, 0, none⟩) st.pages st.pages)) W) => h.2.2)
  have F5 := Lib.hid (fun W (h : (fun W => Tab ((bs, #[.string s], 9) :: (bp, #[.int .i64 j], 3) :: (bi, #[.int .i64 i], 3) :: (bc, #[.pointer (some ⟨gc, 0, none⟩)], 23) :: T) a W ∧ W.cell? ⟨gc, 4, none⟩ = some (.slice (some ⟨gl, 0, none⟩) st.segs st.segs) ∧ W.cell? ⟨gl, i * 3, none⟩ = some (.slice (some ⟨pg i, 0, none⟩) st.pages st.pages)) W) => h.1.c 1 rfl 0 (v := .int .i64 j) rfl)
  obtain ⟨cs, hcs, hcz, -⟩ := hC4.page i HI.out
  obtain ⟨X5, hs5, g5, o5, -⟩ := one_at (World.drew X) (o := j) (ty := 91) (v := .pointer (some ⟨bs, 0, none⟩)) hcs info91s rfl (by rw [hcz]; exact HJ.out)
  have hT5 : Tab ((bs, #[.string s], 9) :: (bp, #[.int .i64 j], 3) :: (bi, #[.int .i64 i], 3) :: (bc, #[.pointer (some ⟨gc, 0, none⟩)], 23) :: T) a X5 := hT4.move o5 (fun q hq hk => (HNO.out q hq).1 (.inr (.inr (.inr (.inl ⟨i, HI.out, hk⟩))))) (fun k hk => by rw [hk]; exact Nat.le_trans HBA.out (HC.out.base.2.2.2 i HI.out))
  have hC5 := hC4.setPage HI.out HJ.out hcs g5 o5 (hT4.get 0 rfl) (fun h => (HNO.out _ (List.mem_cons_self ..)).1 (.inr (.inr (.inr (.inr h)))))
  have HS5 := Lib.hid hs5
  have HS5S : Hid ((fun W => Tab ((bs, #[.string s], 9) :: (bp, #[.int .i64 j], 3) :: (bi, #[.int .i64 i], 3) :: (bc, #[.pointer (some ⟨gc, 0, none⟩)], 23) :: T) a W ∧ W.cell? ⟨gc, 4, none⟩ = some (.slice (some ⟨gl, 0, none⟩) st.segs st.segs) ∧ W.cell? ⟨gl, i * 3, none⟩ = some (.slice (some ⟨pg i, 0, none⟩) st.pages st.pages)) X5) := ⟨hT5, hC5.c4, hC5.pgs HI.out⟩
  have HT5 := Lib.hid hT5
  have HC5 := Lib.hid hC5
  clear hcs hcz hs5 g5 o5 hT5 hC5 hC4 hT4
  refine held_take (i := 0) (v := (.pointer (some ⟨gc, 0, none⟩))) rfl rfl (by kernel_rfl) (by kernel_rfl) (by kernel_rfl) (fun _ _ _ h => h) (Or.inl ⟨by rfl, fun w hS => by have hc := F1.out w hS; go_simp⟩) hS0 ?_
  simp only [List.setIfInBounds_toArray, List.set]
  refine held_pure (i := 1) (v := (.pointer (some ⟨gc, 0, none⟩))) rfl rfl (by kernel_rfl) (by kernel_rfl) (by kernel_rfl) (fun _ _ _ h => h) (Or.inl ⟨by rfl, fun w => by go_simp⟩) hS0 ?_
  simp only [List.setIfInBounds_toArray, List.set]
  refine held_pure (i := 2) (v := (.pointer (some ⟨gc, 4, none⟩))) rfl rfl (by kernel_rfl) (by kernel_rfl) (by kernel_rfl) (fun _ _ _ h => h) (Or.inl ⟨by rfl, fun w => by go_simp⟩) hS0 ?_
  simp only [List.setIfInBounds_toArray, List.set]
  refine held_take (i := 3) (v := (.slice (some ⟨gl, 0, none⟩) st.segs st.segs)) rfl rfl (by kernel_rfl) (by kernel_rfl) (by kernel_rfl) (fun _ _ _ h => h) (Or.inl ⟨by rfl, fun w hS => by have hc := F2.out w hS; go_simp⟩) hS0 ?_
  simp only [List.setIfInBounds_toArray, List.set]
  refine held_take (i := 4) (v := (.int .i64 i)) rfl rfl (by kernel_rfl) (by kernel_rfl) (by kernel_rfl) (fun _ _ _ h => h) (Or.inl ⟨by rfl, fun w hS => by have hc := F3.out w hS; go_simp⟩) hS0 ?_
  simp only [List.setIfInBounds_toArray, List.set]
  refine held_pure (i := 5) (v := (.pointer (some ⟨gl, i * 3, none⟩))) rfl rfl (by kernel_rfl) (by kernel_rfl) (by kernel_rfl) (fun _ _ _ h => h) (Or.inl ⟨by rfl, fun w => by go_simp⟩) hS0 ?_
  simp only [List.setIfInBounds_toArray, List.set]
  refine held_pure (i := 6) (v := (.pointer (some ⟨gl, i * 3, none⟩))) rfl rfl (by kernel_rfl) (by kernel_rfl) (by kernel_rfl) (fun _ _ _ h => h) (Or.inl ⟨by rfl, fun w => by go_simp⟩) hS0 ?_
  simp only [List.setIfInBounds_toArray, List.set]
  refine held_take (i := 7) (v := (.slice (some ⟨pg i, 0, none⟩) st.pages st.pages)) rfl rfl (by kernel_rfl) (by kernel_rfl) (by kernel_rfl) (fun _ _ _ h => h) (Or.inl ⟨by rfl, fun w hS => by have hc := F4.out w hS; go_simp⟩) hS0 ?_
  simp only [List.setIfInBounds_toArray, List.set]
  refine held_take (i := 8) (v := (.int .i64 j)) rfl rfl (by kernel_rfl) (by kernel_rfl) (by kernel_rfl) (fun _ _ _ h => h) (Or.inl ⟨by rfl, fun w hS => by have hc := F5.out w hS; go_simp⟩) hS0 ?_
  simp only [List.setIfInBounds_toArray, List.set]
  refine held_pure (i := 9) (v := (.pointer (some ⟨pg i, j, none⟩))) rfl rfl (by kernel_rfl) (by kernel_rfl) (by kernel_rfl) (fun _ _ _ h => h) (Or.inl ⟨by rfl, fun w => by go_simp⟩) hS0 ?_
  simp only [List.setIfInBounds_toArray, List.set]
  refine held_store (j := 10) (by kernel_rfl) rfl rfl rfl 91 (.tmp 39) (.tmp 2) rfl _ rfl _ rfl HS5.out HS5S.out ?_
  refine wpAnyH_done (by kernel_rfl) ?_ _
  clear F1 F2 F3 F4 F5 HS5 HS5S hS0
  go_wp2_with fail
  refine wp_region_held (S := (fun W => Tab ((bs, #[.string s], 9) :: (bp, #[.int .i64 j], 3) :: (bi, #[.int .i64 i], 3) :: (bc, #[.pointer (some ⟨gc, 0, none⟩)], 23) :: T) a W)) (by kernel_rfl) ?_
  change wpAnyH _ _ _ _ _ _ _ _ (World.drew _)
  have hS0 : (fun W => Tab ((bs, #[.string s], 9) :: (bp, #[.int .i64 j], 3) :: (bi, #[.int .i64 i], 3) :: (bc, #[.pointer (some ⟨gc, 0, none⟩)], 23) :: T) a W) (World.drew X5) := HT5.out.drew
  have HC6 := Lib.hid (HC5.out.keep (Only.refl _ _).drew)
  have G1 := Lib.hid (fun W (h : (fun W => Tab ((bs, #[.string s], 9) :: (bp, #[.int .i64 j], 3) :: (bi, #[.int .i64 i], 3) :: (bc, #[.pointer (some ⟨gc, 0, none⟩)], 23) :: T) a W) W) => h.c 3 rfl 0 (v := .pointer (some ⟨gc, 0, none⟩)) rfl)
  have G3 := Lib.hid (fun W (h : (fun W => Tab ((bs, #[.string s], 9) :: (bp, #[.int .i64 j], 3) :: (bi, #[.int .i64 i], 3) :: (bc, #[.pointer (some ⟨gc, 0, none⟩)], 23) :: T) a W) W) => h.c 0 rfl 0 (v := .string s) rfl)
  refine held_take (i := 0) (v := (.pointer (some ⟨gc, 0, none⟩))) rfl rfl (by kernel_rfl) (by kernel_rfl) (by kernel_rfl) (fun _ _ _ h => h) (Or.inl ⟨by rfl, fun w hS => by have hc := G1.out w hS; go_simp⟩) hS0 ?_
  simp only [List.setIfInBounds_toArray, List.set]
  refine held_take (i := 1) (v := (.pointer (some ⟨gc, 0, none⟩))) rfl rfl (by kernel_rfl) (by kernel_rfl) (by kernel_rfl) (fun _ _ _ h => h) (Or.inl ⟨by rfl, fun w hS => by have hc := G1.out w hS; go_simp⟩) hS0 ?_
  simp only [List.setIfInBounds_toArray, List.set]
  refine held_pure (i := 2) (v := (.pointer (some ⟨gc, 0, none⟩))) rfl rfl (by kernel_rfl) (by kernel_rfl) (by kernel_rfl) (fun _ _ _ h => h) (Or.inl ⟨by rfl, fun w => by go_simp⟩) hS0 ?_
  simp only [List.setIfInBounds_toArray, List.set]
  refine held_pure (i := 3) (v := (.pointer (some ⟨gc, 5, none⟩))) rfl rfl (by kernel_rfl) (by kernel_rfl) (by kernel_rfl) (fun _ _ _ h => h) (Or.inl ⟨by rfl, fun w => by go_simp⟩) hS0 ?_
  simp only [List.setIfInBounds_toArray, List.set]
  refine held_take (i := 5) (v := (.string s)) rfl rfl (by kernel_rfl) (by kernel_rfl) (by kernel_rfl) (fun _ _ _ h => h) (Or.inl ⟨by rfl, fun w hS => by have hc := G3.out w hS; go_simp⟩) hS0 ?_
  simp only [List.setIfInBounds_toArray, List.set]
  have hlp : (loadVar 43 ⟨gc, 5, none⟩).run Try.prog (World.drew X5) = .ok pv (World.drew X5) := load_one 43 _ Try.underlying43 rfl HC6.out.c5
  have hT6 : Tab ((bs, #[.string s], 9) :: (bp, #[.int .i64 j], 3) :: (bi, #[.int .i64 i], 3) :: (bc, #[.pointer (some ⟨gc, 0, none⟩)], 23) :: T) a ((World.drew X5).alloc (.cells #[.string s] 9)) := hS0.on ((Only.refl _ _).alloc _)
  have hlp' : (loadVar 43 ⟨gc, 5, none⟩).run Try.prog ((World.drew X5).alloc (.cells #[.string s] 9)) = .ok pv ((World.drew X5).alloc (.cells #[.string s] 9)) := load_one 43 _ Try.underlying43 rfl (HC6.out.keep ((Only.refl _ _).alloc (.cells #[.string s] 9))).c5
  have HLP := Lib.hid hlp
  have HLP' := Lib.hid hlp'
  have HT6 := Lib.hid hT6
  have HBS := Lib.hid (build_s s (World.drew X5))
  have HOW : Hid (World.ownsRow ((World.drew X5).alloc (.cells #[.string s] 9)) B 9 1 pv st.past.length (st.past.map Value.string)) := (HC6.out.keep ((Only.refl _ _).alloc _)).past
  have HL3 : Hid (B ≤ ((World.drew X5).alloc (.cells #[.string s] 9)).heap.size) := Nat.le_trans HC6.out.base.1 (Nat.le_trans (Nat.le_of_lt (Array.getElem?_eq_some_iff.1 HC6.out.chip).1) (by simp))
  clear hlp hlp' hT6
  refine held_two (j := 4) (k := 6) (by kernel_rfl) ?_ ?_
  · refine op_exec (j := 4) rfl rfl (by rfl) pv (exec_load 43 (.tmp 43) rfl ⟨gc, 5, none⟩ rfl pv HLP.out) ?_
    refine ⟨hS0, ?_⟩
    simp only [List.setIfInBounds_toArray, List.set]
    refine held_bs (j := 6) (by kernel_rfl) rfl rfl rfl 43 1 #[(0, .tmp 45)] rfl [(0, .string s)] rfl _ HBS.out HT6.out ?_
    simp only [List.setIfInBounds_toArray, List.set]
    refine held_append (j := 7) (by kernel_rfl) rfl rfl rfl (.tmp 44) (.tmp 46) 43 rfl B 9 i9 (.string ByteArray.empty) 1 16 Try.underlying43 hi9 hz9 hz91 hz92 rfl (by decide) pv st.past.length (st.past.map Value.string) rfl HOW.out ⟨(World.drew X5).heap.size, 0, none⟩ 1 1 [.string s] rfl rfl (cell_one_new _ _ _) (by intro u hu; simp at hu; subst hu; rfl) HL1.out HL2.out HL3.out ?_
    intro pv2 X6 own6 gro6 hat6
    have o6 := grown_only gro6
    have hT7 : Tab ((bs, #[.string s], 9) :: (bp, #[.int .i64 j], 3) :: (bi, #[.int .i64 i], 3) :: (bc, #[.pointer (some ⟨gc, 0, none⟩)], 23) :: T) a X6 := HT6.out.move o6 (fun q hq hk => (HNO.out q hq).1 (.inr (.inr (.inr (.inr hk))))) (fun k hk => Nat.le_trans HBA.out (HOW.out.lt k hk).1)
    refine ⟨hT7, ?_⟩
    simp only [List.setIfInBounds_toArray, List.set]
    refine held_pure (i := 8) (v := (.pointer (some ⟨gc, 0, none⟩))) rfl rfl (by kernel_rfl) (by kernel_rfl) (by kernel_rfl) (fun _ _ _ h => h) (Or.inl ⟨by rfl, fun w => by go_simp⟩) hT7 ?_
    simp only [List.setIfInBounds_toArray, List.set]
    refine held_pure (i := 9) (v := (.pointer (some ⟨gc, 5, none⟩))) rfl rfl (by kernel_rfl) (by kernel_rfl) (by kernel_rfl) (fun _ _ _ h => h) (Or.inl ⟨by rfl, fun w => by go_simp⟩) hT7 ?_
    simp only [List.setIfInBounds_toArray, List.set]
    have h79 : ∀ {k : Nat} {cs : Array Value} {ty : TypeId}, (World.drew X5).heap[k]? = some (.cells cs ty (0, 0)) → ty ≠ 9 → ¬ pv.ownBlock = some k := fun hk h9 hp => by obtain ⟨c3, h3⟩ := HC6.out.pastBlock hp; exact heap_ne hk h3 h9 rfl
    have oa : Only (fun k => pv.ownBlock = some k) (World.drew X5) X6 := Only.trans ((Only.refl _ _).alloc _) o6
    have hc6 : X6.heap[gc]? = some (.cells (cpA gl gp pv { st with page := updP st.page i j (some s) }) 75 (0, 0)) := keepRow oa HC6.out.chip (h79 HC6.out.chip (by decide))
    have hpv2 : pv2.ownBlock = pv.ownBlock ∨ ∀ k, pv2.ownBlock = some k → (World.drew X5).heap.size ≤ k := hat6.imp id (fun e k hk => by rw [e] at hk; cases hk; simp)
    have hne2 : ∀ {k : Nat}, k < (World.drew X5).heap.size → pv.ownBlock ≠ some k → pv2.ownBlock ≠ some k := fun hk hp h2 => by rcases hpv2 with e | e; exact hp (e ▸ h2); have := e _ h2; omega
    obtain ⟨X7, hs7, g7, o7, -⟩ := one_at X6 (o := 5) (ty := 43) (v := pv2) hc6 info43s (by rcases own6.2 with ⟨h, _⟩ | ⟨_, _, _, h, _⟩ <;> rw [h] <;> rfl) (by show 5 < 8; omega)
    have hT8 : Tab ((bs, #[.string s], 9) :: (bp, #[.int .i64 j], 3) :: (bi, #[.int .i64 i], 3) :: (bc, #[.pointer (some ⟨gc, 0, none⟩)], 23) :: T) a X7 := hT7.move o7 (fun q hq hk => (HNO.out q hq).1 (.inl hk)) (fun k hk => by rw [hk]; exact Nat.le_trans HBA.out HC6.out.base.1)
    have hC7 : Chip B gc gl gp pg pv2 { st with page := updP st.page i j (some s), past := st.past ++ [s] } p X7 := HC6.out.self (st' := { st with page := updP st.page i j (some s), past := st.past ++ [s] }) rfl rfl rfl rfl rfl g7 ((oa.mono fun k hk => .inr hk).trans (o7.mono fun k hk => .inl hk)) (by show World.ownsRow X7 B 9 1 pv2 (st.past ++ [s]).length ((st.past ++ [s]).map Value.string); rw [List.length_append, List.map_append]; exact keepOwn o7 own6 (fun k hk e => by subst e; exact hne2 (Array.getElem?_eq_some_iff.1 HC6.out.chip).1 (h79 HC6.out.chip (by decide)) hk)) (fun b s hb hp => hne2 (Array.getElem?_eq_some_iff.1 hb).1 hp)
    refine held_store (j := 10) (by kernel_rfl) rfl rfl rfl 43 (.tmp 49) (.tmp 47) rfl _ rfl _ rfl hs7 hT8 ?_
    have hno : ∀ q ∈ ((bs, #[.string s], 9) :: (bp, #[.int .i64 j], 3) :: (bi, #[.int .i64 i], 3) :: (bc, #[.pointer (some ⟨gc, 0, none⟩)], 23) :: T), ¬ Mine gc gl gp pg pv2 st.segs q.1 := fun q hq hm => by
      have hq0 := (HNO.out q hq).1
      rcases hm with h | h | h | h | h
      · exact hq0 (.inl h)
      · exact hq0 (.inr (.inl h))
      · exact hq0 (.inr (.inr (.inl h)))
      · exact hq0 (.inr (.inr (.inr (.inl h))))
      · exact hne2 (hS0.lt hq) (fun e => hq0 (.inr (.inr (.inr (.inr e))))) h
    refine wpAnyH_done (by kernel_rfl) ?_ _
    have b1 := hT8.c 3 rfl 0 (v := .pointer (some ⟨gc, 0, none⟩)) rfl
    have b6 := hC7.c6
    obtain ⟨X8, hs8, g8, o8, -⟩ := one_at X7 (o := 6) (ty := 3) (v := .int .i64 (st.programs + 1)) hC7.chip info3s rfl (by show 6 < 8; omega)
    have hT9 : Tab ((bs, #[.string s], 9) :: (bp, #[.int .i64 j], 3) :: (bi, #[.int .i64 i], 3) :: (bc, #[.pointer (some ⟨gc, 0, none⟩)], 23) :: T) a X8 := hT8.move o8 (fun q hq hk => hno q hq (.inl hk)) (fun k hk => by rw [hk]; exact Nat.le_trans HBA.out HC6.out.base.1)
    have hC8 : Chip B gc gl gp pg pv2 (st.prg i j s) p X8 := hC7.self (st' := st.prg i j s) rfl rfl rfl rfl rfl g8 (o8.mono fun k hk => .inl hk) (keepOwn o8 hC7.past (fun k hk e => by subst e; obtain ⟨c3, h3⟩ := hC7.pastBlock hk; exact heap_ne h3 hC7.chip (by decide) rfl)) (fun b s hb hp => hp)
    have HS8 := Lib.hid hs8
    have HF : Hid (∃ pv', Chip B gc gl gp pg pv' (st.prg i j s) p X8 ∧ Held ((bs, #[.string s], 9) :: (bp, #[.int .i64 j], 3) :: (bi, #[.int .i64 i], 3) :: (bc, #[.pointer (some ⟨gc, 0, none⟩)], 23) :: T) a B gc gl gp pg pv' st.segs X8) := ⟨pv2, hC8, hT9, hno, HBA.out⟩
    have hpr := HP.out
    have hp0 : 0 ≤ st.programs := hpr.1
    have hp1 : st.programs ≤ 100000 := hpr.2
    clear hT7 oa hc6 h79 hpv2 hne2 hs7 g7 o7 hT8 hC7 hno hs8 g8 o8 hT9 hC8 own6 gro6 hat6 o6 hpr
    go_wp2_with (((with_reducible refine wpList_store_at ?_ 3 (.tmp 56) (.tmp 54) ?_ _ ?_ _ ?_ HS8.out ?_); rfl; rfl; rfl; rfl))
    go_end0
    exact ⟨rfl, HF.out⟩
  · refine op_exec (j := 6) rfl rfl (by rfl) _ (exec_bs 43 1 #[(0, .tmp 45)] rfl [(0, .string s)] rfl _ HBS.out) ?_
    refine ⟨HT6.out, ?_⟩
    simp only [List.setIfInBounds_toArray, List.set]
    refine held_execd (j := 4) (by kernel_rfl) rfl rfl (by rfl) pv (exec_load 43 (.tmp 43) rfl ⟨gc, 5, none⟩ rfl pv HLP'.out) HT6.out ?_
    simp only [List.setIfInBounds_toArray, List.set]
    refine held_append (j := 7) (by kernel_rfl) rfl rfl rfl (.tmp 44) (.tmp 46) 43 rfl B 9 i9 (.string ByteArray.empty) 1 16 Try.underlying43 hi9 hz9 hz91 hz92 rfl (by decide) pv st.past.length (st.past.map Value.string) rfl HOW.out ⟨(World.drew X5).heap.size, 0, none⟩ 1 1 [.string s] rfl rfl (cell_one_new _ _ _) (by intro u hu; simp at hu; subst hu; rfl) HL1.out HL2.out HL3.out ?_
    intro pv2 X6 own6 gro6 hat6
    have o6 := grown_only gro6
    have hT7 : Tab ((bs, #[.string s], 9) :: (bp, #[.int .i64 j], 3) :: (bi, #[.int .i64 i], 3) :: (bc, #[.pointer (some ⟨gc, 0, none⟩)], 23) :: T) a X6 := HT6.out.move o6 (fun q hq hk => (HNO.out q hq).1 (.inr (.inr (.inr (.inr hk))))) (fun k hk => Nat.le_trans HBA.out (HOW.out.lt k hk).1)
    refine ⟨hT7, ?_⟩
    simp only [List.setIfInBounds_toArray, List.set]
    refine held_pure (i := 8) (v := (.pointer (some ⟨gc, 0, none⟩))) rfl rfl (by kernel_rfl) (by kernel_rfl) (by kernel_rfl) (fun _ _ _ h => h) (Or.inl ⟨by rfl, fun w => by go_simp⟩) hT7 ?_
    simp only [List.setIfInBounds_toArray, List.set]
    refine held_pure (i := 9) (v := (.pointer (some ⟨gc, 5, none⟩))) rfl rfl (by kernel_rfl) (by kernel_rfl) (by kernel_rfl) (fun _ _ _ h => h) (Or.inl ⟨by rfl, fun w => by go_simp⟩) hT7 ?_
    simp only [List.setIfInBounds_toArray, List.set]
    have h79 : ∀ {k : Nat} {cs : Array Value} {ty : TypeId}, (World.drew X5).heap[k]? = some (.cells cs ty (0, 0)) → ty ≠ 9 → ¬ pv.ownBlock = some k := fun hk h9 hp => by obtain ⟨c3, h3⟩ := HC6.out.pastBlock hp; exact heap_ne hk h3 h9 rfl
    have oa : Only (fun k => pv.ownBlock = some k) (World.drew X5) X6 := Only.trans ((Only.refl _ _).alloc _) o6
    have hc6 : X6.heap[gc]? = some (.cells (cpA gl gp pv { st with page := updP st.page i j (some s) }) 75 (0, 0)) := keepRow oa HC6.out.chip (h79 HC6.out.chip (by decide))
    have hpv2 : pv2.ownBlock = pv.ownBlock ∨ ∀ k, pv2.ownBlock = some k → (World.drew X5).heap.size ≤ k := hat6.imp id (fun e k hk => by rw [e] at hk; cases hk; simp)
    have hne2 : ∀ {k : Nat}, k < (World.drew X5).heap.size → pv.ownBlock ≠ some k → pv2.ownBlock ≠ some k := fun hk hp h2 => by rcases hpv2 with e | e; exact hp (e ▸ h2); have := e _ h2; omega
    obtain ⟨X7, hs7, g7, o7, -⟩ := one_at X6 (o := 5) (ty := 43) (v := pv2) hc6 info43s (by rcases own6.2 with ⟨h, _⟩ | ⟨_, _, _, h, _⟩ <;> rw [h] <;> rfl) (by show 5 < 8; omega)
    have hT8 : Tab ((bs, #[.string s], 9) :: (bp, #[.int .i64 j], 3) :: (bi, #[.int .i64 i], 3) :: (bc, #[.pointer (some ⟨gc, 0, none⟩)], 23) :: T) a X7 := hT7.move o7 (fun q hq hk => (HNO.out q hq).1 (.inl hk)) (fun k hk => by rw [hk]; exact Nat.le_trans HBA.out HC6.out.base.1)
    have hC7 : Chip B gc gl gp pg pv2 { st with page := updP st.page i j (some s), past := st.past ++ [s] } p X7 := HC6.out.self (st' := { st with page := updP st.page i j (some s), past := st.past ++ [s] }) rfl rfl rfl rfl rfl g7 ((oa.mono fun k hk => .inr hk).trans (o7.mono fun k hk => .inl hk)) (by show World.ownsRow X7 B 9 1 pv2 (st.past ++ [s]).length ((st.past ++ [s]).map Value.string); rw [List.length_append, List.map_append]; exact keepOwn o7 own6 (fun k hk e => by subst e; exact hne2 (Array.getElem?_eq_some_iff.1 HC6.out.chip).1 (h79 HC6.out.chip (by decide)) hk)) (fun b s hb hp => hne2 (Array.getElem?_eq_some_iff.1 hb).1 hp)
    refine held_store (j := 10) (by kernel_rfl) rfl rfl rfl 43 (.tmp 49) (.tmp 47) rfl _ rfl _ rfl hs7 hT8 ?_
    have hno : ∀ q ∈ ((bs, #[.string s], 9) :: (bp, #[.int .i64 j], 3) :: (bi, #[.int .i64 i], 3) :: (bc, #[.pointer (some ⟨gc, 0, none⟩)], 23) :: T), ¬ Mine gc gl gp pg pv2 st.segs q.1 := fun q hq hm => by
      have hq0 := (HNO.out q hq).1
      rcases hm with h | h | h | h | h
      · exact hq0 (.inl h)
      · exact hq0 (.inr (.inl h))
      · exact hq0 (.inr (.inr (.inl h)))
      · exact hq0 (.inr (.inr (.inr (.inl h))))
      · exact hne2 (hS0.lt hq) (fun e => hq0 (.inr (.inr (.inr (.inr e))))) h
    refine wpAnyH_done (by kernel_rfl) ?_ _
    have b1 := hT8.c 3 rfl 0 (v := .pointer (some ⟨gc, 0, none⟩)) rfl
    have b6 := hC7.c6
    obtain ⟨X8, hs8, g8, o8, -⟩ := one_at X7 (o := 6) (ty := 3) (v := .int .i64 (st.programs + 1)) hC7.chip info3s rfl (by show 6 < 8; omega)
    have hT9 : Tab ((bs, #[.string s], 9) :: (bp, #[.int .i64 j], 3) :: (bi, #[.int .i64 i], 3) :: (bc, #[.pointer (some ⟨gc, 0, none⟩)], 23) :: T) a X8 := hT8.move o8 (fun q hq hk => hno q hq (.inl hk)) (fun k hk => by rw [hk]; exact Nat.le_trans HBA.out HC6.out.base.1)
    have hC8 : Chip B gc gl gp pg pv2 (st.prg i j s) p X8 := hC7.self (st' := st.prg i j s) rfl rfl rfl rfl rfl g8 (o8.mono fun k hk => .inl hk) (keepOwn o8 hC7.past (fun k hk e => by subst e; obtain ⟨c3, h3⟩ := hC7.pastBlock hk; exact heap_ne h3 hC7.chip (by decide) rfl)) (fun b s hb hp => hp)
    have HS8 := Lib.hid hs8
    have HF : Hid (∃ pv', Chip B gc gl gp pg pv' (st.prg i j s) p X8 ∧ Held ((bs, #[.string s], 9) :: (bp, #[.int .i64 j], 3) :: (bi, #[.int .i64 i], 3) :: (bc, #[.pointer (some ⟨gc, 0, none⟩)], 23) :: T) a B gc gl gp pg pv' st.segs X8) := ⟨pv2, hC8, hT9, hno, HBA.out⟩
    have hpr := HP.out
    have hp0 : 0 ≤ st.programs := hpr.1
    have hp1 : st.programs ≤ 100000 := hpr.2
    clear hT7 oa hc6 h79 hpv2 hne2 hs7 g7 o7 hT8 hC7 hno hs8 g8 o8 hT9 hC8 own6 gro6 hat6 o6 hpr
    go_wp2_with (((with_reducible refine wpList_store_at ?_ 3 (.tmp 56) (.tmp 54) ?_ _ ?_ _ ?_ HS8.out ?_); rfl; rfl; rfl; rfl))
    go_end0
    exact ⟨rfl, HF.out⟩


set_option maxHeartbeats 8000000 in
theorem prog1_t {bs bp bi bc : Nat} {s : ByteArray} {i j : Nat} (h : Chip B gc gl gp pg pv st p w) (hT : Tab ((bs, #[.string s], 9) :: (bp, #[.int .i64 j], 3) :: (bi, #[.int .i64 i], 3) :: (bc, #[.pointer (some ⟨gc, 0, none⟩)], 23) :: T) a w) (hno : ∀ q ∈ ((bs, #[.string s], 9) :: (bp, #[.int .i64 j], 3) :: (bi, #[.int .i64 i], 3) :: (bc, #[.pointer (some ⟨gc, 0, none⟩)], 23) :: T), ¬ Mine gc gl gp pg pv st.segs q.1) (hB : a.heap.size ≤ B) (hpi : p.In) (hi : i < st.segs) (hj : j < st.pages) (hs : s.size = 256) (hN : st.past.length ≤ 100000) (hP : 0 ≤ st.programs ∧ st.programs ≤ 100000) (hf : Free bs pg st.segs w) :
    Calls Try.prog 38 #[.bool false, .pointer (some ⟨bc, 0, none⟩), .pointer (some ⟨bs, 0, none⟩), .pointer (some ⟨bi, 0, none⟩), .pointer (some ⟨bp, 0, none⟩)] w fun e w' => e = .returned (.tuple #[]) ∧
      ∃ pv', Chip B gc gl gp pg pv' (st.prg i j (doneT p false s)) p w' ∧ Held ((bs, #[.string (doneT p false s)], 9) :: (bp, #[.int .i64 j], 3) :: (bi, #[.int .i64 i], 3) :: (bc, #[.pointer (some ⟨gc, 0, none⟩)], 23) :: T) a B gc gl gp pg pv' st.segs w' := by
  obtain ⟨i9, hi9, hz9, hz91, hz92⟩ := info_parts info9
  have HI := Lib.hid hi
  have HJ := Lib.hid hj
  have HBA := Lib.hid hB
  have HP := Lib.hid hP
  have HNO0 := Lib.hid hno
  have HL1 : Hid (st.past.length + 1 ≤ maxLen) := by unfold Hid maxLen; omega
  have HL2 : Hid ((st.past.length + 1) * 16 ≤ 140737488355328) := by unfold Hid; omega
  have c2 := h.c2
  have b1 := hT.c 3 rfl 0 (v := .pointer (some ⟨gc, 0, none⟩)) rfl
  have HK := Lib.hid (kept_any gp p w h.pw)
  have HW := Lib.hid h
  have HTW := Lib.hid hT
  have HFR := Lib.hid hf
  have hij : (i : Int) < (st.segs : Int) := by omega
  have hjj : (j : Int) < (st.pages : Int) := by omega
  have hi0 : (0 : Int) ≤ (i : Int) := by omega
  have hj0 : (0 : Int) ≤ (j : Int) := by omega
  have hpk := hpi.2.1
  have hpj := hpi.2.2.2
  obtain ⟨m, hmm⟩ : ∃ m, m = min p.keep.toNat 256 := ⟨_, rfl⟩
  obtain ⟨x, hx⟩ : ∃ x, x = UInt8.ofNat p.junk.toNat := ⟨_, rfl⟩
  have hm256 : m ≤ 256 := by omega
  have hmin : min p.keep 256 = (m : Int) := by omega
  have hjx : (x.toNat : Int) = p.junk := by
    rw [hx, UInt8.toNat_ofNat', Nat.mod_eq_of_lt (by omega)]
    omega
  have HNO : Hid (∀ q ∈ ((bs, #[.string (tornT s m x)], 9) :: (bp, #[.int .i64 j], 3) :: (bi, #[.int .i64 i], 3) :: (bc, #[.pointer (some ⟨gc, 0, none⟩)], 23) :: T), (¬ Mine gc gl gp pg pv st.segs q.1) ∧ True) := fun q hq => by
    refine ⟨?_, trivial⟩
    rcases List.mem_cons.1 hq with rfl | hq
    · exact hno (bs, #[.string s], 9) (List.mem_cons_self ..)
    · exact hno q (List.mem_cons_of_mem _ hq)
  rw [show doneT p false s = tornT s m x by rw [hmm, hx]; rfl]
  have HJX := Lib.hid hjx
  have HSZ := Lib.hid hs
  have hsm : (m : Int) ≤ (s.size : Int) := by omega
  have hm0 : (0 : Int) ≤ (m : Int) := by omega
  have hsmn : m ≤ s.size := by omega
  have HRP := Lib.hid (fun W => Try.strings_Repeat ⟨#[x]⟩ (256 - m) W (by omega) (by show 1 * (256 - m) ≤ _; omega))
  have HAD : Hid ((s.extract 0 m).size + (ByteArray.mk (Lib.repeatL [x] (256 - m)).toArray).size ≤ 9223372036854775807) := by
    have h1 : (ByteArray.mk (Lib.repeatL [x] (256 - m)).toArray).size = 256 - m := by
      show (Lib.repeatL [x] (256 - m)).toArray.size = _
      simp [repeatL_size]
    have h2 : (s.extract 0 m).size ≤ 256 := by rw [ByteArray.size_extract]; omega
    unfold Hid
    omega
  have HSB : Hid (IntKind.i64.wrap (256 - (m : Int)) = ((256 - m : Nat) : Int)) := by
    unfold Hid
    rw [IntKind.wrap_i64]
    omega
  have HAD2 : Hid (m + (Lib.repeatL [x] (256 - m)).length ≤ 9223372036854775807) := by
    unfold Hid
    rw [repeatL_size]
    omega
  generalize p.junk = jk at *
  generalize p.keep = kp at *
  clear h hT hno hB hi hj hs hN hP hpi hf HNO0 hmm hx hjx hpk hpj
  go_enter Try.func38, Try.ntmps38
  go_wp2_with fail
  refine HK.out.mono ?_
  rintro e w1 ⟨rfl, n, rfl⟩
  go_wp2_with fail
  have HT1 := Lib.hid (HTW.out.drewN n).drew
  have HC1 := Lib.hid ((HW.out.keep ((Only.refl _ w).drewN n)).keep (Only.refl _ _).drew)
  have HF1 := Lib.hid ((HFR.out.keep HW.out ((Only.refl _ w).drewN n)).keep (HW.out.keep ((Only.refl _ w).drewN n)) (Only.refl _ _).drew)
  have HT2 : Hid (Tab ((bs, #[.string s], 9) :: (bp, #[.int .i64 j], 3) :: (bi, #[.int .i64 i], 3) :: (bc, #[.pointer (some ⟨gc, 0, none⟩)], 23) :: T) a ((World.drew (w.drewN n)).alloc (.cells #[.int .u8 jk] 5))) := HT1.out.on ((Only.refl _ _).alloc _)
  have HC2 : Hid (Chip B gc gl gp pg pv st p ((World.drew (w.drewN n)).alloc (.cells #[.int .u8 jk] 5))) := HC1.out.keep ((Only.refl _ _).alloc _)
  have HF2 : Hid (Free bs pg st.segs ((World.drew (w.drewN n)).alloc (.cells #[.int .u8 jk] 5))) := HF1.out.keep HC1.out ((Only.refl _ _).alloc _)
  have HS1 := Lib.hid (HT2.out.get 0 rfl)
  have HCV : Hid ((convert 35 9 (.slice (some ⟨(World.drew (w.drewN n)).heap.size, 0, none⟩) 1 1)).run Try.prog ((World.drew (w.drewN n)).alloc (.cells #[.int .u8 jk] 5)) = .ok (.string ⟨#[x]⟩) ((World.drew (w.drewN n)).alloc (.cells #[.int .u8 jk] 5))) := by
    refine bytes_conv (l := [x]) rfl fun i hi => ?_
    obtain rfl : i = 0 := by simp at hi; omega
    rw [cell_of_row _ _ _ _ _ _ (heap_alloc_new _ _)]
    simp [HJX.out]
  have HBB := Lib.hid (build_b jk (World.drew (w.drewN n)))
  have HLD0 := Lib.hid (load_one 9 _ Try.underlying9 rfl (HT1.out.c 0 rfl 0 (v := .string s) rfl))
  have HLD1 := Lib.hid (load_one 9 _ Try.underlying9 rfl (HT2.out.c 0 rfl 0 (v := .string s) rfl))
  refine wp_region_held (S := fun _ => True) (by kernel_rfl) ?_
  change wpAnyH _ _ _ _ _ _ _ _ (World.drew _)
  have hsub := HSB.out
  have had := HAD.out
  have had2 := HAD2.out
  refine held_pure (i := 1) (v := (.int .i64 m)) rfl rfl (by kernel_rfl) (by kernel_rfl) (by kernel_rfl) (fun _ _ _ h => h) (Or.inl ⟨by rfl, fun w => by go_simp⟩) trivial ?_
  simp only [List.setIfInBounds_toArray, List.set]
  refine held_pure (i := 3) (v := (.int .u8 jk)) rfl rfl (by kernel_rfl) (by kernel_rfl) (by kernel_rfl) (fun _ _ _ h => h) (Or.inl ⟨by rfl, fun w => by go_simp⟩) trivial ?_
  simp only [List.setIfInBounds_toArray, List.set]
  refine held_pure (i := 6) (v := (.int .i64 m)) rfl rfl (by kernel_rfl) (by kernel_rfl) (by kernel_rfl) (fun _ _ _ h => h) (Or.inl ⟨by rfl, fun w => by go_simp⟩) trivial ?_
  simp only [List.setIfInBounds_toArray, List.set]
  refine held_pure (i := 7) (v := (.int .i64 ((256 - m : Nat) : Int))) rfl rfl (by kernel_rfl) (by kernel_rfl) (by kernel_rfl) (fun _ _ _ h => h) (Or.inl ⟨by rfl, fun w => by go_simp⟩) trivial ?_
  simp only [List.setIfInBounds_toArray, List.set]
  refine held_two (j := 0) (k := 4) (by kernel_rfl) ?_ ?_
  · refine op_exec (j := 0) rfl rfl (by rfl) (.string s) (exec_load 9 (.tmp 2) rfl ⟨bs, 0, none⟩ rfl _ HLD0.out) ?_
    refine ⟨trivial, ?_⟩
    simp only [List.setIfInBounds_toArray, List.set]
    refine held_pure (i := 2) (v := (.string (s.extract 0 m))) rfl rfl (by kernel_rfl) (by kernel_rfl) (by kernel_rfl) (fun _ _ _ h => h) (Or.inl ⟨by rfl, fun w => by go_simp⟩) trivial ?_
    simp only [List.setIfInBounds_toArray, List.set]
    refine held_bs (j := 4) (by kernel_rfl) rfl rfl rfl 35 1 #[(0, .tmp 23)] rfl [(0, .int .u8 jk)] rfl _ HBB.out trivial ?_
    simp only [List.setIfInBounds_toArray, List.set]
    refine held_conv (j := 5) (by kernel_rfl) rfl rfl rfl 35 9 (.tmp 24) rfl _ rfl _ HCV.out trivial ?_
    simp only [List.setIfInBounds_toArray, List.set]
    refine held_call (j := 8) (by kernel_rfl) rfl rfl (by rfl) Try.func37 (by kernel_rfl) rfl rfl [.string ⟨#[x]⟩, .int .i64 ((256 - m : Nat) : Int)] rfl (HRP.out _) ?_
    intro y1 k1
    refine ⟨trivial, ?_⟩
    simp only [List.setIfInBounds_toArray, List.set]
    have HT3 := Lib.hid (HT2.out.call k1)
    have HC3 := Lib.hid (HC2.out.call k1)
    have HF3 := Lib.hid (HF2.out.keep HC2.out (Only.of_below k1))
    refine held_pure (i := 9) (v := (.string (s.extract 0 m ++ ⟨(Lib.repeatL [x] (256 - m)).toArray⟩))) rfl rfl (by kernel_rfl) (by kernel_rfl) (by kernel_rfl) (fun _ _ _ h => h) (Or.inl ⟨by rfl, fun w => by go_simp⟩) trivial ?_
    simp only [List.setIfInBounds_toArray, List.set]
    obtain ⟨X, hs4, T4, -, o4⟩ := HT3.out.one 0 rfl 9 0 (.string (tornT s m x)) info9s rfl (by show 0 < 1; omega)
    refine held_store (j := 10) (by kernel_rfl) rfl rfl rfl 9 (.tmp 2) (.tmp 29) rfl _ rfl _ rfl hs4 trivial ?_
    have HC := Lib.hid (HC3.out.box o4 (HNO.out (bs, _, 9) (List.mem_cons_self ..)).1 HF3.out)
    have HTT : Hid (Tab ((bs, #[.string (tornT s m x)], 9) :: (bp, #[.int .i64 j], 3) :: (bi, #[.int .i64 i], 3) :: (bc, #[.pointer (some ⟨gc, 0, none⟩)], 23) :: T) a X) := T4
    clear hs4 T4 o4 k1 hsub had had2
    refine wpAnyH_done (by kernel_rfl) ?_ _
    go_wp2_with fail
    refine wp_region_held (S := (fun W => Tab ((bs, #[.string (tornT s m x)], 9) :: (bp, #[.int .i64 j], 3) :: (bi, #[.int .i64 i], 3) :: (bc, #[.pointer (some ⟨gc, 0, none⟩)], 23) :: T) a W ∧ W.cell? ⟨gc, 4, none⟩ = some (.slice (some ⟨gl, 0, none⟩) st.segs st.segs) ∧ W.cell? ⟨gl, i * 3, none⟩ = some (.slice (some ⟨pg i, 0, none⟩) st.pages st.pages))) (by kernel_rfl) ?_
    change wpAnyH _ _ _ _ _ _ _ _ (World.drew _)
    have hC4 := HC.out.keep (Only.refl _ _).drew
    have hT4 := HTT.out.drew
    have hS0 : (fun W => Tab ((bs, #[.string (tornT s m x)], 9) :: (bp, #[.int .i64 j], 3) :: (bi, #[.int .i64 i], 3) :: (bc, #[.pointer (some ⟨gc, 0, none⟩)], 23) :: T) a W ∧ W.cell? ⟨gc, 4, none⟩ = some (.slice (some ⟨gl, 0, none⟩) st.segs st.segs) ∧ W.cell? ⟨gl, i * 3, none⟩ = some (.slice (some ⟨pg i, 0, none⟩) st.pages st.pages)) (World.drew X) := ⟨hT4, hC4.c4, hC4.pgs HI.out⟩
    have F1 := Lib.hid (fun W (h : (fun W => Tab ((bs, #[.string (tornT s m x)], 9) :: (bp, #[.int .i64 j], 3) :: (bi, #[.int .i64 i], 3) :: (bc, #[.pointer (some ⟨gc, 0, none⟩)], 23) :: T) a W ∧ W.cell? ⟨gc, 4, none⟩ = some (.slice (some ⟨gl, 0, none⟩) st.segs st.segs) ∧ W.cell? ⟨gl, i * 3, none⟩ = some (.slice (some ⟨pg i, 0, none⟩) st.pages st.pages)) W) => h.1.c 3 rfl 0 (v := .pointer (some ⟨gc, 0, none⟩)) rfl)
    have F2 := Lib.hid (fun W (h : (fun W => Tab ((bs, #[.string (tornT s m x)], 9) :: (bp, #[.int .i64 j], 3) :: (bi, #[.int .i64 i], 3) :: (bc, #[.pointer (some ⟨gc, 0, none⟩)], 23) :: T) a W ∧ W.cell? ⟨gc, 4, none⟩ = some (.slice (some ⟨gl, 0, none⟩) st.segs st.segs) ∧ W.cell? ⟨gl, i * 3, none⟩ = some (.slice (some ⟨pg i, 0, none⟩) st.pages st.pages)) W) => h.2.1)
    have F3 := Lib.hid (fun W (h : (fun W => Tab ((bs, #[.string (tornT s m x)], 9) :: (bp, #[.int .i64 j], 3) :: (bi, #[.int .i64 i], 3) :: (bc, #[.pointer (some ⟨gc, 0, none⟩)], 23) :: T) a W ∧ W.cell? ⟨gc, 4, none⟩ = some (.slice (some ⟨gl, 0, none⟩) st.segs st.segs) ∧ W.cell? ⟨gl, i * 3, none⟩ = some (.slice (some ⟨pg i, 0, none⟩) st.pages st.pages)) W) => h.1.c 2 rfl 0 (v := .int .i64 i) rfl)
    have F4 := Lib.hid (fun W (h : (fun W => Tab ((bs, #[.string (tornT s m x)], 9) :: (bp, #[.int .i64 j], 3) :: (bi, #[.int .i64 i], 3) :: (bc, #[.pointer (some ⟨gc, 0, none⟩)], 23) :: T) a W ∧ W.cell? ⟨gc, 4, none⟩ = some (.slice (some ⟨gl, 0, none⟩) st.segs st.segs) ∧ W.cell? ⟨gl, i * 3, none⟩ = some (.slice (some ⟨pg i, 0, none⟩) st.pages st.pages)) W) => h.2.2)
    have F5 := Lib.hid (fun W (h : (fun W => Tab ((bs, #[.string (tornT s m x)], 9) :: (bp, #[.int .i64 j], 3) :: (bi, #[.int .i64 i], 3) :: (bc, #[.pointer (some ⟨gc, 0, none⟩)], 23) :: T) a W ∧ W.cell? ⟨gc, 4, none⟩ = some (.slice (some ⟨gl, 0, none⟩) st.segs st.segs) ∧ W.cell? ⟨gl, i * 3, none⟩ = some (.slice (some ⟨pg i, 0, none⟩) st.pages st.pages)) W) => h.1.c 1 rfl 0 (v := .int .i64 j) rfl)
    obtain ⟨cs, hcs, hcz, -⟩ := hC4.page i HI.out
    obtain ⟨X5, hs5, g5, o5, -⟩ := one_at (World.drew X) (o := j) (ty := 91) (v := .pointer (some ⟨bs, 0, none⟩)) hcs info91s rfl (by rw [hcz]; exact HJ.out)
    have hT5 : Tab ((bs, #[.string (tornT s m x)], 9) :: (bp, #[.int .i64 j], 3) :: (bi, #[.int .i64 i], 3) :: (bc, #[.pointer (some ⟨gc, 0, none⟩)], 23) :: T) a X5 := hT4.move o5 (fun q hq hk => (HNO.out q hq).1 (.inr (.inr (.inr (.inl ⟨i, HI.out, hk⟩))))) (fun k hk => by rw [hk]; exact Nat.le_trans HBA.out (HC.out.base.2.2.2 i HI.out))
    have hC5 := hC4.setPage HI.out HJ.out hcs g5 o5 (hT4.get 0 rfl) (fun h => (HNO.out _ (List.mem_cons_self ..)).1 (.inr (.inr (.inr (.inr h)))))
    have HS5 := Lib.hid hs5
    have HS5S : Hid ((fun W => Tab ((bs, #[.string (tornT s m x)], 9) :: (bp, #[.int .i64 j], 3) :: (bi, #[.int .i64 i], 3) :: (bc, #[.pointer (some ⟨gc, 0, none⟩)], 23) :: T) a W ∧ W.cell? ⟨gc, 4, none⟩ = some (.slice (some ⟨gl, 0, none⟩) st.segs st.segs) ∧ W.cell? ⟨gl, i * 3, none⟩ = some (.slice (some ⟨pg i, 0, none⟩) st.pages st.pages)) X5) := ⟨hT5, hC5.c4, hC5.pgs HI.out⟩
    have HT5 := Lib.hid hT5
    have HC5 := Lib.hid hC5
    clear hcs hcz hs5 g5 o5 hT5 hC5 hC4 hT4
    refine held_take (i := 0) (v := (.pointer (some ⟨gc, 0, none⟩))) rfl rfl (by kernel_rfl) (by kernel_rfl) (by kernel_rfl) (fun _ _ _ h => h) (Or.inl ⟨by rfl, fun w hS => by have hc := F1.out w hS; go_simp⟩) hS0 ?_
    simp only [List.setIfInBounds_toArray, List.set]
    refine held_pure (i := 1) (v := (.pointer (some ⟨gc, 0, none⟩))) rfl rfl (by kernel_rfl) (by kernel_rfl) (by kernel_rfl) (fun _ _ _ h => h) (Or.inl ⟨by rfl, fun w => by go_simp⟩) hS0 ?_
    simp only [List.setIfInBounds_toArray, List.set]
    refine held_pure (i := 2) (v := (.pointer (some ⟨gc, 4, none⟩))) rfl rfl (by kernel_rfl) (by kernel_rfl) (by kernel_rfl) (fun _ _ _ h => h) (Or.inl ⟨by rfl, fun w => by go_simp⟩) hS0 ?_
    simp only [List.setIfInBounds_toArray, List.set]
    refine held_take (i := 3) (v := (.slice (some ⟨gl, 0, none⟩) st.segs st.segs)) rfl rfl (by kernel_rfl) (by kernel_rfl) (by kernel_rfl) (fun _ _ _ h => h) (Or.inl ⟨by rfl, fun w hS => by have hc := F2.out w hS; go_simp⟩) hS0 ?_
    simp only [List.setIfInBounds_toArray, List.set]
    refine held_take (i := 4) (v := (.int .i64 i)) rfl rfl (by kernel_rfl) (by kernel_rfl) (by kernel_rfl) (fun _ _ _ h => h) (Or.inl ⟨by rfl, fun w hS => by have hc := F3.out w hS; go_simp⟩) hS0 ?_
    simp only [List.setIfInBounds_toArray, List.set]
    refine held_pure (i := 5) (v := (.pointer (some ⟨gl, i * 3, none⟩))) rfl rfl (by kernel_rfl) (by kernel_rfl) (by kernel_rfl) (fun _ _ _ h => h) (Or.inl ⟨by rfl, fun w => by go_simp⟩) hS0 ?_
    simp only [List.setIfInBounds_toArray, List.set]
    refine held_pure (i := 6) (v := (.pointer (some ⟨gl, i * 3, none⟩))) rfl rfl (by kernel_rfl) (by kernel_rfl) (by kernel_rfl) (fun _ _ _ h => h) (Or.inl ⟨by rfl, fun w => by go_simp⟩) hS0 ?_
    simp only [List.setIfInBounds_toArray, List.set]
    refine held_take (i := 7) (v := (.slice (some ⟨pg i, 0, none⟩) st.pages st.pages)) rfl rfl (by kernel_rfl) (by kernel_rfl) (by kernel_rfl) (fun _ _ _ h => h) (Or.inl ⟨by rfl, fun w hS => by have hc := F4.out w hS; go_simp⟩) hS0 ?_
    simp only [List.setIfInBounds_toArray, List.set]
    refine held_take (i := 8) (v := (.int .i64 j)) rfl rfl (by kernel_rfl) (by kernel_rfl) (by kernel_rfl) (fun _ _ _ h => h) (Or.inl ⟨by rfl, fun w hS => by have hc := F5.out w hS; go_simp⟩) hS0 ?_
    simp only [List.setIfInBounds_toArray, List.set]
    refine held_pure (i := 9) (v := (.pointer (some ⟨pg i, j, none⟩))) rfl rfl (by kernel_rfl) (by kernel_rfl) (by kernel_rfl) (fun _ _ _ h => h) (Or.inl ⟨by rfl, fun w => by go_simp⟩) hS0 ?_
    simp only [List.setIfInBounds_toArray, List.set]
    refine held_store (j := 10) (by kernel_rfl) rfl rfl rfl 91 (.tmp 39) (.tmp 2) rfl _ rfl _ rfl HS5.out HS5S.out ?_
    refine wpAnyH_done (by kernel_rfl) ?_ _
    clear F1 F2 F3 F4 F5 HS5 HS5S hS0
    go_wp2_with fail
    refine wp_region_held (S := (fun W => Tab ((bs, #[.string (tornT s m x)], 9) :: (bp, #[.int .i64 j], 3) :: (bi, #[.int .i64 i], 3) :: (bc, #[.pointer (some ⟨gc, 0, none⟩)], 23) :: T) a W)) (by kernel_rfl) ?_
    change wpAnyH _ _ _ _ _ _ _ _ (World.drew _)
    have hS0 : (fun W => Tab ((bs, #[.string (tornT s m x)], 9) :: (bp, #[.int .i64 j], 3) :: (bi, #[.int .i64 i], 3) :: (bc, #[.pointer (some ⟨gc, 0, none⟩)], 23) :: T) a W) (World.drew X5) := HT5.out.drew
    have HC6 := Lib.hid (HC5.out.keep (Only.refl _ _).drew)
    have G1 := Lib.hid (fun W (h : (fun W => Tab ((bs, #[.string (tornT s m x)], 9) :: (bp, #[.int .i64 j], 3) :: (bi, #[.int .i64 i], 3) :: (bc, #[.pointer (some ⟨gc, 0, none⟩)], 23) :: T) a W) W) => h.c 3 rfl 0 (v := .pointer (some ⟨gc, 0, none⟩)) rfl)
    have G3 := Lib.hid (fun W (h : (fun W => Tab ((bs, #[.string (tornT s m x)], 9) :: (bp, #[.int .i64 j], 3) :: (bi, #[.int .i64 i], 3) :: (bc, #[.pointer (some ⟨gc, 0, none⟩)], 23) :: T) a W) W) => h.c 0 rfl 0 (v := .string (tornT s m x)) rfl)
    refine held_take (i := 0) (v := (.pointer (some ⟨gc, 0, none⟩))) rfl rfl (by kernel_rfl) (by kernel_rfl) (by kernel_rfl) (fun _ _ _ h => h) (Or.inl ⟨by rfl, fun w hS => by have hc := G1.out w hS; go_simp⟩) hS0 ?_
    simp only [List.setIfInBounds_toArray, List.set]
    refine held_take (i := 1) (v := (.pointer (some ⟨gc, 0, none⟩))) rfl rfl (by kernel_rfl) (by kernel_rfl) (by kernel_rfl) (fun _ _ _ h => h) (Or.inl ⟨by rfl, fun w hS => by have hc := G1.out w hS; go_simp⟩) hS0 ?_
    simp only [List.setIfInBounds_toArray, List.set]
    refine held_pure (i := 2) (v := (.pointer (some ⟨gc, 0, none⟩))) rfl rfl (by kernel_rfl) (by kernel_rfl) (by kernel_rfl) (fun _ _ _ h => h) (Or.inl ⟨by rfl, fun w => by go_simp⟩) hS0 ?_
    simp only [List.setIfInBounds_toArray, List.set]
    refine held_pure (i := 3) (v := (.pointer (some ⟨gc, 5, none⟩))) rfl rfl (by kernel_rfl) (by kernel_rfl) (by kernel_rfl) (fun _ _ _ h => h) (Or.inl ⟨by rfl, fun w => by go_simp⟩) hS0 ?_
    simp only [List.setIfInBounds_toArray, List.set]
    refine held_take (i := 5) (v := (.string (tornT s m x))) rfl rfl (by kernel_rfl) (by kernel_rfl) (by kernel_rfl) (fun _ _ _ h => h) (Or.inl ⟨by rfl, fun w hS => by have hc := G3.out w hS; go_simp⟩) hS0 ?_
    simp only [List.setIfInBounds_toArray, List.set]
    have hlp : (loadVar 43 ⟨gc, 5, none⟩).run Try.prog (World.drew X5) = .ok pv (World.drew X5) := load_one 43 _ Try.underlying43 rfl HC6.out.c5
    have hT6 : Tab ((bs, #[.string (tornT s m x)], 9) :: (bp, #[.int .i64 j], 3) :: (bi, #[.int .i64 i], 3) :: (bc, #[.pointer (some ⟨gc, 0, none⟩)], 23) :: T) a ((World.drew X5).alloc (.cells #[.string (tornT s m x)] 9)) := hS0.on ((Only.refl _ _).alloc _)
    have hlp' : (loadVar 43 ⟨gc, 5, none⟩).run Try.prog ((World.drew X5).alloc (.cells #[.string (tornT s m x)] 9)) = .ok pv ((World.drew X5).alloc (.cells #[.string (tornT s m x)] 9)) := load_one 43 _ Try.underlying43 rfl (HC6.out.keep ((Only.refl _ _).alloc (.cells #[.string (tornT s m x)] 9))).c5
    have HLP := Lib.hid hlp
    have HLP' := Lib.hid hlp'
    have HT6 := Lib.hid hT6
    have HBS := Lib.hid (build_s (tornT s m x) (World.drew X5))
    have HOW : Hid (World.ownsRow ((World.drew X5).alloc (.cells #[.string (tornT s m x)] 9)) B 9 1 pv st.past.length (st.past.map Value.string)) := (HC6.out.keep ((Only.refl _ _).alloc _)).past
    have HL3 : Hid (B ≤ ((World.drew X5).alloc (.cells #[.string (tornT s m x)] 9)).heap.size) := Nat.le_trans HC6.out.base.1 (Nat.le_trans (Nat.le_of_lt (Array.getElem?_eq_some_iff.1 HC6.out.chip).1) (by simp))
    clear hlp hlp' hT6
    refine held_two (j := 4) (k := 6) (by kernel_rfl) ?_ ?_
    · refine op_exec (j := 4) rfl rfl (by rfl) pv (exec_load 43 (.tmp 43) rfl ⟨gc, 5, none⟩ rfl pv HLP.out) ?_
      refine ⟨hS0, ?_⟩
      simp only [List.setIfInBounds_toArray, List.set]
      refine held_bs (j := 6) (by kernel_rfl) rfl rfl rfl 43 1 #[(0, .tmp 45)] rfl [(0, .string (tornT s m x))] rfl _ HBS.out HT6.out ?_
      simp only [List.setIfInBounds_toArray, List.set]
      refine held_append (j := 7) (by kernel_rfl) rfl rfl rfl (.tmp 44) (.tmp 46) 43 rfl B 9 i9 (.string ByteArray.empty) 1 16 Try.underlying43 hi9 hz9 hz91 hz92 rfl (by decide) pv st.past.length (st.past.map Value.string) rfl HOW.out ⟨(World.drew X5).heap.size, 0, none⟩ 1 1 [.string (tornT s m x)] rfl rfl (cell_one_new _ _ _) (by intro u hu; simp at hu; subst hu; rfl) HL1.out HL2.out HL3.out ?_
      intro pv2 X6 own6 gro6 hat6
      have o6 := grown_only gro6
      have hT7 : Tab ((bs, #[.string (tornT s m x)], 9) :: (bp, #[.int .i64 j], 3) :: (bi, #[.int .i64 i], 3) :: (bc, #[.pointer (some ⟨gc, 0, none⟩)], 23) :: T) a X6 := HT6.out.move o6 (fun q hq hk => (HNO.out q hq).1 (.inr (.inr (.inr (.inr hk))))) (fun k hk => Nat.le_trans HBA.out (HOW.out.lt k hk).1)
      refine ⟨hT7, ?_⟩
      simp only [List.setIfInBounds_toArray, List.set]
      refine held_pure (i := 8) (v := (.pointer (some ⟨gc, 0, none⟩))) rfl rfl (by kernel_rfl) (by kernel_rfl) (by kernel_rfl) (fun _ _ _ h => h) (Or.inl ⟨by rfl, fun w => by go_simp⟩) hT7 ?_
      simp only [List.setIfInBounds_toArray, List.set]
      refine held_pure (i := 9) (v := (.pointer (some ⟨gc, 5, none⟩))) rfl rfl (by kernel_rfl) (by kernel_rfl) (by kernel_rfl) (fun _ _ _ h => h) (Or.inl ⟨by rfl, fun w => by go_simp⟩) hT7 ?_
      simp only [List.setIfInBounds_toArray, List.set]
      have h79 : ∀ {k : Nat} {cs : Array Value} {ty : TypeId}, (World.drew X5).heap[k]? = some (.cells cs ty (0, 0)) → ty ≠ 9 → ¬ pv.ownBlock = some k := fun hk h9 hp => by obtain ⟨c3, h3⟩ := HC6.out.pastBlock hp; exact heap_ne hk h3 h9 rfl
      have oa : Only (fun k => pv.ownBlock = some k) (World.drew X5) X6 := Only.trans ((Only.refl _ _).alloc _) o6
      have hc6 : X6.heap[gc]? = some (.cells (cpA gl gp pv { st with page := updP st.page i j (some (tornT s m x)) }) 75 (0, 0)) := keepRow oa HC6.out.chip (h79 HC6.out.chip (by decide))
      have hpv2 : pv2.ownBlock = pv.ownBlock ∨ ∀ k, pv2.ownBlock = some k → (World.drew X5).heap.size ≤ k := hat6.imp id (fun e k hk => by rw [e] at hk; cases hk; simp)
      have hne2 : ∀ {k : Nat}, k < (World.drew X5).heap.size → pv.ownBlock ≠ some k → pv2.ownBlock ≠ some k := fun hk hp h2 => by rcases hpv2 with e | e; exact hp (e ▸ h2); have := e _ h2; omega
      obtain ⟨X7, hs7, g7, o7, -⟩ := one_at X6 (o := 5) (ty := 43) (v := pv2) hc6 info43s (by rcases own6.2 with ⟨h, _⟩ | ⟨_, _, _, h, _⟩ <;> rw [h] <;> rfl) (by show 5 < 8; omega)
      have hT8 : Tab ((bs, #[.string (tornT s m x)], 9) :: (bp, #[.int .i64 j], 3) :: (bi, #[.int .i64 i], 3) :: (bc, #[.pointer (some ⟨gc, 0, none⟩)], 23) :: T) a X7 := hT7.move o7 (fun q hq hk => (HNO.out q hq).1 (.inl hk)) (fun k hk => by rw [hk]; exact Nat.le_trans HBA.out HC6.out.base.1)
      have hC7 : Chip B gc gl gp pg pv2 { st with page := updP st.page i j (some (tornT s m x)), past := st.past ++ [(tornT s m x)] } p X7 := HC6.out.self (st' := { st with page := updP st.page i j (some (tornT s m x)), past := st.past ++ [(tornT s m x)] }) rfl rfl rfl rfl rfl g7 ((oa.mono fun k hk => .inr hk).trans (o7.mono fun k hk => .inl hk)) (by show World.ownsRow X7 B 9 1 pv2 (st.past ++ [(tornT s m x)]).length ((st.past ++ [(tornT s m x)]).map Value.string); rw [List.length_append, List.map_append]; exact keepOwn o7 own6 (fun k hk e => by subst e; exact hne2 (Array.getElem?_eq_some_iff.1 HC6.out.chip).1 (h79 HC6.out.chip (by decide)) hk)) (fun b s hb hp => hne2 (Array.getElem?_eq_some_iff.1 hb).1 hp)
      refine held_store (j := 10) (by kernel_rfl) rfl rfl rfl 43 (.tmp 49) (.tmp 47) rfl _ rfl _ rfl hs7 hT8 ?_
      have hno : ∀ q ∈ ((bs, #[.string (tornT s m x)], 9) :: (bp, #[.int .i64 j], 3) :: (bi, #[.int .i64 i], 3) :: (bc, #[.pointer (some ⟨gc, 0, none⟩)], 23) :: T), ¬ Mine gc gl gp pg pv2 st.segs q.1 := fun q hq hm => by
        have hq0 := (HNO.out q hq).1
        rcases hm with h | h | h | h | h
        · exact hq0 (.inl h)
        · exact hq0 (.inr (.inl h))
        · exact hq0 (.inr (.inr (.inl h)))
        · exact hq0 (.inr (.inr (.inr (.inl h))))
        · exact hne2 (hS0.lt hq) (fun e => hq0 (.inr (.inr (.inr (.inr e))))) h
      refine wpAnyH_done (by kernel_rfl) ?_ _
      have b1 := hT8.c 3 rfl 0 (v := .pointer (some ⟨gc, 0, none⟩)) rfl
      have b6 := hC7.c6
      obtain ⟨X8, hs8, g8, o8, -⟩ := one_at X7 (o := 6) (ty := 3) (v := .int .i64 (st.programs + 1)) hC7.chip info3s rfl (by show 6 < 8; omega)
      have hT9 : Tab ((bs, #[.string (tornT s m x)], 9) :: (bp, #[.int .i64 j], 3) :: (bi, #[.int .i64 i], 3) :: (bc, #[.pointer (some ⟨gc, 0, none⟩)], 23) :: T) a X8 := hT8.move o8 (fun q hq hk => hno q hq (.inl hk)) (fun k hk => by rw [hk]; exact Nat.le_trans HBA.out HC6.out.base.1)
      have hC8 : Chip B gc gl gp pg pv2 (st.prg i j (tornT s m x)) p X8 := hC7.self (st' := st.prg i j (tornT s m x)) rfl rfl rfl rfl rfl g8 (o8.mono fun k hk => .inl hk) (keepOwn o8 hC7.past (fun k hk e => by subst e; obtain ⟨c3, h3⟩ := hC7.pastBlock hk; exact heap_ne h3 hC7.chip (by decide) rfl)) (fun b s hb hp => hp)
      have HS8 := Lib.hid hs8
      have HF : Hid (∃ pv', Chip B gc gl gp pg pv' (st.prg i j (tornT s m x)) p X8 ∧ Held ((bs, #[.string (tornT s m x)], 9) :: (bp, #[.int .i64 j], 3) :: (bi, #[.int .i64 i], 3) :: (bc, #[.pointer (some ⟨gc, 0, none⟩)], 23) :: T) a B gc gl gp pg pv' st.segs X8) := ⟨pv2, hC8, hT9, hno, HBA.out⟩
      have hpr := HP.out
      have hp0 : 0 ≤ st.programs := hpr.1
      have hp1 : st.programs ≤ 100000 := hpr.2
      clear hT7 oa hc6 h79 hpv2 hne2 hs7 g7 o7 hT8 hC7 hno hs8 g8 o8 hT9 hC8 own6 gro6 hat6 o6 hpr
      go_wp2_with (((with_reducible refine wpList_store_at ?_ 3 (.tmp 56) (.tmp 54) ?_ _ ?_ _ ?_ HS8.out ?_); rfl; rfl; rfl; rfl))
      go_end0
      exact ⟨rfl, HF.out⟩
    · refine op_exec (j := 6) rfl rfl (by rfl) _ (exec_bs 43 1 #[(0, .tmp 45)] rfl [(0, .string (tornT s m x))] rfl _ HBS.out) ?_
      refine ⟨HT6.out, ?_⟩
      simp only [List.setIfInBounds_toArray, List.set]
      refine held_execd (j := 4) (by kernel_rfl) rfl rfl (by rfl) pv (exec_load 43 (.tmp 43) rfl ⟨gc, 5, none⟩ rfl pv HLP'.out) HT6.out ?_
      simp only [List.setIfInBounds_toArray, List.set]
      refine held_append (j := 7) (by kernel_rfl) rfl rfl rfl (.tmp 44) (.tmp 46) 43 rfl B 9 i9 (.string ByteArray.empty) 1 16 Try.underlying43 hi9 hz9 hz91 hz92 rfl (by decide) pv st.past.length (st.past.map Value.string) rfl HOW.out ⟨(World.drew X5).heap.size, 0, none⟩ 1 1 [.string (tornT s m x)] rfl rfl (cell_one_new _ _ _) (by intro u hu; simp at hu; subst hu; rfl) HL1.out HL2.out HL3.out ?_
      intro pv2 X6 own6 gro6 hat6
      have o6 := grown_only gro6
      have hT7 : Tab ((bs, #[.string (tornT s m x)], 9) :: (bp, #[.int .i64 j], 3) :: (bi, #[.int .i64 i], 3) :: (bc, #[.pointer (some ⟨gc, 0, none⟩)], 23) :: T) a X6 := HT6.out.move o6 (fun q hq hk => (HNO.out q hq).1 (.inr (.inr (.inr (.inr hk))))) (fun k hk => Nat.le_trans HBA.out (HOW.out.lt k hk).1)
      refine ⟨hT7, ?_⟩
      simp only [List.setIfInBounds_toArray, List.set]
      refine held_pure (i := 8) (v := (.pointer (some ⟨gc, 0, none⟩))) rfl rfl (by kernel_rfl) (by kernel_rfl) (by kernel_rfl) (fun _ _ _ h => h) (Or.inl ⟨by rfl, fun w => by go_simp⟩) hT7 ?_
      simp only [List.setIfInBounds_toArray, List.set]
      refine held_pure (i := 9) (v := (.pointer (some ⟨gc, 5, none⟩))) rfl rfl (by kernel_rfl) (by kernel_rfl) (by kernel_rfl) (fun _ _ _ h => h) (Or.inl ⟨by rfl, fun w => by go_simp⟩) hT7 ?_
      simp only [List.setIfInBounds_toArray, List.set]
      have h79 : ∀ {k : Nat} {cs : Array Value} {ty : TypeId}, (World.drew X5).heap[k]? = some (.cells cs ty (0, 0)) → ty ≠ 9 → ¬ pv.ownBlock = some k := fun hk h9 hp => by obtain ⟨c3, h3⟩ := HC6.out.pastBlock hp; exact heap_ne hk h3 h9 rfl
      have oa : Only (fun k => pv.ownBlock = some k) (World.drew X5) X6 := Only.trans ((Only.refl _ _).alloc _) o6
      have hc6 : X6.heap[gc]? = some (.cells (cpA gl gp pv { st with page := updP st.page i j (some (tornT s m x)) }) 75 (0, 0)) := keepRow oa HC6.out.chip (h79 HC6.out.chip (by decide))
      have hpv2 : pv2.ownBlock = pv.ownBlock ∨ ∀ k, pv2.ownBlock = some k → (World.drew X5).heap.size ≤ k := hat6.imp id (fun e k hk => by rw [e] at hk; cases hk; simp)
      have hne2 : ∀ {k : Nat}, k < (World.drew X5).heap.size → pv.ownBlock ≠ some k → pv2.ownBlock ≠ some k := fun hk hp h2 => by rcases hpv2 with e | e; exact hp (e ▸ h2); have := e _ h2; omega
      obtain ⟨X7, hs7, g7, o7, -⟩ := one_at X6 (o := 5) (ty := 43) (v := pv2) hc6 info43s (by rcases own6.2 with ⟨h, _⟩ | ⟨_, _, _, h, _⟩ <;> rw [h] <;> rfl) (by show 5 < 8; omega)
      have hT8 : Tab ((bs, #[.string (tornT s m x)], 9) :: (bp, #[.int .i64 j], 3) :: (bi, #[.int .i64 i], 3) :: (bc, #[.pointer (some ⟨gc, 0, none⟩)], 23) :: T) a X7 := hT7.move o7 (fun q hq hk => (HNO.out q hq).1 (.inl hk)) (fun k hk => by rw [hk]; exact Nat.le_trans HBA.out HC6.out.base.1)
      have hC7 : Chip B gc gl gp pg pv2 { st with page := updP st.page i j (some (tornT s m x)), past := st.past ++ [(tornT s m x)] } p X7 := HC6.out.self (st' := { st with page := updP st.page i j (some (tornT s m x)), past := st.past ++ [(tornT s m x)] }) rfl rfl rfl rfl rfl g7 ((oa.mono fun k hk => .inr hk).trans (o7.mono fun k hk => .inl hk)) (by show World.ownsRow X7 B 9 1 pv2 (st.past ++ [(tornT s m x)]).length ((st.past ++ [(tornT s m x)]).map Value.string); rw [List.length_append, List.map_append]; exact keepOwn o7 own6 (fun k hk e => by subst e; exact hne2 (Array.getElem?_eq_some_iff.1 HC6.out.chip).1 (h79 HC6.out.chip (by decide)) hk)) (fun b s hb hp => hne2 (Array.getElem?_eq_some_iff.1 hb).1 hp)
      refine held_store (j := 10) (by kernel_rfl) rfl rfl rfl 43 (.tmp 49) (.tmp 47) rfl _ rfl _ rfl hs7 hT8 ?_
      have hno : ∀ q ∈ ((bs, #[.string (tornT s m x)], 9) :: (bp, #[.int .i64 j], 3) :: (bi, #[.int .i64 i], 3) :: (bc, #[.pointer (some ⟨gc, 0, none⟩)], 23) :: T), ¬ Mine gc gl gp pg pv2 st.segs q.1 := fun q hq hm => by
        have hq0 := (HNO.out q hq).1
        rcases hm with h | h | h | h | h
        · exact hq0 (.inl h)
        · exact hq0 (.inr (.inl h))
        · exact hq0 (.inr (.inr (.inl h)))
        · exact hq0 (.inr (.inr (.inr (.inl h))))
        · exact hne2 (hS0.lt hq) (fun e => hq0 (.inr (.inr (.inr (.inr e))))) h
      refine wpAnyH_done (by kernel_rfl) ?_ _
      have b1 := hT8.c 3 rfl 0 (v := .pointer (some ⟨gc, 0, none⟩)) rfl
      have b6 := hC7.c6
      obtain ⟨X8, hs8, g8, o8, -⟩ := one_at X7 (o := 6) (ty := 3) (v := .int .i64 (st.programs + 1)) hC7.chip info3s rfl (by show 6 < 8; omega)
      have hT9 : Tab ((bs, #[.string (tornT s m x)], 9) :: (bp, #[.int .i64 j], 3) :: (bi, #[.int .i64 i], 3) :: (bc, #[.pointer (some ⟨gc, 0, none⟩)], 23) :: T) a X8 := hT8.move o8 (fun q hq hk => hno q hq (.inl hk)) (fun k hk => by rw [hk]; exact Nat.le_trans HBA.out HC6.out.base.1)
      have hC8 : Chip B gc gl gp pg pv2 (st.prg i j (tornT s m x)) p X8 := hC7.self (st' := st.prg i j (tornT s m x)) rfl rfl rfl rfl rfl g8 (o8.mono fun k hk => .inl hk) (keepOwn o8 hC7.past (fun k hk e => by subst e; obtain ⟨c3, h3⟩ := hC7.pastBlock hk; exact heap_ne h3 hC7.chip (by decide) rfl)) (fun b s hb hp => hp)
      have HS8 := Lib.hid hs8
      have HF : Hid (∃ pv', Chip B gc gl gp pg pv' (st.prg i j (tornT s m x)) p X8 ∧ Held ((bs, #[.string (tornT s m x)], 9) :: (bp, #[.int .i64 j], 3) :: (bi, #[.int .i64 i], 3) :: (bc, #[.pointer (some ⟨gc, 0, none⟩)], 23) :: T) a B gc gl gp pg pv' st.segs X8) := ⟨pv2, hC8, hT9, hno, HBA.out⟩
      have hpr := HP.out
      have hp0 : 0 ≤ st.programs := hpr.1
      have hp1 : st.programs ≤ 100000 := hpr.2
      clear hT7 oa hc6 h79 hpv2 hne2 hs7 g7 o7 hT8 hC7 hno hs8 g8 o8 hT9 hC8 own6 gro6 hat6 o6 hpr
      go_wp2_with (((with_reducible refine wpList_store_at ?_ 3 (.tmp 56) (.tmp 54) ?_ _ ?_ _ ?_ HS8.out ?_); rfl; rfl; rfl; rfl))
      go_end0
      exact ⟨rfl, HF.out⟩
  · refine op_exec (j := 4) rfl rfl (by rfl) _ (exec_bs 35 1 #[(0, .tmp 23)] rfl [(0, .int .u8 jk)] rfl _ HBB.out) ?_
    refine ⟨trivial, ?_⟩
    simp only [List.setIfInBounds_toArray, List.set]
    refine held_two (j := 0) (k := 5) (by kernel_rfl) ?_ ?_
    · refine op_exec (j := 0) rfl rfl (by rfl) (.string s) (exec_load 9 (.tmp 2) rfl ⟨bs, 0, none⟩ rfl _ HLD1.out) ?_
      refine ⟨trivial, ?_⟩
      simp only [List.setIfInBounds_toArray, List.set]
      refine held_pure (i := 2) (v := (.string (s.extract 0 m))) rfl rfl (by kernel_rfl) (by kernel_rfl) (by kernel_rfl) (fun _ _ _ h => h) (Or.inl ⟨by rfl, fun w => by go_simp⟩) trivial ?_
      simp only [List.setIfInBounds_toArray, List.set]
      refine held_conv (j := 5) (by kernel_rfl) rfl rfl rfl 35 9 (.tmp 24) rfl _ rfl _ HCV.out trivial ?_
      simp only [List.setIfInBounds_toArray, List.set]
      refine held_call (j := 8) (by kernel_rfl) rfl rfl (by rfl) Try.func37 (by kernel_rfl) rfl rfl [.string ⟨#[x]⟩, .int .i64 ((256 - m : Nat) : Int)] rfl (HRP.out _) ?_
      intro y1 k1
      refine ⟨trivial, ?_⟩
      simp only [List.setIfInBounds_toArray, List.set]
      have HT3 := Lib.hid (HT2.out.call k1)
      have HC3 := Lib.hid (HC2.out.call k1)
      have HF3 := Lib.hid (HF2.out.keep HC2.out (Only.of_below k1))
      refine held_pure (i := 9) (v := (.string (s.extract 0 m ++ ⟨(Lib.repeatL [x] (256 - m)).toArray⟩))) rfl rfl (by kernel_rfl) (by kernel_rfl) (by kernel_rfl) (fun _ _ _ h => h) (Or.inl ⟨by rfl, fun w => by go_simp⟩) trivial ?_
      simp only [List.setIfInBounds_toArray, List.set]
      obtain ⟨X, hs4, T4, -, o4⟩ := HT3.out.one 0 rfl 9 0 (.string (tornT s m x)) info9s rfl (by show 0 < 1; omega)
      refine held_store (j := 10) (by kernel_rfl) rfl rfl rfl 9 (.tmp 2) (.tmp 29) rfl _ rfl _ rfl hs4 trivial ?_
      have HC := Lib.hid (HC3.out.box o4 (HNO.out (bs, _, 9) (List.mem_cons_self ..)).1 HF3.out)
      have HTT : Hid (Tab ((bs, #[.string (tornT s m x)], 9) :: (bp, #[.int .i64 j], 3) :: (bi, #[.int .i64 i], 3) :: (bc, #[.pointer (some ⟨gc, 0, none⟩)], 23) :: T) a X) := T4
      clear hs4 T4 o4 k1 hsub had had2
      refine wpAnyH_done (by kernel_rfl) ?_ _
      go_wp2_with fail
      refine wp_region_held (S := (fun W => Tab ((bs, #[.string (tornT s m x)], 9) :: (bp, #[.int .i64 j], 3) :: (bi, #[.int .i64 i], 3) :: (bc, #[.pointer (some ⟨gc, 0, none⟩)], 23) :: T) a W ∧ W.cell? ⟨gc, 4, none⟩ = some (.slice (some ⟨gl, 0, none⟩) st.segs st.segs) ∧ W.cell? ⟨gl, i * 3, none⟩ = some (.slice (some ⟨pg i, 0, none⟩) st.pages st.pages))) (by kernel_rfl) ?_
      change wpAnyH _ _ _ _ _ _ _ _ (World.drew _)
      have hC4 := HC.out.keep (Only.refl _ _).drew
      have hT4 := HTT.out.drew
      have hS0 : (fun W => Tab ((bs, #[.string (tornT s m x)], 9) :: (bp, #[.int .i64 j], 3) :: (bi, #[.int .i64 i], 3) :: (bc, #[.pointer (some ⟨gc, 0, none⟩)], 23) :: T) a W ∧ W.cell? ⟨gc, 4, none⟩ = some (.slice (some ⟨gl, 0, none⟩) st.segs st.segs) ∧ W.cell? ⟨gl, i * 3, none⟩ = some (.slice (some ⟨pg i, 0, none⟩) st.pages st.pages)) (World.drew X) := ⟨hT4, hC4.c4, hC4.pgs HI.out⟩
      have F1 := Lib.hid (fun W (h : (fun W => Tab ((bs, #[.string (tornT s m x)], 9) :: (bp, #[.int .i64 j], 3) :: (bi, #[.int .i64 i], 3) :: (bc, #[.pointer (some ⟨gc, 0, none⟩)], 23) :: T) a W ∧ W.cell? ⟨gc, 4, none⟩ = some (.slice (some ⟨gl, 0, none⟩) st.segs st.segs) ∧ W.cell? ⟨gl, i * 3, none⟩ = some (.slice (some ⟨pg i, 0, none⟩) st.pages st.pages)) W) => h.1.c 3 rfl 0 (v := .pointer (some ⟨gc, 0, none⟩)) rfl)
      have F2 := Lib.hid (fun W (h : (fun W => Tab ((bs, #[.string (tornT s m x)], 9) :: (bp, #[.int .i64 j], 3) :: (bi, #[.int .i64 i], 3) :: (bc, #[.pointer (some ⟨gc, 0, none⟩)], 23) :: T) a W ∧ W.cell? ⟨gc, 4, none⟩ = some (.slice (some ⟨gl, 0, none⟩) st.segs st.segs) ∧ W.cell? ⟨gl, i * 3, none⟩ = some (.slice (some ⟨pg i, 0, none⟩) st.pages st.pages)) W) => h.2.1)
      have F3 := Lib.hid (fun W (h : (fun W => Tab ((bs, #[.string (tornT s m x)], 9) :: (bp, #[.int .i64 j], 3) :: (bi, #[.int .i64 i], 3) :: (bc, #[.pointer (some ⟨gc, 0, none⟩)], 23) :: T) a W ∧ W.cell? ⟨gc, 4, none⟩ = some (.slice (some ⟨gl, 0, none⟩) st.segs st.segs) ∧ W.cell? ⟨gl, i * 3, none⟩ = some (.slice (some ⟨pg i, 0, none⟩) st.pages st.pages)) W) => h.1.c 2 rfl 0 (v := .int .i64 i) rfl)
      have F4 := Lib.hid (fun W (h : (fun W => Tab ((bs, #[.string (tornT s m x)], 9) :: (bp, #[.int .i64 j], 3) :: (bi, #[.int .i64 i], 3) :: (bc, #[.pointer (some ⟨gc, 0, none⟩)], 23) :: T) a W ∧ W.cell? ⟨gc, 4, none⟩ = some (.slice (some ⟨gl, 0, none⟩) st.segs st.segs) ∧ W.cell? ⟨gl, i * 3, none⟩ = some (.slice (some ⟨pg i, 0, none⟩) st.pages st.pages)) W) => h.2.2)
      have F5 := Lib.hid (fun W (h : (fun W => Tab ((bs, #[.string (tornT s m x)], 9) :: (bp, #[.int .i64 j], 3) :: (bi, #[.int .i64 i], 3) :: (bc, #[.pointer (some ⟨gc, 0, none⟩)], 23) :: T) a W ∧ W.cell? ⟨gc, 4, none⟩ = some (.slice (some ⟨gl, 0, none⟩) st.segs st.segs) ∧ W.cell? ⟨gl, i * 3, none⟩ = some (.slice (some ⟨pg i, 0, none⟩) st.pages st.pages)) W) => h.1.c 1 rfl 0 (v := .int .i64 j) rfl)
      obtain ⟨cs, hcs, hcz, -⟩ := hC4.page i HI.out
      obtain ⟨X5, hs5, g5, o5, -⟩ := one_at (World.drew X) (o := j) (ty := 91) (v := .pointer (some ⟨bs, 0, none⟩)) hcs info91s rfl (by rw [hcz]; exact HJ.out)
      have hT5 : Tab ((bs, #[.string (tornT s m x)], 9) :: (bp, #[.int .i64 j], 3) :: (bi, #[.int .i64 i], 3) :: (bc, #[.pointer (some ⟨gc, 0, none⟩)], 23) :: T) a X5 := hT4.move o5 (fun q hq hk => (HNO.out q hq).1 (.inr (.inr (.inr (.inl ⟨i, HI.out, hk⟩))))) (fun k hk => by rw [hk]; exact Nat.le_trans HBA.out (HC.out.base.2.2.2 i HI.out))
      have hC5 := hC4.setPage HI.out HJ.out hcs g5 o5 (hT4.get 0 rfl) (fun h => (HNO.out _ (List.mem_cons_self ..)).1 (.inr (.inr (.inr (.inr h)))))
      have HS5 := Lib.hid hs5
      have HS5S : Hid ((fun W => Tab ((bs, #[.string (tornT s m x)], 9) :: (bp, #[.int .i64 j], 3) :: (bi, #[.int .i64 i], 3) :: (bc, #[.pointer (some ⟨gc, 0, none⟩)], 23) :: T) a W ∧ W.cell? ⟨gc, 4, none⟩ = some (.slice (some ⟨gl, 0, none⟩) st.segs st.segs) ∧ W.cell? ⟨gl, i * 3, none⟩ = some (.slice (some ⟨pg i, 0, none⟩) st.pages st.pages)) X5) := ⟨hT5, hC5.c4, hC5.pgs HI.out⟩
      have HT5 := Lib.hid hT5
      have HC5 := Lib.hid hC5
      clear hcs hcz hs5 g5 o5 hT5 hC5 hC4 hT4
      refine held_take (i := 0) (v := (.pointer (some ⟨gc, 0, none⟩))) rfl rfl (by kernel_rfl) (by kernel_rfl) (by kernel_rfl) (fun _ _ _ h => h) (Or.inl ⟨by rfl, fun w hS => by have hc := F1.out w hS; go_simp⟩) hS0 ?_
      simp only [List.setIfInBounds_toArray, List.set]
      refine held_pure (i := 1) (v := (.pointer (some ⟨gc, 0, none⟩))) rfl rfl (by kernel_rfl) (by kernel_rfl) (by kernel_rfl) (fun _ _ _ h => h) (Or.inl ⟨by rfl, fun w => by go_simp⟩) hS0 ?_
      simp only [List.setIfInBounds_toArray, List.set]
      refine held_pure (i := 2) (v := (.pointer (some ⟨gc, 4, none⟩))) rfl rfl (by kernel_rfl) (by kernel_rfl) (by kernel_rfl) (fun _ _ _ h => h) (Or.inl ⟨by rfl, fun w => by go_simp⟩) hS0 ?_
      simp only [List.setIfInBounds_toArray, List.set]
      refine held_take (i := 3) (v := (.slice (some ⟨gl, 0, none⟩) st.segs st.segs)) rfl rfl (by kernel_rfl) (by kernel_rfl) (by kernel_rfl) (fun _ _ _ h => h) (Or.inl ⟨by rfl, fun w hS => by have hc := F2.out w hS; go_simp⟩) hS0 ?_
      simp only [List.setIfInBounds_toArray, List.set]
      refine held_take (i := 4) (v := (.int .i64 i)) rfl rfl (by kernel_rfl) (by kernel_rfl) (by kernel_rfl) (fun _ _ _ h => h) (Or.inl ⟨by rfl, fun w hS => by have hc := F3.out w hS; go_simp⟩) hS0 ?_
      simp only [List.setIfInBounds_toArray, List.set]
      refine held_pure (i := 5) (v := (.pointer (some ⟨gl, i * 3, none⟩))) rfl rfl (by kernel_rfl) (by kernel_rfl) (by kernel_rfl) (fun _ _ _ h => h) (Or.inl ⟨by rfl, fun w => by go_simp⟩) hS0 ?_
      simp only [List.setIfInBounds_toArray, List.set]
      refine held_pure (i := 6) (v := (.pointer (some ⟨gl, i * 3, none⟩))) rfl rfl (by kernel_rfl) (by kernel_rfl) (by kernel_rfl) (fun _ _ _ h => h) (Or.inl ⟨by rfl, fun w => by go_simp⟩) hS0 ?_
      simp only [List.setIfInBounds_toArray, List.set]
      refine held_take (i := 7) (v := (.slice (some ⟨pg i, 0, none⟩) st.pages st.pages)) rfl rfl (by kernel_rfl) (by kernel_rfl) (by kernel_rfl) (fun _ _ _ h => h) (Or.inl ⟨by rfl, fun w hS => by have hc := F4.out w hS; go_simp⟩) hS0 ?_
      simp only [List.setIfInBounds_toArray, List.set]
      refine held_take (i := 8) (v := (.int .i64 j)) rfl rfl (by kernel_rfl) (by kernel_rfl) (by kernel_rfl) (fun _ _ _ h => h) (Or.inl ⟨by rfl, fun w hS => by have hc := F5.out w hS; go_simp⟩) hS0 ?_
      simp only [List.setIfInBounds_toArray, List.set]
      refine held_pure (i := 9) (v := (.pointer (some ⟨pg i, j, none⟩))) rfl rfl (by kernel_rfl) (by kernel_rfl) (by kernel_rfl) (fun _ _ _ h => h) (Or.inl ⟨by rfl, fun w => by go_simp⟩) hS0 ?_
      simp only [List.setIfInBounds_toArray, List.set]
      refine held_store (j := 10) (by kernel_rfl) rfl rfl rfl 91 (.tmp 39) (.tmp 2) rfl _ rfl _ rfl HS5.out HS5S.out ?_
      refine wpAnyH_done (by kernel_rfl) ?_ _
      clear F1 F2 F3 F4 F5 HS5 HS5S hS0
      go_wp2_with fail
      refine wp_region_held (S := (fun W => Tab ((bs, #[.string (tornT s m x)], 9) :: (bp, #[.int .i64 j], 3) :: (bi, #[.int .i64 i], 3) :: (bc, #[.pointer (some ⟨gc, 0, none⟩)], 23) :: T) a W)) (by kernel_rfl) ?_
      change wpAnyH _ _ _ _ _ _ _ _ (World.drew _)
      have hS0 : (fun W => Tab ((bs, #[.string (tornT s m x)], 9) :: (bp, #[.int .i64 j], 3) :: (bi, #[.int .i64 i], 3) :: (bc, #[.pointer (some ⟨gc, 0, none⟩)], 23) :: T) a W) (World.drew X5) := HT5.out.drew
      have HC6 := Lib.hid (HC5.out.keep (Only.refl _ _).drew)
      have G1 := Lib.hid (fun W (h : (fun W => Tab ((bs, #[.string (tornT s m x)], 9) :: (bp, #[.int .i64 j], 3) :: (bi, #[.int .i64 i], 3) :: (bc, #[.pointer (some ⟨gc, 0, none⟩)], 23) :: T) a W) W) => h.c 3 rfl 0 (v := .pointer (some ⟨gc, 0, none⟩)) rfl)
      have G3 := Lib.hid (fun W (h : (fun W => Tab ((bs, #[.string (tornT s m x)], 9) :: (bp, #[.int .i64 j], 3) :: (bi, #[.int .i64 i], 3) :: (bc, #[.pointer (some ⟨gc, 0, none⟩)], 23) :: T) a W) W) => h.c 0 rfl 0 (v := .string (tornT s m x)) rfl)
      refine held_take (i := 0) (v := (.pointer (some ⟨gc, 0, none⟩))) rfl rfl (by kernel_rfl) (by kernel_rfl) (by kernel_rfl) (fun _ _ _ h => h) (Or.inl ⟨by rfl, fun w hS => by have hc := G1.out w hS; go_simp⟩) hS0 ?_
      simp only [List.setIfInBounds_toArray, List.set]
      refine held_take (i := 1) (v := (.pointer (some ⟨gc, 0, none⟩))) rfl rfl (by kernel_rfl) (by kernel_rfl) (by kernel_rfl) (fun _ _ _ h => h) (Or.inl ⟨by rfl, fun w hS => by have hc := G1.out w hS; go_simp⟩) hS0 ?_
      simp only [List.setIfInBounds_toArray, List.set]
      refine held_pure (i := 2) (v := (.pointer (some ⟨gc, 0, none⟩))) rfl rfl (by kernel_rfl) (by kernel_rfl) (by kernel_rfl) (fun _ _ _ h => h) (Or.inl ⟨by rfl, fun w => by go_simp⟩) hS0 ?_
      simp only [List.setIfInBounds_toArray, List.set]
      refine held_pure (i := 3) (v := (.pointer (some ⟨gc, 5, none⟩))) rfl rfl (by kernel_rfl) (by kernel_rfl) (by kernel_rfl) (fun _ _ _ h => h) (Or.inl ⟨by rfl, fun w => by go_simp⟩) hS0 ?_
      simp only [List.setIfInBounds_toArray, List.set]
      refine held_take (i := 5) (v := (.string (tornT s m x))) rfl rfl (by kernel_rfl) (by kernel_rfl) (by kernel_rfl) (fun _ _ _ h => h) (Or.inl ⟨by rfl, fun w hS => by have hc := G3.out w hS; go_simp⟩) hS0 ?_
      simp only [List.setIfInBounds_toArray, List.set]
      have hlp : (loadVar 43 ⟨gc, 5, none⟩).run Try.prog (World.drew X5) = .ok pv (World.drew X5) := load_one 43 _ Try.underlying43 rfl HC6.out.c5
      have hT6 : Tab ((bs, #[.string (tornT s m x)], 9) :: (bp, #[.int .i64 j], 3) :: (bi, #[.int .i64 i], 3) :: (bc, #[.pointer (some ⟨gc, 0, none⟩)], 23) :: T) a ((World.drew X5).alloc (.cells #[.string (tornT s m x)] 9)) := hS0.on ((Only.refl _ _).alloc _)
      have hlp' : (loadVar 43 ⟨gc, 5, none⟩).run Try.prog ((World.drew X5).alloc (.cells #[.string (tornT s m x)] 9)) = .ok pv ((World.drew X5).alloc (.cells #[.string (tornT s m x)] 9)) := load_one 43 _ Try.underlying43 rfl (HC6.out.keep ((Only.refl _ _).alloc (.cells #[.string (tornT s m x)] 9))).c5
      have HLP := Lib.hid hlp
      have HLP' := Lib.hid hlp'
      have HT6 := Lib.hid hT6
      have HBS := Lib.hid (build_s (tornT s m x) (World.drew X5))
      have HOW : Hid (World.ownsRow ((World.drew X5).alloc (.cells #[.string (tornT s m x)] 9)) B 9 1 pv st.past.length (st.past.map Value.string)) := (HC6.out.keep ((Only.refl _ _).alloc _)).past
      have HL3 : Hid (B ≤ ((World.drew X5).alloc (.cells #[.string (tornT s m x)] 9)).heap.size) := Nat.le_trans HC6.out.base.1 (Nat.le_trans (Nat.le_of_lt (Array.getElem?_eq_some_iff.1 HC6.out.chip).1) (by simp))
      clear hlp hlp' hT6
      refine held_two (j := 4) (k := 6) (by kernel_rfl) ?_ ?_
      · refine op_exec (j := 4) rfl rfl (by rfl) pv (exec_load 43 (.tmp 43) rfl ⟨gc, 5, none⟩ rfl pv HLP.out) ?_
        refine ⟨hS0, ?_⟩
        simp only [List.setIfInBounds_toArray, List.set]
        refine held_bs (j := 6) (by kernel_rfl) rfl rfl rfl 43 1 #[(0, .tmp 45)] rfl [(0, .string (tornT s m x))] rfl _ HBS.out HT6.out ?_
        simp only [List.setIfInBounds_toArray, List.set]
        refine held_append (j := 7) (by kernel_rfl) rfl rfl rfl (.tmp 44) (.tmp 46) 43 rfl B 9 i9 (.string ByteArray.empty) 1 16 Try.underlying43 hi9 hz9 hz91 hz92 rfl (by decide) pv st.past.length (st.past.map Value.string) rfl HOW.out ⟨(World.drew X5).heap.size, 0, none⟩ 1 1 [.string (tornT s m x)] rfl rfl (cell_one_new _ _ _) (by intro u hu; simp at hu; subst hu; rfl) HL1.out HL2.out HL3.out ?_
        intro pv2 X6 own6 gro6 hat6
        have o6 := grown_only gro6
        have hT7 : Tab ((bs, #[.string (tornT s m x)], 9) :: (bp, #[.int .i64 j], 3) :: (bi, #[.int .i64 i], 3) :: (bc, #[.pointer (some ⟨gc, 0, none⟩)], 23) :: T) a X6 := HT6.out.move o6 (fun q hq hk => (HNO.out q hq).1 (.inr (.inr (.inr (.inr hk))))) (fun k hk => Nat.le_trans HBA.out (HOW.out.lt k hk).1)
        refine ⟨hT7, ?_⟩
        simp only [List.setIfInBounds_toArray, List.set]
        refine held_pure (i := 8) (v := (.pointer (some ⟨gc, 0, none⟩))) rfl rfl (by kernel_rfl) (by kernel_rfl) (by kernel_rfl) (fun _ _ _ h => h) (Or.inl ⟨by rfl, fun w => by go_simp⟩) hT7 ?_
        simp only [List.setIfInBounds_toArray, List.set]
        refine held_pure (i := 9) (v := (.pointer (some ⟨gc, 5, none⟩))) rfl rfl (by kernel_rfl) (by kernel_rfl) (by kernel_rfl) (fun _ _ _ h => h) (Or.inl ⟨by rfl, fun w => by go_simp⟩) hT7 ?_
        simp only [List.setIfInBounds_toArray, List.set]
        have h79 : ∀ {k : Nat} {cs : Array Value} {ty : TypeId}, (World.drew X5).heap[k]? = some (.cells cs ty (0, 0)) → ty ≠ 9 → ¬ pv.ownBlock = some k := fun hk h9 hp => by obtain ⟨c3, h3⟩ := HC6.out.pastBlock hp; exact heap_ne hk h3 h9 rfl
        have oa : Only (fun k => pv.ownBlock = some k) (World.drew X5) X6 := Only.trans ((Only.refl _ _).alloc _) o6
        have hc6 : X6.heap[gc]? = some (.cells (cpA gl gp pv { st with page := updP st.page i j (some (tornT s m x)) }) 75 (0, 0)) := keepRow oa HC6.out.chip (h79 HC6.out.chip (by decide))
        have hpv2 : pv2.ownBlock = pv.ownBlock ∨ ∀ k, pv2.ownBlock = some k → (World.drew X5).heap.size ≤ k := hat6.imp id (fun e k hk => by rw [e] at hk; cases hk; simp)
        have hne2 : ∀ {k : Nat}, k < (World.drew X5).heap.size → pv.ownBlock ≠ some k → pv2.ownBlock ≠ some k := fun hk hp h2 => by rcases hpv2 with e | e; exact hp (e ▸ h2); have := e _ h2; omega
        obtain ⟨X7, hs7, g7, o7, -⟩ := one_at X6 (o := 5) (ty := 43) (v := pv2) hc6 info43s (by rcases own6.2 with ⟨h, _⟩ | ⟨_, _, _, h, _⟩ <;> rw [h] <;> rfl) (by show 5 < 8; omega)
        have hT8 : Tab ((bs, #[.string (tornT s m x)], 9) :: (bp, #[.int .i64 j], 3) :: (bi, #[.int .i64 i], 3) :: (bc, #[.pointer (some ⟨gc, 0, none⟩)], 23) :: T) a X7 := hT7.move o7 (fun q hq hk => (HNO.out q hq).1 (.inl hk)) (fun k hk => by rw [hk]; exact Nat.le_trans HBA.out HC6.out.base.1)
        have hC7 : Chip B gc gl gp pg pv2 { st with page := updP st.page i j (some (tornT s m x)), past := st.past ++ [(tornT s m x)] } p X7 := HC6.out.self (st' := { st with page := updP st.page i j (some (tornT s m x)), past := st.past ++ [(tornT s m x)] }) rfl rfl rfl rfl rfl g7 ((oa.mono fun k hk => .inr hk).trans (o7.mono fun k hk => .inl hk)) (by show World.ownsRow X7 B 9 1 pv2 (st.past ++ [(tornT s m x)]).length ((st.past ++ [(tornT s m x)]).map Value.string); rw [List.length_append, List.map_append]; exact keepOwn o7 own6 (fun k hk e => by subst e; exact hne2 (Array.getElem?_eq_some_iff.1 HC6.out.chip).1 (h79 HC6.out.chip (by decide)) hk)) (fun b s hb hp => hne2 (Array.getElem?_eq_some_iff.1 hb).1 hp)
        refine held_store (j := 10) (by kernel_rfl) rfl rfl rfl 43 (.tmp 49) (.tmp 47) rfl _ rfl _ rfl hs7 hT8 ?_
        have hno : ∀ q ∈ ((bs, #[.string (tornT s m x)], 9) :: (bp, #[.int .i64 j], 3) :: (bi, #[.int .i64 i], 3) :: (bc, #[.pointer (some ⟨gc, 0, none⟩)], 23) :: T), ¬ Mine gc gl gp pg pv2 st.segs q.1 := fun q hq hm => by
          have hq0 := (HNO.out q hq).1
          rcases hm with h | h | h | h | h
          · exact hq0 (.inl h)
          · exact hq0 (.inr (.inl h))
          · exact hq0 (.inr (.inr (.inl h)))
          · exact hq0 (.inr (.inr (.inr (.inl h))))
          · exact hne2 (hS0.lt hq) (fun e => hq0 (.inr (.inr (.inr (.inr e))))) h
        refine wpAnyH_done (by kernel_rfl) ?_ _
        have b1 := hT8.c 3 rfl 0 (v := .pointer (some ⟨gc, 0, none⟩)) rfl
        have b6 := hC7.c6
        obtain ⟨X8, hs8, g8, o8, -⟩ := one_at X7 (o := 6) (ty := 3) (v := .int .i64 (st.programs + 1)) hC7.chip info3s rfl (by show 6 < 8; omega)
        have hT9 : Tab ((bs, #[.string (tornT s m x)], 9) :: (bp, #[.int .i64 j], 3) :: (bi, #[.int .i64 i], 3) :: (bc, #[.pointer (some ⟨gc, 0, none⟩)], 23) :: T) a X8 := hT8.move o8 (fun q hq hk => hno q hq (.inl hk)) (fun k hk => by rw [hk]; exact Nat.le_trans HBA.out HC6.out.base.1)
        have hC8 : Chip B gc gl gp pg pv2 (st.prg i j (tornT s m x)) p X8 := hC7.self (st' := st.prg i j (tornT s m x)) rfl rfl rfl rfl rfl g8 (o8.mono fun k hk => .inl hk) (keepOwn o8 hC7.past (fun k hk e => by subst e; obtain ⟨c3, h3⟩ := hC7.pastBlock hk; exact heap_ne h3 hC7.chip (by decide) rfl)) (fun b s hb hp => hp)
        have HS8 := Lib.hid hs8
        have HF : Hid (∃ pv', Chip B gc gl gp pg pv' (st.prg i j (tornT s m x)) p X8 ∧ Held ((bs, #[.string (tornT s m x)], 9) :: (bp, #[.int .i64 j], 3) :: (bi, #[.int .i64 i], 3) :: (bc, #[.pointer (some ⟨gc, 0, none⟩)], 23) :: T) a B gc gl gp pg pv' st.segs X8) := ⟨pv2, hC8, hT9, hno, HBA.out⟩
        have hpr := HP.out
        have hp0 : 0 ≤ st.programs := hpr.1
        have hp1 : st.programs ≤ 100000 := hpr.2
        clear hT7 oa hc6 h79 hpv2 hne2 hs7 g7 o7 hT8 hC7 hno hs8 g8 o8 hT9 hC8 own6 gro6 hat6 o6 hpr
        go_wp2_with (((with_reducible refine wpList_store_at ?_ 3 (.tmp 56) (.tmp 54) ?_ _ ?_ _ ?_ HS8.out ?_); rfl; rfl; rfl; rfl))
        go_end0
        exact ⟨rfl, HF.out⟩
      · refine op_exec (j := 6) rfl rfl (by rfl) _ (exec_bs 43 1 #[(0, .tmp 45)] rfl [(0, .string (tornT s m x))] rfl _ HBS.out) ?_
        refine ⟨HT6.out, ?_⟩
        simp only [List.setIfInBounds_toArray, List.set]
        refine held_execd (j := 4) (by kernel_rfl) rfl rfl (by rfl) pv (exec_load 43 (.tmp 43) rfl ⟨gc, 5, none⟩ rfl pv HLP'.out) HT6.out ?_
        simp only [List.setIfInBounds_toArray, List.set]
        refine held_append (j := 7) (by kernel_rfl) rfl rfl rfl (.tmp 44) (.tmp 46) 43 rfl B 9 i9 (.string ByteArray.empty) 1 16 Try.underlying43 hi9 hz9 hz91 hz92 rfl (by decide) pv st.past.length (st.past.map Value.string) rfl HOW.out ⟨(World.drew X5).heap.size, 0, none⟩ 1 1 [.string (tornT s m x)] rfl rfl (cell_one_new _ _ _) (by intro u hu; simp at hu; subst hu; rfl) HL1.out HL2.out HL3.out ?_
        intro pv2 X6 own6 gro6 hat6
        have o6 := grown_only gro6
        have hT7 : Tab ((bs, #[.string (tornT s m x)], 9) :: (bp, #[.int .i64 j], 3) :: (bi, #[.int .i64 i], 3) :: (bc, #[.pointer (some ⟨gc, 0, none⟩)], 23) :: T) a X6 := HT6.out.move o6 (fun q hq hk => (HNO.out q hq).1 (.inr (.inr (.inr (.inr hk))))) (fun k hk => Nat.le_trans HBA.out (HOW.out.lt k hk).1)
        refine ⟨hT7, ?_⟩
        simp only [List.setIfInBounds_toArray, List.set]
        refine held_pure (i := 8) (v := (.pointer (some ⟨gc, 0, none⟩))) rfl rfl (by kernel_rfl) (by kernel_rfl) (by kernel_rfl) (fun _ _ _ h => h) (Or.inl ⟨by rfl, fun w => by go_simp⟩) hT7 ?_
        simp only [List.setIfInBounds_toArray, List.set]
        refine held_pure (i := 9) (v := (.pointer (some ⟨gc, 5, none⟩))) rfl rfl (by kernel_rfl) (by kernel_rfl) (by kernel_rfl) (fun _ _ _ h => h) (Or.inl ⟨by rfl, fun w => by go_simp⟩) hT7 ?_
        simp only [List.setIfInBounds_toArray, List.set]
        have h79 : ∀ {k : Nat} {cs : Array Value} {ty : TypeId}, (World.drew X5).heap[k]? = some (.cells cs ty (0, 0)) → ty ≠ 9 → ¬ pv.ownBlock = some k := fun hk h9 hp => by obtain ⟨c3, h3⟩ := HC6.out.pastBlock hp; exact heap_ne hk h3 h9 rfl
        have oa : Only (fun k => pv.ownBlock = some k) (World.drew X5) X6 := Only.trans ((Only.refl _ _).alloc _) o6
        have hc6 : X6.heap[gc]? = some (.cells (cpA gl gp pv { st with page := updP st.page i j (some (tornT s m x)) }) 75 (0, 0)) := keepRow oa HC6.out.chip (h79 HC6.out.chip (by decide))
        have hpv2 : pv2.ownBlock = pv.ownBlock ∨ ∀ k, pv2.ownBlock = some k → (World.drew X5).heap.size ≤ k := hat6.imp id (fun e k hk => by rw [e] at hk; cases hk; simp)
        have hne2 : ∀ {k : Nat}, k < (World.drew X5).heap.size → pv.ownBlock ≠ some k → pv2.ownBlock ≠ some k := fun hk hp h2 => by rcases hpv2 with e | e; exact hp (e ▸ h2); have := e _ h2; omega
        obtain ⟨X7, hs7, g7, o7, -⟩ := one_at X6 (o := 5) (ty := 43) (v := pv2) hc6 info43s (by rcases own6.2 with ⟨h, _⟩ | ⟨_, _, _, h, _⟩ <;> rw [h] <;> rfl) (by show 5 < 8; omega)
        have hT8 : Tab ((bs, #[.string (tornT s m x)], 9) :: (bp, #[.int .i64 j], 3) :: (bi, #[.int .i64 i], 3) :: (bc, #[.pointer (some ⟨gc, 0, none⟩)], 23) :: T) a X7 := hT7.move o7 (fun q hq hk => (HNO.out q hq).1 (.inl hk)) (fun k hk => by rw [hk]; exact Nat.le_trans HBA.out HC6.out.base.1)
        have hC7 : Chip B gc gl gp pg pv2 { st with page := updP st.page i j (some (tornT s m x)), past := st.past ++ [(tornT s m x)] } p X7 := HC6.out.self (st' := { st with page := updP st.page i j (some (tornT s m x)), past := st.past ++ [(tornT s m x)] }) rfl rfl rfl rfl rfl g7 ((oa.mono fun k hk => .inr hk).trans (o7.mono fun k hk => .inl hk)) (by show World.ownsRow X7 B 9 1 pv2 (st.past ++ [(tornT s m x)]).length ((st.past ++ [(tornT s m x)]).map Value.string); rw [List.length_append, List.map_append]; exact keepOwn o7 own6 (fun k hk e => by subst e; exact hne2 (Array.getElem?_eq_some_iff.1 HC6.out.chip).1 (h79 HC6.out.chip (by decide)) hk)) (fun b s hb hp => hne2 (Array.getElem?_eq_some_iff.1 hb).1 hp)
        refine held_store (j := 10) (by kernel_rfl) rfl rfl rfl 43 (.tmp 49) (.tmp 47) rfl _ rfl _ rfl hs7 hT8 ?_
        have hno : ∀ q ∈ ((bs, #[.string (tornT s m x)], 9) :: (bp, #[.int .i64 j], 3) :: (bi, #[.int .i64 i], 3) :: (bc, #[.pointer (some ⟨gc, 0, none⟩)], 23) :: T), ¬ Mine gc gl gp pg pv2 st.segs q.1 := fun q hq hm => by
          have hq0 := (HNO.out q hq).1
          rcases hm with h | h | h | h | h
          · exact hq0 (.inl h)
          · exact hq0 (.inr (.inl h))
          · exact hq0 (.inr (.inr (.inl h)))
          · exact hq0 (.inr (.inr (.inr (.inl h))))
          · exact hne2 (hS0.lt hq) (fun e => hq0 (.inr (.inr (.inr (.inr e))))) h
        refine wpAnyH_done (by kernel_rfl) ?_ _
        have b1 := hT8.c 3 rfl 0 (v := .pointer (some ⟨gc, 0, none⟩)) rfl
        have b6 := hC7.c6
        obtain ⟨X8, hs8, g8, o8, -⟩ := one_at X7 (o := 6) (ty := 3) (v := .int .i64 (st.programs + 1)) hC7.chip info3s rfl (by show 6 < 8; omega)
        have hT9 : Tab ((bs, #[.string (tornT s m x)], 9) :: (bp, #[.int .i64 j], 3) :: (bi, #[.int .i64 i], 3) :: (bc, #[.pointer (some ⟨gc, 0, none⟩)], 23) :: T) a X8 := hT8.move o8 (fun q hq hk => hno q hq (.inl hk)) (fun k hk => by rw [hk]; exact Nat.le_trans HBA.out HC6.out.base.1)
        have hC8 : Chip B gc gl gp pg pv2 (st.prg i j (tornT s m x)) p X8 := hC7.self (st' := st.prg i j (tornT s m x)) rfl rfl rfl rfl rfl g8 (o8.mono fun k hk => .inl hk) (keepOwn o8 hC7.past (fun k hk e => by subst e; obtain ⟨c3, h3⟩ := hC7.pastBlock hk; exact heap_ne h3 hC7.chip (by decide) rfl)) (fun b s hb hp => hp)
        have HS8 := Lib.hid hs8
        have HF : Hid (∃ pv', Chip B gc gl gp pg pv' (st.prg i j (tornT s m x)) p X8 ∧ Held ((bs, #[.string (tornT s m x)], 9) :: (bp, #[.int .i64 j], 3) :: (bi, #[.int .i64 i], 3) :: (bc, #[.pointer (some ⟨gc, 0, none⟩)], 23) :: T) a B gc gl gp pg pv' st.segs X8) := ⟨pv2, hC8, hT9, hno, HBA.out⟩
        have hpr := HP.out
        have hp0 : 0 ≤ st.programs := hpr.1
        have hp1 : st.programs ≤ 100000 := hpr.2
        clear hT7 oa hc6 h79 hpv2 hne2 hs7 g7 o7 hT8 hC7 hno hs8 g8 o8 hT9 hC8 own6 gro6 hat6 o6 hpr
        go_wp2_with (((with_reducible refine wpList_store_at ?_ 3 (.tmp 56) (.tmp 54) ?_ _ ?_ _ ?_ HS8.out ?_); rfl; rfl; rfl; rfl))
        go_end0
        exact ⟨rfl, HF.out⟩
    · refine op_exec (j := 5) rfl rfl (by rfl) _ (exec_conv 35 9 (.tmp 24) rfl _ rfl _ HCV.out) ?_
      refine ⟨trivial, ?_⟩
      simp only [List.setIfInBounds_toArray, List.set]
      refine held_two (j := 0) (k := 8) (by kernel_rfl) ?_ ?_
      · refine op_exec (j := 0) rfl rfl (by rfl) (.string s) (exec_load 9 (.tmp 2) rfl ⟨bs, 0, none⟩ rfl _ HLD1.out) ?_
        refine ⟨trivial, ?_⟩
        simp only [List.setIfInBounds_toArray, List.set]
        refine held_pure (i := 2) (v := (.string (s.extract 0 m))) rfl rfl (by kernel_rfl) (by kernel_rfl) (by kernel_rfl) (fun _ _ _ h => h) (Or.inl ⟨by rfl, fun w => by go_simp⟩) trivial ?_
        simp only [List.setIfInBounds_toArray, List.set]
        refine held_call (j := 8) (by kernel_rfl) rfl rfl (by rfl) Try.func37 (by kernel_rfl) rfl rfl [.string ⟨#[x]⟩, .int .i64 ((256 - m : Nat) : Int)] rfl (HRP.out _) ?_
        intro y1 k1
        refine ⟨trivial, ?_⟩
        simp only [List.setIfInBounds_toArray, List.set]
        have HT3 := Lib.hid (HT2.out.call k1)
        have HC3 := Lib.hid (HC2.out.call k1)
        have HF3 := Lib.hid (HF2.out.keep HC2.out (Only.of_below k1))
        refine held_pure (i := 9) (v := (.string (s.extract 0 m ++ ⟨(Lib.repeatL [x] (256 - m)).toArray⟩))) rfl rfl (by kernel_rfl) (by kernel_rfl) (by kernel_rfl) (fun _ _ _ h => h) (Or.inl ⟨by rfl, fun w => by go_simp⟩) trivial ?_
        simp only [List.setIfInBounds_toArray, List.set]
        obtain ⟨X, hs4, T4, -, o4⟩ := HT3.out.one 0 rfl 9 0 (.string (tornT s m x)) info9s rfl (by show 0 < 1; omega)
        refine held_store (j := 10) (by kernel_rfl) rfl rfl rfl 9 (.tmp 2) (.tmp 29) rfl _ rfl _ rfl hs4 trivial ?_
        have HC := Lib.hid (HC3.out.box o4 (HNO.out (bs, _, 9) (List.mem_cons_self ..)).1 HF3.out)
        have HTT : Hid (Tab ((bs, #[.string (tornT s m x)], 9) :: (bp, #[.int .i64 j], 3) :: (bi, #[.int .i64 i], 3) :: (bc, #[.pointer (some ⟨gc, 0, none⟩)], 23) :: T) a X) := T4
        clear hs4 T4 o4 k1 hsub had had2
        refine wpAnyH_done (by kernel_rfl) ?_ _
        go_wp2_with fail
        refine wp_region_held (S := (fun W => Tab ((bs, #[.string (tornT s m x)], 9) :: (bp, #[.int .i64 j], 3) :: (bi, #[.int .i64 i], 3) :: (bc, #[.pointer (some ⟨gc, 0, none⟩)], 23) :: T) a W ∧ W.cell? ⟨gc, 4, none⟩ = some (.slice (some ⟨gl, 0, none⟩) st.segs st.segs) ∧ W.cell? ⟨gl, i * 3, none⟩ = some (.slice (some ⟨pg i, 0, none⟩) st.pages st.pages))) (by kernel_rfl) ?_
        change wpAnyH _ _ _ _ _ _ _ _ (World.drew _)
        have hC4 := HC.out.keep (Only.refl _ _).drew
        have hT4 := HTT.out.drew
        have hS0 : (fun W => Tab ((bs, #[.string (tornT s m x)], 9) :: (bp, #[.int .i64 j], 3) :: (bi, #[.int .i64 i], 3) :: (bc, #[.pointer (some ⟨gc, 0, none⟩)], 23) :: T) a W ∧ W.cell? ⟨gc, 4, none⟩ = some (.slice (some ⟨gl, 0, none⟩) st.segs st.segs) ∧ W.cell? ⟨gl, i * 3, none⟩ = some (.slice (some ⟨pg i, 0, none⟩) st.pages st.pages)) (World.drew X) := ⟨hT4, hC4.c4, hC4.pgs HI.out⟩
        have F1 := Lib.hid (fun W (h : (fun W => Tab ((bs, #[.string (tornT s m x)], 9) :: (bp, #[.int .i64 j], 3) :: (bi, #[.int .i64 i], 3) :: (bc, #[.pointer (some ⟨gc, 0, none⟩)], 23) :: T) a W ∧ W.cell? ⟨gc, 4, none⟩ = some (.slice (some ⟨gl, 0, none⟩) st.segs st.segs) ∧ W.cell? ⟨gl, i * 3, none⟩ = some (.slice (some ⟨pg i, 0, none⟩) st.pages st.pages)) W) => h.1.c 3 rfl 0 (v := .pointer (some ⟨gc, 0, none⟩)) rfl)
        have F2 := Lib.hid (fun W (h : (fun W => Tab ((bs, #[.string (tornT s m x)], 9) :: (bp, #[.int .i64 j], 3) :: (bi, #[.int .i64 i], 3) :: (bc, #[.pointer (some ⟨gc, 0, none⟩)], 23) :: T) a W ∧ W.cell? ⟨gc, 4, none⟩ = some (.slice (some ⟨gl, 0, none⟩) st.segs st.segs) ∧ W.cell? ⟨gl, i * 3, none⟩ = some (.slice (some ⟨pg i, 0, none⟩) st.pages st.pages)) W) => h.2.1)
        have F3 := Lib.hid (fun W (h : (fun W => Tab ((bs, #[.string (tornT s m x)], 9) :: (bp, #[.int .i64 j], 3) :: (bi, #[.int .i64 i], 3) :: (bc, #[.pointer (some ⟨gc, 0, none⟩)], 23) :: T) a W ∧ W.cell? ⟨gc, 4, none⟩ = some (.slice (some ⟨gl, 0, none⟩) st.segs st.segs) ∧ W.cell? ⟨gl, i * 3, none⟩ = some (.slice (some ⟨pg i, 0, none⟩) st.pages st.pages)) W) => h.1.c 2 rfl 0 (v := .int .i64 i) rfl)
        have F4 := Lib.hid (fun W (h : (fun W => Tab ((bs, #[.string (tornT s m x)], 9) :: (bp, #[.int .i64 j], 3) :: (bi, #[.int .i64 i], 3) :: (bc, #[.pointer (some ⟨gc, 0, none⟩)], 23) :: T) a W ∧ W.cell? ⟨gc, 4, none⟩ = some (.slice (some ⟨gl, 0, none⟩) st.segs st.segs) ∧ W.cell? ⟨gl, i * 3, none⟩ = some (.slice (some ⟨pg i, 0, none⟩) st.pages st.pages)) W) => h.2.2)
        have F5 := Lib.hid (fun W (h : (fun W => Tab ((bs, #[.string (tornT s m x)], 9) :: (bp, #[.int .i64 j], 3) :: (bi, #[.int .i64 i], 3) :: (bc, #[.pointer (some ⟨gc, 0, none⟩)], 23) :: T) a W ∧ W.cell? ⟨gc, 4, none⟩ = some (.slice (some ⟨gl, 0, none⟩) st.segs st.segs) ∧ W.cell? ⟨gl, i * 3, none⟩ = some (.slice (some ⟨pg i, 0, none⟩) st.pages st.pages)) W) => h.1.c 1 rfl 0 (v := .int .i64 j) rfl)
        obtain ⟨cs, hcs, hcz, -⟩ := hC4.page i HI.out
        obtain ⟨X5, hs5, g5, o5, -⟩ := one_at (World.drew X) (o := j) (ty := 91) (v := .pointer (some ⟨bs, 0, none⟩)) hcs info91s rfl (by rw [hcz]; exact HJ.out)
        have hT5 : Tab ((bs, #[.string (tornT s m x)], 9) :: (bp, #[.int .i64 j], 3) :: (bi, #[.int .i64 i], 3) :: (bc, #[.pointer (some ⟨gc, 0, none⟩)], 23) :: T) a X5 := hT4.move o5 (fun q hq hk => (HNO.out q hq).1 (.inr (.inr (.inr (.inl ⟨i, HI.out, hk⟩))))) (fun k hk => by rw [hk]; exact Nat.le_trans HBA.out (HC.out.base.2.2.2 i HI.out))
        have hC5 := hC4.setPage HI.out HJ.out hcs g5 o5 (hT4.get 0 rfl) (fun h => (HNO.out _ (List.mem_cons_self ..)).1 (.inr (.inr (.inr (.inr h)))))
        have HS5 := Lib.hid hs5
        have HS5S : Hid ((fun W => Tab ((bs, #[.string (tornT s m x)], 9) :: (bp, #[.int .i64 j], 3) :: (bi, #[.int .i64 i], 3) :: (bc, #[.pointer (some ⟨gc, 0, none⟩)], 23) :: T) a W ∧ W.cell? ⟨gc, 4, none⟩ = some (.slice (some ⟨gl, 0, none⟩) st.segs st.segs) ∧ W.cell? ⟨gl, i * 3, none⟩ = some (.slice (some ⟨pg i, 0, none⟩) st.pages st.pages)) X5) := ⟨hT5, hC5.c4, hC5.pgs HI.out⟩
        have HT5 := Lib.hid hT5
        have HC5 := Lib.hid hC5
        clear hcs hcz hs5 g5 o5 hT5 hC5 hC4 hT4
        refine held_take (i := 0) (v := (.pointer (some ⟨gc, 0, none⟩))) rfl rfl (by kernel_rfl) (by kernel_rfl) (by kernel_rfl) (fun _ _ _ h => h) (Or.inl ⟨by rfl, fun w hS => by have hc := F1.out w hS; go_simp⟩) hS0 ?_
        simp only [List.setIfInBounds_toArray, List.set]
        refine held_pure (i := 1) (v := (.pointer (some ⟨gc, 0, none⟩))) rfl rfl (by kernel_rfl) (by kernel_rfl) (by kernel_rfl) (fun _ _ _ h => h) (Or.inl ⟨by rfl, fun w => by go_simp⟩) hS0 ?_
        simp only [List.setIfInBounds_toArray, List.set]
        refine held_pure (i := 2) (v := (.pointer (some ⟨gc, 4, none⟩))) rfl rfl (by kernel_rfl) (by kernel_rfl) (by kernel_rfl) (fun _ _ _ h => h) (Or.inl ⟨by rfl, fun w => by go_simp⟩) hS0 ?_
        simp only [List.setIfInBounds_toArray, List.set]
        refine held_take (i := 3) (v := (.slice (some ⟨gl, 0, none⟩) st.segs st.segs)) rfl rfl (by kernel_rfl) (by kernel_rfl) (by kernel_rfl) (fun _ _ _ h => h) (Or.inl ⟨by rfl, fun w hS => by have hc := F2.out w hS; go_simp⟩) hS0 ?_
        simp only [List.setIfInBounds_toArray, List.set]
        refine held_take (i := 4) (v := (.int .i64 i)) rfl rfl (by kernel_rfl) (by kernel_rfl) (by kernel_rfl) (fun _ _ _ h => h) (Or.inl ⟨by rfl, fun w hS => by have hc := F3.out w hS; go_simp⟩) hS0 ?_
        simp only [List.setIfInBounds_toArray, List.set]
        refine held_pure (i := 5) (v := (.pointer (some ⟨gl, i * 3, none⟩))) rfl rfl (by kernel_rfl) (by kernel_rfl) (by kernel_rfl) (fun _ _ _ h => h) (Or.inl ⟨by rfl, fun w => by go_simp⟩) hS0 ?_
        simp only [List.setIfInBounds_toArray, List.set]
        refine held_pure (i := 6) (v := (.pointer (some ⟨gl, i * 3, none⟩))) rfl rfl (by kernel_rfl) (by kernel_rfl) (by kernel_rfl) (fun _ _ _ h => h) (Or.inl ⟨by rfl, fun w => by go_simp⟩) hS0 ?_
        simp only [List.setIfInBounds_toArray, List.set]
        refine held_take (i := 7) (v := (.slice (some ⟨pg i, 0, none⟩) st.pages st.pages)) rfl rfl (by kernel_rfl) (by kernel_rfl) (by kernel_rfl) (fun _ _ _ h => h) (Or.inl ⟨by rfl, fun w hS => by have hc := F4.out w hS; go_simp⟩) hS0 ?_
        simp only [List.setIfInBounds_toArray, List.set]
        refine held_take (i := 8) (v := (.int .i64 j)) rfl rfl (by kernel_rfl) (by kernel_rfl) (by kernel_rfl) (fun _ _ _ h => h) (Or.inl ⟨by rfl, fun w hS => by have hc := F5.out w hS; go_simp⟩) hS0 ?_
        simp only [List.setIfInBounds_toArray, List.set]
        refine held_pure (i := 9) (v := (.pointer (some ⟨pg i, j, none⟩))) rfl rfl (by kernel_rfl) (by kernel_rfl) (by kernel_rfl) (fun _ _ _ h => h) (Or.inl ⟨by rfl, fun w => by go_simp⟩) hS0 ?_
        simp only [List.setIfInBounds_toArray, List.set]
        refine held_store (j := 10) (by kernel_rfl) rfl rfl rfl 91 (.tmp 39) (.tmp 2) rfl _ rfl _ rfl HS5.out HS5S.out ?_
        refine wpAnyH_done (by kernel_rfl) ?_ _
        clear F1 F2 F3 F4 F5 HS5 HS5S hS0
        go_wp2_with fail
        refine wp_region_held (S := (fun W => Tab ((bs, #[.string (tornT s m x)], 9) :: (bp, #[.int .i64 j], 3) :: (bi, #[.int .i64 i], 3) :: (bc, #[.pointer (some ⟨gc, 0, none⟩)], 23) :: T) a W)) (by kernel_rfl) ?_
        change wpAnyH _ _ _ _ _ _ _ _ (World.drew _)
        have hS0 : (fun W => Tab ((bs, #[.string (tornT s m x)], 9) :: (bp, #[.int .i64 j], 3) :: (bi, #[.int .i64 i], 3) :: (bc, #[.pointer (some ⟨gc, 0, none⟩)], 23) :: T) a W) (World.drew X5) := HT5.out.drew
        have HC6 := Lib.hid (HC5.out.keep (Only.refl _ _).drew)
        have G1 := Lib.hid (fun W (h : (fun W => Tab ((bs, #[.string (tornT s m x)], 9) :: (bp, #[.int .i64 j], 3) :: (bi, #[.int .i64 i], 3) :: (bc, #[.pointer (some ⟨gc, 0, none⟩)], 23) :: T) a W) W) => h.c 3 rfl 0 (v := .pointer (some ⟨gc, 0, none⟩)) rfl)
        have G3 := Lib.hid (fun W (h : (fun W => Tab ((bs, #[.string (tornT s m x)], 9) :: (bp, #[.int .i64 j], 3) :: (bi, #[.int .i64 i], 3) :: (bc, #[.pointer (some ⟨gc, 0, none⟩)], 23) :: T) a W) W) => h.c 0 rfl 0 (v := .string (tornT s m x)) rfl)
        refine held_take (i := 0) (v := (.pointer (some ⟨gc, 0, none⟩))) rfl rfl (by kernel_rfl) (by kernel_rfl) (by kernel_rfl) (fun _ _ _ h => h) (Or.inl ⟨by rfl, fun w hS => by have hc := G1.out w hS; go_simp⟩) hS0 ?_
        simp only [List.setIfInBounds_toArray, List.set]
        refine held_take (i := 1) (v := (.pointer (some ⟨gc, 0, none⟩))) rfl rfl (by kernel_rfl) (by kernel_rfl) (by kernel_rfl) (fun _ _ _ h => h) (Or.inl ⟨by rfl, fun w hS => by have hc := G1.out w hS; go_simp⟩) hS0 ?_
        simp only [List.setIfInBounds_toArray, List.set]
        refine held_pure (i := 2) (v := (.pointer (some ⟨gc, 0, none⟩))) rfl rfl (by kernel_rfl) (by kernel_rfl) (by kernel_rfl) (fun _ _ _ h => h) (Or.inl ⟨by rfl, fun w => by go_simp⟩) hS0 ?_
        simp only [List.setIfInBounds_toArray, List.set]
        refine held_pure (i := 3) (v := (.pointer (some ⟨gc, 5, none⟩))) rfl rfl (by kernel_rfl) (by kernel_rfl) (by kernel_rfl) (fun _ _ _ h => h) (Or.inl ⟨by rfl, fun w => by go_simp⟩) hS0 ?_
        simp only [List.setIfInBounds_toArray, List.set]
        refine held_take (i := 5) (v := (.string (tornT s m x))) rfl rfl (by kernel_rfl) (by kernel_rfl) (by kernel_rfl) (fun _ _ _ h => h) (Or.inl ⟨by rfl, fun w hS => by have hc := G3.out w hS; go_simp⟩) hS0 ?_
        simp only [List.setIfInBounds_toArray, List.set]
        have hlp : (loadVar 43 ⟨gc, 5, none⟩).run Try.prog (World.drew X5) = .ok pv (World.drew X5) := load_one 43 _ Try.underlying43 rfl HC6.out.c5
        have hT6 : Tab ((bs, #[.string (tornT s m x)], 9) :: (bp, #[.int .i64 j], 3) :: (bi, #[.int .i64 i], 3) :: (bc, #[.pointer (some ⟨gc, 0, none⟩)], 23) :: T) a ((World.drew X5).alloc (.cells #[.string (tornT s m x)] 9)) := hS0.on ((Only.refl _ _).alloc _)
        have hlp' : (loadVar 43 ⟨gc, 5, none⟩).run Try.prog ((World.drew X5).alloc (.cells #[.string (tornT s m x)] 9)) = .ok pv ((World.drew X5).alloc (.cells #[.string (tornT s m x)] 9)) := load_one 43 _ Try.underlying43 rfl (HC6.out.keep ((Only.refl _ _).alloc (.cells #[.string (tornT s m x)] 9))).c5
        have HLP := Lib.hid hlp
        have HLP' := Lib.hid hlp'
        have HT6 := Lib.hid hT6
        have HBS := Lib.hid (build_s (tornT s m x) (World.drew X5))
        have HOW : Hid (World.ownsRow ((World.drew X5).alloc (.cells #[.string (tornT s m x)] 9)) B 9 1 pv st.past.length (st.past.map Value.string)) := (HC6.out.keep ((Only.refl _ _).alloc _)).past
        have HL3 : Hid (B ≤ ((World.drew X5).alloc (.cells #[.string (tornT s m x)] 9)).heap.size) := Nat.le_trans HC6.out.base.1 (Nat.le_trans (Nat.le_of_lt (Array.getElem?_eq_some_iff.1 HC6.out.chip).1) (by simp))
        clear hlp hlp' hT6
        refine held_two (j := 4) (k := 6) (by kernel_rfl) ?_ ?_
        · refine op_exec (j := 4) rfl rfl (by rfl) pv (exec_load 43 (.tmp 43) rfl ⟨gc, 5, none⟩ rfl pv HLP.out) ?_
          refine ⟨hS0, ?_⟩
          simp only [List.setIfInBounds_toArray, List.set]
          refine held_bs (j := 6) (by kernel_rfl) rfl rfl rfl 43 1 #[(0, .tmp 45)] rfl [(0, .string (tornT s m x))] rfl _ HBS.out HT6.out ?_
          simp only [List.setIfInBounds_toArray, List.set]
          refine held_append (j := 7) (by kernel_rfl) rfl rfl rfl (.tmp 44) (.tmp 46) 43 rfl B 9 i9 (.string ByteArray.empty) 1 16 Try.underlying43 hi9 hz9 hz91 hz92 rfl (by decide) pv st.past.length (st.past.map Value.string) rfl HOW.out ⟨(World.drew X5).heap.size, 0, none⟩ 1 1 [.string (tornT s m x)] rfl rfl (cell_one_new _ _ _) (by intro u hu; simp at hu; subst hu; rfl) HL1.out HL2.out HL3.out ?_
          intro pv2 X6 own6 gro6 hat6
          have o6 := grown_only gro6
          have hT7 : Tab ((bs, #[.string (tornT s m x)], 9) :: (bp, #[.int .i64 j], 3) :: (bi, #[.int .i64 i], 3) :: (bc, #[.pointer (some ⟨gc, 0, none⟩)], 23) :: T) a X6 := HT6.out.move o6 (fun q hq hk => (HNO.out q hq).1 (.inr (.inr (.inr (.inr hk))))) (fun k hk => Nat.le_trans HBA.out (HOW.out.lt k hk).1)
          refine ⟨hT7, ?_⟩
          simp only [List.setIfInBounds_toArray, List.set]
          refine held_pure (i := 8) (v := (.pointer (some ⟨gc, 0, none⟩))) rfl rfl (by kernel_rfl) (by kernel_rfl) (by kernel_rfl) (fun _ _ _ h => h) (Or.inl ⟨by rfl, fun w => by go_simp⟩) hT7 ?_
          simp only [List.setIfInBounds_toArray, List.set]
          refine held_pure (i := 9) (v := (.pointer (some ⟨gc, 5, none⟩))) rfl rfl (by kernel_rfl) (by kernel_rfl) (by kernel_rfl) (fun _ _ _ h => h) (Or.inl ⟨by rfl, fun w => by go_simp⟩) hT7 ?_
          simp only [List.setIfInBounds_toArray, List.set]
          have h79 : ∀ {k : Nat} {cs : Array Value} {ty : TypeId}, (World.drew X5).heap[k]? = some (.cells cs ty (0, 0)) → ty ≠ 9 → ¬ pv.ownBlock = some k := fun hk h9 hp => by obtain ⟨c3, h3⟩ := HC6.out.pastBlock hp; exact heap_ne hk h3 h9 rfl
          have oa : Only (fun k => pv.ownBlock = some k) (World.drew X5) X6 := Only.trans ((Only.refl _ _).alloc _) o6
          have hc6 : X6.heap[gc]? = some (.cells (cpA gl gp pv { st with page := updP st.page i j (some (tornT s m x)) }) 75 (0, 0)) := keepRow oa HC6.out.chip (h79 HC6.out.chip (by decide))
          have hpv2 : pv2.ownBlock = pv.ownBlock ∨ ∀ k, pv2.ownBlock = some k → (World.drew X5).heap.size ≤ k := hat6.imp id (fun e k hk => by rw [e] at hk; cases hk; simp)
          have hne2 : ∀ {k : Nat}, k < (World.drew X5).heap.size → pv.ownBlock ≠ some k → pv2.ownBlock ≠ some k := fun hk hp h2 => by rcases hpv2 with e | e; exact hp (e ▸ h2); have := e _ h2; omega
          obtain ⟨X7, hs7, g7, o7, -⟩ := one_at X6 (o := 5) (ty := 43) (v := pv2) hc6 info43s (by rcases own6.2 with ⟨h, _⟩ | ⟨_, _, _, h, _⟩ <;> rw [h] <;> rfl) (by show 5 < 8; omega)
          have hT8 : Tab ((bs, #[.string (tornT s m x)], 9) :: (bp, #[.int .i64 j], 3) :: (bi, #[.int .i64 i], 3) :: (bc, #[.pointer (some ⟨gc, 0, none⟩)], 23) :: T) a X7 := hT7.move o7 (fun q hq hk => (HNO.out q hq).1 (.inl hk)) (fun k hk => by rw [hk]; exact Nat.le_trans HBA.out HC6.out.base.1)
          have hC7 : Chip B gc gl gp pg pv2 { st with page := updP st.page i j (some (tornT s m x)), past := st.past ++ [(tornT s m x)] } p X7 := HC6.out.self (st' := { st with page := updP st.page i j (some (tornT s m x)), past := st.past ++ [(tornT s m x)] }) rfl rfl rfl rfl rfl g7 ((oa.mono fun k hk => .inr hk).trans (o7.mono fun k hk => .inl hk)) (by show World.ownsRow X7 B 9 1 pv2 (st.past ++ [(tornT s m x)]).length ((st.past ++ [(tornT s m x)]).map Value.string); rw [List.length_append, List.map_append]; exact keepOwn o7 own6 (fun k hk e => by subst e; exact hne2 (Array.getElem?_eq_some_iff.1 HC6.out.chip).1 (h79 HC6.out.chip (by decide)) hk)) (fun b s hb hp => hne2 (Array.getElem?_eq_some_iff.1 hb).1 hp)
          refine held_store (j := 10) (by kernel_rfl) rfl rfl rfl 43 (.tmp 49) (.tmp 47) rfl _ rfl _ rfl hs7 hT8 ?_
          have hno : ∀ q ∈ ((bs, #[.string (tornT s m x)], 9) :: (bp, #[.int .i64 j], 3) :: (bi, #[.int .i64 i], 3) :: (bc, #[.pointer (some ⟨gc, 0, none⟩)], 23) :: T), ¬ Mine gc gl gp pg pv2 st.segs q.1 := fun q hq hm => by
            have hq0 := (HNO.out q hq).1
            rcases hm with h | h | h | h | h
            · exact hq0 (.inl h)
            · exact hq0 (.inr (.inl h))
            · exact hq0 (.inr (.inr (.inl h)))
            · exact hq0 (.inr (.inr (.inr (.inl h))))
            · exact hne2 (hS0.lt hq) (fun e => hq0 (.inr (.inr (.inr (.inr e))))) h
          refine wpAnyH_done (by kernel_rfl) ?_ _
          have b1 := hT8.c 3 rfl 0 (v := .pointer (some ⟨gc, 0, none⟩)) rfl
          have b6 := hC7.c6
          obtain ⟨X8, hs8, g8, o8, -⟩ := one_at X7 (o := 6) (ty := 3) (v := .int .i64 (st.programs + 1)) hC7.chip info3s rfl (by show 6 < 8; omega)
          have hT9 : Tab ((bs, #[.string (tornT s m x)], 9) :: (bp, #[.int .i64 j], 3) :: (bi, #[.int .i64 i], 3) :: (bc, #[.pointer (some ⟨gc, 0, none⟩)], 23) :: T) a X8 := hT8.move o8 (fun q hq hk => hno q hq (.inl hk)) (fun k hk => by rw [hk]; exact Nat.le_trans HBA.out HC6.out.base.1)
          have hC8 : Chip B gc gl gp pg pv2 (st.prg i j (tornT s m x)) p X8 := hC7.self (st' := st.prg i j (tornT s m x)) rfl rfl rfl rfl rfl g8 (o8.mono fun k hk => .inl hk) (keepOwn o8 hC7.past (fun k hk e => by subst e; obtain ⟨c3, h3⟩ := hC7.pastBlock hk; exact heap_ne h3 hC7.chip (by decide) rfl)) (fun b s hb hp => hp)
          have HS8 := Lib.hid hs8
          have HF : Hid (∃ pv', Chip B gc gl gp pg pv' (st.prg i j (tornT s m x)) p X8 ∧ Held ((bs, #[.string (tornT s m x)], 9) :: (bp, #[.int .i64 j], 3) :: (bi, #[.int .i64 i], 3) :: (bc, #[.pointer (some ⟨gc, 0, none⟩)], 23) :: T) a B gc gl gp pg pv' st.segs X8) := ⟨pv2, hC8, hT9, hno, HBA.out⟩
          have hpr := HP.out
          have hp0 : 0 ≤ st.programs := hpr.1
          have hp1 : st.programs ≤ 100000 := hpr.2
          clear hT7 oa hc6 h79 hpv2 hne2 hs7 g7 o7 hT8 hC7 hno hs8 g8 o8 hT9 hC8 own6 gro6 hat6 o6 hpr
          go_wp2_with (((with_reducible refine wpList_store_at ?_ 3 (.tmp 56) (.tmp 54) ?_ _ ?_ _ ?_ HS8.out ?_); rfl; rfl; rfl; rfl))
          go_end0
          exact ⟨rfl, HF.out⟩
        · refine op_exec (j := 6) rfl rfl (by rfl) _ (exec_bs 43 1 #[(0, .tmp 45)] rfl [(0, .string (tornT s m x))] rfl _ HBS.out) ?_
          refine ⟨HT6.out, ?_⟩
          simp only [List.setIfInBounds_toArray, List.set]
          refine held_execd (j := 4) (by kernel_rfl) rfl rfl (by rfl) pv (exec_load 43 (.tmp 43) rfl ⟨gc, 5, none⟩ rfl pv HLP'.out) HT6.out ?_
          simp only [List.setIfInBounds_toArray, List.set]
          refine held_append (j := 7) (by kernel_rfl) rfl rfl rfl (.tmp 44) (.tmp 46) 43 rfl B 9 i9 (.string ByteArray.empty) 1 16 Try.underlying43 hi9 hz9 hz91 hz92 rfl (by decide) pv st.past.length (st.past.map Value.string) rfl HOW.out ⟨(World.drew X5).heap.size, 0, none⟩ 1 1 [.string (tornT s m x)] rfl rfl (cell_one_new _ _ _) (by intro u hu; simp at hu; subst hu; rfl) HL1.out HL2.out HL3.out ?_
          intro pv2 X6 own6 gro6 hat6
          have o6 := grown_only gro6
          have hT7 : Tab ((bs, #[.string (tornT s m x)], 9) :: (bp, #[.int .i64 j], 3) :: (bi, #[.int .i64 i], 3) :: (bc, #[.pointer (some ⟨gc, 0, none⟩)], 23) :: T) a X6 := HT6.out.move o6 (fun q hq hk => (HNO.out q hq).1 (.inr (.inr (.inr (.inr hk))))) (fun k hk => Nat.le_trans HBA.out (HOW.out.lt k hk).1)
          refine ⟨hT7, ?_⟩
          simp only [List.setIfInBounds_toArray, List.set]
          refine held_pure (i := 8) (v := (.pointer (some ⟨gc, 0, none⟩))) rfl rfl (by kernel_rfl) (by kernel_rfl) (by kernel_rfl) (fun _ _ _ h => h) (Or.inl ⟨by rfl, fun w => by go_simp⟩) hT7 ?_
          simp only [List.setIfInBounds_toArray, List.set]
          refine held_pure (i := 9) (v := (.pointer (some ⟨gc, 5, none⟩))) rfl rfl (by kernel_rfl) (by kernel_rfl) (by kernel_rfl) (fun _ _ _ h => h) (Or.inl ⟨by rfl, fun w => by go_simp⟩) hT7 ?_
          simp only [List.setIfInBounds_toArray, List.set]
          have h79 : ∀ {k : Nat} {cs : Array Value} {ty : TypeId}, (World.drew X5).heap[k]? = some (.cells cs ty (0, 0)) → ty ≠ 9 → ¬ pv.ownBlock = some k := fun hk h9 hp => by obtain ⟨c3, h3⟩ := HC6.out.pastBlock hp; exact heap_ne hk h3 h9 rfl
          have oa : Only (fun k => pv.ownBlock = some k) (World.drew X5) X6 := Only.trans ((Only.refl _ _).alloc _) o6
          have hc6 : X6.heap[gc]? = some (.cells (cpA gl gp pv { st with page := updP st.page i j (some (tornT s m x)) }) 75 (0, 0)) := keepRow oa HC6.out.chip (h79 HC6.out.chip (by decide))
          have hpv2 : pv2.ownBlock = pv.ownBlock ∨ ∀ k, pv2.ownBlock = some k → (World.drew X5).heap.size ≤ k := hat6.imp id (fun e k hk => by rw [e] at hk; cases hk; simp)
          have hne2 : ∀ {k : Nat}, k < (World.drew X5).heap.size → pv.ownBlock ≠ some k → pv2.ownBlock ≠ some k := fun hk hp h2 => by rcases hpv2 with e | e; exact hp (e ▸ h2); have := e _ h2; omega
          obtain ⟨X7, hs7, g7, o7, -⟩ := one_at X6 (o := 5) (ty := 43) (v := pv2) hc6 info43s (by rcases own6.2 with ⟨h, _⟩ | ⟨_, _, _, h, _⟩ <;> rw [h] <;> rfl) (by show 5 < 8; omega)
          have hT8 : Tab ((bs, #[.string (tornT s m x)], 9) :: (bp, #[.int .i64 j], 3) :: (bi, #[.int .i64 i], 3) :: (bc, #[.pointer (some ⟨gc, 0, none⟩)], 23) :: T) a X7 := hT7.move o7 (fun q hq hk => (HNO.out q hq).1 (.inl hk)) (fun k hk => by rw [hk]; exact Nat.le_trans HBA.out HC6.out.base.1)
          have hC7 : Chip B gc gl gp pg pv2 { st with page := updP st.page i j (some (tornT s m x)), past := st.past ++ [(tornT s m x)] } p X7 := HC6.out.self (st' := { st with page := updP st.page i j (some (tornT s m x)), past := st.past ++ [(tornT s m x)] }) rfl rfl rfl rfl rfl g7 ((oa.mono fun k hk => .inr hk).trans (o7.mono fun k hk => .inl hk)) (by show World.ownsRow X7 B 9 1 pv2 (st.past ++ [(tornT s m x)]).length ((st.past ++ [(tornT s m x)]).map Value.string); rw [List.length_append, List.map_append]; exact keepOwn o7 own6 (fun k hk e => by subst e; exact hne2 (Array.getElem?_eq_some_iff.1 HC6.out.chip).1 (h79 HC6.out.chip (by decide)) hk)) (fun b s hb hp => hne2 (Array.getElem?_eq_some_iff.1 hb).1 hp)
          refine held_store (j := 10) (by kernel_rfl) rfl rfl rfl 43 (.tmp 49) (.tmp 47) rfl _ rfl _ rfl hs7 hT8 ?_
          have hno : ∀ q ∈ ((bs, #[.string (tornT s m x)], 9) :: (bp, #[.int .i64 j], 3) :: (bi, #[.int .i64 i], 3) :: (bc, #[.pointer (some ⟨gc, 0, none⟩)], 23) :: T), ¬ Mine gc gl gp pg pv2 st.segs q.1 := fun q hq hm => by
            have hq0 := (HNO.out q hq).1
            rcases hm with h | h | h | h | h
            · exact hq0 (.inl h)
            · exact hq0 (.inr (.inl h))
            · exact hq0 (.inr (.inr (.inl h)))
            · exact hq0 (.inr (.inr (.inr (.inl h))))
            · exact hne2 (hS0.lt hq) (fun e => hq0 (.inr (.inr (.inr (.inr e))))) h
          refine wpAnyH_done (by kernel_rfl) ?_ _
          have b1 := hT8.c 3 rfl 0 (v := .pointer (some ⟨gc, 0, none⟩)) rfl
          have b6 := hC7.c6
          obtain ⟨X8, hs8, g8, o8, -⟩ := one_at X7 (o := 6) (ty := 3) (v := .int .i64 (st.programs + 1)) hC7.chip info3s rfl (by show 6 < 8; omega)
          have hT9 : Tab ((bs, #[.string (tornT s m x)], 9) :: (bp, #[.int .i64 j], 3) :: (bi, #[.int .i64 i], 3) :: (bc, #[.pointer (some ⟨gc, 0, none⟩)], 23) :: T) a X8 := hT8.move o8 (fun q hq hk => hno q hq (.inl hk)) (fun k hk => by rw [hk]; exact Nat.le_trans HBA.out HC6.out.base.1)
          have hC8 : Chip B gc gl gp pg pv2 (st.prg i j (tornT s m x)) p X8 := hC7.self (st' := st.prg i j (tornT s m x)) rfl rfl rfl rfl rfl g8 (o8.mono fun k hk => .inl hk) (keepOwn o8 hC7.past (fun k hk e => by subst e; obtain ⟨c3, h3⟩ := hC7.pastBlock hk; exact heap_ne h3 hC7.chip (by decide) rfl)) (fun b s hb hp => hp)
          have HS8 := Lib.hid hs8
          have HF : Hid (∃ pv', Chip B gc gl gp pg pv' (st.prg i j (tornT s m x)) p X8 ∧ Held ((bs, #[.string (tornT s m x)], 9) :: (bp, #[.int .i64 j], 3) :: (bi, #[.int .i64 i], 3) :: (bc, #[.pointer (some ⟨gc, 0, none⟩)], 23) :: T) a B gc gl gp pg pv' st.segs X8) := ⟨pv2, hC8, hT9, hno, HBA.out⟩
          have hpr := HP.out
          have hp0 : 0 ≤ st.programs := hpr.1
          have hp1 : st.programs ≤ 100000 := hpr.2
          clear hT7 oa hc6 h79 hpv2 hne2 hs7 g7 o7 hT8 hC7 hno hs8 g8 o8 hT9 hC8 own6 gro6 hat6 o6 hpr
          go_wp2_with (((with_reducible refine wpList_store_at ?_ 3 (.tmp 56) (.tmp 54) ?_ _ ?_ _ ?_ HS8.out ?_); rfl; rfl; rfl; rfl))
          go_end0
          exact ⟨rfl, HF.out⟩
      · refine op_call (j := 8) rfl rfl (by rfl) Try.func37 (by kernel_rfl) rfl rfl [.string ⟨#[x]⟩, .int .i64 ((256 - m : Nat) : Int)] rfl (HRP.out _) ?_
        intro y1 k1
        refine ⟨trivial, ?_⟩
        simp only [List.setIfInBounds_toArray, List.set]
        have HLD2 := Lib.hid (load_one 9 _ Try.underlying9 rfl ((HT2.out.call k1).c 0 rfl 0 (v := .string s) rfl))
        refine held_execd (j := 0) (by kernel_rfl) rfl rfl (by rfl) (.string s) (exec_load 9 (.tmp 2) rfl ⟨bs, 0, none⟩ rfl _ HLD2.out) trivial ?_
        simp only [List.setIfInBounds_toArray, List.set]
        refine held_pure (i := 2) (v := (.string (s.extract 0 m))) rfl rfl (by kernel_rfl) (by kernel_rfl) (by kernel_rfl) (fun _ _ _ h => h) (Or.inl ⟨by rfl, fun w => by go_simp⟩) trivial ?_
        simp only [List.setIfInBounds_toArray, List.set]
        have HT3 := Lib.hid (HT2.out.call k1)
        have HC3 := Lib.hid (HC2.out.call k1)
        have HF3 := Lib.hid (HF2.out.keep HC2.out (Only.of_below k1))
        refine held_pure (i := 9) (v := (.string (s.extract 0 m ++ ⟨(Lib.repeatL [x] (256 - m)).toArray⟩))) rfl rfl (by kernel_rfl) (by kernel_rfl) (by kernel_rfl) (fun _ _ _ h => h) (Or.inl ⟨by rfl, fun w => by go_simp⟩) trivial ?_
        simp only [List.setIfInBounds_toArray, List.set]
        obtain ⟨X, hs4, T4, -, o4⟩ := HT3.out.one 0 rfl 9 0 (.string (tornT s m x)) info9s rfl (by show 0 < 1; omega)
        refine held_store (j := 10) (by kernel_rfl) rfl rfl rfl 9 (.tmp 2) (.tmp 29) rfl _ rfl _ rfl hs4 trivial ?_
        have HC := Lib.hid (HC3.out.box o4 (HNO.out (bs, _, 9) (List.mem_cons_self ..)).1 HF3.out)
        have HTT : Hid (Tab ((bs, #[.string (tornT s m x)], 9) :: (bp, #[.int .i64 j], 3) :: (bi, #[.int .i64 i], 3) :: (bc, #[.pointer (some ⟨gc, 0, none⟩)], 23) :: T) a X) := T4
        clear hs4 T4 o4 k1 hsub had had2
        refine wpAnyH_done (by kernel_rfl) ?_ _
        go_wp2_with fail
        refine wp_region_held (S := (fun W => Tab ((bs, #[.string (tornT s m x)], 9) :: (bp, #[.int .i64 j], 3) :: (bi, #[.int .i64 i], 3) :: (bc, #[.pointer (some ⟨gc, 0, none⟩)], 23) :: T) a W ∧ W.cell? ⟨gc, 4, none⟩ = some (.slice (some ⟨gl, 0, none⟩) st.segs st.segs) ∧ W.cell? ⟨gl, i * 3, none⟩ = some (.slice (some ⟨pg i, 0, none⟩) st.pages st.pages))) (by kernel_rfl) ?_
        change wpAnyH _ _ _ _ _ _ _ _ (World.drew _)
        have hC4 := HC.out.keep (Only.refl _ _).drew
        have hT4 := HTT.out.drew
        have hS0 : (fun W => Tab ((bs, #[.string (tornT s m x)], 9) :: (bp, #[.int .i64 j], 3) :: (bi, #[.int .i64 i], 3) :: (bc, #[.pointer (some ⟨gc, 0, none⟩)], 23) :: T) a W ∧ W.cell? ⟨gc, 4, none⟩ = some (.slice (some ⟨gl, 0, none⟩) st.segs st.segs) ∧ W.cell? ⟨gl, i * 3, none⟩ = some (.slice (some ⟨pg i, 0, none⟩) st.pages st.pages)) (World.drew X) := ⟨hT4, hC4.c4, hC4.pgs HI.out⟩
        have F1 := Lib.hid (fun W (h : (fun W => Tab ((bs, #[.string (tornT s m x)], 9) :: (bp, #[.int .i64 j], 3) :: (bi, #[.int .i64 i], 3) :: (bc, #[.pointer (some ⟨gc, 0, none⟩)], 23) :: T) a W ∧ W.cell? ⟨gc, 4, none⟩ = some (.slice (some ⟨gl, 0, none⟩) st.segs st.segs) ∧ W.cell? ⟨gl, i * 3, none⟩ = some (.slice (some ⟨pg i, 0, none⟩) st.pages st.pages)) W) => h.1.c 3 rfl 0 (v := .pointer (some ⟨gc, 0, none⟩)) rfl)
        have F2 := Lib.hid (fun W (h : (fun W => Tab ((bs, #[.string (tornT s m x)], 9) :: (bp, #[.int .i64 j], 3) :: (bi, #[.int .i64 i], 3) :: (bc, #[.pointer (some ⟨gc, 0, none⟩)], 23) :: T) a W ∧ W.cell? ⟨gc, 4, none⟩ = some (.slice (some ⟨gl, 0, none⟩) st.segs st.segs) ∧ W.cell? ⟨gl, i * 3, none⟩ = some (.slice (some ⟨pg i, 0, none⟩) st.pages st.pages)) W) => h.2.1)
        have F3 := Lib.hid (fun W (h : (fun W => Tab ((bs, #[.string (tornT s m x)], 9) :: (bp, #[.int .i64 j], 3) :: (bi, #[.int .i64 i], 3) :: (bc, #[.pointer (some ⟨gc, 0, none⟩)], 23) :: T) a W ∧ W.cell? ⟨gc, 4, none⟩ = some (.slice (some ⟨gl, 0, none⟩) st.segs st.segs) ∧ W.cell? ⟨gl, i * 3, none⟩ = some (.slice (some ⟨pg i, 0, none⟩) st.pages st.pages)) W) => h.1.c 2 rfl 0 (v := .int .i64 i) rfl)
        have F4 := Lib.hid (fun W (h : (fun W => Tab ((bs, #[.string (tornT s m x)], 9) :: (bp, #[.int .i64 j], 3) :: (bi, #[.int .i64 i], 3) :: (bc, #[.pointer (some ⟨gc, 0, none⟩)], 23) :: T) a W ∧ W.cell? ⟨gc, 4, none⟩ = some (.slice (some ⟨gl, 0, none⟩) st.segs st.segs) ∧ W.cell? ⟨gl, i * 3, none⟩ = some (.slice (some ⟨pg i, 0, none⟩) st.pages st.pages)) W) => h.2.2)
        have F5 := Lib.hid (fun W (h : (fun W => Tab ((bs, #[.string (tornT s m x)], 9) :: (bp, #[.int .i64 j], 3) :: (bi, #[.int .i64 i], 3) :: (bc, #[.pointer (some ⟨gc, 0, none⟩)], 23) :: T) a W ∧ W.cell? ⟨gc, 4, none⟩ = some (.slice (some ⟨gl, 0, none⟩) st.segs st.segs) ∧ W.cell? ⟨gl, i * 3, none⟩ = some (.slice (some ⟨pg i, 0, none⟩) st.pages st.pages)) W) => h.1.c 1 rfl 0 (v := .int .i64 j) rfl)
        obtain ⟨cs, hcs, hcz, -⟩ := hC4.page i HI.out
        obtain ⟨X5, hs5, g5, o5, -⟩ := one_at (World.drew X) (o := j) (ty := 91) (v := .pointer (some ⟨bs, 0, none⟩)) hcs info91s rfl (by rw [hcz]; exact HJ.out)
        have hT5 : Tab ((bs, #[.string (tornT s m x)], 9) :: (bp, #[.int .i64 j], 3) :: (bi, #[.int .i64 i], 3) :: (bc, #[.pointer (some ⟨gc, 0, none⟩)], 23) :: T) a X5 := hT4.move o5 (fun q hq hk => (HNO.out q hq).1 (.inr (.inr (.inr (.inl ⟨i, HI.out, hk⟩))))) (fun k hk => by rw [hk]; exact Nat.le_trans HBA.out (HC.out.base.2.2.2 i HI.out))
        have hC5 := hC4.setPage HI.out HJ.out hcs g5 o5 (hT4.get 0 rfl) (fun h => (HNO.out _ (List.mem_cons_self ..)).1 (.inr (.inr (.inr (.inr h)))))
        have HS5 := Lib.hid hs5
        have HS5S : Hid ((fun W => Tab ((bs, #[.string (tornT s m x)], 9) :: (bp, #[.int .i64 j], 3) :: (bi, #[.int .i64 i], 3) :: (bc, #[.pointer (some ⟨gc, 0, none⟩)], 23) :: T) a W ∧ W.cell? ⟨gc, 4, none⟩ = some (.slice (some ⟨gl, 0, none⟩) st.segs st.segs) ∧ W.cell? ⟨gl, i * 3, none⟩ = some (.slice (some ⟨pg i, 0, none⟩) st.pages st.pages)) X5) := ⟨hT5, hC5.c4, hC5.pgs HI.out⟩
        have HT5 := Lib.hid hT5
        have HC5 := Lib.hid hC5
        clear hcs hcz hs5 g5 o5 hT5 hC5 hC4 hT4
        refine held_take (i := 0) (v := (.pointer (some ⟨gc, 0, none⟩))) rfl rfl (by kernel_rfl) (by kernel_rfl) (by kernel_rfl) (fun _ _ _ h => h) (Or.inl ⟨by rfl, fun w hS => by have hc := F1.out w hS; go_simp⟩) hS0 ?_
        simp only [List.setIfInBounds_toArray, List.set]
        refine held_pure (i := 1) (v := (.pointer (some ⟨gc, 0, none⟩))) rfl rfl (by kernel_rfl) (by kernel_rfl) (by kernel_rfl) (fun _ _ _ h => h) (Or.inl ⟨by rfl, fun w => by go_simp⟩) hS0 ?_
        simp only [List.setIfInBounds_toArray, List.set]
        refine held_pure (i := 2) (v := (.pointer (some ⟨gc, 4, none⟩))) rfl rfl (by kernel_rfl) (by kernel_rfl) (by kernel_rfl) (fun _ _ _ h => h) (Or.inl ⟨by rfl, fun w => by go_simp⟩) hS0 ?_
        simp only [List.setIfInBounds_toArray, List.set]
        refine held_take (i := 3) (v := (.slice (some ⟨gl, 0, none⟩) st.segs st.segs)) rfl rfl (by kernel_rfl) (by kernel_rfl) (by kernel_rfl) (fun _ _ _ h => h) (Or.inl ⟨by rfl, fun w hS => by have hc := F2.out w hS; go_simp⟩) hS0 ?_
        simp only [List.setIfInBounds_toArray, List.set]
        refine held_take (i := 4) (v := (.int .i64 i)) rfl rfl (by kernel_rfl) (by kernel_rfl) (by kernel_rfl) (fun _ _ _ h => h) (Or.inl ⟨by rfl, fun w hS => by have hc := F3.out w hS; go_simp⟩) hS0 ?_
        simp only [List.setIfInBounds_toArray, List.set]
        refine held_pure (i := 5) (v := (.pointer (some ⟨gl, i * 3, none⟩))) rfl rfl (by kernel_rfl) (by kernel_rfl) (by kernel_rfl) (fun _ _ _ h => h) (Or.inl ⟨by rfl, fun w => by go_simp⟩) hS0 ?_
        simp only [List.setIfInBounds_toArray, List.set]
        refine held_pure (i := 6) (v := (.pointer (some ⟨gl, i * 3, none⟩))) rfl rfl (by kernel_rfl) (by kernel_rfl) (by kernel_rfl) (fun _ _ _ h => h) (Or.inl ⟨by rfl, fun w => by go_simp⟩) hS0 ?_
        simp only [List.setIfInBounds_toArray, List.set]
        refine held_take (i := 7) (v := (.slice (some ⟨pg i, 0, none⟩) st.pages st.pages)) rfl rfl (by kernel_rfl) (by kernel_rfl) (by kernel_rfl) (fun _ _ _ h => h) (Or.inl ⟨by rfl, fun w hS => by have hc := F4.out w hS; go_simp⟩) hS0 ?_
        simp only [List.setIfInBounds_toArray, List.set]
        refine held_take (i := 8) (v := (.int .i64 j)) rfl rfl (by kernel_rfl) (by kernel_rfl) (by kernel_rfl) (fun _ _ _ h => h) (Or.inl ⟨by rfl, fun w hS => by have hc := F5.out w hS; go_simp⟩) hS0 ?_
        simp only [List.setIfInBounds_toArray, List.set]
        refine held_pure (i := 9) (v := (.pointer (some ⟨pg i, j, none⟩))) rfl rfl (by kernel_rfl) (by kernel_rfl) (by kernel_rfl) (fun _ _ _ h => h) (Or.inl ⟨by rfl, fun w => by go_simp⟩) hS0 ?_
        simp only [List.setIfInBounds_toArray, List.set]
        refine held_store (j := 10) (by kernel_rfl) rfl rfl rfl 91 (.tmp 39) (.tmp 2) rfl _ rfl _ rfl HS5.out HS5S.out ?_
        refine wpAnyH_done (by kernel_rfl) ?_ _
        clear F1 F2 F3 F4 F5 HS5 HS5S hS0
        go_wp2_with fail
        refine wp_region_held (S := (fun W => Tab ((bs, #[.string (tornT s m x)], 9) :: (bp, #[.int .i64 j], 3) :: (bi, #[.int .i64 i], 3) :: (bc, #[.pointer (some ⟨gc, 0, none⟩)], 23) :: T) a W)) (by kernel_rfl) ?_
        change wpAnyH _ _ _ _ _ _ _ _ (World.drew _)
        have hS0 : (fun W => Tab ((bs, #[.string (tornT s m x)], 9) :: (bp, #[.int .i64 j], 3) :: (bi, #[.int .i64 i], 3) :: (bc, #[.pointer (some ⟨gc, 0, none⟩)], 23) :: T) a W) (World.drew X5) := HT5.out.drew
        have HC6 := Lib.hid (HC5.out.keep (Only.refl _ _).drew)
        have G1 := Lib.hid (fun W (h : (fun W => Tab ((bs, #[.string (tornT s m x)], 9) :: (bp, #[.int .i64 j], 3) :: (bi, #[.int .i64 i], 3) :: (bc, #[.pointer (some ⟨gc, 0, none⟩)], 23) :: T) a W) W) => h.c 3 rfl 0 (v := .pointer (some ⟨gc, 0, none⟩)) rfl)
        have G3 := Lib.hid (fun W (h : (fun W => Tab ((bs, #[.string (tornT s m x)], 9) :: (bp, #[.int .i64 j], 3) :: (bi, #[.int .i64 i], 3) :: (bc, #[.pointer (some ⟨gc, 0, none⟩)], 23) :: T) a W) W) => h.c 0 rfl 0 (v := .string (tornT s m x)) rfl)
        refine held_take (i := 0) (v := (.pointer (some ⟨gc, 0, none⟩))) rfl rfl (by kernel_rfl) (by kernel_rfl) (by kernel_rfl) (fun _ _ _ h => h) (Or.inl ⟨by rfl, fun w hS => by have hc := G1.out w hS; go_simp⟩) hS0 ?_
        simp only [List.setIfInBounds_toArray, List.set]
        refine held_take (i := 1) (v := (.pointer (some ⟨gc, 0, none⟩))) rfl rfl (by kernel_rfl) (by kernel_rfl) (by kernel_rfl) (fun _ _ _ h => h) (Or.inl ⟨by rfl, fun w hS => by have hc := G1.out w hS; go_simp⟩) hS0 ?_
        simp only [List.setIfInBounds_toArray, List.set]
        refine held_pure (i := 2) (v := (.pointer (some ⟨gc, 0, none⟩))) rfl rfl (by kernel_rfl) (by kernel_rfl) (by kernel_rfl) (fun _ _ _ h => h) (Or.inl ⟨by rfl, fun w => by go_simp⟩) hS0 ?_
        simp only [List.setIfInBounds_toArray, List.set]
        refine held_pure (i := 3) (v := (.pointer (some ⟨gc, 5, none⟩))) rfl rfl (by kernel_rfl) (by kernel_rfl) (by kernel_rfl) (fun _ _ _ h => h) (Or.inl ⟨by rfl, fun w => by go_simp⟩) hS0 ?_
        simp only [List.setIfInBounds_toArray, List.set]
        refine held_take (i := 5) (v := (.string (tornT s m x))) rfl rfl (by kernel_rfl) (by kernel_rfl) (by kernel_rfl) (fun _ _ _ h => h) (Or.inl ⟨by rfl, fun w hS => by have hc := G3.out w hS; go_simp⟩) hS0 ?_
        simp only [List.setIfInBounds_toArray, List.set]
        have hlp : (loadVar 43 ⟨gc, 5, none⟩).run Try.prog (World.drew X5) = .ok pv (World.drew X5) := load_one 43 _ Try.underlying43 rfl HC6.out.c5
        have hT6 : Tab ((bs, #[.string (tornT s m x)], 9) :: (bp, #[.int .i64 j], 3) :: (bi, #[.int .i64 i], 3) :: (bc, #[.pointer (some ⟨gc, 0, none⟩)], 23) :: T) a ((World.drew X5).alloc (.cells #[.string (tornT s m x)] 9)) := hS0.on ((Only.refl _ _).alloc _)
        have hlp' : (loadVar 43 ⟨gc, 5, none⟩).run Try.prog ((World.drew X5).alloc (.cells #[.string (tornT s m x)] 9)) = .ok pv ((World.drew X5).alloc (.cells #[.string (tornT s m x)] 9)) := load_one 43 _ Try.underlying43 rfl (HC6.out.keep ((Only.refl _ _).alloc (.cells #[.string (tornT s m x)] 9))).c5
        have HLP := Lib.hid hlp
        have HLP' := Lib.hid hlp'
        have HT6 := Lib.hid hT6
        have HBS := Lib.hid (build_s (tornT s m x) (World.drew X5))
        have HOW : Hid (World.ownsRow ((World.drew X5).alloc (.cells #[.string (tornT s m x)] 9)) B 9 1 pv st.past.length (st.past.map Value.string)) := (HC6.out.keep ((Only.refl _ _).alloc _)).past
        have HL3 : Hid (B ≤ ((World.drew X5).alloc (.cells #[.string (tornT s m x)] 9)).heap.size) := Nat.le_trans HC6.out.base.1 (Nat.le_trans (Nat.le_of_lt (Array.getElem?_eq_some_iff.1 HC6.out.chip).1) (by simp))
        clear hlp hlp' hT6
        refine held_two (j := 4) (k := 6) (by kernel_rfl) ?_ ?_
        · refine op_exec (j := 4) rfl rfl (by rfl) pv (exec_load 43 (.tmp 43) rfl ⟨gc, 5, none⟩ rfl pv HLP.out) ?_
          refine ⟨hS0, ?_⟩
          simp only [List.setIfInBounds_toArray, List.set]
          refine held_bs (j := 6) (by kernel_rfl) rfl rfl rfl 43 1 #[(0, .tmp 45)] rfl [(0, .string (tornT s m x))] rfl _ HBS.out HT6.out ?_
          simp only [List.setIfInBounds_toArray, List.set]
          refine held_append (j := 7) (by kernel_rfl) rfl rfl rfl (.tmp 44) (.tmp 46) 43 rfl B 9 i9 (.string ByteArray.empty) 1 16 Try.underlying43 hi9 hz9 hz91 hz92 rfl (by decide) pv st.past.length (st.past.map Value.string) rfl HOW.out ⟨(World.drew X5).heap.size, 0, none⟩ 1 1 [.string (tornT s m x)] rfl rfl (cell_one_new _ _ _) (by intro u hu; simp at hu; subst hu; rfl) HL1.out HL2.out HL3.out ?_
          intro pv2 X6 own6 gro6 hat6
          have o6 := grown_only gro6
          have hT7 : Tab ((bs, #[.string (tornT s m x)], 9) :: (bp, #[.int .i64 j], 3) :: (bi, #[.int .i64 i], 3) :: (bc, #[.pointer (some ⟨gc, 0, none⟩)], 23) :: T) a X6 := HT6.out.move o6 (fun q hq hk => (HNO.out q hq).1 (.inr (.inr (.inr (.inr hk))))) (fun k hk => Nat.le_trans HBA.out (HOW.out.lt k hk).1)
          refine ⟨hT7, ?_⟩
          simp only [List.setIfInBounds_toArray, List.set]
          refine held_pure (i := 8) (v := (.pointer (some ⟨gc, 0, none⟩))) rfl rfl (by kernel_rfl) (by kernel_rfl) (by kernel_rfl) (fun _ _ _ h => h) (Or.inl ⟨by rfl, fun w => by go_simp⟩) hT7 ?_
          simp only [List.setIfInBounds_toArray, List.set]
          refine held_pure (i := 9) (v := (.pointer (some ⟨gc, 5, none⟩))) rfl rfl (by kernel_rfl) (by kernel_rfl) (by kernel_rfl) (fun _ _ _ h => h) (Or.inl ⟨by rfl, fun w => by go_simp⟩) hT7 ?_
          simp only [List.setIfInBounds_toArray, List.set]
          have h79 : ∀ {k : Nat} {cs : Array Value} {ty : TypeId}, (World.drew X5).heap[k]? = some (.cells cs ty (0, 0)) → ty ≠ 9 → ¬ pv.ownBlock = some k := fun hk h9 hp => by obtain ⟨c3, h3⟩ := HC6.out.pastBlock hp; exact heap_ne hk h3 h9 rfl
          have oa : Only (fun k => pv.ownBlock = some k) (World.drew X5) X6 := Only.trans ((Only.refl _ _).alloc _) o6
          have hc6 : X6.heap[gc]? = some (.cells (cpA gl gp pv { st with page := updP st.page i j (some (tornT s m x)) }) 75 (0, 0)) := keepRow oa HC6.out.chip (h79 HC6.out.chip (by decide))
          have hpv2 : pv2.ownBlock = pv.ownBlock ∨ ∀ k, pv2.ownBlock = some k → (World.drew X5).heap.size ≤ k := hat6.imp id (fun e k hk => by rw [e] at hk; cases hk; simp)
          have hne2 : ∀ {k : Nat}, k < (World.drew X5).heap.size → pv.ownBlock ≠ some k → pv2.ownBlock ≠ some k := fun hk hp h2 => by rcases hpv2 with e | e; exact hp (e ▸ h2); have := e _ h2; omega
          obtain ⟨X7, hs7, g7, o7, -⟩ := one_at X6 (o := 5) (ty := 43) (v := pv2) hc6 info43s (by rcases own6.2 with ⟨h, _⟩ | ⟨_, _, _, h, _⟩ <;> rw [h] <;> rfl) (by show 5 < 8; omega)
          have hT8 : Tab ((bs, #[.string (tornT s m x)], 9) :: (bp, #[.int .i64 j], 3) :: (bi, #[.int .i64 i], 3) :: (bc, #[.pointer (some ⟨gc, 0, none⟩)], 23) :: T) a X7 := hT7.move o7 (fun q hq hk => (HNO.out q hq).1 (.inl hk)) (fun k hk => by rw [hk]; exact Nat.le_trans HBA.out HC6.out.base.1)
          have hC7 : Chip B gc gl gp pg pv2 { st with page := updP st.page i j (some (tornT s m x)), past := st.past ++ [(tornT s m x)] } p X7 := HC6.out.self (st' := { st with page := updP st.page i j (some (tornT s m x)), past := st.past ++ [(tornT s m x)] }) rfl rfl rfl rfl rfl g7 ((oa.mono fun k hk => .inr hk).trans (o7.mono fun k hk => .inl hk)) (by show World.ownsRow X7 B 9 1 pv2 (st.past ++ [(tornT s m x)]).length ((st.past ++ [(tornT s m x)]).map Value.string); rw [List.length_append, List.map_append]; exact keepOwn o7 own6 (fun k hk e => by subst e; exact hne2 (Array.getElem?_eq_some_iff.1 HC6.out.chip).1 (h79 HC6.out.chip (by decide)) hk)) (fun b s hb hp => hne2 (Array.getElem?_eq_some_iff.1 hb).1 hp)
          refine held_store (j := 10) (by kernel_rfl) rfl rfl rfl 43 (.tmp 49) (.tmp 47) rfl _ rfl _ rfl hs7 hT8 ?_
          have hno : ∀ q ∈ ((bs, #[.string (tornT s m x)], 9) :: (bp, #[.int .i64 j], 3) :: (bi, #[.int .i64 i], 3) :: (bc, #[.pointer (some ⟨gc, 0, none⟩)], 23) :: T), ¬ Mine gc gl gp pg pv2 st.segs q.1 := fun q hq hm => by
            have hq0 := (HNO.out q hq).1
            rcases hm with h | h | h | h | h
            · exact hq0 (.inl h)
            · exact hq0 (.inr (.inl h))
            · exact hq0 (.inr (.inr (.inl h)))
            · exact hq0 (.inr (.inr (.inr (.inl h))))
            · exact hne2 (hS0.lt hq) (fun e => hq0 (.inr (.inr (.inr (.inr e))))) h
          refine wpAnyH_done (by kernel_rfl) ?_ _
          have b1 := hT8.c 3 rfl 0 (v := .pointer (some ⟨gc, 0, none⟩)) rfl
          have b6 := hC7.c6
          obtain ⟨X8, hs8, g8, o8, -⟩ := one_at X7 (o := 6) (ty := 3) (v := .int .i64 (st.programs + 1)) hC7.chip info3s rfl (by show 6 < 8; omega)
          have hT9 : Tab ((bs, #[.string (tornT s m x)], 9) :: (bp, #[.int .i64 j], 3) :: (bi, #[.int .i64 i], 3) :: (bc, #[.pointer (some ⟨gc, 0, none⟩)], 23) :: T) a X8 := hT8.move o8 (fun q hq hk => hno q hq (.inl hk)) (fun k hk => by rw [hk]; exact Nat.le_trans HBA.out HC6.out.base.1)
          have hC8 : Chip B gc gl gp pg pv2 (st.prg i j (tornT s m x)) p X8 := hC7.self (st' := st.prg i j (tornT s m x)) rfl rfl rfl rfl rfl g8 (o8.mono fun k hk => .inl hk) (keepOwn o8 hC7.past (fun k hk e => by subst e; obtain ⟨c3, h3⟩ := hC7.pastBlock hk; exact heap_ne h3 hC7.chip (by decide) rfl)) (fun b s hb hp => hp)
          have HS8 := Lib.hid hs8
          have HF : Hid (∃ pv', Chip B gc gl gp pg pv' (st.prg i j (tornT s m x)) p X8 ∧ Held ((bs, #[.string (tornT s m x)], 9) :: (bp, #[.int .i64 j], 3) :: (bi, #[.int .i64 i], 3) :: (bc, #[.pointer (some ⟨gc, 0, none⟩)], 23) :: T) a B gc gl gp pg pv' st.segs X8) := ⟨pv2, hC8, hT9, hno, HBA.out⟩
          have hpr := HP.out
          have hp0 : 0 ≤ st.programs := hpr.1
          have hp1 : st.programs ≤ 100000 := hpr.2
          clear hT7 oa hc6 h79 hpv2 hne2 hs7 g7 o7 hT8 hC7 hno hs8 g8 o8 hT9 hC8 own6 gro6 hat6 o6 hpr
          go_wp2_with (((with_reducible refine wpList_store_at ?_ 3 (.tmp 56) (.tmp 54) ?_ _ ?_ _ ?_ HS8.out ?_); rfl; rfl; rfl; rfl))
          go_end0
          exact ⟨rfl, HF.out⟩
        · refine op_exec (j := 6) rfl rfl (by rfl) _ (exec_bs 43 1 #[(0, .tmp 45)] rfl [(0, .string (tornT s m x))] rfl _ HBS.out) ?_
          refine ⟨HT6.out, ?_⟩
          simp only [List.setIfInBounds_toArray, List.set]
          refine held_execd (j := 4) (by kernel_rfl) rfl rfl (by rfl) pv (exec_load 43 (.tmp 43) rfl ⟨gc, 5, none⟩ rfl pv HLP'.out) HT6.out ?_
          simp only [List.setIfInBounds_toArray, List.set]
          refine held_append (j := 7) (by kernel_rfl) rfl rfl rfl (.tmp 44) (.tmp 46) 43 rfl B 9 i9 (.string ByteArray.empty) 1 16 Try.underlying43 hi9 hz9 hz91 hz92 rfl (by decide) pv st.past.length (st.past.map Value.string) rfl HOW.out ⟨(World.drew X5).heap.size, 0, none⟩ 1 1 [.string (tornT s m x)] rfl rfl (cell_one_new _ _ _) (by intro u hu; simp at hu; subst hu; rfl) HL1.out HL2.out HL3.out ?_
          intro pv2 X6 own6 gro6 hat6
          have o6 := grown_only gro6
          have hT7 : Tab ((bs, #[.string (tornT s m x)], 9) :: (bp, #[.int .i64 j], 3) :: (bi, #[.int .i64 i], 3) :: (bc, #[.pointer (some ⟨gc, 0, none⟩)], 23) :: T) a X6 := HT6.out.move o6 (fun q hq hk => (HNO.out q hq).1 (.inr (.inr (.inr (.inr hk))))) (fun k hk => Nat.le_trans HBA.out (HOW.out.lt k hk).1)
          refine ⟨hT7, ?_⟩
          simp only [List.setIfInBounds_toArray, List.set]
          refine held_pure (i := 8) (v := (.pointer (some ⟨gc, 0, none⟩))) rfl rfl (by kernel_rfl) (by kernel_rfl) (by kernel_rfl) (fun _ _ _ h => h) (Or.inl ⟨by rfl, fun w => by go_simp⟩) hT7 ?_
          simp only [List.setIfInBounds_toArray, List.set]
          refine held_pure (i := 9) (v := (.pointer (some ⟨gc, 5, none⟩))) rfl rfl (by kernel_rfl) (by kernel_rfl) (by kernel_rfl) (fun _ _ _ h => h) (Or.inl ⟨by rfl, fun w => by go_simp⟩) hT7 ?_
          simp only [List.setIfInBounds_toArray, List.set]
          have h79 : ∀ {k : Nat} {cs : Array Value} {ty : TypeId}, (World.drew X5).heap[k]? = some (.cells cs ty (0, 0)) → ty ≠ 9 → ¬ pv.ownBlock = some k := fun hk h9 hp => by obtain ⟨c3, h3⟩ := HC6.out.pastBlock hp; exact heap_ne hk h3 h9 rfl
          have oa : Only (fun k => pv.ownBlock = some k) (World.drew X5) X6 := Only.trans ((Only.refl _ _).alloc _) o6
          have hc6 : X6.heap[gc]? = some (.cells (cpA gl gp pv { st with page := updP st.page i j (some (tornT s m x)) }) 75 (0, 0)) := keepRow oa HC6.out.chip (h79 HC6.out.chip (by decide))
          have hpv2 : pv2.ownBlock = pv.ownBlock ∨ ∀ k, pv2.ownBlock = some k → (World.drew X5).heap.size ≤ k := hat6.imp id (fun e k hk => by rw [e] at hk; cases hk; simp)
          have hne2 : ∀ {k : Nat}, k < (World.drew X5).heap.size → pv.ownBlock ≠ some k → pv2.ownBlock ≠ some k := fun hk hp h2 => by rcases hpv2 with e | e; exact hp (e ▸ h2); have := e _ h2; omega
          obtain ⟨X7, hs7, g7, o7, -⟩ := one_at X6 (o := 5) (ty := 43) (v := pv2) hc6 info43s (by rcases own6.2 with ⟨h, _⟩ | ⟨_, _, _, h, _⟩ <;> rw [h] <;> rfl) (by show 5 < 8; omega)
          have hT8 : Tab ((bs, #[.string (tornT s m x)], 9) :: (bp, #[.int .i64 j], 3) :: (bi, #[.int .i64 i], 3) :: (bc, #[.pointer (some ⟨gc, 0, none⟩)], 23) :: T) a X7 := hT7.move o7 (fun q hq hk => (HNO.out q hq).1 (.inl hk)) (fun k hk => by rw [hk]; exact Nat.le_trans HBA.out HC6.out.base.1)
          have hC7 : Chip B gc gl gp pg pv2 { st with page := updP st.page i j (some (tornT s m x)), past := st.past ++ [(tornT s m x)] } p X7 := HC6.out.self (st' := { st with page := updP st.page i j (some (tornT s m x)), past := st.past ++ [(tornT s m x)] }) rfl rfl rfl rfl rfl g7 ((oa.mono fun k hk => .inr hk).trans (o7.mono fun k hk => .inl hk)) (by show World.ownsRow X7 B 9 1 pv2 (st.past ++ [(tornT s m x)]).length ((st.past ++ [(tornT s m x)]).map Value.string); rw [List.length_append, List.map_append]; exact keepOwn o7 own6 (fun k hk e => by subst e; exact hne2 (Array.getElem?_eq_some_iff.1 HC6.out.chip).1 (h79 HC6.out.chip (by decide)) hk)) (fun b s hb hp => hne2 (Array.getElem?_eq_some_iff.1 hb).1 hp)
          refine held_store (j := 10) (by kernel_rfl) rfl rfl rfl 43 (.tmp 49) (.tmp 47) rfl _ rfl _ rfl hs7 hT8 ?_
          have hno : ∀ q ∈ ((bs, #[.string (tornT s m x)], 9) :: (bp, #[.int .i64 j], 3) :: (bi, #[.int .i64 i], 3) :: (bc, #[.pointer (some ⟨gc, 0, none⟩)], 23) :: T), ¬ Mine gc gl gp pg pv2 st.segs q.1 := fun q hq hm => by
            have hq0 := (HNO.out q hq).1
            rcases hm with h | h | h | h | h
            · exact hq0 (.inl h)
            · exact hq0 (.inr (.inl h))
            · exact hq0 (.inr (.inr (.inl h)))
            · exact hq0 (.inr (.inr (.inr (.inl h))))
            · exact hne2 (hS0.lt hq) (fun e => hq0 (.inr (.inr (.inr (.inr e))))) h
          refine wpAnyH_done (by kernel_rfl) ?_ _
          have b1 := hT8.c 3 rfl 0 (v := .pointer (some ⟨gc, 0, none⟩)) rfl
          have b6 := hC7.c6
          obtain ⟨X8, hs8, g8, o8, -⟩ := one_at X7 (o := 6) (ty := 3) (v := .int .i64 (st.programs + 1)) hC7.chip info3s rfl (by show 6 < 8; omega)
          have hT9 : Tab ((bs, #[.string (tornT s m x)], 9) :: (bp, #[.int .i64 j], 3) :: (bi, #[.int .i64 i], 3) :: (bc, #[.pointer (some ⟨gc, 0, none⟩)], 23) :: T) a X8 := hT8.move o8 (fun q hq hk => hno q hq (.inl hk)) (fun k hk => by rw [hk]; exact Nat.le_trans HBA.out HC6.out.base.1)
          have hC8 : Chip B gc gl gp pg pv2 (st.prg i j (tornT s m x)) p X8 := hC7.self (st' := st.prg i j (tornT s m x)) rfl rfl rfl rfl rfl g8 (o8.mono fun k hk => .inl hk) (keepOwn o8 hC7.past (fun k hk e => by subst e; obtain ⟨c3, h3⟩ := hC7.pastBlock hk; exact heap_ne h3 hC7.chip (by decide) rfl)) (fun b s hb hp => hp)
          have HS8 := Lib.hid hs8
          have HF : Hid (∃ pv', Chip B gc gl gp pg pv' (st.prg i j (tornT s m x)) p X8 ∧ Held ((bs, #[.string (tornT s m x)], 9) :: (bp, #[.int .i64 j], 3) :: (bi, #[.int .i64 i], 3) :: (bc, #[.pointer (some ⟨gc, 0, none⟩)], 23) :: T) a B gc gl gp pg pv' st.segs X8) := ⟨pv2, hC8, hT9, hno, HBA.out⟩
          have hpr := HP.out
          have hp0 : 0 ≤ st.programs := hpr.1
          have hp1 : st.programs ≤ 100000 := hpr.2
          clear hT7 oa hc6 h79 hpv2 hne2 hs7 g7 o7 hT8 hC7 hno hs8 g8 o8 hT9 hC8 own6 gro6 hat6 o6 hpr
          go_wp2_with (((with_reducible refine wpList_store_at ?_ 3 (.tmp 56) (.tmp 54) ?_ _ ?_ _ ?_ HS8.out ?_); rfl; rfl; rfl; rfl))
          go_end0
          exact ⟨rfl, HF.out⟩

end
end Go.Proofs.Ytjnjnkkdpglfhaa
