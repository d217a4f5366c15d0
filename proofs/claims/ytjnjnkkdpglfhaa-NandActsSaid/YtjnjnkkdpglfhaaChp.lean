/-
  The chip: its blocks, and what they hold; its readers.
-/
import Derived.Test.YtjnjnkkdpglfhaaHld
import Derived.Laws.AppendOwn
import Derived.Laws.OwnMore
set_option linter.unusedVariables false
namespace Go.Proofs.Ytjnjnkkdpglfhaa
open Go.RowKit

/-- A chip's plain state. -/
structure Cp where
  segs : Nat
  pages : Nat
  rated : Int
  page : Nat → Nat → Option ByteArray
  wear : Nat → Int
  bad : Nat → Bool
  past : List ByteArray
  programs : Int
  erases : Int
/-- A page's cell: nil, or a pointer to a text's own block. -/
def PageAt (w : World) (pv : Value) (o : Option ByteArray) (v : Value) : Prop :=
  (o = none ∧ v = .pointer none) ∨ ∃ b s, o = some s ∧ v = .pointer (some ⟨b, 0, none⟩) ∧ w.heap[b]? = some (.cells #[.string s] 9 (0, 0)) ∧ pv.ownBlock ≠ some b
def cpA (gl gp : Nat) (pv : Value) (st : Cp) : Array Value :=
  #[.int .i64 st.segs, .int .i64 st.pages, .pointer (some ⟨gp, 0, none⟩), .int .i64 st.rated, .slice (some ⟨gl, 0, none⟩) st.segs st.segs, pv, .int .i64 st.programs, .int .i64 st.erases]
def SegsAt (gl : Nat) (pg : Nat → Nat) (st : Cp) (w : World) : Prop :=
  ∃ cs, w.heap[gl]? = some (.cells cs 79 (0, 0)) ∧ cs.size = st.segs * 3 ∧ ∀ i, i < st.segs → cs[i * 3]? = some (.slice (some ⟨pg i, 0, none⟩) st.pages st.pages) ∧ cs[i * 3 + 1]? = some (.int .i64 (st.wear i)) ∧ cs[i * 3 + 2]? = some (.bool (st.bad i))
def PagesAt (pg : Nat → Nat) (pv : Value) (st : Cp) (i : Nat) (w : World) : Prop :=
  ∃ cs, w.heap[pg i]? = some (.cells cs 91 (0, 0)) ∧ cs.size = st.pages ∧ ∀ j, j < st.pages → ∃ v, cs[j]? = some v ∧ PageAt w pv (st.page i j) v
/-- The chip in its blocks; B: none of them is below. -/
structure Chip (B gc gl gp : Nat) (pg : Nat → Nat) (pv : Value) (st : Cp) (p : Pw) (w : World) : Prop where
  chip : w.heap[gc]? = some (.cells (cpA gl gp pv st) 75 (0, 0))
  segs : SegsAt gl pg st w
  page : ∀ i, i < st.segs → PagesAt pg pv st i w
  pw : IsPw gp p w
  past : w.ownsRow B 9 1 pv st.past.length (st.past.map Value.string)
  inj : ∀ i j, i < st.segs → j < st.segs → pg i = pg j → i = j
  lens : st.segs ≤ 64 ∧ st.pages ≤ 16
  base : B ≤ gc ∧ B ≤ gl ∧ B ≤ gp ∧ ∀ i, i < st.segs → B ≤ pg i
/-- The blocks that its methods may turn. -/
def Mine (gc gl gp : Nat) (pg : Nat → Nat) (pv : Value) (n : Nat) (k : Nat) : Prop := k = gc ∨ k = gl ∨ k = gp ∨ (∃ i, i < n ∧ k = pg i) ∨ pv.ownBlock = some k

section
variable {B gc gl gp : Nat} {pg : Nat → Nat} {pv : Value} {st : Cp} {p : Pw} {w w' : World}
theorem PageAt.keep {o : Option ByteArray} {v : Value} (h : PageAt w pv o v) (hk : ∀ b s, w.heap[b]? = some (.cells #[.string s] 9 (0, 0)) → pv.ownBlock ≠ some b → w'.heap[b]? = w.heap[b]?) : PageAt w' pv o v := by
  rcases h with h | ⟨b, s, h1, h2, h3, h4⟩
  · exact .inl h
  · exact .inr ⟨b, s, h1, h2, (hk b s h3 h4).trans h3, h4⟩
theorem Chip.keep (h : Chip B gc gl gp pg pv st p w) (o : Only (fun _ => False) w w') : Chip B gc gl gp pg pv st p w' := by
  have hb : ∀ {g : Nat} {x : Obj}, w.heap[g]? = some x → w'.heap[g]? = some x := fun hg => (o.block _ (Array.getElem?_eq_some_iff.1 hg).1 (fun x => x)).trans hg
  refine ⟨hb h.chip, ?_, ?_, hb h.pw, ?_, h.inj, h.lens, h.base⟩
  · obtain ⟨cs, h1, h2⟩ := h.segs
    exact ⟨cs, hb h1, h2⟩
  · intro i hi
    obtain ⟨cs, h1, h2, h3⟩ := h.page i hi
    refine ⟨cs, hb h1, h2, fun j hj => ?_⟩
    obtain ⟨v, h4, h5⟩ := h3 j hj
    exact ⟨v, h4, h5.keep fun b s hg _ => o.block _ (Array.getElem?_eq_some_iff.1 hg).1 (fun x => x)⟩
  · obtain ⟨h1, h2 | ⟨g, cap, cur, r, hg, hgb, rest⟩⟩ := h.past
    · exact ⟨h1, .inl h2⟩
    · exact ⟨h1, .inr ⟨g, cap, cur, r, hg, hb hgb, rest⟩⟩
theorem Chip.call (h : Chip B gc gl gp pg pv st p w) (o : Below w.heap.size w w') : Chip B gc gl gp pg pv st p w' := h.keep (Only.of_below o)
theorem Chip.mine (h : Chip B gc gl gp pg pv st p w) {k : Nat} (hk : Mine gc gl gp pg pv st.segs k) : B ≤ k := by
  rcases hk with rfl | rfl | rfl | ⟨i, hi, rfl⟩ | hk
  · exact h.base.1
  · exact h.base.2.1
  · exact h.base.2.2.1
  · exact h.base.2.2.2 i hi
  · exact (h.past.lt k hk).1
theorem Chip.below (h : Chip B gc gl gp pg pv st p w) (o : Only (Mine gc gl gp pg pv st.segs) w w') (hB : B ≤ w.heap.size) : Below B w w' :=
  ⟨o.os, o.tape, o.output, o.size, fun k hk => o.block k (by omega) fun x => by have := h.mine x; omega⟩

theorem Chip.c0 (h : Chip B gc gl gp pg pv st p w) : w.cell? ⟨gc, 0, none⟩ = some (.int .i64 st.segs) := cell_of_row w gc 0 _ _ _ h.chip
theorem Chip.c1 (h : Chip B gc gl gp pg pv st p w) : w.cell? ⟨gc, 1, none⟩ = some (.int .i64 st.pages) := cell_of_row w gc 1 _ _ _ h.chip
theorem Chip.c2 (h : Chip B gc gl gp pg pv st p w) : w.cell? ⟨gc, 2, none⟩ = some (.pointer (some ⟨gp, 0, none⟩)) := cell_of_row w gc 2 _ _ _ h.chip
theorem Chip.c3 (h : Chip B gc gl gp pg pv st p w) : w.cell? ⟨gc, 3, none⟩ = some (.int .i64 st.rated) := cell_of_row w gc 3 _ _ _ h.chip
theorem Chip.c4 (h : Chip B gc gl gp pg pv st p w) : w.cell? ⟨gc, 4, none⟩ = some (.slice (some ⟨gl, 0, none⟩) st.segs st.segs) := cell_of_row w gc 4 _ _ _ h.chip
theorem Chip.c5 (h : Chip B gc gl gp pg pv st p w) : w.cell? ⟨gc, 5, none⟩ = some pv := cell_of_row w gc 5 _ _ _ h.chip
theorem Chip.c6 (h : Chip B gc gl gp pg pv st p w) : w.cell? ⟨gc, 6, none⟩ = some (.int .i64 st.programs) := cell_of_row w gc 6 _ _ _ h.chip
theorem Chip.c7 (h : Chip B gc gl gp pg pv st p w) : w.cell? ⟨gc, 7, none⟩ = some (.int .i64 st.erases) := cell_of_row w gc 7 _ _ _ h.chip
theorem Chip.f (h : Chip B gc gl gp pg pv st p w) (j : Nat) : w.frozen? ⟨gc, j, none⟩ = false := frozen_of_row w gc j _ _ h.chip
theorem info72s : (Try.prog.info? 72).map (·.size) = some 2 := by kernel_rfl
def szA (s p : Nat) : Array Value := #[.int .i64 s, .int .i64 p]
theorem Chip.size (h : Chip B gc gl gp pg pv st p w) : (loadVar 72 ⟨gc, 0, none⟩).run Try.prog w = .ok (.agg (szA st.segs st.pages)) w :=
  loadVar_at (P := Try.prog) w gc 0 75 72 _ (0, 0) _ 2 h.chip Try.underlying72 rfl info72s (by show 0 + 2 ≤ 8; omega)
theorem Chip.pgs (h : Chip B gc gl gp pg pv st p w) {i : Nat} (hi : i < st.segs) : w.cell? ⟨gl, i * 3, none⟩ = some (.slice (some ⟨pg i, 0, none⟩) st.pages st.pages) := by
  obtain ⟨cs, h1, h2, h3⟩ := h.segs
  exact (cell_of_row w gl _ _ _ _ h1).trans (h3 i hi).1
theorem Chip.wr (h : Chip B gc gl gp pg pv st p w) {i : Nat} (hi : i < st.segs) : w.cell? ⟨gl, i * 3 + 1, none⟩ = some (.int .i64 (st.wear i)) := by
  obtain ⟨cs, h1, h2, h3⟩ := h.segs
  exact (cell_of_row w gl _ _ _ _ h1).trans (h3 i hi).2.1
theorem Chip.bd (h : Chip B gc gl gp pg pv st p w) {i : Nat} (hi : i < st.segs) : w.cell? ⟨gl, i * 3 + 2, none⟩ = some (.bool (st.bad i)) := by
  obtain ⟨cs, h1, h2, h3⟩ := h.segs
  exact (cell_of_row w gl _ _ _ _ h1).trans (h3 i hi).2.2
theorem Chip.pc (h : Chip B gc gl gp pg pv st p w) {i j : Nat} (hi : i < st.segs) (hj : j < st.pages) : ∃ v, w.cell? ⟨pg i, j, none⟩ = some v ∧ PageAt w pv (st.page i j) v := by
  obtain ⟨cs, h1, h2, h3⟩ := h.page i hi
  obtain ⟨v, h4, h5⟩ := h3 j hj
  exact ⟨v, (cell_of_row w (pg i) _ _ _ _ h1).trans h4, h5⟩
end

/-- Is there such a page? -/
def hasB (s p : Nat) (i j : Int) : Bool := decide (0 ≤ i ∧ i < s ∧ 0 ≤ j ∧ j < p)
theorem has_any (s p : Nat) (i j : Int) (w : World) (hs : s ≤ 64) (hp : p ≤ 16) :
    Calls Try.prog 34 #[.agg (szA s p), .int .i64 i, .int .i64 j] w fun e w' => e = .returned (.bool (hasB s p i j)) ∧ Below w.heap.size w w' := by
  have T0 := Tab.box1 w (szA s p) 72
  have c0 := T0.c 0 rfl 0 (v := .int .i64 s) rfl
  have c1 := T0.c 0 rfl 1 (v := .int .i64 p) rfl
  have HT := Lib.hid T0
  unfold hasB
  clear T0
  generalize szA s p = A at *
  by_cases h1 : 0 ≤ i
  · by_cases h2 : i < (s : Int)
    · by_cases h3 : 0 ≤ j
      · by_cases h4 : j < (p : Int)
        · rw [decide_eq_true (show 0 ≤ i ∧ i < (s : Int) ∧ 0 ≤ j ∧ j < (p : Int) from ⟨h1, h2, h3, h4⟩)]
          go_enter Try.func34, Try.ntmps34
          go_wp2_with fail
          go_ret
          exact ⟨rfl, HT.out.below⟩
        · rw [decide_eq_false (show ¬ (0 ≤ i ∧ i < (s : Int) ∧ 0 ≤ j ∧ j < (p : Int)) by omega)]
          go_enter Try.func34, Try.ntmps34
          go_wp2_with fail
          go_ret
          exact ⟨rfl, HT.out.below⟩
      · rw [decide_eq_false (show ¬ (0 ≤ i ∧ i < (s : Int) ∧ 0 ≤ j ∧ j < (p : Int)) by omega)]
        go_enter Try.func34, Try.ntmps34
        go_wp2_with fail
        go_ret
        exact ⟨rfl, HT.out.below⟩
    · rw [decide_eq_false (show ¬ (0 ≤ i ∧ i < (s : Int) ∧ 0 ≤ j ∧ j < (p : Int)) by omega)]
      go_enter Try.func34, Try.ntmps34
      go_wp2_with fail
      go_ret
      exact ⟨rfl, HT.out.below⟩
  · rw [decide_eq_false (show ¬ (0 ≤ i ∧ i < (s : Int) ∧ 0 ≤ j ∧ j < (p : Int)) by omega)]
    go_enter Try.func34, Try.ntmps34
    go_wp2_with fail
    go_ret
    exact ⟨rfl, HT.out.below⟩
theorem segs_any (s p : Nat) (w : World) : Calls Try.prog 31 #[.agg (szA s p)] w fun e w' => e = .returned (.int .i64 s) ∧ Below w.heap.size w w' := by
  have T0 := Tab.box1 w (szA s p) 72
  have c0 := T0.c 0 rfl 0 (v := .int .i64 s) rfl
  have HT := Lib.hid T0
  clear T0
  generalize szA s p = A at *
  go_enter Try.func31, Try.ntmps31
  go_wp2_with fail
  go_ret
  exact ⟨rfl, HT.out.below⟩
theorem pages_any (s p : Nat) (w : World) : Calls Try.prog 32 #[.agg (szA s p)] w fun e w' => e = .returned (.int .i64 p) ∧ Below w.heap.size w w' := by
  have T0 := Tab.box1 w (szA s p) 72
  have c0 := T0.c 0 rfl 1 (v := .int .i64 p) rfl
  have HT := Lib.hid T0
  clear T0
  generalize szA s p = A at *
  go_enter Try.func32, Try.ntmps32
  go_wp2_with fail
  go_ret
  exact ⟨rfl, HT.out.below⟩

theorem counts_any {B gc gl gp : Nat} {pg : Nat → Nat} {pv : Value} {st : Cp} {p : Pw} {w : World} (h : Chip B gc gl gp pg pv st p w) :
    Calls Try.prog 12 #[.pointer (some ⟨gc, 0, none⟩)] w fun e w' => e = .returned (.tuple #[.int .i64 st.programs, .int .i64 st.erases]) ∧ Below w.heap.size w w' := by
  have c6 := h.c6
  have c7 := h.c7
  clear h
  go_enter Try.func12, Try.ntmps12
  go_wp2_with fail
  go_quiet (fail)
  go_wp2_with fail
  go_ret2
  exact ⟨rfl, ((Only.refl (fun _ => False) w).drewN nq).below (fun _ x => x.elim)⟩

def Cp.wearI (st : Cp) (i : Int) : Int := if hasB st.segs st.pages i 0 = true then st.wear i.toNat else 0
theorem wear_any {B gc gl gp : Nat} {pg : Nat → Nat} {pv : Value} {st : Cp} {p : Pw} {w : World} (h : Chip B gc gl gp pg pv st p w) (i : Int) :
    Calls Try.prog 13 #[.pointer (some ⟨gc, 0, none⟩), .int .i64 i] w fun e w' => e = .returned (.int .i64 (st.wearI i)) ∧ Below w.heap.size w w' := by
  have HS := Lib.hid h.size
  have HH := Lib.hid (fun W => has_any st.segs st.pages i 0 W h.lens.1 h.lens.2)
  have HC := Lib.hid h
  unfold Cp.wearI
  clear h
  cases hb : hasB st.segs st.pages i 0
  · rw [hb] at HH
    rw [if_neg (by simp)]
    clear hb
    have c0 := HC.out.c0
    generalize szA st.segs st.pages = A at *
    go_enter Try.func13, Try.ntmps13
    go_wp2_with (((with_reducible refine wpList_load_at ?_ 72 (.tmp 7) ?_ _ ?_ _ HS.out ?_); rfl; rfl; rfl))
    refine (HH.out _).mono ?_
    rintro e w1 ⟨rfl, k1⟩
    go_wp2_with fail
    go_ret
    exact ⟨rfl, k1⟩
  · have hb' := hb
    rw [hb] at HH
    rw [if_pos rfl]
    simp only [hasB, decide_eq_true_eq] at hb'
    obtain ⟨q, rfl⟩ := Int.eq_ofNat_of_zero_le hb'.1
    have hq : q < st.segs := by omega
    have hqi : (q : Int) < (st.segs : Int) := by omega
    clear hb hb'
    rw [Int.toNat_natCast]
    have HQ := Lib.hid hq
    generalize szA st.segs st.pages = A at *
    go_enter Try.func13, Try.ntmps13
    go_wp2_with (((with_reducible refine wpList_load_at ?_ 72 (.tmp 7) ?_ _ ?_ _ HS.out ?_); rfl; rfl; rfl))
    refine (HH.out _).mono ?_
    rintro e w1 ⟨rfl, k1⟩
    have h1 := HC.out.call k1
    have c4 := h1.c4
    have cw := h1.wr HQ.out
    have HK := Lib.hid k1
    clear h1 k1
    go_wp2_with fail
    go_ret
    exact ⟨rfl, HK.out⟩
end Go.Proofs.Ytjnjnkkdpglfhaa
