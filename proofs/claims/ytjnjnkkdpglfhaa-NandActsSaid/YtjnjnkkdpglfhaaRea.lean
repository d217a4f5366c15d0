/-
  The chip: Read; an act that is done to it.
-/
import Derived.Test.YtjnjnkkdpglfhaaChp
set_option linter.unusedVariables false
namespace Go.Proofs.Ytjnjnkkdpglfhaa
open Go.RowKit

def Cp.rdE (st : Cp) (p : Pw) (i j : Int) : Int := if p.off = true then 4 else if hasB st.segs st.pages i j = true then 0 else 1
def Cp.rdO (st : Cp) (p : Pw) (i j : Int) : Option ByteArray := if p.off = true then none else if hasB st.segs st.pages i j = true then st.page i.toNat j.toNat else none
theorem has_iff {s p : Nat} {i j : Int} (h : hasB s p i j = true) : 0 ≤ i ∧ i < s ∧ 0 ≤ j ∧ j < p := by simpa [hasB] using h

section
variable {B gc gl gp : Nat} {pg : Nat → Nat} {pv : Value} {st : Cp} {p : Pw} {w : World}
theorem read_off (h : Chip B gc gl gp pg pv st p w) (i j : Int) (ho : p.off = true) :
    Calls Try.prog 19 #[.pointer (some ⟨gc, 0, none⟩), .int .i64 i, .int .i64 j] w fun e w' => e = .returned (.tuple #[.string ByteArray.empty, .bool false, .int .i64 4]) ∧ Below w.heap.size w w' := by
  have c2 := h.c2
  have HU := Lib.hid (up_any gp p w h.pw)
  rw [ho] at HU
  clear h ho
  go_enter Try.func19, Try.ntmps19
  go_wp2_with fail
  refine HU.out.mono ?_
  rintro e w1 ⟨rfl, rfl⟩
  go_wp2_with fail
  go_ret3
  exact ⟨rfl, Below.refl _ _⟩
theorem read_arg (h : Chip B gc gl gp pg pv st p w) (i j : Int) (ho : p.off = false) (hh : hasB st.segs st.pages i j = false) :
    Calls Try.prog 19 #[.pointer (some ⟨gc, 0, none⟩), .int .i64 i, .int .i64 j] w fun e w' => e = .returned (.tuple #[.string ByteArray.empty, .bool false, .int .i64 1]) ∧ Below w.heap.size w w' := by
  have c2 := h.c2
  have c0 := h.c0
  have HU := Lib.hid (up_any gp p w h.pw)
  have HS := Lib.hid h.size
  have HH := Lib.hid (fun W => has_any st.segs st.pages i j W h.lens.1 h.lens.2)
  rw [ho] at HU
  rw [hh] at HH
  clear h ho hh
  generalize szA st.segs st.pages = A at *
  go_enter Try.func19, Try.ntmps19
  go_wp2_with fail
  refine HU.out.mono ?_
  rintro e w1 ⟨rfl, rfl⟩
  go_wp2_with (((with_reducible refine wpList_load_at ?_ 72 (.tmp 20) ?_ _ ?_ _ HS.out ?_); rfl; rfl; rfl))
  refine (HH.out _).mono ?_
  rintro e w1 ⟨rfl, k1⟩
  go_wp2_with fail
  go_ret3
  exact ⟨rfl, k1⟩
theorem read_in (h : Chip B gc gl gp pg pv st p w) (i j : Nat) (ho : p.off = false) (hi : i < st.segs) (hj : j < st.pages) :
    Calls Try.prog 19 #[.pointer (some ⟨gc, 0, none⟩), .int .i64 i, .int .i64 j] w fun e w' => e = .returned (.tuple #[.string ((st.page i j).getD ByteArray.empty), .bool (st.page i j).isSome, .int .i64 0]) ∧ Below w.heap.size w w' := by
  have c2 := h.c2
  have c0 := h.c0
  have HU := Lib.hid (up_any gp p w h.pw)
  have HS := Lib.hid h.size
  have HH := Lib.hid (fun W => has_any st.segs st.pages i j W h.lens.1 h.lens.2)
  rw [show hasB st.segs st.pages (i : Int) (j : Int) = true by simp only [hasB, decide_eq_true_eq]; omega] at HH
  rw [ho] at HU
  have HC := Lib.hid h
  have h1 : (i : Int) < (st.segs : Int) := by omega
  have h2 : (j : Int) < (st.pages : Int) := by omega
  have hi0 : (0 : Int) ≤ (i : Int) := by omega
  have hj0 : (0 : Int) ≤ (j : Int) := by omega
  have HI := Lib.hid hi
  have HJ := Lib.hid hj
  clear h ho
  generalize szA st.segs st.pages = A at *
  go_enter Try.func19, Try.ntmps19
  go_wp2_with fail
  refine HU.out.mono ?_
  rintro e w1 ⟨rfl, rfl⟩
  go_wp2_with (((with_reducible refine wpList_load_at ?_ 72 (.tmp 20) ?_ _ ?_ _ HS.out ?_); rfl; rfl; rfl))
  refine (HH.out _).mono ?_
  rintro e w1 ⟨rfl, k1⟩
  have h3 := HC.out.call k1
  have c4 := h3.c4
  have cp := h3.pgs HI.out
  obtain ⟨v, cv, hv⟩ := h3.pc HI.out HJ.out
  have HK := Lib.hid k1
  clear h3 k1
  rcases hv with ⟨he, rfl⟩ | ⟨b, s, he, rfl, hb, -⟩
  · have HE := Lib.hid he
    clear he
    go_wp2_with fail
    go_ret3
    exact ⟨by rw [HE.out]; rfl, HK.out⟩
  · have HE := Lib.hid he
    have cb := cell_of_row w1 b 0 _ _ _ hb
    have cb' : w1.cell? ⟨b, 0, none⟩ = some (.string s) := cb
    clear he hb cb
    go_wp2_with fail
    go_ret3
    exact ⟨by rw [HE.out]; rfl, HK.out⟩
theorem read_any (h : Chip B gc gl gp pg pv st p w) (i j : Int) :
    Calls Try.prog 19 #[.pointer (some ⟨gc, 0, none⟩), .int .i64 i, .int .i64 j] w fun e w' => e = .returned (.tuple #[.string ((st.rdO p i j).getD ByteArray.empty), .bool (st.rdO p i j).isSome, .int .i64 (st.rdE p i j)]) ∧ Below w.heap.size w w' := by
  unfold Cp.rdO Cp.rdE
  by_cases ho : p.off = true
  · rw [if_pos ho, if_pos ho]
    exact read_off h i j ho
  · have ho' : p.off = false := by simpa using ho
    rw [if_neg ho, if_neg ho]
    cases hh : hasB st.segs st.pages i j
    · rw [if_neg (by simp), if_neg (by simp)]
      exact read_arg h i j ho' hh
    · rw [if_pos rfl, if_pos rfl]
      have := has_iff hh
      obtain ⟨a, rfl⟩ := Int.eq_ofNat_of_zero_le this.1
      obtain ⟨b, rfl⟩ := Int.eq_ofNat_of_zero_le this.2.2.1
      exact read_in h a b ho' (by omega) (by omega)
end
end Go.Proofs.Ytjnjnkkdpglfhaa
