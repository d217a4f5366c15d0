/-
  The reference's chip, a value of 139 cells; in.
-/
import Derived.Test.YtjnjnkkdpglfhaaRac
set_option linter.unusedVariables false
namespace Go.Proofs.Ytjnjnkkdpglfhaa
open Go.RowKit

theorem info53s : (Try.prog.info? 53).map (·.size) = some 139 := by kernel_rfl
theorem splice_out {A B : Array Value} {o j : Nat} (hf : o + B.size ≤ A.size) (h : o + B.size ≤ j) : (splice A o B)[j]? = A[j]? := by
  unfold splice
  rw [List.getElem?_toArray, List.getElem?_append_right (by simp; omega), List.getElem?_drop, Array.getElem?_toList]
  congr 1
  simp
  omega
/-- What the page's cells are. -/
def lcAt (st : Cp) (k : Nat) : Value := if k % 2 = 0 then .bool (st.page (k / 2 / st.pages) (k / 2 % st.pages)).isSome else .string ((st.page (k / 2 / st.pages) (k / 2 % st.pages)).getD ByteArray.empty)
def lcs (st : Cp) : List Value := (List.range (st.segs * st.pages * 2)).map (lcAt st)
theorem lcs_len (st : Cp) : (lcs st).length = st.segs * st.pages * 2 := by simp [lcs]
theorem lcs_at {st : Cp} {k : Nat} (h : k < st.segs * st.pages * 2) : (lcs st)[k]? = some (lcAt st k) := by simp [lcs, h]
/-- The value v is the slice of the pages' cells. -/
def LC (w : World) (v : Value) (st : Cp) : Prop := ∃ b cap, v = .slice (some ⟨b, 0, none⟩) (st.segs * st.pages) cap ∧ st.segs * st.pages ≤ cap ∧ cap ≤ maxLen ∧ ∀ k u, (lcs st)[k]? = some u → w.cell? ⟨b, k, none⟩ = some u
/-- The value v is a slice of these texts. -/
def SL (w : World) (v : Value) (ss : List ByteArray) : Prop := ∃ a cap, v = .slice a ss.length cap ∧ ss.length ≤ cap ∧ cap ≤ maxLen ∧ ∀ i u, ss[i]? = some u → ∃ b o, a = some ⟨b, o, none⟩ ∧ w.cell? ⟨b, o + i, none⟩ = some (.string u)
theorem LC.keep {w w' : World} {v : Value} {st : Cp} (h : LC w v st) (o : Only (fun _ => False) w w') : LC w' v st := by
  obtain ⟨b, cap, rfl, h1, h2, h3⟩ := h
  refine ⟨b, cap, rfl, h1, h2, fun k u hu => ?_⟩
  have hc := h3 k u hu
  rw [← hc]
  exact World.cell?_of_block (o.block _ (World.block_lt_of_cell? w _ hc) (fun x => x))
theorem SL.keep {w w' : World} {v : Value} {ss : List ByteArray} (h : SL w v ss) (o : Only (fun _ => False) w w') : SL w' v ss := by
  obtain ⟨a, cap, rfl, h1, h2, h3⟩ := h
  refine ⟨a, cap, rfl, h1, h2, fun i u hu => ?_⟩
  obtain ⟨b, q, rfl, hc⟩ := h3 i u hu
  refine ⟨b, q, rfl, ?_⟩
  rw [← hc]
  exact World.cell?_of_block (o.block _ (World.block_lt_of_cell? w _ hc) (fun x => x))
/-- The 139 cells. -/
structure RA (A : Array Value) (lv pv : Value) (st : Cp) (p : Pw) : Prop where
  size : A.size = 139
  pw : A.extract 0 4 = p.cells
  segs : A[4]? = some (.int .i64 st.segs)
  pages : A[5]? = some (.int .i64 st.pages)
  rated : A[6]? = some (.int .i64 st.rated)
  bad : ∀ i, i < st.segs → A[7 + i]? = some (.bool (st.bad i))
  l : A[71]? = some lv
  worn : ∀ i, i < st.segs → A[72 + i]? = some (.int .i64 (st.wear i))
  past : A[136]? = some pv
  programs : A[137]? = some (.int .i64 st.programs)
  erases : A[138]? = some (.int .i64 st.erases)
  lens : 1 ≤ st.segs ∧ st.segs ≤ 64 ∧ 1 ≤ st.pages ∧ st.pages ≤ 16
  one : ∀ v ∈ A.toList, v.oneCell' = true
theorem RA.p0 {A : Array Value} {lv pv : Value} {st : Cp} {p : Pw} (h : RA A lv pv st p) : A[0]? = some (.bool p.off) ∧ A[1]? = some (.int .i64 p.left) ∧ A[2]? = some (.int .i64 p.keep) ∧ A[3]? = some (.int .u8 p.junk) := by
  have hs := h.size
  have e : ∀ j, j < 4 → A[j]? = (p.cells)[j]? := fun j hj => by
    rw [← h.pw, Array.getElem?_extract]
    simp
    intro h1
    omega
  exact ⟨e 0 (by omega), e 1 (by omega), e 2 (by omega), e 3 (by omega)⟩
set_option maxHeartbeats 2000000 in
theorem rin_any {A : Array Value} {lv pv : Value} {st : Cp} {p : Pw} (h : RA A lv pv st p) (i j : Int) (w : World) :
    Calls Try.prog 41 #[.agg A, .int .i64 i, .int .i64 j] w fun e w' => e = .returned (.bool (hasB st.segs st.pages i j)) ∧ Only (fun _ => False) w w' := by
  have T0 := Tab.box1 w A 53
  have c0 := T0.c 0 rfl 4 h.segs
  have c1 := T0.c 0 rfl 5 h.pages
  have HT := Lib.hid T0
  unfold hasB
  obtain ⟨s, hs⟩ : ∃ s, st.segs = s := ⟨_, rfl⟩
  obtain ⟨q, hq⟩ : ∃ q, st.pages = q := ⟨_, rfl⟩
  rw [hs] at c0 ⊢
  rw [hq] at c1 ⊢
  clear T0 h hs hq
  by_cases h1 : 0 ≤ i
  · by_cases h2 : i < (s : Int)
    · by_cases h3 : 0 ≤ j
      · by_cases h4 : j < (q : Int)
        · rw [decide_eq_true (show 0 ≤ i ∧ i < (s : Int) ∧ 0 ≤ j ∧ j < (q : Int) from ⟨h1, h2, h3, h4⟩)]
          go_enter Try.func41, Try.ntmps41
          go_wp2_with fail
          go_ret
          exact ⟨rfl, HT.out.only⟩
        · rw [decide_eq_false (show ¬ (0 ≤ i ∧ i < (s : Int) ∧ 0 ≤ j ∧ j < (q : Int)) by omega)]
          go_enter Try.func41, Try.ntmps41
          go_wp2_with fail
          go_ret
          exact ⟨rfl, HT.out.only⟩
      · rw [decide_eq_false (show ¬ (0 ≤ i ∧ i < (s : Int) ∧ 0 ≤ j ∧ j < (q : Int)) by omega)]
        go_enter Try.func41, Try.ntmps41
        go_wp2_with fail
        go_ret
        exact ⟨rfl, HT.out.only⟩
    · rw [decide_eq_false (show ¬ (0 ≤ i ∧ i < (s : Int) ∧ 0 ≤ j ∧ j < (q : Int)) by omega)]
      go_enter Try.func41, Try.ntmps41
      go_wp2_with fail
      go_ret
      exact ⟨rfl, HT.out.only⟩
  · rw [decide_eq_false (show ¬ (0 ≤ i ∧ i < (s : Int) ∧ 0 ≤ j ∧ j < (q : Int)) by omega)]
    go_enter Try.func41, Try.ntmps41
    go_wp2_with fail
    go_ret
    exact ⟨rfl, HT.out.only⟩
end Go.Proofs.Ytjnjnkkdpglfhaa
