/-
  Sorted, each once: the plain part.
-/
import Derived.Test.YtnppjkekbdapkaaOpn
import Derived.Lib.SlicesCompact
set_option linter.unusedVariables false
namespace Go.Proofs.Ytnppjkekbdapkaa
open Go.RowKit

theorem upTo_props (d : Array Int) (hs : ∀ i j, i ≤ j → j < d.size → d[i]! ≤ d[j]!) (m : Nat) (hm : m ≤ d.size) :
    (∀ x, x ∈ Lib.compactUpTo d m ↔ ∃ j, j < m ∧ d[j]! = x) ∧ (Lib.compactUpTo d m).Pairwise (· < ·) := by
  induction m with
  | zero => exact ⟨fun x => by simp [Lib.compactUpTo], by simp [Lib.compactUpTo]⟩
  | succ m ih =>
    obtain ⟨h1, h2⟩ := ih (by omega)
    rw [Lib.compactUpTo_succ]
    by_cases hk : Lib.keeps d m = true
    · rw [if_pos hk]
      have hne : m = 0 ∨ d[m]! ≠ d[m - 1]! := by simpa [Lib.keeps] using hk
      refine ⟨fun x => ?_, ?_⟩
      · rw [List.mem_append, h1, List.mem_singleton]
        constructor
        · rintro (⟨j, hj, rfl⟩ | rfl)
          · exact ⟨j, by omega, rfl⟩
          · exact ⟨m, by omega, rfl⟩
        · rintro ⟨j, hj, rfl⟩
          by_cases hjm : j = m
          · exact .inr (by rw [hjm])
          · exact .inl ⟨j, by omega, rfl⟩
      · refine List.pairwise_append.2 ⟨h2, by simp, fun x hx y hy => ?_⟩
        rw [List.mem_singleton] at hy
        subst hy
        obtain ⟨j, hj, rfl⟩ := (h1 x).1 hx
        have a1 := hs j (m - 1) (by omega) (by omega)
        have a2 := hs (m - 1) m (by omega) (by omega)
        rcases hne with h | h <;> omega
    · rw [if_neg hk, List.append_nil]
      have he : ¬ (m = 0 ∨ d[m]! ≠ d[m - 1]!) := by
        intro h
        exact hk (by simpa [Lib.keeps] using h)
      refine ⟨fun x => ?_, h2⟩
      rw [h1]
      constructor
      · rintro ⟨j, hj, rfl⟩
        exact ⟨j, by omega, rfl⟩
      · rintro ⟨j, hj, rfl⟩
        by_cases hjm : j = m
        · refine ⟨m - 1, by omega, ?_⟩
          rw [hjm]
          by_cases hq : d[m]! = d[m - 1]!
          · exact hq.symm
          · exact absurd (.inr hq) he
        · exact ⟨j, by omega, rfl⟩
def rise (zs : List Int) : List Int := Lib.compact (zs.mergeSort fun x y => decide (x ≤ y))
theorem rise_props (zs : List Int) : (∀ x, x ∈ rise zs ↔ x ∈ zs) ∧ (rise zs).Pairwise (· < ·) := by
  have hso : (zs.mergeSort fun x y => decide (x ≤ y)).Pairwise (fun x y => decide (x ≤ y) = true) := List.pairwise_mergeSort (by intro a b c h1 h2; simp at *; omega) (by intro a b; simp; omega) zs
  obtain ⟨ms, hms⟩ : ∃ ms, (zs.mergeSort fun x y => decide (x ≤ y)) = ms := ⟨_, rfl⟩
  have hmem : ∀ x, x ∈ ms ↔ x ∈ zs := fun x => by rw [← hms]; exact List.mem_mergeSort
  unfold rise
  rw [hms] at hso ⊢
  have hs : ∀ i j, i ≤ j → j < ms.toArray.size → ms.toArray[i]! ≤ ms.toArray[j]! := by
    intro i j hij hj
    have hj' : j < ms.length := by simpa using hj
    rw [getElem!_pos ms.toArray i (by simp; omega), getElem!_pos ms.toArray j (by simp; omega)]
    simp only [List.getElem_toArray]
    by_cases h : i = j
    · subst h
      exact Int.le_refl _
    · have := List.pairwise_iff_getElem.1 hso i j (by omega) hj' (by omega)
      simpa using this
  have hp := upTo_props ms.toArray hs ms.length (by simp)
  refine ⟨fun x => ?_, hp.2⟩
  rw [← hmem]
  refine (hp.1 x).trans ?_
  constructor
  · rintro ⟨j, hj, rfl⟩
    rw [getElem!_pos ms.toArray j (by simpa using hj)]
    simp
  · intro hx
    obtain ⟨j, hj, rfl⟩ := List.getElem_of_mem hx
    exact ⟨j, hj, by rw [getElem!_pos ms.toArray j (by simpa using hj)]; simp⟩
theorem rise_len (zs : List Int) : (rise zs).length ≤ zs.length := by
  have : (Lib.compactUpTo (zs.mergeSort fun x y => decide (x ≤ y)).toArray (zs.mergeSort fun x y => decide (x ≤ y)).length).length ≤ (zs.mergeSort fun x y => decide (x ≤ y)).length := by
    unfold Lib.compactUpTo
    rw [List.length_map]
    have := List.length_filter_le (Lib.keeps (zs.mergeSort fun x y => decide (x ≤ y)).toArray) (List.range (zs.mergeSort fun x y => decide (x ≤ y)).length)
    rwa [List.length_range] at this
  exact Nat.le_trans this (Nat.le_of_eq (List.length_mergeSort _))
/-- Strictly rising lists of the same numbers are the same. -/
theorem lt_ext : ∀ {a b : List Int}, a.Pairwise (· < ·) → b.Pairwise (· < ·) → (∀ x, x ∈ a ↔ x ∈ b) → a = b
  | [], [], _, _, _ => rfl
  | [], y :: b, _, _, h => absurd ((h y).2 (by simp)) (by simp)
  | x :: a, [], _, _, h => absurd ((h x).1 (by simp)) (by simp)
  | x :: a, y :: b, ha, hb, h => by
    rw [List.pairwise_cons] at ha hb
    have e : x = y := by
      rcases List.mem_cons.1 ((h x).1 (by simp)) with e | h1
      · exact e
      · rcases List.mem_cons.1 ((h y).2 (by simp)) with e | h2
        · exact e.symm
        · have := hb.1 x h1
          have := ha.1 y h2
          omega
    subst e
    congr 1
    refine lt_ext ha.2 hb.2 fun z => ?_
    constructor
    · intro hz
      rcases List.mem_cons.1 ((h z).1 (by simp [hz])) with rfl | h1
      · exact absurd (ha.1 z hz) (by omega)
      · exact h1
    · intro hz
      rcases List.mem_cons.1 ((h z).2 (by simp [hz])) with rfl | h1
      · exact absurd (hb.1 z hz) (by omega)
      · exact h1
end Go.Proofs.Ytnppjkekbdapkaa
