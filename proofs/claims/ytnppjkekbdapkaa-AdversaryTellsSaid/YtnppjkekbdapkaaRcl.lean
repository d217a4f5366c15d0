/-
  The reference's Classes: the plain part.
-/
import Derived.Test.YtnppjkekbdapkaaCls
set_option linter.unusedVariables false
namespace Go.Proofs.Ytnppjkekbdapkaa
open Go.RowKit

/-- What the reference asks of two places, by the classes so far. -/
def samB (fs : List Int) (x y : Nd) : Bool := decide (x.op = y.op) && ((decide (x.op < 2) && decide (x.a = y.a)) || (decide (2 ≤ x.op) && decide (fs.getD x.a.toNat 0 = fs.getD y.a.toNat 0) && decide (fs.getD x.b.toNat 0 = fs.getD y.b.toNat 0)))
/-- The best place behind j, of those from j on. -/
def bestOf (l : List Nd) (i j : Nat) : Nat := ((List.range i).drop j).foldr (fun q b => if (ks l)[q]? = (ks l)[i]? then q else b) i
theorem bestOf_end (l : List Nd) (i : Nat) : bestOf l i i = i := by
  unfold bestOf
  rw [List.drop_of_length_le (by rw [List.length_range]; exact Nat.le_refl _)]
  rfl
theorem bestOf_next (l : List Nd) {i j : Nat} (h : j < i) : bestOf l i j = if (ks l)[j]? = (ks l)[i]? then j else bestOf l i (j + 1) := by
  unfold bestOf
  rw [List.drop_eq_getElem_cons (by rw [List.length_range]; exact h), List.getElem_range]
  rfl
theorem bestOf_prop (l : List Nd) {i j : Nat} (hj : j ≤ i) : j ≤ bestOf l i j ∧ bestOf l i j ≤ i ∧ (ks l)[bestOf l i j]? = (ks l)[i]? ∧ ∀ q, j ≤ q → q < bestOf l i j → ¬ (ks l)[q]? = (ks l)[i]? := by
  obtain ⟨d, hd⟩ : ∃ d, i - j = d := ⟨_, rfl⟩
  induction d generalizing j with
  | zero =>
    obtain rfl : j = i := by omega
    rw [bestOf_end]
    exact ⟨Nat.le_refl _, Nat.le_refl _, rfl, fun q h1 h2 => by omega⟩
  | succ d ih =>
    obtain ⟨h1, h2, h3, h4⟩ := ih (j := j + 1) (by omega) (by omega)
    rw [bestOf_next l (by omega)]
    by_cases hk : (ks l)[j]? = (ks l)[i]?
    · rw [if_pos hk]
      exact ⟨Nat.le_refl _, by omega, hk, fun q a b => by omega⟩
    · rw [if_neg hk]
      refine ⟨by omega, h2, h3, fun q a b => ?_⟩
      by_cases hq : q = j
      · rw [hq]
        exact hk
      · exact h4 q (by omega) b
theorem best_cl {l : List Nd} {i : Nat} (hi : i < l.length) : ((bestOf l i 0 : Nat) : Int) = cl l i := by
  obtain ⟨_, h2, h3, h4⟩ := bestOf_prop l (Nat.zero_le i)
  obtain ⟨y, hx⟩ : ∃ y, (ks l)[i]? = some y := ⟨_, List.getElem?_eq_getElem (by rw [ks_len]; exact hi)⟩
  rw [cl_ks hx]
  congr 1
  have hm : y ∈ ks l := List.mem_of_getElem? hx
  have hlt := List.idxOf_lt_length_of_mem hm
  have hat := List.getElem_idxOf hlt
  rw [hx] at h3 h4
  rcases Nat.lt_trichotomy (bestOf l i 0) ((ks l).idxOf y) with h | h | h
  · exfalso
    have hb : bestOf l i 0 < (ks l).length := by omega
    rw [List.getElem?_eq_getElem hb] at h3
    have := List.not_of_lt_findIdx (p := (· == y)) (xs := ks l) (i := bestOf l i 0) h
    have e := Option.some.inj h3
    rw [e] at this
    simp at this
  · exact h
  · exfalso
    refine h4 ((ks l).idxOf y) (Nat.zero_le _) h ?_
    rw [List.getElem?_eq_getElem hlt, hat]
/-- What stands at a place by the classes of those ahead of it. -/
theorem ks_eq {l : List Nd} {i : Nat} {x : Nd} (h : l[i]? = some x) : (ks l)[i]? = some (normAt ((firsts l).take i) x) := by
  induction l using snoc_ind with
  | h0 => cases h
  | h1 l y ih =>
    have hk : ks (l ++ [y]) = ks l ++ [normAt (thS l).2 y] := by unfold ks; rw [thS_snoc]; rfl
    have hf : ∃ z, firsts (l ++ [y]) = firsts l ++ [z] := ⟨_, by unfold firsts; rw [thS_snoc]; rfl⟩
    obtain ⟨z, hf⟩ := hf
    rw [hk, hf]
    by_cases hi : i < l.length
    · rw [List.getElem?_append_left hi] at h
      rw [List.getElem?_append_left (by rw [ks_len]; exact hi), ih h, List.take_append_of_le_length (by rw [firsts_len]; omega)]
    · have hlt := (List.getElem?_eq_some_iff.1 h).1
      rw [List.length_append, List.length_singleton] at hlt
      obtain rfl : i = l.length := by omega
      rw [List.getElem?_append_right (Nat.le_refl _), Nat.sub_self] at h
      obtain rfl : y = x := by simpa using h
      rw [List.getElem?_append_right (by rw [ks_len]; exact Nat.le_refl _), ks_len, Nat.sub_self, List.take_append_of_le_length (by rw [firsts_len]; exact Nat.le_refl _), List.take_of_length_le (by rw [firsts_len]; exact Nat.le_refl _)]
      rfl
theorem getD_take {fs : List Int} {n m : Nat} (h : m < n) : (fs.take n).getD m 0 = fs.getD m 0 := by
  rw [List.getD_eq_getElem?_getD, List.getD_eq_getElem?_getD, List.getElem?_take, if_pos h]
theorem norm_any {l : List Nd} (hm : mayB l = true) {i n : Nat} {x : Nd} (h : l[i]? = some x) (hn : i ≤ n) : normAt ((firsts l).take i) x = normAt ((firsts l).take n) x := by
  unfold normAt
  split
  · rename_i ho
    obtain ⟨⟨a0, a1⟩, b0, b1⟩ := may_made hm h ho
    rw [getD_take (by omega), getD_take (by omega), getD_take (by omega), getD_take (by omega)]
  · rfl
theorem op_small {l : List Nd} (hm : mayB l = true) {i : Nat} {x : Nd} (h : l[i]? = some x) : (x.op = 0 ∨ x.op = 1 ∨ x.op = 2 ∨ x.op = 3) ∧ ((x.op = 0 ∨ x.op = 1) → x.b = 0) := by
  have := may_at hm h
  unfold rightB at this
  split at this
  · rename_i ho
    simp at this
    exact ⟨by omega, fun _ => this.2.2⟩
  · split at this
    · cases this
    · rename_i h1 h2
      exact ⟨by omega, fun h => absurd h h1⟩
theorem sam_ks {l : List Nd} (hm : mayB l = true) {i j : Nat} (hj : j < i) {x y : Nd} (hx : l[i]? = some x) (hy : l[j]? = some y) : samB ((firsts l).take i) x y = true ↔ (ks l)[j]? = (ks l)[i]? := by
  rw [ks_eq hx, ks_eq hy, norm_any hm hy (by omega : j ≤ i), Option.some.injEq]
  obtain ⟨ox, bx⟩ := op_small hm hx
  obtain ⟨oy, by'⟩ := op_small hm hy
  unfold samB normAt
  obtain ⟨xo, xa, xb⟩ := x
  obtain ⟨yo, ya, yb⟩ := y
  dsimp only at *
  simp only [Bool.and_eq_true, Bool.or_eq_true, decide_eq_true_eq]
  by_cases h2 : xo = 2 ∨ xo = 3
  · by_cases h3 : yo = 2 ∨ yo = 3
    · rw [if_pos h2, if_pos h3, Nd.mk.injEq]
      constructor
      · rintro ⟨rfl, h | h⟩
        · omega
        · exact ⟨rfl, h.1.2.symm, h.2.symm⟩
      · rintro ⟨rfl, h4, h5⟩
        exact ⟨rfl, .inr ⟨⟨by omega, h4.symm⟩, h5.symm⟩⟩
    · rw [if_pos h2, if_neg h3, Nd.mk.injEq]
      constructor
      · rintro ⟨rfl, _⟩
        exact absurd h2 h3
      · rintro ⟨rfl, _⟩
        exact absurd h2 h3
  · by_cases h3 : yo = 2 ∨ yo = 3
    · rw [if_neg h2, if_pos h3, Nd.mk.injEq]
      constructor
      · rintro ⟨rfl, _⟩
        exact absurd h3 h2
      · rintro ⟨rfl, _⟩
        exact absurd h3 h2
    · rw [if_neg h2, if_neg h3, Nd.mk.injEq]
      have b1 := bx (by omega)
      have b2 := by' (by omega)
      constructor
      · rintro ⟨rfl, h | h⟩
        · exact ⟨rfl, h.2.symm, by rw [b1, b2]⟩
        · omega
      · rintro ⟨rfl, rfl, _⟩
        exact ⟨rfl, .inl ⟨by omega, rfl⟩⟩
end Go.Proofs.Ytnppjkekbdapkaa
