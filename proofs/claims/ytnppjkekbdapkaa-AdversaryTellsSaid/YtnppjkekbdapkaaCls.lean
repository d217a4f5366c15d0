/-
  Classes: when nodes are the same; what is known, by hand.
-/
import Derived.Test.YtnppjkekbdapkaaNee
set_option linter.unusedVariables false
namespace Go.Proofs.Ytnppjkekbdapkaa
open Go.RowKit

theorem normAt_op (fs : List Int) (x : Nd) : (normAt fs x).op = x.op := by
  unfold normAt
  split <;> rfl
theorem normAt_leaf (fs : List Int) {x : Nd} (h : ¬ (x.op = 2 ∨ x.op = 3)) : normAt fs x = x := if_neg h
/-- What stands at a place, turned to first places. -/
def ks (l : List Nd) : List Nd := (thS l).1
theorem ks_len (l : List Nd) : (ks l).length = l.length := (thS_len l).1
theorem ks_at {l : List Nd} {i : Nat} {x : Nd} (h : l[i]? = some x) : ∃ fs, (ks l)[i]? = some (normAt fs x) := by
  induction l using snoc_ind with
  | h0 => cases h
  | h1 l y ih =>
    have hk : ks (l ++ [y]) = ks l ++ [normAt (thS l).2 y] := by unfold ks; rw [thS_snoc]; rfl
    rw [hk]
    by_cases hi : i < l.length
    · rw [List.getElem?_append_left hi] at h
      obtain ⟨fs, hf⟩ := ih h
      exact ⟨fs, by rw [List.getElem?_append_left (by rw [ks_len]; exact hi)]; exact hf⟩
    · have hlt := (List.getElem?_eq_some_iff.1 h).1
      rw [List.length_append, List.length_singleton] at hlt
      obtain rfl : i = l.length := by omega
      rw [List.getElem?_append_right (Nat.le_refl _), Nat.sub_self] at h
      obtain rfl : y = x := by simpa using h
      refine ⟨(thS l).2, ?_⟩
      rw [List.getElem?_append_right (by rw [ks_len]; exact Nat.le_refl _), ks_len, Nat.sub_self]
      rfl
theorem cl_ks {l : List Nd} {i : Nat} {y : Nd} (h : (ks l)[i]? = some y) : cl l i = (((ks l).idxOf y : Nat) : Int) := by
  induction l using snoc_ind with
  | h0 => cases h
  | h1 l z ih =>
    have hk : ks (l ++ [z]) = ks l ++ [normAt (thS l).2 z] := by unfold ks; rw [thS_snoc]; rfl
    have hf : firsts (l ++ [z]) = firsts l ++ [(((ks l ++ [normAt (thS l).2 z]).idxOf (normAt (thS l).2 z) : Nat) : Int)] := by unfold firsts ks; rw [thS_snoc]; rfl
    rw [hk] at h ⊢
    by_cases hi : i < l.length
    · rw [List.getElem?_append_left (by rw [ks_len]; exact hi)] at h
      have h2 := ih h
      have : cl (l ++ [z]) i = cl l i := by
        unfold cl
        rw [hf, List.getD_eq_getElem?_getD, List.getD_eq_getElem?_getD, List.getElem?_append_left (by rw [firsts_len]; exact hi)]
      rw [this, h2, List.idxOf_append, if_pos (List.mem_of_getElem? h)]
    · have hlt := (List.getElem?_eq_some_iff.1 h).1
      rw [List.length_append, List.length_singleton, ks_len] at hlt
      obtain rfl : i = l.length := by omega
      rw [List.getElem?_append_right (by rw [ks_len]; exact Nat.le_refl _), ks_len, Nat.sub_self] at h
      have e : normAt (thS l).2 z = y := by simpa using h
      rw [e] at hf ⊢
      refine cl_of ?_
      rw [hf, List.getElem?_append_right (by rw [firsts_len]; exact Nat.le_refl _), firsts_len, Nat.sub_self]
      rfl
/-- Leaves that are the same have one class. -/
theorem cl_leaf {l : List Nd} {i j : Nat} {x : Nd} (hi : l[i]? = some x) (hj : l[j]? = some x) (h : ¬ (x.op = 2 ∨ x.op = 3)) : cl l i = cl l j := by
  obtain ⟨f1, h1⟩ := ks_at hi
  obtain ⟨f2, h2⟩ := ks_at hj
  rw [normAt_leaf _ h] at h1 h2
  rw [cl_ks h1, cl_ks h2]
/-- Who has the class of a leaf is that leaf. -/
theorem cl_eq_leaf {l : List Nd} {i j : Nat} {x y : Nd} (hi : l[i]? = some x) (hj : l[j]? = some y) (h : ¬ (y.op = 2 ∨ y.op = 3)) (hc : cl l i = cl l j) : x = y := by
  obtain ⟨f1, h1⟩ := ks_at hi
  obtain ⟨f2, h2⟩ := ks_at hj
  rw [normAt_leaf _ h] at h2
  rw [cl_ks h1, cl_ks h2] at hc
  have hc' : (ks l).idxOf (normAt f1 x) = (ks l).idxOf y := by omega
  have e : normAt f1 x = y := by
    have a1 := List.getElem_idxOf (List.idxOf_lt_length_of_mem (List.mem_of_getElem? h1))
    have a2 := List.getElem_idxOf (List.idxOf_lt_length_of_mem (List.mem_of_getElem? h2))
    rw [← a1, ← a2]
    simp only [hc']
  have ho : x.op = y.op := by rw [← e, normAt_op]
  rw [normAt_leaf _ (by rw [ho]; exact h)] at e
  exact e
/-- Where no node stands twice, each is of its own class. -/
theorem cl_own {l : List Nd} (hn : l.Nodup) (hm : ∀ (i : Nat) (x : Nd), l[i]? = some x → (x.op = 2 ∨ x.op = 3) → (0 ≤ x.a ∧ x.a < (i : Int)) ∧ (0 ≤ x.b ∧ x.b < (i : Int))) {i : Nat} (hi : i < l.length) : cl l i = (i : Int) := by
  have key : thS l = (l, (List.range l.length).map fun i : Nat => (i : Int)) := by
    clear hi
    induction l using snoc_ind with
    | h0 => rfl
    | h1 l y ih =>
      have hn' := List.nodup_append.1 hn
      have ih' := ih hn'.1 (fun i x hx => hm i x (by rw [List.getElem?_append_left (List.getElem?_eq_some_iff.1 hx).1]; exact hx))
      have hny : ¬ y ∈ l := fun h => hn'.2.2 y h y (by simp) rfl
      have hno : normAt (((List.range l.length).map fun i : Nat => (i : Int))) y = y := by
        unfold normAt
        split
        · rename_i ho
          obtain ⟨⟨a0, a1⟩, b0, b1⟩ := hm l.length y (by rw [List.getElem?_append_right (Nat.le_refl _), Nat.sub_self]; rfl) ho
          obtain ⟨op, a, b⟩ := y
          dsimp only at *
          obtain ⟨A, rfl⟩ := Int.eq_ofNat_of_zero_le a0
          obtain ⟨B, rfl⟩ := Int.eq_ofNat_of_zero_le b0
          rw [Int.toNat_natCast, Int.toNat_natCast, List.getD_eq_getElem?_getD, List.getD_eq_getElem?_getD, List.getElem?_map, List.getElem?_map, List.getElem?_range (by omega), List.getElem?_range (by omega)]
          rfl
        · rfl
      rw [thS_snoc, ih', thStep]
      dsimp only
      rw [hno, List.idxOf_append, if_neg hny, List.length_append, List.length_singleton, List.range_succ, List.map_append]
      simp
  refine cl_of ?_
  unfold firsts
  rw [key]
  simp [hi]
/-- What is not known: a shut set without it. -/
theorem der_no {l : List Nd} {kn : List Int} {i : Nat} (K : Int → Prop) (h1 : ∀ x ∈ kn, 0 ≤ x → x < (l.length : Int) → K (cl l x.toNat)) (h2 : ∀ c, Step l K c → K c) (h3 : ¬ K (cl l i)) : ¬ DerK l kn i :=
  fun h => h3 (h.least (by rintro c ⟨x, hx, a, b, rfl⟩; exact h1 x hx a b) h2)
theorem canB_no {l : List Nd} {kn : List Int} (hm : mayB l = true) {i : Nat} (hi : i < l.length) (h : ¬ DerK l kn i) : canB l kn (i : Int) = false := by
  cases hc : canB l kn (i : Int)
  · rfl
  · exact absurd ((canB_iff hm hi).1 hc) h
theorem knows_at {l : List Nd} {kn : List Int} (hm : mayB l = true) {i : Nat} (hi : i < l.length) {b : Bool} (h : b = true ↔ DerK l kn i) : (knows l kn)[i]? = some b := by
  unfold knows
  rw [if_pos hm, List.getElem?_map, List.getElem?_range hi, Option.map_some]
  congr 1
  by_cases hd : DerK l kn i
  · rw [h.2 hd]
    simp [hd]
  · cases b
    · simp [hd]
    · exact absurd (h.1 rfl) hd
theorem knows_eq {l : List Nd} {kn : List Int} (hm : mayB l = true) {bs : List Bool} (hl : bs.length = l.length) (h : ∀ (i : Nat) (b : Bool), bs[i]? = some b → (b = true ↔ DerK l kn i)) : knows l kn = bs := by
  refine List.ext_getElem? fun i => ?_
  by_cases hi : i < l.length
  · have hb : bs[i]? = some bs[i] := List.getElem?_eq_getElem (by omega)
    rw [knows_at hm hi (h i _ hb), hb]
  · rw [List.getElem?_eq_none (by rw [knows_len hm]; omega), List.getElem?_eq_none (by omega)]
end Go.Proofs.Ytnppjkekbdapkaa
