/-
  Classes, plainly. (Printed by mkdoor2.py.)
-/
import Derived.Test.YtnppjkekbdapkaaDoorLst
set_option linter.unusedVariables false
namespace Go.Proofs.YtnppjkekbdapkaaDoor
open Go.RowKit

def normAt (fs : List Int) (x : Nd) : Nd := if x.op = 2 ∨ x.op = 3 then ⟨x.op, fs.getD x.a.toNat 0, fs.getD x.b.toNat 0⟩ else x
/-- What think has behind some nodes: their normal forms, and of each place the first one that has the same. -/
def thStep (s : List Nd × List Int) (x : Nd) : List Nd × List Int := (s.1 ++ [normAt s.2 x], s.2 ++ [(((s.1 ++ [normAt s.2 x]).idxOf (normAt s.2 x) : Nat) : Int)])
def thS (l : List Nd) : List Nd × List Int := l.foldl thStep ([], [])
def firsts (l : List Nd) : List Int := (thS l).2
def seenOf (ks : List Nd) (y : Nd) : Option Int := if y ∈ ks then some ((ks.idxOf y : Nat) : Int) else none
theorem thS_snoc (l : List Nd) (x : Nd) : thS (l ++ [x]) = thStep (thS l) x := by simp [thS]
theorem snoc_ind {α : Type} {Q : List α → Prop} (h0 : Q []) (h1 : ∀ l x, Q l → Q (l ++ [x])) (l : List α) : Q l := by
  have : ∀ r : List α, Q r.reverse := by
    intro r
    induction r with
    | nil => exact h0
    | cons x r ih => rw [List.reverse_cons]; exact h1 _ _ ih
  have := this l.reverse
  rwa [List.reverse_reverse] at this
theorem thS_len (l : List Nd) : (thS l).1.length = l.length ∧ (thS l).2.length = l.length := by
  induction l using snoc_ind with
  | h0 => exact ⟨rfl, rfl⟩
  | h1 l x ih =>
    rw [thS_snoc, thStep]
    simp [ih.1, ih.2]
theorem thS_lt (l : List Nd) : ∀ c ∈ (thS l).2, 0 ≤ c ∧ c < (l.length : Int) := by
  induction l using snoc_ind with
  | h0 => intro c hc; cases hc
  | h1 l x ih =>
    intro c hc
    rw [thS_snoc, thStep] at hc
    simp only [List.mem_append, List.mem_singleton] at hc
    rcases hc with hc | rfl
    · have := ih c hc
      simp
      omega
    · have h1 : ((thS l).1 ++ [normAt (thS l).2 x]).idxOf (normAt (thS l).2 x) < ((thS l).1 ++ [normAt (thS l).2 x]).length := List.idxOf_lt_length_of_mem (by simp)
      simp [(thS_len l).1] at h1 ⊢
      omega

theorem may_at {l : List Nd} (h : mayB l = true) {k : Nat} {x : Nd} (hk : l[k]? = some x) : rightB (l.take k) x = true := by
  simp [mayB] at h
  obtain ⟨hlt, hx⟩ := List.getElem?_eq_some_iff.1 hk
  have := h.1 k hlt
  unfold rightAt at this
  rw [List.getD_eq_getElem?_getD, hk] at this
  exact this
theorem may_made {l : List Nd} (h : mayB l = true) {k : Nat} {x : Nd} (hk : l[k]? = some x) (hm : x.op = 2 ∨ x.op = 3) : (0 ≤ x.a ∧ x.a < (k : Int)) ∧ (0 ≤ x.b ∧ x.b < (k : Int)) := by
  have := may_at h hk
  have hlt := (List.getElem?_eq_some_iff.1 hk).1
  unfold rightB at this
  rw [if_neg (by omega)] at this
  split at this
  · cases this
  · rename_i hn
    simp at hn
    omega

/-- The first place that has the same as place i. -/
def cl (l : List Nd) (i : Nat) : Int := (firsts l).getD i 0
theorem cl_of {l : List Nd} {i : Nat} {c : Int} (h : (firsts l)[i]? = some c) : cl l i = c := by
  unfold cl
  rw [List.getD_eq_getElem?_getD, h]
  rfl
theorem firsts_len (l : List Nd) : (firsts l).length = l.length := (thS_len l).2
theorem firsts_at {l : List Nd} {i : Nat} (h : i < l.length) : (firsts l)[i]? = some (cl l i) := by
  have h2 : i < (firsts l).length := by rw [firsts_len]; exact h
  rw [List.getElem?_eq_getElem h2, ← cl_of (List.getElem?_eq_getElem h2)]
theorem cl_lt {l : List Nd} {i : Nat} (h : i < l.length) : 0 ≤ cl l i ∧ cl l i < (l.length : Int) := thS_lt l _ (List.mem_of_getElem? (firsts_at h))
theorem normAt_op (fs : List Int) (x : Nd) : (normAt fs x).op = x.op := by
  unfold normAt
  split <;> rfl
theorem normAt_leaf (fs : List Int) {x : Nd} (h : ¬ (x.op = 2 ∨ x.op = 3)) : normAt fs x = x := if_neg h
/-- What stands at a place, turned to first places. -/
def ks (l : List Nd) : List Nd := (thS l).1
theorem ks_len (l : List Nd) : (ks l).length = l.length := (thS_len l).1
theorem ks_at {l : List Nd} {i : Nat} {x : Nd} (h : l[i]? = some x) : ∃ fs, (ks l)[i]? = some (normAt fs x) := by
  induction l using snoc_ind with
  | h0 => cases h
  | h1 l y ih =>
    have hk : ks (l ++ [y]) = ks l ++ [normAt (thS l).2 y] := by unfold ks; rw [thS_snoc]; rfl
    rw [hk]
    by_cases hi : i < l.length
    · rw [List.getElem?_append_left hi] at h
      obtain ⟨fs, hf⟩ := ih h
      exact ⟨fs, by rw [List.getElem?_append_left (by rw [ks_len]; exact hi)]; exact hf⟩
    · have hlt := (List.getElem?_eq_some_iff.1 h).1
      rw [List.length_append, List.length_singleton] at hlt
      obtain rfl : i = l.length := by omega
      rw [List.getElem?_append_right (Nat.le_refl _), Nat.sub_self] at h
      obtain rfl : y = x := by simpa using h
      refine ⟨(thS l).2, ?_⟩
      rw [List.getElem?_append_right (by rw [ks_len]; exact Nat.le_refl _), ks_len, Nat.sub_self]
      rfl
theorem cl_ks {l : List Nd} {i : Nat} {y : Nd} (h : (ks l)[i]? = some y) : cl l i = (((ks l).idxOf y : Nat) : Int) := by
  induction l using snoc_ind with
  | h0 => cases h
  | h1 l z ih =>
    have hk : ks (l ++ [z]) = ks l ++ [normAt (thS l).2 z] := by unfold ks; rw [thS_snoc]; rfl
    have hf : firsts (l ++ [z]) = firsts l ++ [(((ks l ++ [normAt (thS l).2 z]).idxOf (normAt (thS l).2 z) : Nat) : Int)] := by unfold firsts ks; rw [thS_snoc]; rfl
    rw [hk] at h ⊢
    by_cases hi : i < l.length
    · rw [List.getElem?_append_left (by rw [ks_len]; exact hi)] at h
      have h2 := ih h
      have : cl (l ++ [z]) i = cl l i := by
        unfold cl
        rw [hf, List.getD_eq_getElem?_getD, List.getD_eq_getElem?_getD, List.getElem?_append_left (by rw [firsts_len]; exact hi)]
      rw [this, h2, List.idxOf_append, if_pos (List.mem_of_getElem? h)]
    · have hlt := (List.getElem?_eq_some_iff.1 h).1
      rw [List.length_append, List.length_singleton, ks_len] at hlt
      obtain rfl : i = l.length := by omega
      rw [List.getElem?_append_right (by rw [ks_len]; exact Nat.le_refl _), ks_len, Nat.sub_self] at h
      have e : normAt (thS l).2 z = y := by simpa using h
      rw [e] at hf ⊢
      refine cl_of ?_
      rw [hf, List.getElem?_append_right (by rw [firsts_len]; exact Nat.le_refl _), firsts_len, Nat.sub_self]
      rfl
/-- Leaves that are the same have one class. -/
theorem cl_leaf {l : List Nd} {i j : Nat} {x : Nd} (hi : l[i]? = some x) (hj : l[j]? = some x) (h : ¬ (x.op = 2 ∨ x.op = 3)) : cl l i = cl l j := by
  obtain ⟨f1, h1⟩ := ks_at hi
  obtain ⟨f2, h2⟩ := ks_at hj
  rw [normAt_leaf _ h] at h1 h2
  rw [cl_ks h1, cl_ks h2]
/-- Who has the class of a leaf is that leaf. -/
theorem cl_eq_leaf {l : List Nd} {i j : Nat} {x y : Nd} (hi : l[i]? = some x) (hj : l[j]? = some y) (h : ¬ (y.op = 2 ∨ y.op = 3)) (hc : cl l i = cl l j) : x = y := by
  obtain ⟨f1, h1⟩ := ks_at hi
  obtain ⟨f2, h2⟩ := ks_at hj
  rw [normAt_leaf _ h] at h2
  rw [cl_ks h1, cl_ks h2] at hc
  have hc' : (ks l).idxOf (normAt f1 x) = (ks l).idxOf y := by omega
  have e : normAt f1 x = y := by
    have a1 := List.getElem_idxOf (List.idxOf_lt_length_of_mem (List.mem_of_getElem? h1))
    have a2 := List.getElem_idxOf (List.idxOf_lt_length_of_mem (List.mem_of_getElem? h2))
    rw [← a1, ← a2]
    simp only [hc']
  have ho : x.op = y.op := by rw [← e, normAt_op]
  rw [normAt_leaf _ (by rw [ho]; exact h)] at e
  exact e
/-- Where no node stands twice, each is of its own class. -/
theorem cl_own {l : List Nd} (hn : l.Nodup) (hm : ∀ (i : Nat) (x : Nd), l[i]? = some x → (x.op = 2 ∨ x.op = 3) → (0 ≤ x.a ∧ x.a < (i : Int)) ∧ (0 ≤ x.b ∧ x.b < (i : Int))) {i : Nat} (hi : i < l.length) : cl l i = (i : Int) := by
  have key : thS l = (l, (List.range l.length).map fun i : Nat => (i : Int)) := by
    clear hi
    induction l using snoc_ind with
    | h0 => rfl
    | h1 l y ih =>
      have hn' := List.nodup_append.1 hn
      have ih' := ih hn'.1 (fun i x hx => hm i x (by rw [List.getElem?_append_left (List.getElem?_eq_some_iff.1 hx).1]; exact hx))
      have hny : ¬ y ∈ l := fun h => hn'.2.2 y h y (by simp) rfl
      have hno : normAt (((List.range l.length).map fun i : Nat => (i : Int))) y = y := by
        unfold normAt
        split
        · rename_i ho
          obtain ⟨⟨a0, a1⟩, b0, b1⟩ := hm l.length y (by rw [List.getElem?_append_right (Nat.le_refl _), Nat.sub_self]; rfl) ho
          obtain ⟨op, a, b⟩ := y
          dsimp only at *
          obtain ⟨A, rfl⟩ := Int.eq_ofNat_of_zero_le a0
          obtain ⟨B, rfl⟩ := Int.eq_ofNat_of_zero_le b0
          rw [Int.toNat_natCast, Int.toNat_natCast, List.getD_eq_getElem?_getD, List.getD_eq_getElem?_getD, List.getElem?_map, List.getElem?_map, List.getElem?_range (by omega), List.getElem?_range (by omega)]
          rfl
        · rfl
      rw [thS_snoc, ih', thStep]
      dsimp only
      rw [hno, List.idxOf_append, if_neg hny, List.length_append, List.length_singleton, List.range_succ, List.map_append]
      simp
  refine cl_of ?_
  unfold firsts
  rw [key]
  simp [hi]
/-- What the reference asks of two places, by the classes so far. -/
def samB (fs : List Int) (x y : Nd) : Bool := decide (x.op = y.op) && ((decide (x.op < 2) && decide (x.a = y.a)) || (decide (2 ≤ x.op) && decide (fs.getD x.a.toNat 0 = fs.getD y.a.toNat 0) && decide (fs.getD x.b.toNat 0 = fs.getD y.b.toNat 0)))
/-- The best place behind j, of those from j on. -/
def bestOf (l : List Nd) (i j : Nat) : Nat := ((List.range i).drop j).foldr (fun q b => if (ks l)[q]? = (ks l)[i]? then q else b) i
theorem bestOf_end (l : List Nd) (i : Nat) : bestOf l i i = i := by
  unfold bestOf
  rw [List.drop_of_length_le (by rw [List.length_range]; exact Nat.le_refl _)]
  rfl
theorem bestOf_next (l : List Nd) {i j : Nat} (h : j < i) : bestOf l i j = if (ks l)[j]? = (ks l)[i]? then j else bestOf l i (j + 1) := by
  unfold bestOf
  rw [List.drop_eq_getElem_cons (by rw [List.length_range]; exact h), List.getElem_range]
  rfl
theorem bestOf_prop (l : List Nd) {i j : Nat} (hj : j ≤ i) : j ≤ bestOf l i j ∧ bestOf l i j ≤ i ∧ (ks l)[bestOf l i j]? = (ks l)[i]? ∧ ∀ q, j ≤ q → q < bestOf l i j → ¬ (ks l)[q]? = (ks l)[i]? := by
  obtain ⟨d, hd⟩ : ∃ d, i - j = d := ⟨_, rfl⟩
  induction d generalizing j with
  | zero =>
    obtain rfl : j = i := by omega
    rw [bestOf_end]
    exact ⟨Nat.le_refl _, Nat.le_refl _, rfl, fun q h1 h2 => by omega⟩
  | succ d ih =>
    obtain ⟨h1, h2, h3, h4⟩ := ih (j := j + 1) (by omega) (by omega)
    rw [bestOf_next l (by omega)]
    by_cases hk : (ks l)[j]? = (ks l)[i]?
    · rw [if_pos hk]
      exact ⟨Nat.le_refl _, by omega, hk, fun q a b => by omega⟩
    · rw [if_neg hk]
      refine ⟨by omega, h2, h3, fun q a b => ?_⟩
      by_cases hq : q = j
      · rw [hq]
        exact hk
      · exact h4 q (by omega) b
theorem best_cl {l : List Nd} {i : Nat} (hi : i < l.length) : ((bestOf l i 0 : Nat) : Int) = cl l i := by
  obtain ⟨_, h2, h3, h4⟩ := bestOf_prop l (Nat.zero_le i)
  obtain ⟨y, hx⟩ : ∃ y, (ks l)[i]? = some y := ⟨_, List.getElem?_eq_getElem (by rw [ks_len]; exact hi)⟩
  rw [cl_ks hx]
  congr 1
  have hm : y ∈ ks l := List.mem_of_getElem? hx
  have hlt := List.idxOf_lt_length_of_mem hm
  have hat := List.getElem_idxOf hlt
  rw [hx] at h3 h4
  rcases Nat.lt_trichotomy (bestOf l i 0) ((ks l).idxOf y) with h | h | h
  · exfalso
    have hb : bestOf l i 0 < (ks l).length := by omega
    rw [List.getElem?_eq_getElem hb] at h3
    have := List.not_of_lt_findIdx (p := (· == y)) (xs := ks l) (i := bestOf l i 0) h
    have e := Option.some.inj h3
    rw [e] at this
    simp at this
  · exact h
  · exfalso
    refine h4 ((ks l).idxOf y) (Nat.zero_le _) h ?_
    rw [List.getElem?_eq_getElem hlt, hat]
/-- What stands at a place by the classes of those ahead of it. -/
theorem ks_eq {l : List Nd} {i : Nat} {x : Nd} (h : l[i]? = some x) : (ks l)[i]? = some (normAt ((firsts l).take i) x) := by
  induction l using snoc_ind with
  | h0 => cases h
  | h1 l y ih =>
    have hk : ks (l ++ [y]) = ks l ++ [normAt (thS l).2 y] := by unfold ks; rw [thS_snoc]; rfl
    have hf : ∃ z, firsts (l ++ [y]) = firsts l ++ [z] := ⟨_, by unfold firsts; rw [thS_snoc]; rfl⟩
    obtain ⟨z, hf⟩ := hf
    rw [hk, hf]
    by_cases hi : i < l.length
    · rw [List.getElem?_append_left hi] at h
      rw [List.getElem?_append_left (by rw [ks_len]; exact hi), ih h, List.take_append_of_le_length (by rw [firsts_len]; omega)]
    · have hlt := (List.getElem?_eq_some_iff.1 h).1
      rw [List.length_append, List.length_singleton] at hlt
      obtain rfl : i = l.length := by omega
      rw [List.getElem?_append_right (Nat.le_refl _), Nat.sub_self] at h
      obtain rfl : y = x := by simpa using h
      rw [List.getElem?_append_right (by rw [ks_len]; exact Nat.le_refl _), ks_len, Nat.sub_self, List.take_append_of_le_length (by rw [firsts_len]; exact Nat.le_refl _), List.take_of_length_le (by rw [firsts_len]; exact Nat.le_refl _)]
      rfl
theorem getD_take {fs : List Int} {n m : Nat} (h : m < n) : (fs.take n).getD m 0 = fs.getD m 0 := by
  rw [List.getD_eq_getElem?_getD, List.getD_eq_getElem?_getD, List.getElem?_take, if_pos h]
theorem norm_any {l : List Nd} (hm : mayB l = true) {i n : Nat} {x : Nd} (h : l[i]? = some x) (hn : i ≤ n) : normAt ((firsts l).take i) x = normAt ((firsts l).take n) x := by
  unfold normAt
  split
  · rename_i ho
    obtain ⟨⟨a0, a1⟩, b0, b1⟩ := may_made hm h ho
    rw [getD_take (by omega), getD_take (by omega), getD_take (by omega), getD_take (by omega)]
  · rfl
theorem op_small {l : List Nd} (hm : mayB l = true) {i : Nat} {x : Nd} (h : l[i]? = some x) : (x.op = 0 ∨ x.op = 1 ∨ x.op = 2 ∨ x.op = 3) ∧ ((x.op = 0 ∨ x.op = 1) → x.b = 0) := by
  have := may_at hm h
  unfold rightB at this
  split at this
  · rename_i ho
    simp at this
    exact ⟨by omega, fun _ => this.2.2⟩
  · split at this
    · cases this
    · rename_i h1 h2
      exact ⟨by omega, fun h => absurd h h1⟩
theorem sam_ks {l : List Nd} (hm : mayB l = true) {i j : Nat} (hj : j < i) {x y : Nd} (hx : l[i]? = some x) (hy : l[j]? = some y) : samB ((firsts l).take i) x y = true ↔ (ks l)[j]? = (ks l)[i]? := by
  rw [ks_eq hx, ks_eq hy, norm_any hm hy (by omega : j ≤ i), Option.some.injEq]
  obtain ⟨ox, bx⟩ := op_small hm hx
  obtain ⟨oy, by'⟩ := op_small hm hy
  unfold samB normAt
  obtain ⟨xo, xa, xb⟩ := x
  obtain ⟨yo, ya, yb⟩ := y
  dsimp only at *
  simp only [Bool.and_eq_true, Bool.or_eq_true, decide_eq_true_eq]
  by_cases h2 : xo = 2 ∨ xo = 3
  · by_cases h3 : yo = 2 ∨ yo = 3
    · rw [if_pos h2, if_pos h3, Nd.mk.injEq]
      constructor
      · rintro ⟨rfl, h | h⟩
        · omega
        · exact ⟨rfl, h.1.2.symm, h.2.symm⟩
      · rintro ⟨rfl, h4, h5⟩
        exact ⟨rfl, .inr ⟨⟨by omega, h4.symm⟩, h5.symm⟩⟩
    · rw [if_pos h2, if_neg h3, Nd.mk.injEq]
      constructor
      · rintro ⟨rfl, _⟩
        exact absurd h2 h3
      · rintro ⟨rfl, _⟩
        exact absurd h2 h3
  · by_cases h3 : yo = 2 ∨ yo = 3
    · rw [if_neg h2, if_pos h3, Nd.mk.injEq]
      constructor
      · rintro ⟨rfl, _⟩
        exact absurd h3 h2
      · rintro ⟨rfl, _⟩
        exact absurd h3 h2
    · rw [if_neg h2, if_neg h3, Nd.mk.injEq]
      have b1 := bx (by omega)
      have b2 := by' (by omega)
      constructor
      · rintro ⟨rfl, h | h⟩
        · exact ⟨rfl, h.2.symm, by rw [b1, b2]⟩
        · omega
      · rintro ⟨rfl, rfl, _⟩
        exact ⟨rfl, .inl ⟨by omega, rfl⟩⟩
end Go.Proofs.YtnppjkekbdapkaaDoor
