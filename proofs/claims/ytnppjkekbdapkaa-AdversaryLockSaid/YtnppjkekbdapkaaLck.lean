/-
  Lock: the plain part.
-/
import Derived.Test.YtnppjkekbdapkaaCls
set_option linter.unusedVariables false
namespace Go.Proofs.Ytnppjkekbdapkaa
open Go.RowKit

def lkStep (k a : Int) (s : List Nd × List Int) (n : Int) : List Nd × List Int :=
  if n = k ∨ n = a then s else (s.1 ++ [⟨1, n, 0⟩, ⟨0, n, 0⟩, ⟨3, (s.1.length : Int), 2⟩], s.2 ++ [(s.1.length : Int), (s.1.length : Int) + 1, (s.1.length : Int) + 2])
def lkS (k a : Int) (ns : List Int) : List Nd × List Int := ns.foldl (lkStep k a) ([⟨1, k, 0⟩, ⟨0, a, 0⟩, ⟨3, 0, 1⟩], [2])
theorem lkS_snoc (k a : Int) (ns : List Int) (n : Int) : lkS k a (ns ++ [n]) = lkStep k a (lkS k a ns) n := by simp [lkS]
structure LkI (k a : Int) (l : List Nd) (kn : List Int) (m : Nat) : Prop where
  n0 : l[0]? = some ⟨1, k, 0⟩
  n1 : l[1]? = some ⟨0, a, 0⟩
  n2 : l[2]? = some ⟨3, 0, 1⟩
  len : l.length ≤ 3 + 3 * m
  each : ∀ (i : Nat) (x : Nd), 3 ≤ i → l[i]? = some x → (∃ n : Int, x = ⟨1, n, 0⟩ ∧ n ≠ k ∧ 0 ≤ n ∧ n ≤ 65535) ∨ (∃ n : Int, x = ⟨0, n, 0⟩ ∧ n ≠ a ∧ 0 ≤ n ∧ n ≤ 65535) ∨ (∃ t : Nat, x = ⟨3, (t : Int), 2⟩ ∧ t < i ∧ 3 ≤ t ∧ ∃ n : Int, l[t]? = some ⟨1, n, 0⟩)
  kn2 : (2 : Int) ∈ kn
  kin : ∀ y ∈ kn, ∃ i : Nat, y = (i : Int) ∧ 2 ≤ i
  kln : kn.length ≤ 1 + 3 * m
theorem LkI.ge {k a : Int} {l : List Nd} {kn : List Int} {m : Nat} (h : LkI k a l kn m) : 3 ≤ l.length := (List.getElem?_eq_some_iff.1 h.n2).1
theorem LkI.more {k a : Int} {l : List Nd} {kn : List Int} {m : Nat} (h : LkI k a l kn m) {n : Int} (hn : 0 ≤ n ∧ n ≤ 65535) (h1 : n ≠ k) (h2 : n ≠ a) :
    LkI k a (l ++ [⟨1, n, 0⟩, ⟨0, n, 0⟩, ⟨3, (l.length : Int), 2⟩]) (kn ++ [(l.length : Int), (l.length : Int) + 1, (l.length : Int) + 2]) (m + 1) := by
  have hg := h.ge
  have up : ∀ {i : Nat} {x : Nd}, l[i]? = some x → (l ++ [⟨1, n, 0⟩, ⟨0, n, 0⟩, ⟨3, (l.length : Int), 2⟩])[i]? = some x := fun {i} {x} hx => by
    rw [List.getElem?_append_left (List.getElem?_eq_some_iff.1 hx).1]
    exact hx
  refine ⟨up h.n0, up h.n1, up h.n2, by simp; have := h.len; omega, ?_, by simp [h.kn2], ?_, by simp; have := h.kln; omega⟩
  · intro i x hi hx
    by_cases hil : i < l.length
    · rw [List.getElem?_append_left hil] at hx
      rcases h.each i x hi hx with h | h | ⟨t, h3, h4, h5, n', h6⟩
      · exact .inl h
      · exact .inr (.inl h)
      · exact .inr (.inr ⟨t, h3, h4, h5, n', up h6⟩)
    · rw [List.getElem?_append_right (by omega)] at hx
      obtain ⟨j, hj⟩ : ∃ j, i - l.length = j := ⟨_, rfl⟩
      rw [hj] at hx
      match j, hx with
      | 0, hx => exact .inl ⟨n, by simpa using hx.symm, h1, hn⟩
      | 1, hx => exact .inr (.inl ⟨n, by simpa using hx.symm, h2, hn⟩)
      | 2, hx => exact .inr (.inr ⟨l.length, by simpa using hx.symm, by omega, hg, n, by rw [List.getElem?_append_right (Nat.le_refl _), Nat.sub_self]; rfl⟩)
      | j + 3, hx => simp at hx
  · intro y hy
    rcases List.mem_append.1 hy with hy | hy
    · exact h.kin y hy
    · simp at hy
      rcases hy with rfl | rfl | rfl
      · exact ⟨l.length, rfl, by omega⟩
      · exact ⟨l.length + 1, by simp, by omega⟩
      · exact ⟨l.length + 2, by simp, by omega⟩
theorem lk_all {k a : Int} (ns : List Int) (hns : ∀ n ∈ ns, 0 ≤ n ∧ n ≤ 65535) : LkI k a (lkS k a ns).1 (lkS k a ns).2 ns.length := by
  induction ns using snoc_ind with
  | h0 =>
    refine ⟨rfl, rfl, rfl, by simp [lkS], ?_, by simp [lkS], ?_, by simp [lkS]⟩
    · intro i x hi hx
      have := (List.getElem?_eq_some_iff.1 hx).1
      simp [lkS] at this
      omega
    · intro y hy
      simp [lkS] at hy
      exact ⟨2, hy, Nat.le_refl _⟩
  | h1 ns n ih =>
    have ih' := ih (fun x hx => hns x (by simp [hx]))
    rw [lkS_snoc, lkStep, List.length_append, List.length_singleton]
    split
    · exact ⟨ih'.n0, ih'.n1, ih'.n2, by have := ih'.len; omega, ih'.each, ih'.kn2, ih'.kin, by have := ih'.kln; omega⟩
    · rename_i hne
      exact ih'.more (hns n (by simp)) (fun h => hne (.inl h)) (fun h => hne (.inr h))

section
variable {k a : Int} {l : List Nd} {kn : List Int} {m : Nat} (h : LkI k a l kn m) (hk : 0 ≤ k ∧ k ≤ 65535) (ha : 0 ≤ a ∧ a ≤ 65535)
include h
theorem LkI.may (hk : 0 ≤ k ∧ k ≤ 65535) (ha : 0 ≤ a ∧ a ≤ 65535) (hm : m ≤ 40) : mayB l = true := by
  have hl := h.len
  have hg := h.ge
  rw [may_end, decide_eq_true_iff]
  · omega
  · intro i hi
    have hx : l[i]? = some l[i] := List.getElem?_eq_getElem hi
    have hgd : l.getD i nd0 = l[i] := by rw [List.getD_eq_getElem?_getD, hx]; rfl
    unfold rightAt
    rw [hgd]
    generalize l[i] = x at *
    have tk : (l.take i).length = i := by rw [List.length_take]; omega
    have leaf : ∀ o n : Int, (o = 0 ∨ o = 1) → 0 ≤ n → n ≤ 65535 → rightB (l.take i) ⟨o, n, 0⟩ = true := by
      intro o n ho h1 h2
      unfold rightB
      rw [if_pos ho]
      simp
      omega
    by_cases h3 : 3 ≤ i
    · rcases h.each i x h3 hx with ⟨n, rfl, _, n0, n1⟩ | ⟨n, rfl, _, n0, n1⟩ | ⟨t, rfl, h4, h5, n, h6⟩
      · exact leaf 1 n (.inr rfl) n0 n1
      · exact leaf 0 n (.inl rfl) n0 n1
      · unfold rightB
        rw [if_neg (by simp), if_neg (by rw [tk]; simp; omega)]
        simp
        rw [List.getElem?_take, if_pos h4, h6]
        rfl
    · match i, h3 with
      | 0, _ =>
        rw [h.n0] at hx
        cases hx
        exact leaf 1 k (.inr rfl) hk.1 hk.2
      | 1, _ =>
        rw [h.n1] at hx
        cases hx
        exact leaf 0 a (.inl rfl) ha.1 ha.2
      | 2, _ =>
        rw [h.n2] at hx
        cases hx
        unfold rightB
        rw [if_neg (by simp), if_neg (by rw [tk]; simp; decide)]
        simp
        rw [h.n0]
        rfl
      | i + 3, h3 => omega
theorem LkI.cl0 : cl l 0 = 0 := by
  obtain ⟨fs, hf⟩ := ks_at h.n0
  rw [cl_ks hf]
  have : (ks l).idxOf (normAt fs ⟨1, k, 0⟩) = 0 := by
    cases hks : ks l with
    | nil => rw [hks] at hf; cases hf
    | cons y r =>
      rw [hks] at hf
      obtain rfl : y = _ := by simpa using hf
      simp
  rw [this]
  rfl
/-- Who is behind the first two has neither's class. -/
theorem LkI.cl_ne {i : Nat} (hi : 2 ≤ i) (hil : i < l.length) : cl l i ≠ cl l 0 ∧ cl l i ≠ cl l 1 := by
  have hx : l[i]? = some l[i] := List.getElem?_eq_getElem hil
  generalize l[i] = x at *
  constructor
  · intro e
    have := cl_eq_leaf hx h.n0 (by simp) e
    by_cases h3 : 3 ≤ i
    · rcases h.each i x h3 hx with ⟨n, rfl, n0, _⟩ | ⟨n, rfl, n0, _⟩ | ⟨t, rfl, _⟩
      · simp at this
        exact n0 this
      · simp at this
      · simp at this
    · obtain rfl : i = 2 := by omega
      rw [h.n2] at hx
      cases hx
      simp at this
  · intro e
    have := cl_eq_leaf hx h.n1 (by simp) e
    by_cases h3 : 3 ≤ i
    · rcases h.each i x h3 hx with ⟨n, rfl, n0, _⟩ | ⟨n, rfl, n0, _⟩ | ⟨t, rfl, _⟩
      · simp at this
      · simp at this
        exact n0 this
      · simp at this
    · obtain rfl : i = 2 := by omega
      rw [h.n2] at hx
      cases hx
      simp at this
theorem LkI.cl10 : cl l 1 ≠ cl l 0 := fun e => by
  have := cl_eq_leaf h.n1 h.n0 (by simp) e
  simp at this
/-- By no places behind the first two are these known. -/
theorem LkI.no {kn' : List Int} (hk' : ∀ y ∈ kn', ∃ i : Nat, y = (i : Int) ∧ 2 ≤ i) : ¬ DerK l kn' 0 ∧ ¬ DerK l kn' 1 := by
  have h1 : ∀ x ∈ kn', 0 ≤ x → x < (l.length : Int) → (fun c => c ≠ cl l 0 ∧ c ≠ cl l 1) (cl l x.toNat) := by
    intro x hx _ hxl
    obtain ⟨i, rfl, hi⟩ := hk' x hx
    exact h.cl_ne hi (by rw [Int.toNat_natCast]; omega)
  have h2 : ∀ c, Step l (fun c => c ≠ cl l 0 ∧ c ≠ cl l 1) c → c ≠ cl l 0 ∧ c ≠ cl l 1 := by
    rintro c ⟨i, x, hx, ho, hat⟩
    have hil := (List.getElem?_eq_some_iff.1 hx).1
    have hi2 : 2 ≤ i := by
      match i, hx with
      | 0, hx => rw [h.n0] at hx; cases hx; simp at ho
      | 1, hx => rw [h.n1] at hx; cases hx; simp at ho
      | i + 2, _ => omega
    rcases hat with ⟨rfl, _⟩ | ⟨_, h2, _⟩ | ⟨_, _, h3, h4⟩
    · exact h.cl_ne hi2 hil
    · exfalso
      by_cases h3 : 3 ≤ i
      · rcases h.each i x h3 hx with ⟨n, rfl, n0, _⟩ | ⟨n, rfl, n0, _⟩ | ⟨t, rfl, _⟩ <;> simp at h2
      · obtain rfl : i = 2 := by omega
        rw [h.n2] at hx
        cases hx
        simp at h2
    · by_cases h5 : 3 ≤ i
      · rcases h.each i x h5 hx with ⟨n, rfl, n0, _⟩ | ⟨n, rfl, n0, _⟩ | ⟨t, rfl, _⟩
        · simp at ho
        · simp at ho
        · rw [h4]
          exact h.cl_ne (Nat.le_refl 2) h.ge
      · obtain rfl : i = 2 := by omega
        rw [h.n2] at hx
        cases hx
        exact absurd rfl h3.1
  exact ⟨der_no _ h1 h2 (fun hc => hc.1 rfl), der_no _ h1 h2 (fun hc => hc.2 rfl)⟩
theorem LkI.yes {kn' : List Int} (h2 : (2 : Int) ∈ kn') (h0 : (0 : Int) ∈ kn') : DerK l kn' 1 := by
  have hg := h.ge
  refine Der.step ⟨2, _, h.n2, .inr rfl, .inr (.inr ⟨Der.of ⟨2, h2, by decide, by omega, rfl⟩, rfl, Der.of ⟨0, h0, by decide, by omega, rfl⟩, rfl⟩)⟩
theorem LkI.can1 (hm : mayB l = true) : canB l kn 1 = false := canB_no hm (i := 1) (by have := h.ge; omega) (h.no h.kin).2
theorem LkI.can0 (hm : mayB l = true) : canB l kn 0 = false := canB_no hm (i := 0) (by have := h.ge; omega) (h.no h.kin).1
theorem LkI.can2 (hm : mayB l = true) : canB l (kn ++ [0]) 1 = true := (canB_iff hm (i := 1) (by have := h.ge; omega)).2 (h.yes (by simp [h.kn2]) (by simp))
theorem LkI.needs (hm : mayB l = true) : needs l kn 1 = [k] := by
  have hg := h.ge
  unfold Go.Proofs.Ytnppjkekbdapkaa.needs
  rw [if_neg (by rintro (h1 | h1 | h1 | h1); omega; omega; (rw [hm] at h1; cases h1); (rw [h.can1 hm] at h1; cases h1))]
  refine lt_ext (rise_props _).2 (by simp) fun x => ((rise_props _).1 x).trans ?_
  unfold needsU
  rw [List.mem_map, List.mem_singleton]
  constructor
  · rintro ⟨i, hi, rfl⟩
    obtain ⟨h1, h2⟩ := List.mem_filter.1 hi
    have hil := List.mem_range.1 h1
    have hx : l[i]? = some l[i] := List.getElem?_eq_getElem hil
    have hgd : l.getD i nd0 = l[i] := by rw [List.getD_eq_getElem?_getD, hx]; rfl
    rw [hgd] at h2 ⊢
    generalize l[i] = y at *
    rw [Bool.and_eq_true, decide_eq_true_iff] at h2
    by_cases h0 : i = 0
    · subst h0
      rw [h.n0] at hx
      cases hx
      rfl
    · by_cases h11 : i = 1
      · subst h11
        rw [h.n1] at hx
        cases hx
        simp at h2
      · exfalso
        have := (canB_iff hm (i := 1) (by omega)).1 h2.2
        refine (h.no (kn' := kn ++ [(i : Int)]) ?_).2 this
        intro z hz
        rcases List.mem_append.1 hz with hz | hz
        · exact h.kin z hz
        · exact ⟨i, by simpa using hz, by omega⟩
  · rintro rfl
    have hgd : l.getD 0 nd0 = ⟨1, x, 0⟩ := by rw [List.getD_eq_getElem?_getD, h.n0]; rfl
    refine ⟨0, List.mem_filter.2 ⟨List.mem_range.2 (by omega), ?_⟩, by rw [hgd]⟩
    rw [hgd, Bool.and_eq_true, decide_eq_true_iff]
    exact ⟨rfl, h.can2 hm⟩
end
end Go.Proofs.Ytnppjkekbdapkaa
