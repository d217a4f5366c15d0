/-
  Pairs: the plain part.
-/
import Derived.Test.YtnppjkekbdapkaaCls
set_option linter.unusedVariables false
namespace Go.Proofs.Ytnppjkekbdapkaa
open Go.RowKit

def pL (a b : Int) : List Nd := [⟨0, a, 0⟩, ⟨0, 70000 + b, 0⟩, ⟨2, 0, 1⟩, ⟨1, 1, 0⟩, ⟨1, 2, 0⟩, ⟨3, 3, 2⟩, ⟨3, 4, 5⟩]
theorem pL_at {a b : Int} (i : Nat) (x : Nd) (h : (pL a b)[i]? = some x) : (i = 0 ∧ x = ⟨0, a, 0⟩) ∨ (i = 1 ∧ x = ⟨0, 70000 + b, 0⟩) ∨ (i = 2 ∧ x = ⟨2, 0, 1⟩) ∨ (i = 3 ∧ x = ⟨1, 1, 0⟩) ∨ (i = 4 ∧ x = ⟨1, 2, 0⟩) ∨ (i = 5 ∧ x = ⟨3, 3, 2⟩) ∨ (i = 6 ∧ x = ⟨3, 4, 5⟩) := by
  match i, h with
  | 0, h | 1, h | 2, h | 3, h | 4, h | 5, h | 6, h => simp [pL] at h; simp [h]
  | n + 7, h => simp [pL] at h
section
variable {a b : Int} (ha : 0 ≤ a ∧ a ≤ 65535) (hb : 0 ≤ b ∧ b ≤ 65535)
include ha hb
theorem pL_may : mayB (pL a b) = true := by
  have e1 : a ≤ 999999 := by omega
  have e2 : 70000 + b ≤ 999999 := by omega
  have e3 : 0 ≤ 70000 + b := by omega
  simp [mayB, pL, rightAt, rightB, List.range_succ, ha.1, e1, e2, e3]
  decide
theorem pL_cl {i : Nat} (hi : i < 7) : cl (pL a b) i = (i : Int) := by
  refine cl_own ?_ ?_ hi
  · simp [pL]
    omega
  · intro i x h ho
    rcases pL_at i x h with ⟨rfl, rfl⟩ | ⟨rfl, rfl⟩ | ⟨rfl, rfl⟩ | ⟨rfl, rfl⟩ | ⟨rfl, rfl⟩ | ⟨rfl, rfl⟩ | ⟨rfl, rfl⟩ <;> simp at ho ⊢
theorem pL_step {K : Int → Prop} {c : Int} (h : Step (pL a b) K c) : (K 0 ∧ K 1 ∧ c = 2) ∨ (K 2 ∧ (c = 0 ∨ c = 1)) ∨ (K 3 ∧ K 2 ∧ c = 5) ∨ (K 5 ∧ K 3 ∧ c = 2) ∨ (K 4 ∧ K 5 ∧ c = 6) ∨ (K 6 ∧ K 4 ∧ c = 5) := by
  obtain ⟨k, x, hx, ho, h⟩ := h
  have c0 := pL_cl ha hb (i := 0) (by omega)
  have c1 := pL_cl ha hb (i := 1) (by omega)
  have c2 := pL_cl ha hb (i := 2) (by omega)
  have c3 := pL_cl ha hb (i := 3) (by omega)
  have c4 := pL_cl ha hb (i := 4) (by omega)
  have c5 := pL_cl ha hb (i := 5) (by omega)
  have c6 := pL_cl ha hb (i := 6) (by omega)
  rcases pL_at k x hx with ⟨rfl, rfl⟩ | ⟨rfl, rfl⟩ | ⟨rfl, rfl⟩ | ⟨rfl, rfl⟩ | ⟨rfl, rfl⟩ | ⟨rfl, rfl⟩ | ⟨rfl, rfl⟩ <;> simp at ho
  all_goals
    unfold At at h
    simp [c0, c1, c2, c3, c4, c5, c6] at h
    rcases h with ⟨h1, h2, h3⟩ | ⟨h1, h2⟩ <;> simp_all
theorem pL_make {K : Int → Prop} : (K 0 → K 1 → Step (pL a b) K 2) ∧ (K 2 → Step (pL a b) K 0) ∧ (K 2 → Step (pL a b) K 1) ∧ (K 5 → K 3 → Step (pL a b) K 2) ∧ (K 6 → K 4 → Step (pL a b) K 5) := by
  have c0 := pL_cl ha hb (i := 0) (by omega)
  have c1 := pL_cl ha hb (i := 1) (by omega)
  have c2 := pL_cl ha hb (i := 2) (by omega)
  have c3 := pL_cl ha hb (i := 3) (by omega)
  have c4 := pL_cl ha hb (i := 4) (by omega)
  have c5 := pL_cl ha hb (i := 5) (by omega)
  have c6 := pL_cl ha hb (i := 6) (by omega)
  refine ⟨fun h1 h2 => ⟨2, _, rfl, .inl rfl, ?_⟩, fun h1 => ⟨2, _, rfl, .inl rfl, ?_⟩, fun h1 => ⟨2, _, rfl, .inl rfl, ?_⟩, fun h1 h2 => ⟨5, _, rfl, .inr rfl, ?_⟩, fun h1 h2 => ⟨6, _, rfl, .inr rfl, ?_⟩⟩
  all_goals
    unfold At
    simp [*]
theorem pL_knows (kn : List Int) (S : List Int) (bs : List Bool) (hbs : bs = (List.range 7).map fun i : Nat => decide ((i : Int) ∈ S)) (hk : ∀ x ∈ kn, 0 ≤ x ∧ x < 7 ∧ x ∈ S)
    (hs : ∀ c, Step (pL a b) (fun c => c ∈ S) c → c ∈ S) (hd : ∀ c ∈ S, Der (pL a b) (Seed (pL a b) kn) c) : knows (pL a b) kn = bs := by
  refine knows_eq (pL_may ha hb) (by rw [hbs]; rfl) fun i x hx => ?_
  have hi : i < 7 := by
    have := (List.getElem?_eq_some_iff.1 hx).1
    rw [hbs] at this
    simpa using this
  have hc := pL_cl ha hb hi
  rw [hbs, List.getElem?_map, List.getElem?_range hi] at hx
  obtain rfl : decide ((i : Int) ∈ S) = x := by simpa using hx
  rw [decide_eq_true_iff]
  constructor
  · intro h
    unfold DerK
    rw [hc]
    exact hd _ h
  · intro h
    unfold DerK at h
    rw [hc] at h
    refine h.least (K := fun c => c ∈ S) ?_ hs
    rintro c ⟨y, hy, y0, y1, rfl⟩
    obtain ⟨z0, z1, z2⟩ := hk y hy
    obtain ⟨Y, rfl⟩ := Int.eq_ofNat_of_zero_le y0
    rw [Int.toNat_natCast, pL_cl ha hb (by omega)]
    exact z2
theorem pL_seed {kn : List Int} {i : Nat} (h : (i : Int) ∈ kn) (hi : i < 7) : Der (pL a b) (Seed (pL a b) kn) (i : Int) :=
  Der.of ⟨(i : Int), h, by omega, by show (i : Int) < 7; omega, by rw [Int.toNat_natCast, pL_cl ha hb hi]⟩
theorem pL_y : knows (pL a b) [0, 1] = [true, true, true, false, false, false, false] := by
  refine pL_knows ha hb [0, 1] [0, 1, 2] _ (by decide) (by decide) ?_ ?_
  · intro c h
    have := pL_step ha hb h
    simp at this ⊢
    omega
  · have d0 := pL_seed ha hb (kn := [0, 1]) (i := 0) (by decide) (by omega)
    have d1 := pL_seed ha hb (kn := [0, 1]) (i := 1) (by decide) (by omega)
    have d2 := Der.step ((pL_make ha hb).1 d0 d1)
    intro c hc
    simp at hc
    rcases hc with rfl | rfl | rfl
    · exact d0
    · exact d1
    · exact d2
def pK (one two : Bool) : List Int := [6] ++ (if one = true then [3] else []) ++ (if two = true then [4] else [])
theorem pL_x (one two : Bool) : knows (pL a b) (pK one two) = [one && two, one && two, one && two, one, two, two, true] := by
  have mk := pL_make ha hb (K := Der (pL a b) (Seed (pL a b) (pK one two)))
  have d6 := pL_seed ha hb (kn := pK one two) (i := 6) (by simp [pK]) (by omega)
  cases one <;> cases two
  · refine pL_knows ha hb _ [6] _ (by decide) (by decide) ?_ ?_
    · intro c h
      have := pL_step ha hb h
      simp at this ⊢
    · intro c hc
      simp at hc
      subst hc
      exact d6
  · have d4 := pL_seed ha hb (kn := pK false true) (i := 4) (by simp [pK]) (by omega)
    have d5 := Der.step (mk.2.2.2.2 d6 d4)
    refine pL_knows ha hb _ [6, 4, 5] _ (by decide) (by decide) ?_ ?_
    · intro c h
      have := pL_step ha hb h
      simp at this ⊢
      omega
    · intro c hc
      simp at hc
      rcases hc with rfl | rfl | rfl
      · exact d6
      · exact d4
      · exact d5
  · have d3 := pL_seed ha hb (kn := pK true false) (i := 3) (by simp [pK]) (by omega)
    refine pL_knows ha hb _ [6, 3] _ (by decide) (by decide) ?_ ?_
    · intro c h
      have := pL_step ha hb h
      simp at this ⊢
    · intro c hc
      simp at hc
      rcases hc with rfl | rfl
      · exact d6
      · exact d3
  · have d3 := pL_seed ha hb (kn := pK true true) (i := 3) (by simp [pK]) (by omega)
    have d4 := pL_seed ha hb (kn := pK true true) (i := 4) (by simp [pK]) (by omega)
    have d5 := Der.step (mk.2.2.2.2 d6 d4)
    have d2 := Der.step (mk.2.2.2.1 d5 d3)
    have d0 := Der.step (mk.2.1 d2)
    have d1 := Der.step (mk.2.2.1 d2)
    refine pL_knows ha hb _ [0, 1, 2, 3, 4, 5, 6] _ (by decide) (by decide) ?_ ?_
    · intro c h
      have := pL_step ha hb h
      simp at this ⊢
      omega
    · intro c hc
      simp at hc
      rcases hc with rfl | rfl | rfl | rfl | rfl | rfl | rfl
      · exact d0
      · exact d1
      · exact d2
      · exact d3
      · exact d4
      · exact d5
      · exact d6
theorem pL_atoms (one two : Bool) : (atoms (pL a b) (pK one two)).length = if (one && two) = true then 2 else 0 := by
  unfold atoms
  rw [pL_x ha hb]
  by_cases h : (one && two) = true
  · rw [if_pos h]
    have e : atomsU (pL a b) [one && two, one && two, one && two, one, two, two, true] 7 = [a, 70000 + b] := by
      simp [h, atomsU, pL, List.range_succ, List.filter]
    have e2 : rise [a, 70000 + b] = [a, 70000 + b] := by
      refine lt_ext (rise_props _).2 ?_ (rise_props _).1
      simp
      omega
    show (rise (atomsU (pL a b) [one && two, one && two, one && two, one, two, two, true] 7)).length = 2
    rw [e, e2]
    rfl
  · have h' : (one && two) = false := by simpa using h
    rw [if_neg h]
    have e : atomsU (pL a b) [one && two, one && two, one && two, one, two, two, true] 7 = [] := by
      rw [h']
      simp [atomsU, pL, List.range_succ, List.filter]
    show (rise (atomsU (pL a b) [one && two, one && two, one && two, one, two, two, true] 7)).length = 0
    rw [e]
    simp [rise, Lib.compact, Lib.compactUpTo]
end
end Go.Proofs.Ytnppjkekbdapkaa
