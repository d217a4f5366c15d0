/-
  The law of Needs: the plain part.
-/
import Derived.Test.YtnppjkekbdapkaaCls
set_option linter.unusedVariables false
namespace Go.Proofs.Ytnppjkekbdapkaa
open Go.RowKit

theorem needs_lt (l : List Nd) (kn : List Int) (g : Int) : (needs l kn g).Pairwise (· < ·) := by
  unfold needs
  split
  · exact List.Pairwise.nil
  · exact (rise_props _).2
theorem needs_len (l : List Nd) (kn : List Int) (g : Int) : (needs l kn g).length ≤ l.length := by
  unfold needs
  split
  · exact Nat.zero_le _
  · exact Nat.le_trans (rise_len _) (needsU_len _ _ _ _)
theorem needs_mem {l : List Nd} {kn : List Int} {g : Int} (h0 : 0 ≤ g) (h1 : g < (l.length : Int)) (hm : mayB l = true) (hc : canB l kn g = false) (x : Int) :
    x ∈ needs l kn g ↔ ∃ (i : Nat) (y : Nd), l[i]? = some y ∧ y.op = 1 ∧ canB l (kn ++ [(i : Int)]) g = true ∧ y.a = x := by
  unfold needs
  rw [if_neg (by rintro (h | h | h | h); omega; omega; (rw [hm] at h; cases h); (rw [hc] at h; cases h))]
  refine ((rise_props _).1 x).trans ?_
  unfold needsU
  rw [List.mem_map]
  constructor
  · rintro ⟨i, hi, rfl⟩
    obtain ⟨a1, a2⟩ := List.mem_filter.1 hi
    have hil := List.mem_range.1 a1
    have hx : l[i]? = some l[i] := List.getElem?_eq_getElem hil
    have hgd : l.getD i nd0 = l[i] := by rw [List.getD_eq_getElem?_getD, hx]; rfl
    rw [hgd] at a2 ⊢
    rw [Bool.and_eq_true, decide_eq_true_iff] at a2
    exact ⟨i, l[i], hx, a2.1, a2.2, rfl⟩
  · rintro ⟨i, y, hy, ho, hcan, rfl⟩
    have hgd : l.getD i nd0 = y := by rw [List.getD_eq_getElem?_getD, hy]; rfl
    refine ⟨i, List.mem_filter.2 ⟨List.mem_range.2 (List.getElem?_eq_some_iff.1 hy).1, ?_⟩, by rw [hgd]⟩
    rw [hgd, Bool.and_eq_true, decide_eq_true_iff]
    exact ⟨ho, hcan⟩
theorem key_b {l : List Nd} (hm : mayB l = true) {i : Nat} {x : Nd} (hx : l[i]? = some x) (ho : x.op = 1) : x.b = 0 := by
  have := may_at hm hx
  unfold rightB at this
  rw [if_pos (.inr ho)] at this
  simp at this
  exact this.2.2
/-- Keys of one number do the same. -/
theorem canB_same {l : List Nd} {kn : List Int} {g : Int} (h0 : 0 ≤ g) (h1 : g < (l.length : Int)) (hm : mayB l = true) {i j : Nat} {x y : Nd} (hi : l[i]? = some x) (hj : l[j]? = some y) (ox : x.op = 1) (oy : y.op = 1) (ha : x.a = y.a) (hc : canB l (kn ++ [(i : Int)]) g = true) : canB l (kn ++ [(j : Int)]) g = true := by
  obtain ⟨G, rfl⟩ := Int.eq_ofNat_of_zero_le h0
  have e : x = y := by
    have b1 := key_b hm hi ox
    have b2 := key_b hm hj oy
    obtain ⟨xo, xa, xb⟩ := x
    obtain ⟨yo, ya, yb⟩ := y
    dsimp only at *
    rw [ox, oy, ha, b1, b2]
  subst e
  have hcl := cl_leaf hi hj (by omega)
  have hil := (List.getElem?_eq_some_iff.1 hi).1
  have hjl := (List.getElem?_eq_some_iff.1 hj).1
  rw [canB_iff hm (by omega)] at hc ⊢
  refine hc.mono ?_
  rintro c ⟨z, hz, z0, z1, rfl⟩
  rcases List.mem_append.1 hz with hz | hz
  · exact ⟨z, by simp [hz], z0, z1, rfl⟩
  · obtain rfl : z = (i : Int) := by simpa using hz
    exact ⟨(j : Int), by simp, by omega, by omega, by rw [Int.toNat_natCast, Int.toNat_natCast]; exact hcl⟩
def cnt (ns : List Int) (i : Nat) (x : Int) : Int := ((ns.take i).count x : Nat)
theorem cnt_next {ns : List Int} {i : Nat} {n : Int} (h : ns[i]? = some n) : cnt ns (i + 1) = fun x => if x = n then cnt ns i n + 1 else cnt ns i x := by
  funext x
  unfold cnt
  rw [List.take_add_one, h]
  by_cases hx : x = n
  · subst hx
    simp
  · rw [if_neg hx]
    have : ¬ n = x := fun e => hx e.symm
    simp [this]
theorem cnt_le (ns : List Int) (i : Nat) (x : Int) : 0 ≤ cnt ns i x ∧ cnt ns i x ≤ (i : Int) := by
  unfold cnt
  have h1 := List.count_le_length (a := x) (l := ns.take i)
  have h2 := List.length_take_le i ns
  omega
theorem cnt_pos (ns : List Int) (x : Int) : 0 < cnt ns ns.length x ↔ x ∈ ns := by
  unfold cnt
  rw [List.take_length]
  rw [← List.count_pos_iff (a := x) (l := ns)]
  omega
/-- What the law asks of a key. -/
theorem needs_key {l : List Nd} {kn : List Int} {g : Int} (h0 : 0 ≤ g) (h1 : g < (l.length : Int)) (hm : mayB l = true) (hc : canB l kn g = false) {i : Nat} {x : Nd} (hx : l[i]? = some x) (ho : x.op = 1) :
    canB l (kn ++ [(i : Int)]) g = decide (0 < cnt (needs l kn g) (needs l kn g).length x.a) := by
  have key : canB l (kn ++ [(i : Int)]) g = true ↔ 0 < cnt (needs l kn g) (needs l kn g).length x.a := by
    rw [cnt_pos, needs_mem h0 h1 hm hc]
    constructor
    · intro h
      exact ⟨i, x, hx, ho, h, rfl⟩
    · rintro ⟨j, y, hy, oy, hcan, ha⟩
      exact canB_same h0 h1 hm hy hx oy ho ha hcan
  by_cases h : 0 < cnt (needs l kn g) (needs l kn g).length x.a
  · rw [decide_eq_true h, key.2 h]
  · rw [decide_eq_false h]
    cases hcc : canB l (kn ++ [(i : Int)]) g
    · rfl
    · exact absurd (key.1 hcc) h
theorem needs_wf {l : List Nd} {kn : List Int} {g : Int} (hwf : ∀ x ∈ l, x.Wf) : ∀ x ∈ needs l kn g, wf64 x := by
  intro x hx
  unfold needs at hx
  split at hx
  · cases hx
  · have := ((rise_props _).1 x).1 hx
    unfold needsU at this
    obtain ⟨i, hi, rfl⟩ := List.mem_map.1 this
    have hil := List.mem_range.1 (List.mem_filter.1 hi).1
    have hgd : l.getD i nd0 = l[i] := by rw [List.getD_eq_getElem?_getD, List.getElem?_eq_getElem hil]; rfl
    rw [hgd]
    exact (hwf _ (List.getElem_mem hil)).a
theorem needs_can {l : List Nd} {kn : List Int} {g : Int} (hc : canB l kn g = true) : needs l kn g = [] := by
  unfold needs
  rw [if_pos (.inr (.inr (.inr hc)))]
end Go.Proofs.Ytnppjkekbdapkaa
