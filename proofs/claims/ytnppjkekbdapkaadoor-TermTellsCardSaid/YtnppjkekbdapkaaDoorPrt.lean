/-
  The parts of a place, plainly.
-/
import Derived.Test.YtnppjkekbdapkaaDoorSzs
set_option linter.unusedVariables false
namespace Go.Proofs.YtnppjkekbdapkaaDoor
open Go.RowKit

/-- One place taken in hand: its parts counted. -/
def inStep (l : List Nd) (f : Nat → Nat) (k : Nat) : Nat → Nat := fun z =>
  if 0 < f k ∧ ((l.getD k nd0).op = 2 ∨ (l.getD k nd0).op = 3) then f z + (if (z : Int) = (l.getD k nd0).a then 1 else 0) + (if (z : Int) = (l.getD k nd0).b then 1 else 0) else f z
/-- The counts behind d places, the greatest ahead. -/
def inC (l : List Nd) (i : Nat) : Nat → Nat → Nat
  | 0 => fun z => if z = i then 1 else 0
  | d + 1 => inStep l (inC l i d) (i - d)
/-- The places behind d of them, the greatest ahead. -/
def outD (l : List Nd) (i : Nat) : Nat → List Int
  | 0 => []
  | d + 1 => if 0 < inC l i d (i - d) then outD l i d ++ [((i - d : Nat) : Int)] else outD l i d
def partsN (l : List Nd) (i : Nat) : List Int := (outD l i (i + 1)).reverse
theorem inStep_le (l : List Nd) (f : Nat → Nat) (k z : Nat) : f z ≤ inStep l f k z ∧ inStep l f k z ≤ f z + 2 := by
  unfold inStep
  split
  · split <;> split <;> omega
  · omega
theorem inC_le (l : List Nd) (i d z : Nat) : inC l i d z ≤ 2 * d + 1 := by
  induction d with
  | zero => unfold inC; split <;> omega
  | succ d ih =>
    have := (inStep_le l (inC l i d) (i - d) z).2
    show inStep l (inC l i d) (i - d) z ≤ _
    omega
theorem inC_mono (l : List Nd) (i : Nat) {d e : Nat} (h : d ≤ e) (z : Nat) : inC l i d z ≤ inC l i e z := by
  induction e with
  | zero => obtain rfl : d = 0 := by omega
            exact Nat.le_refl _
  | succ e ih =>
    by_cases hd : d = e + 1
    · rw [hd]; exact Nat.le_refl _
    · exact Nat.le_trans (ih (by omega)) (inStep_le l (inC l i e) (i - e) z).1
/-- What is not below the place in hand stands. -/
theorem inStep_keep {l : List Nd} (hm : mayB l = true) (f : Nat → Nat) {k z : Nat} (hk : k < l.length) (h : k ≤ z) : inStep l f k z = f z := by
  unfold inStep
  split
  · rename_i ho
    have hx : l[k]? = some (l.getD k nd0) := by rw [List.getD_eq_getElem?_getD, List.getElem?_eq_getElem hk]; rfl
    obtain ⟨⟨a0, a1⟩, b0, b1⟩ := may_made hm hx ho.2
    rw [if_neg (by omega), if_neg (by omega)]
    rfl
  · rfl
theorem inC_keep {l : List Nd} (hm : mayB l = true) {i d e z : Nat} (hi : i < l.length) (h : d ≤ e) (hz : i ≤ z + d) : inC l i e z = inC l i d z := by
  induction e with
  | zero => obtain rfl : d = 0 := by omega
            rfl
  | succ e ih =>
    by_cases hd : d = e + 1
    · rw [hd]
    · rw [← ih (by omega)]
      show inStep l (inC l i e) (i - e) z = _
      exact inStep_keep hm _ (by omega) (by omega)
/-- The places that are in. -/
def isIn (l : List Nd) (i z : Nat) : Bool := decide (0 < inC l i (i + 1) z)
theorem outD_eq {l : List Nd} (hm : mayB l = true) {i : Nat} (hi : i < l.length) (d : Nat) (hd : d ≤ i + 1) : (outD l i d).reverse = (((List.range (i + 1)).drop (i + 1 - d)).filter (isIn l i)).map fun z : Nat => (z : Int) := by
  induction d with
  | zero =>
    rw [List.drop_of_length_le (by rw [List.length_range]; omega)]
    rfl
  | succ d ih =>
    have hdr : (List.range (i + 1)).drop (i + 1 - (d + 1)) = (i - d) :: (List.range (i + 1)).drop (i + 1 - d) := by
      rw [List.drop_eq_getElem_cons (by rw [List.length_range]; omega), List.getElem_range]
      congr 1
      · omega
      · congr 1
        omega
    have hk : inC l i (i + 1) (i - d) = inC l i d (i - d) := inC_keep hm hi (by omega) (by omega)
    rw [hdr, List.filter_cons]
    unfold outD
    by_cases h : 0 < inC l i d (i - d)
    · rw [if_pos h, if_pos (by unfold isIn; rw [hk]; exact decide_eq_true h), List.reverse_append, ih (by omega)]
      rfl
    · rw [if_neg h, if_neg (by unfold isIn; rw [hk, decide_eq_false h]; simp), ih (by omega)]
theorem parts_eq {l : List Nd} (hm : mayB l = true) {i : Nat} (hi : i < l.length) : partsN l i = ((List.range (i + 1)).filter (isIn l i)).map fun z : Nat => (z : Int) := by
  have := outD_eq hm hi (i + 1) (Nat.le_refl _)
  rw [Nat.sub_self, List.drop_zero] at this
  exact this
theorem isIn_self {l : List Nd} (i : Nat) : isIn l i i = true := by
  have := inC_mono l i (Nat.zero_le (i + 1)) i
  have h0 : inC l i 0 i = 1 := by unfold inC; rw [if_pos rfl]
  exact decide_eq_true (by omega)
theorem isIn_parts {l : List Nd} (hm : mayB l = true) {i k : Nat} (hi : i < l.length) (hk : k ≤ i) {x : Nd} (hx : l[k]? = some x) (ho : x.op = 2 ∨ x.op = 3) (h : isIn l i k = true) : isIn l i x.a.toNat = true ∧ isIn l i x.b.toNat = true := by
  have h1 : 0 < inC l i (i + 1) k := of_decide_eq_true h
  obtain ⟨⟨a0, a1⟩, b0, b1⟩ := may_made hm hx ho
  have hg : l.getD k nd0 = x := by rw [List.getD_eq_getElem?_getD, hx]; rfl
  have h2 : inC l i (i + 1) k = inC l i (i - k) k := inC_keep hm hi (by omega) (by omega)
  have h3 : i - (i - k) = k := by omega
  have step : ∀ z : Nat, (z : Int) = x.a ∨ (z : Int) = x.b → 0 < inC l i (i + 1) z := by
    intro z hz
    have m := inC_mono l i (d := i - k + 1) (e := i + 1) (by omega) z
    have : 0 < inC l i (i - k + 1) z := by
      show 0 < inStep l (inC l i (i - k)) (i - (i - k)) z
      rw [h3]
      unfold inStep
      rw [if_pos ⟨by omega, by rw [hg]; exact ho⟩, hg]
      rcases hz with hz | hz
      · rw [if_pos hz]; omega
      · rw [if_pos hz]; omega
    omega
  exact ⟨decide_eq_true (step _ (.inl (by omega))), decide_eq_true (step _ (.inr (by omega)))⟩
end Go.Proofs.YtnppjkekbdapkaaDoor
