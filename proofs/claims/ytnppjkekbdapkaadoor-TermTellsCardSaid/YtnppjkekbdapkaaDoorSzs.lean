/-
  Sizes, texts, trees of the places, plainly.
-/
import Derived.Test.YtnppjkekbdapkaaDoorCla
import Derived.Lib.ItoaNum
set_option linter.unusedVariables false
namespace Go.Proofs.YtnppjkekbdapkaaDoor
open Go.RowKit

section
variable {α : Type} (g : α → α → Nd → α) (d : α)
/-- Of each place what is made of what its parts have. -/
def foldN (l : List Nd) : List α := l.foldl (fun s x => s ++ [g (s.getD x.a.toNat d) (s.getD x.b.toNat d) x]) []
def valN (l : List Nd) (i : Nat) : α := (foldN g d l).getD i d
theorem foldN_snoc (l : List Nd) (x : Nd) : foldN g d (l ++ [x]) = foldN g d l ++ [g ((foldN g d l).getD x.a.toNat d) ((foldN g d l).getD x.b.toNat d) x] := by simp [foldN]
theorem foldN_len (l : List Nd) : (foldN g d l).length = l.length := by
  induction l using snoc_ind with
  | h0 => rfl
  | h1 l x ih => rw [foldN_snoc, List.length_append, List.length_append, ih]; rfl
theorem foldN_pre (l m : List Nd) : ∃ r, foldN g d (l ++ m) = foldN g d l ++ r := by
  induction m using snoc_ind with
  | h0 => exact ⟨[], by simp⟩
  | h1 m x ih =>
    obtain ⟨r, hr⟩ := ih
    rw [← List.append_assoc, foldN_snoc, hr]
    exact ⟨_, List.append_assoc _ _ _⟩
theorem foldN_take (l : List Nd) (k : Nat) : foldN g d (l.take k) = (foldN g d l).take k := by
  by_cases hk : k ≤ l.length
  · obtain ⟨r, hr⟩ := foldN_pre g d (l.take k) (l.drop k)
    rw [List.take_append_drop] at hr
    have : (foldN g d (l.take k)).length = k := by rw [foldN_len, List.length_take]; omega
    rw [hr, List.take_append_of_le_length (by omega)]
    exact (List.take_of_length_le (by omega)).symm
  · rw [List.take_of_length_le (by omega : l.length ≤ k), List.take_of_length_le (by rw [foldN_len]; omega)]
theorem valN_take (l : List Nd) {i k : Nat} (h : i < k) : (foldN g d (l.take k)).getD i d = valN g d l i := by
  rw [foldN_take, List.getD_eq_getElem?_getD, List.getElem?_take, if_pos h]
  unfold valN
  rw [List.getD_eq_getElem?_getD]
theorem foldN_next (l : List Nd) {i : Nat} {x : Nd} (h : l[i]? = some x) : foldN g d (l.take (i + 1)) = foldN g d (l.take i) ++ [g ((foldN g d (l.take i)).getD x.a.toNat d) ((foldN g d (l.take i)).getD x.b.toNat d) x] := by
  rw [List.take_add_one, h]
  exact foldN_snoc g d _ x
theorem valN_at (l : List Nd) {i : Nat} {x : Nd} (h : l[i]? = some x) : valN g d l i = g ((foldN g d (l.take i)).getD x.a.toNat d) ((foldN g d (l.take i)).getD x.b.toNat d) x := by
  have hl := (List.getElem?_eq_some_iff.1 h).1
  have hlen : (foldN g d (l.take i)).length = i := by rw [foldN_len, List.length_take]; omega
  rw [← valN_take g d l (Nat.lt_succ_self i), foldN_next g d l h, List.getD_eq_getElem?_getD, List.getElem?_append_right (by omega), hlen, Nat.sub_self]
  rfl
theorem valN_made (l : List Nd) (hm : mayB l = true) {i : Nat} {x : Nd} (h : l[i]? = some x) (ho : x.op = 2 ∨ x.op = 3) : valN g d l i = g (valN g d l x.a.toNat) (valN g d l x.b.toNat) x := by
  obtain ⟨⟨a0, a1⟩, b0, b1⟩ := may_made hm h ho
  rw [valN_at g d l h, valN_take g d l (by omega), valN_take g d l (by omega)]
end

def gsz (u v : Int) (x : Nd) : Int := if x.op = 2 ∨ x.op = 3 then min 1000000000 (u + v + 2 + (if x.op = 2 then 1 else 0)) else 1 + ((Lib.itoa x.a).length : Int)
def gtx (u v : List UInt8) (x : Nd) : List UInt8 := if x.op = 2 then 40 :: (u ++ 44 :: (v ++ [41])) else if x.op = 3 then 123 :: (v ++ 125 :: u) else (if x.op = 0 then 97 else 107) :: Lib.itoa x.a
inductive Tm where
  | leaf (k n : Int)
  | pair (a b : Tm)
  | lock (a b : Tm)
def gtr (u v : Tm) (x : Nd) : Tm := if x.op = 2 then .pair u v else if x.op = 3 then .lock u v else .leaf x.op x.a
def szs (l : List Nd) : List Int := foldN gsz 0 l
def szN (l : List Nd) (i : Nat) : Int := valN gsz 0 l i
def txN (l : List Nd) (i : Nat) : List UInt8 := valN gtx [] l i
def trN (l : List Nd) (i : Nat) : Tm := valN gtr (.leaf 0 0) l i

/-- What a leaf's number may be. -/
theorem leaf_num {l : List Nd} (hm : mayB l = true) {i : Nat} {x : Nd} (h : l[i]? = some x) (ho : ¬ (x.op = 2 ∨ x.op = 3)) : (x.op = 0 ∨ x.op = 1) ∧ 0 ≤ x.a ∧ x.a ≤ 999999 ∧ x.b = 0 := by
  have := may_at hm h
  unfold rightB at this
  split at this
  · rename_i h1
    simp at this
    exact ⟨h1, this⟩
  · split at this
    · cases this
    · rename_i h1 h2
      exact absurd (by omega) h2
theorem dec_len {n k : Nat} (h : n < 10 ^ (k + 1)) : 1 ≤ (Lib.decDigits n).length ∧ (Lib.decDigits n).length ≤ k + 1 := by
  induction k generalizing n with
  | zero =>
    rw [Lib.decDigits, dif_pos (by omega)]
    simp
  | succ k ih =>
    rw [Lib.decDigits]
    split
    · simp
    · have := ih (n := n / 10) (by rw [Nat.pow_succ] at h; omega)
      simp
      omega
theorem itoa_dec {a : Int} (h : 0 ≤ a) : Lib.itoa a = Lib.decDigits a.toNat := by
  unfold Lib.itoa
  rw [if_neg (by omega)]
theorem itoa_len {a : Int} (h0 : 0 ≤ a) (h1 : a ≤ 999999) : 1 ≤ (Lib.itoa a).length ∧ (Lib.itoa a).length ≤ 6 := by
  rw [itoa_dec h0]
  exact dec_len (k := 5) (by omega)
/-- The size is the text's length, cut off at the top. -/
theorem sz_tx {l : List Nd} (hm : mayB l = true) (i : Nat) (hi : i < l.length) : szN l i = min 1000000000 ((txN l i).length : Int) ∧ 2 ≤ (txN l i).length := by
  induction i using Nat.strongRecOn with
  | ind i ih =>
    have hx : l[i]? = some l[i] := List.getElem?_eq_getElem hi
    generalize l[i] = x at hx
    unfold szN txN
    by_cases ho : x.op = 2 ∨ x.op = 3
    · obtain ⟨⟨a0, a1⟩, b0, b1⟩ := may_made hm hx ho
      obtain ⟨ha, ha2⟩ := ih x.a.toNat (by omega) (by omega)
      obtain ⟨hb, hb2⟩ := ih x.b.toNat (by omega) (by omega)
      rw [valN_made _ _ l hm hx ho, valN_made _ _ l hm hx ho]
      unfold szN at ha hb
      unfold txN at ha hb ha2 hb2
      rw [ha, hb]
      unfold gsz gtx
      rw [if_pos ho]
      rcases ho with h2 | h3
      · rw [if_pos h2, if_pos h2]
        simp
        omega
      · rw [if_neg (by omega), if_neg (by omega), if_pos h3]
        simp
        omega
    · obtain ⟨h01, n0, n1, _⟩ := leaf_num hm hx ho
      obtain ⟨q1, q2⟩ := itoa_len n0 n1
      rw [valN_at _ _ l hx, valN_at _ _ l hx]
      unfold gsz gtx
      rw [if_neg ho, if_neg (by omega), if_neg (by omega)]
      simp
      omega
theorem sz_range {l : List Nd} (hm : mayB l = true) {i : Nat} (hi : i < l.length) : 2 ≤ szN l i ∧ szN l i ≤ 1000000000 := by
  have := sz_tx hm i hi
  omega
end Go.Proofs.YtnppjkekbdapkaaDoor
