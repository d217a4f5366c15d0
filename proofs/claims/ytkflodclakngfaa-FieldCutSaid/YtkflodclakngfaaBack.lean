/-
  What is written is taken back: plain laws.
-/
import Derived.Test.YtkflodclakngfaaTkl
set_option linter.unusedVariables false
namespace Go.Proofs.Ytkflodclakngfaa
open Go.RowKit

/-! ### What is written is taken back -/

def pre (s : ByteArray) : ByteArray := ⟨(leBytes s.size 2).toArray⟩ ++ s
def body : List ByteArray → ByteArray
  | [] => ⟨#[]⟩
  | s :: l => pre s ++ body l

theorem leNum_leBytes (n k : Nat) : leNum (leBytes n k) = n % 256 ^ k := by
  induction k with
  | zero => simp [leBytes, leNum, Nat.mod_one]
  | succ k ih =>
    have h := leNum_take (leBytes n (k + 1)) k (by rw [leBytes_len]; omega)
    rw [List.take_of_length_le (by rw [leBytes_len]; omega)] at h
    have e1 : (leBytes n (k + 1)).take k = leBytes n k := by
      rw [leBytes]; exact List.take_left' (leBytes_len n k)
    have e2 : (leBytes n (k + 1)).getD k 0 = UInt8.ofNat (n / 256 ^ k % 256) := by
      rw [leBytes]
      have := leBytes_len n k
      simp [List.getD, this]
    rw [e1, e2, ih] at h
    rw [h]
    have e3 : (2 : Nat) ^ (8 * k) = 256 ^ k := by rw [Nat.pow_mul]
    have e4 : (UInt8.ofNat (n / 256 ^ k % 256)).toNat = n / 256 ^ k % 256 := by simp
    rw [e3, e4, Nat.pow_succ, Nat.mod_mul, Nat.mul_comm (256 ^ k)]

theorem toList_app (a b : ByteArray) : (a ++ b).data.toList = a.data.toList ++ b.data.toList := by simp [ByteArray.data_append]

theorem empty_app (a : ByteArray) : (⟨#[]⟩ : ByteArray) ++ a = a := ByteArray.ext (by simp [ByteArray.data_append])
theorem app_empty (a : ByteArray) : a ++ (⟨#[]⟩ : ByteArray) = a := ByteArray.ext (by simp [ByteArray.data_append])

theorem ttN_pre (s R : ByteArray) (h : s.size ≤ 1000) : ttN (pre s ++ R) = s.size := by
  unfold ttN pre
  rw [toList_app, toList_app]
  have hl : (leBytes s.size 2).length = 2 := leBytes_len _ _
  have e : ((⟨(leBytes s.size 2).toArray⟩ : ByteArray).data.toList ++ s.data.toList ++ R.data.toList).take 2 = leBytes s.size 2 := by
    rw [List.append_assoc]; exact List.take_left' hl
  rw [e, leNum_leBytes]
  omega

theorem tt_pre (s R : ByteArray) (h : s.size ≤ 1000) : ttE (pre s ++ R) = 0 ∧ ttX (pre s ++ R) = s ∧ ttR (pre s ++ R) = R := by
  have hp : (pre s).size = 2 + s.size := by rw [pre, ByteArray.size_append, pre_size]
  have hsz : (pre s ++ R).size = 2 + s.size + R.size := by rw [ByteArray.size_append, hp]
  have h2 : ¬ (pre s ++ R).size < 2 := by omega
  have hN := ttN_pre s R h
  have h3 : ¬ 1000 < ttN (pre s ++ R) := by omega
  have h4 : ¬ (pre s ++ R).size < 2 + ttN (pre s ++ R) := by omega
  have hok := rt_ok h2 h3 h4
  rw [hN] at hok
  have e1 : (pre s ++ R).extract 2 (2 + s.size) = s := by
    rw [ByteArray.extract_append, hp, pre]
    have ea : (⟨(leBytes s.size 2).toArray⟩ ++ s : ByteArray).extract 2 (2 + s.size) = s := ByteArray.extract_append_eq_right (pre_size _).symm (by rw [pre_size])
    have eb : R.extract (2 - (2 + s.size)) (2 + s.size - (2 + s.size)) = ⟨#[]⟩ := by
      rw [Nat.sub_self, show 2 - (2 + s.size) = 0 by omega]; simp
      rfl
    rw [ea, eb, app_empty]
  have e2 : (pre s ++ R).extract (2 + s.size) (pre s ++ R).size = R := ByteArray.extract_append_eq_right hp.symm (by rw [hsz, hp])
  rw [e1, e2] at hok
  simp only [v3, Value.tuple.injEq, Array.mk.injEq, List.cons.injEq, Value.string.injEq, Value.int.injEq] at hok
  simp at hok
  exact ⟨hok.2.2, hok.1, hok.2.1⟩

theorem tlGo_body (l : List ByteArray) (R : ByteArray) (hl : ∀ s ∈ l, s.size ≤ 1000) : ∀ acc, tlGo l.length (body l ++ R) acc = ⟨acc ++ l, R, 0⟩ := by
  induction l with
  | nil => intro acc; rw [body, empty_app]; simp [tlGo]
  | cons s l ih =>
    intro acc
    obtain ⟨h1, h2, h3⟩ := tt_pre s (body l ++ R) (hl s (by simp))
    rw [body, ByteArray.append_assoc, List.length_cons, tlGo, if_pos h1, h2, h3, ih (fun t ht => hl t (by simp [ht]))]
    simp

theorem lsGo_body (l : List ByteArray) (hl : ∀ s ∈ l, s.size ≤ 1000) : ∀ acc, lsGo l acc = (acc ++ body l, 0) := by
  induction l with
  | nil => intro acc; rw [lsGo, body, app_empty]
  | cons s l ih =>
    intro acc
    have := hl s (by simp)
    rw [lsGo, if_neg (by omega), ih (fun t ht => hl t (by simp [ht])), body, pre]
    simp only [ByteArray.append_assoc]

def listBytes (l : List ByteArray) : ByteArray := ⟨#[UInt8.ofNat l.length]⟩ ++ body l

theorem ls_ok (l : List ByteArray) (h : l.length ≤ 255) (hl : ∀ s ∈ l, s.size ≤ 1000) : ls l = (listBytes l, 0) := by
  rw [ls_go (by omega), lsGo_body l hl]; rfl

theorem tl_ok (l : List ByteArray) (R : ByteArray) (h : l.length ≤ 255) (hl : ∀ s ∈ l, s.size ≤ 1000) : tl (listBytes l ++ R) = ⟨l, R, 0⟩ := by
  have hsz : (listBytes l ++ R).size = 1 + (body l).size + R.size := by
    rw [listBytes, ByteArray.size_append, ByteArray.size_append]; rfl
  rw [tl_more (by omega)]
  have e1 : leNum ((listBytes l ++ R).data.toList.take 1) = l.length := by
    rw [listBytes, toList_app, toList_app]
    simp [leNum]; omega
  have e2 : (listBytes l ++ R).extract 1 (listBytes l ++ R).size = body l ++ R := by
    rw [listBytes, ByteArray.append_assoc]
    exact ByteArray.extract_append_eq_right rfl (by rw [ByteArray.size_append])
  rw [e1, e2, tlGo_body l R hl]
  rfl

theorem tk_ok (n k : Nat) (R : ByteArray) (h1 : 1 ≤ k) (h8 : k ≤ 8) (hn : n < 256 ^ k) :
    tkV (⟨(leBytes n k).toArray⟩ ++ R) k = .tuple #[.int .u64 n, .string R, .int .i64 0] := by
  have hp : (⟨(leBytes n k).toArray⟩ : ByteArray).size = k := by show (leBytes n k).toArray.size = k; simp [leBytes_len]
  have hsz : (⟨(leBytes n k).toArray⟩ ++ R : ByteArray).size = k + R.size := by rw [ByteArray.size_append, hp]
  rw [tkV_ok (by omega) (by omega)]
  have e1 : (⟨(leBytes n k).toArray⟩ ++ R : ByteArray).data.toList.take k = leBytes n k := by
    rw [toList_app]; exact List.take_left' (leBytes_len n k)
  have e2 : (⟨(leBytes n k).toArray⟩ ++ R : ByteArray).extract k (⟨(leBytes n k).toArray⟩ ++ R : ByteArray).size = R :=
    ByteArray.extract_append_eq_right hp.symm (by rw [hsz, hp])
  rw [e1, e2, leNum_leBytes, Nat.mod_eq_of_lt hn]
end Go.Proofs.Ytkflodclakngfaa
