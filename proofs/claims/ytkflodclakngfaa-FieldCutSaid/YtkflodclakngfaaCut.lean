/-
  What is cut short is missed: plain laws.
-/
import Derived.Test.YtkflodclakngfaaOnce
set_option linter.unusedVariables false
namespace Go.Proofs.Ytkflodclakngfaa
open Go.RowKit

theorem cut_size (s : ByteArray) (m : Nat) (h : m ≤ s.size) : (s.extract 0 m).size = m := by
  rw [ByteArray.size_extract]; omega

theorem cut_list (s : ByteArray) (m : Nat) : (s.extract 0 m).data.toList = s.data.toList.take m := by
  rw [extract_list]

theorem cut_app (a b : ByteArray) (m : Nat) (h : a.size ≤ m) : (a ++ b).extract 0 m = a ++ b.extract 0 (m - a.size) := by
  apply ByteArray.ext
  apply Array.toList_inj.1
  have e : a.data.toList.length = a.size := by simp
  rw [cut_list, toList_app, toList_app, cut_list, List.take_append, List.take_of_length_le (by omega), e]

theorem cut_left (a b : ByteArray) (m : Nat) (h : m ≤ a.size) : (a ++ b).extract 0 m = a.extract 0 m := by
  apply ByteArray.ext
  apply Array.toList_inj.1
  have e : a.data.toList.length = a.size := by simp
  rw [cut_list, toList_app, cut_list, List.take_append_of_le_length (by omega)]

theorem tt_cut (s : ByteArray) (m : Nat) (hs : s.size ≤ 1000) (h : m < (pre s).size) : ttE ((pre s).extract 0 m) = 10 := by
  have hp : (pre s).size = 2 + s.size := by rw [pre, ByteArray.size_append, pre_size]
  have hsz := cut_size (pre s) m (by omega)
  by_cases h2 : m < 2
  · unfold ttE; rw [if_pos (by omega)]
  · have hN : ttN ((pre s).extract 0 m) = s.size := by
      have := ttN_pre s ⟨#[]⟩ hs
      rw [app_empty] at this
      unfold ttN at this ⊢
      rw [cut_list, List.take_take, show min 2 m = 2 by omega]
      exact this
    have h3 := rt_short (s := (pre s).extract 0 m) (by omega) (by omega) (by omega)
    simp only [v3, Value.tuple.injEq, Array.mk.injEq, List.cons.injEq, Value.string.injEq, Value.int.injEq] at h3
    simp at h3
    exact h3.2.2

theorem tlGo_cut (l : List ByteArray) (hl : ∀ s ∈ l, s.size ≤ 1000) : ∀ (m : Nat) (acc : List ByteArray), m < (body l).size → (tlGo l.length ((body l).extract 0 m) acc).e = 10 := by
  induction l with
  | nil => intro m acc h; exact absurd h (Nat.not_lt_zero _)
  | cons s l ih =>
    intro m acc h
    have hs := hl s (by simp)
    rw [body, ByteArray.size_append] at h
    rw [body, List.length_cons]
    by_cases hm : m < (pre s).size
    · rw [cut_left _ _ _ (by omega), tlGo, tt_cut s m hs hm]
      rfl
    · rw [cut_app _ _ _ (by omega)]
      obtain ⟨h1, h2, h3⟩ := tt_pre s ((body l).extract 0 (m - (pre s).size)) hs
      rw [tlGo, if_pos h1, h2, h3]
      exact ih (fun t ht => hl t (by simp [ht])) _ _ (by omega)

theorem tl_cut (l : List ByteArray) (h : l.length ≤ 255) (hl : ∀ s ∈ l, s.size ≤ 1000) (m : Nat) (hm : m < (listBytes l).size) : (tl ((listBytes l).extract 0 m)).e = 10 := by
  have e1 : (⟨#[UInt8.ofNat l.length]⟩ : ByteArray).size = 1 := rfl
  have hsz := cut_size (listBytes l) m (by omega)
  rw [listBytes, ByteArray.size_append, e1] at hm
  by_cases h1 : m < 1
  · rw [tl_short (by omega)]
  · have e2 : (listBytes l).extract 0 m = ⟨#[UInt8.ofNat l.length]⟩ ++ (body l).extract 0 (m - 1) := by
      rw [listBytes, cut_app _ _ _ (by omega), e1]
    rw [tl_more (by omega), e2]
    have e3 : leNum ((⟨#[UInt8.ofNat l.length]⟩ ++ (body l).extract 0 (m - 1) : ByteArray).data.toList.take 1) = l.length := by
      rw [toList_app]
      simp [leNum]; omega
    have e4 : (⟨#[UInt8.ofNat l.length]⟩ ++ (body l).extract 0 (m - 1) : ByteArray).extract 1 (⟨#[UInt8.ofNat l.length]⟩ ++ (body l).extract 0 (m - 1) : ByteArray).size = (body l).extract 0 (m - 1) :=
      ByteArray.extract_append_eq_right rfl (by rw [ByteArray.size_append])
    rw [e3, e4]
    exact tlGo_cut l hl _ _ (by omega)

theorem tk_cut (s : ByteArray) (m : Nat) (h : m < 8) (hs : s.size = 8) : tkV (s.extract 0 m) 8 = .tuple #[.int .u64 0, .string ⟨#[]⟩, .int .i64 10] :=
  tkV_short (by omega) (by rw [cut_size _ _ (by omega)]; omega)
end Go.Proofs.Ytkflodclakngfaa
