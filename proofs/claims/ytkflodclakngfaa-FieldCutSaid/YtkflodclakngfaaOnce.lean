/-
  Bytes that are taken are written so: plain laws.
-/
import Derived.Test.YtkflodclakngfaaBack
set_option linter.unusedVariables false
namespace Go.Proofs.Ytkflodclakngfaa
open Go.RowKit

theorem leBytes_cons (n k : Nat) : leBytes n (k + 1) = UInt8.ofNat (n % 256) :: leBytes (n / 256) k := by
  induction k with
  | zero => simp [leBytes]
  | succ k ih =>
    rw [leBytes, ih, leBytes, List.cons_append, Nat.div_div_eq_div_mul, Nat.pow_succ, Nat.mul_comm 256]

theorem leBytes_leNum (l : List UInt8) : leBytes (leNum l) l.length = l := by
  induction l with
  | nil => rfl
  | cons c l ih =>
    have hc := UInt8.toNat_lt c
    rw [List.length_cons, leBytes_cons, leNum]
    have e1 : (c.toNat + 256 * leNum l) % 256 = c.toNat := by omega
    have e2 : (c.toNat + 256 * leNum l) / 256 = leNum l := by omega
    rw [e1, e2, ih]; simp

theorem extract_list (s : ByteArray) (n : Nat) : s.extract 0 n = ⟨(s.data.toList.take n).toArray⟩ := by
  apply ByteArray.ext
  apply Array.toList_inj.1
  simp

theorem extract_whole (s : ByteArray) : s.extract 0 s.size = s := by
  rw [extract_list, List.take_of_length_le (by simp)]

theorem cut2 (s : ByteArray) (a : Nat) (h : a ≤ s.size) : s = s.extract 0 a ++ s.extract a s.size := by
  have := ByteArray.extract_eq_extract_append_extract (a := s) (i := 0) (k := s.size) a (Nat.zero_le _) h
  rw [extract_whole] at this
  exact this

theorem tt_parts {s : ByteArray} (h : ttE s = 0) : 2 ≤ s.size ∧ ttN s ≤ 1000 ∧ 2 + ttN s ≤ s.size := by
  unfold ttE at h
  split at h
  · cases h
  · unfold tcE at h
    split at h
    · cases h
    · split at h
      · cases h
      · rename_i a b c
        rw [ByteArray.size_extract] at c
        omega

theorem tt_whole {s : ByteArray} (h : ttE s = 0) : s = pre (ttX s) ++ ttR s ∧ (ttX s).size ≤ 1000 := by
  obtain ⟨h1, h2, h3⟩ := tt_parts h
  have hok := rt_ok (s := s) (by omega) (by omega) (by omega)
  simp only [v3, Value.tuple.injEq, Array.mk.injEq, List.cons.injEq, Value.string.injEq, Value.int.injEq] at hok
  simp at hok
  refine ⟨?_, ttX_size s⟩
  have hX : (ttX s).size = ttN s := by rw [hok.1, ByteArray.size_extract]; omega
  have hl : (s.data.toList.take 2).length = 2 := by
    have : s.data.toList.length = s.size := by simp
    simp [this]; omega
  have hb : leBytes (ttN s) 2 = s.data.toList.take 2 := by
    have := leBytes_leNum (s.data.toList.take 2)
    rw [hl] at this
    exact this
  rw [pre, hX, hb, ← extract_list, hok.1, hok.2.1]
  have e1 := ByteArray.extract_eq_extract_append_extract (a := s) (i := 0) (k := 2 + ttN s) 2 (by omega) (by omega)
  rw [← e1]
  exact cut2 s _ h3

theorem tt_nil {s : ByteArray} (h : ttE s ≠ 0) : ttX s = ⟨#[]⟩ ∧ ttR s = ⟨#[]⟩ := by
  unfold ttE at h
  unfold ttX ttR
  split
  · exact ⟨rfl, rfl⟩
  · rename_i h2
    rw [if_neg h2] at h
    rw [tcX, tcR, if_neg h, if_neg h]
    exact ⟨rfl, rfl⟩

theorem tlGo_whole (n : Nat) : ∀ (r : ByteArray) (acc : List ByteArray), (tlGo n r acc).e = 0 →
    ∃ l, (tlGo n r acc).l = acc ++ l ∧ l.length = n ∧ (∀ s ∈ l, s.size ≤ 1000) ∧ r = body l ++ (tlGo n r acc).r := by
  induction n with
  | zero => intro r acc _; exact ⟨[], by simp [tlGo], rfl, by simp, by rw [body, empty_app]; rfl⟩
  | succ n ih =>
    intro r acc h
    by_cases he : ttE r = 0
    · rw [tlGo, if_pos he] at h ⊢
      obtain ⟨l, h1, h2, h3, h4⟩ := ih _ _ h
      obtain ⟨h5, h6⟩ := tt_whole he
      refine ⟨ttX r :: l, by rw [h1]; simp, by simp [h2], ?_, ?_⟩
      · intro s hs
        rcases List.mem_cons.1 hs with rfl | hs
        · exact h6
        · exact h3 s hs
      · rw [body, ByteArray.append_assoc, ← h4]; exact h5
    · rw [tlGo, if_neg he] at h
      exact absurd h he

theorem tl_whole {s : ByteArray} (h : (tl s).e = 0) : s = listBytes (tl s).l ++ (tl s).r ∧ (tl s).l.length ≤ 255 ∧ ∀ t ∈ (tl s).l, t.size ≤ 1000 := by
  by_cases h1 : s.size < 1
  · rw [tl_short h1] at h; cases h
  · rw [tl_more h1] at h ⊢
    obtain ⟨l, h2, h3, h4, h5⟩ := tlGo_whole _ _ _ h
    rw [List.nil_append] at h2
    have hn := leNum_lt_take s.data.toList 1 0
    rw [h2]
    refine ⟨?_, by omega, h4⟩
    have hl : (s.data.toList.take 1).length = 1 := by
      have : s.data.toList.length = s.size := by simp
      simp [this]; omega
    have hb : leBytes (leNum (s.data.toList.take 1)) 1 = s.data.toList.take 1 := by
      have := leBytes_leNum (s.data.toList.take 1)
      rw [hl] at this
      exact this
    have e1 : [UInt8.ofNat l.length] = s.data.toList.take 1 := by
      have e0 : leNum (s.data.toList.take 1) % 256 = leNum (s.data.toList.take 1) := by omega
      rw [← hb, leBytes_cons, h3, e0, leBytes]
    have e2 : s.extract 0 1 = ⟨#[UInt8.ofNat l.length]⟩ := by rw [extract_list, ← e1]
    rw [listBytes, ByteArray.append_assoc, ← h5, ← e2]
    exact cut2 s 1 (by omega)
end Go.Proofs.Ytkflodclakngfaa
