/-
  The plain laws of a node's bytes: what was written is read, and what is read was written so.
-/
import Derived.Test.YtbmckmlekhkpeaaEnc
import Derived.Test.YtbmckmlekhkpeaaDec
set_option linter.unusedVariables false
namespace Go.Proofs.Ytbmckmlekhkpeaa
open Go.RowKit

theorem leNum_leBytes (n k : Nat) : leNum (leBytes n k) = n % 256 ^ k := by
  induction k with
  | zero => simp [leBytes, leNum, Nat.mod_one]
  | succ k ih =>
    have h := leNum_take (leBytes n (k + 1)) k (by rw [leBytes_len]; omega)
    rw [List.take_of_length_le (by rw [leBytes_len]; omega)] at h
    have e1 : (leBytes n (k + 1)).take k = leBytes n k := by
      rw [leBytes]; exact List.take_left' (leBytes_len n k)
    have e2 : (leBytes n (k + 1)).getD k 0 = UInt8.ofNat (n / 256 ^ k % 256) := by
      rw [leBytes]
      have := leBytes_len n k
      simp [List.getD, this]
    rw [e1, e2, ih] at h
    rw [h]
    have e3 : (2 : Nat) ^ (8 * k) = 256 ^ k := by rw [Nat.pow_mul]
    have e4 : (UInt8.ofNat (n / 256 ^ k % 256)).toNat = n / 256 ^ k % 256 := by simp
    rw [e3, e4, Nat.pow_succ, Nat.mod_mul, Nat.mul_comm (256 ^ k)]

theorem leBytes_cons (n k : Nat) : leBytes n (k + 1) = UInt8.ofNat (n % 256) :: leBytes (n / 256) k := by
  induction k with
  | zero => simp [leBytes]
  | succ k ih =>
    rw [leBytes, ih, leBytes, List.cons_append, Nat.div_div_eq_div_mul, Nat.pow_succ, Nat.mul_comm 256]

theorem leBytes_leNum (l : List UInt8) : leBytes (leNum l) l.length = l := by
  induction l with
  | nil => rfl
  | cons c l ih =>
    have hc := UInt8.toNat_lt c
    rw [List.length_cons, leBytes_cons, leNum]
    have e1 : (c.toNat + 256 * leNum l) % 256 = c.toNat := by omega
    have e2 : (c.toNat + 256 * leNum l) / 256 = leNum l := by omega
    rw [e1, e2, ih]; simp

abbrev SB (l : List UInt8) : ByteArray := ⟨l.toArray⟩
theorem sb_size (l : List UInt8) : (SB l).size = l.length := by simp [ByteArray.size]
theorem sb_data (s : ByteArray) : SB s.data.toList = s := by simp [SB]
theorem sb_drop (l : List UInt8) (k : Nat) : (SB l).extract k (SB l).size = SB (l.drop k) := by
  apply ByteArray.ext
  apply Array.toList_inj.1
  rw [ByteArray.data_extract]
  simp only [sb_size, List.extract_toArray, List.extract_eq_take_drop]
  rw [List.take_of_length_le (by simp)]
theorem tkE_sb (l : List UInt8) (k : Nat) (h1 : 1 ≤ k) (h8 : k ≤ 8) : tkE (SB l) k = if l.length < k then 10 else 0 := by
  unfold tkE
  rw [if_neg (by omega), sb_size]
  by_cases h : l.length < k
  · rw [if_pos h, if_pos (by omega)]
  · rw [if_neg h, if_neg (by omega)]
theorem tk_sb (l : List UInt8) (k : Nat) (h1 : 1 ≤ k) (h8 : k ≤ 8) (hl : k ≤ l.length) : tkE (SB l) k = 0 ∧ tkN (SB l) k = leNum (l.take k) ∧ tkR (SB l) k = SB (l.drop k) := by
  have e : tkE (SB l) k = 0 := by rw [tkE_sb l k h1 h8, if_neg (by omega)]
  refine ⟨e, ?_, ?_⟩
  · rw [tkN, if_pos e, Int.toNat_natCast]
  · rw [tkR, if_pos e, Int.toNat_natCast, sb_drop]

theorem rdB_cons (m : Nat) (b : UInt8) (l : List UInt8) : rdB m (SB (b :: l)) = if m ≤ b.toNat then .error 1 else .ok (b.toNat, SB l) := by
  obtain ⟨h0, h1, h2⟩ := tk_sb (b :: l) 1 (by omega) (by omega) (by simp)
  rw [Int.natCast_one] at h0 h1 h2
  have e : leNum (List.take 1 (b :: l)) = b.toNat := by simp [leNum]
  unfold rdB
  rw [h0, h1, h2, e, if_neg (by simp)]
  rfl
theorem rdB_nil (m : Nat) : rdB m (SB []) = .error 10 := by
  have h0 := tkE_sb [] 1 (by omega) (by omega)
  rw [Int.natCast_one] at h0
  unfold rdB
  rw [h0]
  rfl
theorem rdK_app (k l : List UInt8) (hk : k.length = 16) : rdK (SB (k ++ l)) = .ok (k, SB l) := by
  have hs : 16 ≤ (SB (k ++ l)).size := by rw [sb_size, List.length_append]; omega
  unfold rdK tyE tyK tyR
  rw [if_pos hs, if_pos hs, if_pos hs, if_neg (by simp), sb_drop]
  rw [← hk]
  simp
theorem rdN_app (x l : List UInt8) (hx : x.length = 8) : rdN (SB (x ++ l)) = .ok (leNum x, SB l) := by
  obtain ⟨h0, h1, h2⟩ := tk_sb (x ++ l) 8 (by omega) (by omega) (by rw [List.length_append]; omega)
  change tkE (SB (x ++ l)) 8 = 0 at h0
  change tkN (SB (x ++ l)) 8 = _ at h1
  change tkR (SB (x ++ l)) 8 = _ at h2
  unfold rdN
  rw [h0, h1, h2, if_neg (by simp), ← hx]
  simp

theorem rdB_inv {m n : Nat} {s s' : ByteArray} (h : rdB m s = .ok (n, s')) : n < m ∧ n < 256 ∧ s.data.toList = UInt8.ofNat n :: s'.data.toList := by
  rw [← sb_data s] at h ⊢
  generalize s.data.toList = l at *
  cases l with
  | nil => rw [rdB_nil] at h; cases h
  | cons b l =>
    rw [rdB_cons] at h
    split at h
    · cases h
    · injection h with h
      injection h with h1 h2
      subst h1 h2
      have := b.toNat_lt
      exact ⟨by omega, by omega, by simp⟩
theorem rdK_inv {k : List UInt8} {s s' : ByteArray} (h : rdK s = .ok (k, s')) : k.length = 16 ∧ s.data.toList = k ++ s'.data.toList := by
  have hk := (rdK_ok h).1
  rw [← sb_data s] at h ⊢
  generalize s.data.toList = l at *
  by_cases hl : 16 ≤ l.length
  · have e : l = l.take 16 ++ l.drop 16 := (List.take_append_drop 16 l).symm
    rw [e, rdK_app _ _ (by simp; omega)] at h
    injection h with h
    injection h with h1 h2
    subst h1 h2
    exact ⟨hk, by simp⟩
  · have e : tyE (SB l) = 10 := if_neg (by rw [sb_size]; exact hl)
    unfold rdK at h
    rw [e, if_pos (by decide)] at h
    cases h
theorem rdN_inv {n : Nat} {s s' : ByteArray} (h : rdN s = .ok (n, s')) : s.data.toList = leBytes n 8 ++ s'.data.toList := by
  rw [← sb_data s] at h ⊢
  generalize s.data.toList = l at *
  by_cases hl : 8 ≤ l.length
  · have e : l = l.take 8 ++ l.drop 8 := (List.take_append_drop 8 l).symm
    have h8 : (l.take 8).length = 8 := by simp; omega
    rw [e, rdN_app _ _ h8] at h
    injection h with h
    injection h with h1 h2
    subst h1 h2
    have := leBytes_leNum (l.take 8)
    rw [h8] at this
    rw [this]
    simp
  · have h0 := tkE_sb l 8 (by omega) (by omega)
    change tkE (SB l) 8 = _ at h0
    rw [if_pos (by omega)] at h0
    unfold rdN at h
    rw [h0] at h
    cases h

theorem rdC_enc (leaf : Bool) (c : Ch) (h : c.Ok) (hm : mayC leaf c = true) (R : List UInt8) : rdC leaf (SB (encC leaf c ++ R)) = .ok (c, SB R) := by
  cases hh : c.has with
  | false =>
    rw [mayC, if_pos hh] at hm
    obtain rfl := Ch.eqv_iff.1 hm
    unfold rdC
    rw [show encC leaf chZ ++ R = 0 :: R from rfl, rdB_cons]
    rfl
  | true =>
    have hb := mayC_has hm hh
    rw [mayC, if_neg (by simp [hh]), Bool.and_eq_true] at hm
    have hm2 := hm.2
    obtain ⟨has, sg, pg, key, ex, ver⟩ := c
    simp only at hh hb hm2
    subst hh
    obtain ⟨sg, rfl⟩ := Int.eq_ofNat_of_zero_le hb.1
    obtain ⟨pg, rfl⟩ := Int.eq_ofNat_of_zero_le hb.2.2.1
    obtain ⟨ex, rfl⟩ := Int.eq_ofNat_of_zero_le h.ex.1
    obtain ⟨ver, rfl⟩ := Int.eq_ofNat_of_zero_le h.ver.1
    have hex : ex ≤ 18446744073709551615 := by have := h.ex.2; simp only at this; omega
    have hver : ver ≤ 18446744073709551615 := by have := h.ver.2; simp only at this; omega
    have hk : key.length = 16 := h.len
    have e1 : (UInt8.ofNat sg).toNat = sg := by rw [UInt8.toNat_ofNat']; omega
    have e2 : (UInt8.ofNat pg).toNat = pg := by rw [UInt8.toNat_ofNat']; omega
    have henc : encC leaf ⟨true, (sg : Int), (pg : Int), key, (ex : Int), (ver : Int)⟩ ++ R = 1 :: UInt8.ofNat sg :: UInt8.ofNat pg :: (key ++ ((if leaf = true then leBytes ex 8 ++ leBytes ver 8 else []) ++ R)) := by
      simp [encC, flagB]
    rw [henc]
    unfold rdC
    rw [rdB_cons, if_neg (by decide)]
    simp only [show (1 : UInt8).toNat = 1 from rfl, Nat.one_ne_zero, if_false]
    rw [rdB_cons, e1, if_neg (by omega)]
    simp only
    rw [rdB_cons, e2, if_neg (by omega)]
    simp only
    rw [rdK_app _ _ hk]
    simp only
    cases leaf with
    | false =>
      simp only [Bool.false_or, Bool.and_eq_true, beq_iff_eq] at hm2
      simp [hm2.1, hm2.2]
    | true =>
      simp only [Bool.true_eq_false, if_false, if_true, List.append_assoc]
      have p : (256 : Nat) ^ 8 = 18446744073709551616 := rfl
      rw [rdN_app _ _ (leBytes_len _ _)]
      simp only
      rw [rdN_app _ _ (leBytes_len _ _)]
      simp only
      rw [leNum_leBytes, leNum_leBytes, p, Nat.mod_eq_of_lt (by omega), Nat.mod_eq_of_lt (by omega)]

theorem rdP_enc (leaf : Bool) : ∀ (k : Nat) (cs : List Ch), k ≤ cs.length → (∀ c ∈ cs, c.Ok) → (∀ c ∈ cs, mayC leaf c = true) → ∀ R, rdP leaf (SB ((cs.take k).flatMap (encC leaf) ++ R)) k = .ok (cs.take k, SB R)
  | 0, cs, _, _, _, R => by simp [rdP]
  | k + 1, cs, hk, ho, hm, R => by
    have hlt : k < cs.length := by omega
    have e : cs.take (k + 1) = cs.take k ++ [cs[k]] := (List.take_append_getElem hlt).symm
    rw [rdP, e, List.flatMap_append, List.append_assoc, rdP_enc leaf k cs (by omega) ho hm]
    simp only [List.flatMap_cons, List.flatMap_nil, List.append_nil]
    rw [rdC_enc leaf cs[k] (ho _ (List.getElem_mem hlt)) (hm _ (List.getElem_mem hlt))]

/-- What was written is read. -/
theorem rdNd_enc (n : Nd) (h : n.Ok) (hm : mayN n = true) : rdNd (SB (encN n)) = .ok n := by
  have hall : ∀ c ∈ n.cs, mayC n.leaf c = true := List.all_eq_true.1 hm
  have hp := rdP_enc n.leaf 4 n.cs (by rw [h.len]; omega) h.ok hall []
  rw [List.append_nil] at hp
  have ht : n.cs.take 4 = n.cs := List.take_of_length_le (by rw [h.len]; omega)
  have e : encN n = (if n.leaf = true then 1 else 0) :: (n.cs.take 4).flatMap (encC n.leaf) := rfl
  unfold rdNd
  rw [e, rdB_cons]
  cases hl : n.leaf with
  | false =>
    rw [hl] at hp
    simp only [Bool.false_eq_true, if_false, show (0 : UInt8).toNat = 0 from rfl, show ¬ (2 ≤ 0) by omega, show ((0 : Nat) == 1) = false from rfl]
    rw [hp, ht]
    simp only [sb_size, List.length_nil, if_true]
    rw [← hl]
  | true =>
    rw [hl] at hp
    simp only [if_true, show (1 : UInt8).toNat = 1 from rfl, show ¬ (2 ≤ 1) by omega, if_false, show ((1 : Nat) == 1) = true from rfl]
    rw [hp, ht]
    simp only [sb_size, List.length_nil, if_true]
    rw [← hl]

theorem rdC_inv {leaf : Bool} {s s' : ByteArray} {c : Ch} (h : rdC leaf s = .ok (c, s')) : mayC leaf c = true ∧ s.data.toList = encC leaf c ++ s'.data.toList := by
  unfold rdC at h
  split at h
  · cases h
  · rename_i h1 s1 e1
    obtain ⟨a1, b1, d1⟩ := rdB_inv e1
    split at h
    · rename_i h0
      subst h0
      injection h with h
      injection h with h1 h2
      subst h1 h2
      exact ⟨rfl, by rw [d1]; rfl⟩
    · rename_i h0
      obtain rfl : h1 = 1 := by omega
      split at h
      · cases h
      · rename_i sg s2 e2
        obtain ⟨a2, b2, d2⟩ := rdB_inv e2
        split at h
        · cases h
        · rename_i pg s3 e3
          obtain ⟨a3, b3, d3⟩ := rdB_inv e3
          split at h
          · cases h
          · rename_i k s4 e4
            obtain ⟨a4, d4⟩ := rdK_inv e4
            have may : ∀ (x y : Int), (leaf || (x == 0 && y == 0)) = true → mayC leaf ⟨true, sg, pg, k, x, y⟩ = true := by
              intro x y hxy
              rw [mayC, if_neg (by simp)]
              simp only [hxy, Bool.and_true, decide_eq_true_iff]
              omega
            split at h
            · rename_i hl
              injection h with h
              injection h with h1 h2
              subst h1 h2
              refine ⟨may 0 0 (by simp), ?_⟩
              rw [d1, d2, d3, d4]
              simp [encC, flagB, hl]
            · rename_i hl
              split at h
              · cases h
              · rename_i ex s5 e5
                have d5 := rdN_inv e5
                split at h
                · cases h
                · rename_i ver s6 e6
                  have d6 := rdN_inv e6
                  injection h with h
                  injection h with h1 h2
                  subst h1 h2
                  have hlt : leaf = true := by simpa using hl
                  refine ⟨may ex ver (by simp [hlt]), ?_⟩
                  rw [d1, d2, d3, d4, d5, d6]
                  simp [encC, flagB, hlt]
theorem rdP_inv {leaf : Bool} {s : ByteArray} : ∀ {k : Nat} {l : List Ch} {s' : ByteArray}, rdP leaf s k = .ok (l, s') → (∀ c ∈ l, mayC leaf c = true) ∧ s.data.toList = l.flatMap (encC leaf) ++ s'.data.toList
  | 0, l, s', h => by
    injection h with h
    injection h with h1 h2
    subst h1 h2
    simp
  | k + 1, l, s', h => by
    unfold rdP at h
    split at h
    · cases h
    · rename_i l0 s0 e0
      obtain ⟨a, b⟩ := rdP_inv e0
      split at h
      · cases h
      · rename_i c1 s1 e1
        obtain ⟨a1, b1⟩ := rdC_inv e1
        injection h with h
        injection h with h1 h2
        subst h1 h2
        refine ⟨?_, by rw [b, b1]; simp⟩
        intro d hd
        rw [List.mem_append, List.mem_singleton] at hd
        rcases hd with hd | rfl
        · exact a d hd
        · exact a1
/-- What is read was written so. -/
theorem rdNd_inv {s : ByteArray} {n : Nd} (h : rdNd s = .ok n) : n.Ok ∧ mayN n = true ∧ SB (encN n) = s := by
  unfold rdNd at h
  split at h
  · cases h
  · rename_i h1 s1 e1
    obtain ⟨a1, b1, d1⟩ := rdB_inv e1
    split at h
    · cases h
    · rename_i l s' e2
      obtain ⟨a2, b2⟩ := rdP_inv e2
      obtain ⟨c1, c2, c3⟩ := rdP_ok e2
      split at h
      · rename_i hz
        injection h with h
        subst h
        refine ⟨⟨c1, c2⟩, List.all_eq_true.2 a2, ?_⟩
        have hs : s'.data.toList = [] := by
          have : s'.data.toList.length = 0 := by simpa using hz
          exact List.eq_nil_of_length_eq_zero this
        rw [← sb_data s, d1, b2, hs, List.append_nil]
        have e : encN ⟨h1 == 1, l⟩ = (if (h1 == 1) = true then 1 else 0) :: (l.take 4).flatMap (encC (h1 == 1)) := rfl
        rw [e, List.take_of_length_le (by omega)]
        obtain rfl | rfl : h1 = 0 ∨ h1 = 1 := by omega
        · rfl
        · rfl
      · cases h
end Go.Proofs.Ytbmckmlekhkpeaa
