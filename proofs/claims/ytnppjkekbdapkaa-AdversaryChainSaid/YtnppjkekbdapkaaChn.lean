/-
  Chain: the plain part.
-/
import Derived.Test.YtnppjkekbdapkaaCls
set_option linter.unusedVariables false
namespace Go.Proofs.Ytnppjkekbdapkaa
open Go.RowKit

def chA (j : Nat) : List Nd := [⟨0, 7, 0⟩] ++ (List.range j).map fun i : Nat => ⟨1, (i : Int), 0⟩
def chB (m j : Nat) : List Nd := chA (m + 1) ++ (List.range j).map fun i : Nat => ⟨3, 1 + (i : Int), 2 + (i : Int)⟩
def chL (m : Nat) : List Nd := chB m m ++ [⟨3, 1 + (m : Int), 0⟩]
def chJ (m j : Nat) : List Int := (List.range j).map fun i : Nat => (m : Int) + 2 + (i : Int)
def chK (m : Nat) : List Int := chJ m (m + 1)
theorem chA_len (j : Nat) : (chA j).length = 1 + j := by simp [chA]; omega
theorem chB_len (m j : Nat) : (chB m j).length = m + 2 + j := by simp [chB, chA_len]; omega
theorem chL_len (m : Nat) : (chL m).length = 2 * m + 3 := by simp [chL, chB_len]; omega
theorem chA_next (j : Nat) : chA (j + 1) = chA j ++ [⟨1, (j : Int), 0⟩] := by simp [chA, List.range_succ]
theorem chB_next (m j : Nat) : chB m (j + 1) = chB m j ++ [⟨3, 1 + (j : Int), 2 + (j : Int)⟩] := by simp [chB, List.range_succ]
theorem chJ_next (m j : Nat) : chJ m (j + 1) = chJ m j ++ [(m : Int) + 2 + (j : Int)] := by simp [chJ, List.range_succ]
theorem chJ_len (m j : Nat) : (chJ m j).length = j := by simp [chJ]
theorem ch_get (m : Nat) : (chL m)[0]? = some ⟨0, 7, 0⟩ ∧ (∀ i, i ≤ m → (chL m)[1 + i]? = some ⟨1, (i : Int), 0⟩) ∧ (∀ i, i < m → (chL m)[m + 2 + i]? = some ⟨3, 1 + (i : Int), 2 + (i : Int)⟩) ∧ (chL m)[2 * m + 2]? = some ⟨3, 1 + (m : Int), 0⟩ := by
  have hA := chA_len (m + 1)
  have hB := chB_len m m
  refine ⟨?_, fun i hi => ?_, fun i hi => ?_, ?_⟩
  · rw [chL, List.getElem?_append_left (by omega), chB, List.getElem?_append_left (by omega)]
    rfl
  · rw [chL, List.getElem?_append_left (by omega), chB, List.getElem?_append_left (by omega), chA, List.getElem?_append_right (by simp), show 1 + i - ([⟨0, 7, 0⟩] : List Nd).length = i by simp, List.getElem?_map, List.getElem?_range (by omega)]
    rfl
  · rw [chL, List.getElem?_append_left (by omega), chB, List.getElem?_append_right (by omega), hA]
    rw [show m + 2 + i - (1 + (m + 1)) = i by omega]
    simp [hi]
  · rw [chL, List.getElem?_append_right (by omega), hB]
    rw [show 2 * m + 2 - (m + 2 + m) = 0 by omega]
    rfl
theorem ch_at {m j : Nat} {x : Nd} (h : (chL m)[j]? = some x) : (j = 0 ∧ x = ⟨0, 7, 0⟩) ∨ (∃ i, i ≤ m ∧ j = 1 + i ∧ x = ⟨1, (i : Int), 0⟩) ∨ (∃ i, i < m ∧ j = m + 2 + i ∧ x = ⟨3, 1 + (i : Int), 2 + (i : Int)⟩) ∨ (j = 2 * m + 2 ∧ x = ⟨3, 1 + (m : Int), 0⟩) := by
  have hj := (List.getElem?_eq_some_iff.1 h).1
  rw [chL_len] at hj
  obtain ⟨g0, g1, g2, g3⟩ := ch_get m
  by_cases h0 : j = 0
  · subst h0
    exact .inl ⟨rfl, Option.some.inj (h.symm.trans g0)⟩
  · by_cases h1 : j ≤ 1 + m
    · obtain ⟨i, rfl⟩ : ∃ i, j = 1 + i := ⟨j - 1, by omega⟩
      exact .inr (.inl ⟨i, by omega, rfl, Option.some.inj (h.symm.trans (g1 i (by omega)))⟩)
    · by_cases h2 : j < 2 * m + 2
      · obtain ⟨i, rfl⟩ : ∃ i, j = m + 2 + i := ⟨j - (m + 2), by omega⟩
        exact .inr (.inr (.inl ⟨i, by omega, rfl, Option.some.inj (h.symm.trans (g2 i (by omega)))⟩))
      · obtain rfl : j = 2 * m + 2 := by omega
        exact .inr (.inr (.inr ⟨rfl, Option.some.inj (h.symm.trans g3)⟩))
theorem ch_cl {m i : Nat} (hi : i < 2 * m + 3) : cl (chL m) i = (i : Int) := by
  refine cl_own ?_ ?_ (by rw [chL_len]; exact hi)
  · refine List.pairwise_iff_getElem.2 fun a b ha hb hab => ?_
    have h1 := ch_at (List.getElem?_eq_getElem ha)
    have h2 := ch_at (List.getElem?_eq_getElem hb)
    intro e
    rw [e] at h1
    rcases h1 with ⟨rfl, h1⟩ | ⟨i, hi, rfl, h1⟩ | ⟨i, hi, rfl, h1⟩ | ⟨rfl, h1⟩ <;> rcases h2 with ⟨rfl, h2⟩ | ⟨i', hi', rfl, h2⟩ | ⟨i', hi', rfl, h2⟩ | ⟨rfl, h2⟩ <;> (rw [h1] at h2; simp at h2; try omega)
  · intro i x h ho
    rcases ch_at h with ⟨rfl, rfl⟩ | ⟨i, hi, rfl, rfl⟩ | ⟨i, hi, rfl, rfl⟩ | ⟨rfl, rfl⟩
    · simp at ho
    · simp at ho
    · dsimp only
      omega
    · dsimp only
      omega
theorem ch_may {m : Nat} (hm : m ≤ 20) : mayB (chL m) = true := by
  have hl := chL_len m
  rw [may_end, decide_eq_true_iff]
  · omega
  · intro i hi
    have hx : (chL m)[i]? = some (chL m)[i] := List.getElem?_eq_getElem hi
    have hgd : (chL m).getD i nd0 = (chL m)[i] := by rw [List.getD_eq_getElem?_getD, hx]; rfl
    have tk : ((chL m).take i).length = i := by rw [List.length_take]; omega
    unfold rightAt
    rw [hgd]
    generalize (chL m)[i] = x at *
    have lock : ∀ p q : Nat, p ≤ m → q < i → 1 + p < i → rightB ((chL m).take i) ⟨3, 1 + (p : Int), (q : Int)⟩ = true := by
      intro p q hp hq hpi
      unfold rightB
      rw [if_neg (by simp), if_neg (by rw [tk]; simp; omega)]
      have e : (1 + (p : Int)).toNat = 1 + p := by omega
      simp only [e]
      rw [List.getD_eq_getElem?_getD, List.getElem?_take, if_pos hpi, (ch_get m).2.1 p hp]
      rfl
    rcases ch_at hx with ⟨rfl, rfl⟩ | ⟨j, hj, rfl, rfl⟩ | ⟨j, hj, rfl, rfl⟩ | ⟨rfl, rfl⟩
    · rfl
    · unfold rightB
      rw [if_pos (.inr rfl)]
      simp
      omega
    · have := lock j (2 + j) (by omega) (by omega) (by omega)
      simpa using this
    · have := lock m 0 (by omega) (by omega) (by omega)
      simpa using this
/-- What the locks let be known. -/
theorem ch_step {m : Nat} {K : Int → Prop} {c : Int} (h : Step (chL m) K c) : ((m : Int) + 2 ≤ c ∧ c ≤ 2 * m + 2) ∨ (∃ i : Nat, i < m ∧ K (1 + (i : Int)) ∧ c = 2 + (i : Int)) ∨ (K (1 + (m : Int)) ∧ c = 0) := by
  obtain ⟨j, x, hx, ho, hat⟩ := h
  rcases ch_at hx with ⟨rfl, rfl⟩ | ⟨i, hi, rfl, rfl⟩ | ⟨i, hi, rfl, rfl⟩ | ⟨rfl, rfl⟩
  · simp at ho
  · simp at ho
  · have e1 : cl (chL m) (1 + (i : Int)).toNat = 1 + (i : Int) := by rw [show (1 + (i : Int)).toNat = 1 + i by omega, ch_cl (by omega)]; omega
    have e2 : cl (chL m) (2 + (i : Int)).toNat = 2 + (i : Int) := by rw [show (2 + (i : Int)).toNat = 2 + i by omega, ch_cl (by omega)]; omega
    unfold At at hat
    rw [e1, e2, ch_cl (by omega)] at hat
    rcases hat with ⟨rfl, _⟩ | ⟨_, h2, _⟩ | ⟨_, _, h3, rfl⟩
    · exact .inl ⟨by omega, by omega⟩
    · simp at h2
    · exact .inr (.inl ⟨i, hi, h3, rfl⟩)
  · have e1 : cl (chL m) (1 + (m : Int)).toNat = 1 + (m : Int) := by rw [show (1 + (m : Int)).toNat = 1 + m by omega, ch_cl (by omega)]; omega
    have e2 : cl (chL m) (0 : Int).toNat = 0 := by rw [show (0 : Int).toNat = 0 by rfl, ch_cl (by omega)]; rfl
    unfold At at hat
    rw [e1, e2, ch_cl (by omega)] at hat
    rcases hat with ⟨rfl, _⟩ | ⟨_, h2, _⟩ | ⟨_, _, h3, rfl⟩
    · exact .inl ⟨by omega, by omega⟩
    · simp at h2
    · exact .inr (.inr ⟨h3, rfl⟩)
theorem ch_open {m : Nat} {K : Int → Prop} : (∀ i : Nat, i < m → K ((m : Int) + 2 + (i : Int)) → K (1 + (i : Int)) → Step (chL m) K (2 + (i : Int))) ∧ (K (2 * (m : Int) + 2) → K (1 + (m : Int)) → Step (chL m) K 0) := by
  refine ⟨fun i hi h1 h2 => ?_, fun h1 h2 => ?_⟩
  · refine ⟨m + 2 + i, _, (ch_get m).2.2.1 i hi, .inr rfl, .inr (.inr ⟨?_, rfl, ?_, ?_⟩)⟩
    · rw [ch_cl (by omega)]
      rw [show ((m + 2 + i : Nat) : Int) = (m : Int) + 2 + (i : Int) by omega]
      exact h1
    · dsimp only
      rw [show (1 + (i : Int)).toNat = 1 + i by omega, ch_cl (by omega), show ((1 + i : Nat) : Int) = 1 + (i : Int) by omega]
      exact h2
    · dsimp only
      rw [show (2 + (i : Int)).toNat = 2 + i by omega, ch_cl (by omega)]
      omega
  · refine ⟨2 * m + 2, _, (ch_get m).2.2.2, .inr rfl, .inr (.inr ⟨?_, rfl, ?_, ?_⟩)⟩
    · rw [ch_cl (by omega)]
      rw [show ((2 * m + 2 : Nat) : Int) = 2 * (m : Int) + 2 by omega]
      exact h1
    · dsimp only
      rw [show (1 + (m : Int)).toNat = 1 + m by omega, ch_cl (by omega), show ((1 + m : Nat) : Int) = 1 + (m : Int) by omega]
      exact h2
    · dsimp only
      rw [show (0 : Int).toNat = 0 by rfl, ch_cl (by omega)]
      rfl
theorem chK_mem {m : Nat} {x : Int} (h : x ∈ chK m) : (m : Int) + 2 ≤ x ∧ x ≤ 2 * m + 2 := by
  unfold chK chJ at h
  obtain ⟨i, hi, rfl⟩ := List.mem_map.1 h
  have := List.mem_range.1 hi
  omega
theorem chK_in {m i : Nat} (hi : i ≤ m) : (m : Int) + 2 + (i : Int) ∈ chK m := List.mem_map.2 ⟨i, List.mem_range.2 (by omega), rfl⟩
theorem ch_seed {m : Nat} {kn : List Int} {j : Nat} (h : (j : Int) ∈ kn) (hj : j < 2 * m + 3) : Der (chL m) (Seed (chL m) kn) (j : Int) :=
  Der.of ⟨(j : Int), h, by omega, by rw [chL_len]; omega, by rw [Int.toNat_natCast, ch_cl hj]⟩
/-- From the key k on all is opened. -/
theorem ch_yes {m k : Nat} (hk : k ≤ m) : (∀ i, k ≤ i → i ≤ m → DerK (chL m) (chK m ++ [1 + (k : Int)]) (1 + i)) ∧ DerK (chL m) (chK m ++ [1 + (k : Int)]) 0 := by
  have lock : ∀ i, i ≤ m → Der (chL m) (Seed (chL m) (chK m ++ [1 + (k : Int)])) ((m : Int) + 2 + (i : Int)) := by
    intro i hi
    have := ch_seed (m := m) (kn := chK m ++ [1 + (k : Int)]) (j := m + 2 + i) (by simp; left; have := chK_in hi; simpa using this) (by omega)
    rw [show ((m + 2 + i : Nat) : Int) = (m : Int) + 2 + (i : Int) by omega] at this
    exact this
  have key : ∀ d, k + d ≤ m → Der (chL m) (Seed (chL m) (chK m ++ [1 + (k : Int)])) (1 + ((k + d : Nat) : Int)) := by
    intro d
    induction d with
    | zero =>
      intro _
      have := ch_seed (m := m) (kn := chK m ++ [1 + (k : Int)]) (j := 1 + k) (by simp) (by omega)
      rw [show ((1 + k : Nat) : Int) = 1 + ((k + 0 : Nat) : Int) by omega] at this
      exact this
    | succ d ih =>
      intro hd
      have := Der.step (ch_open.1 (k + d) (by omega) (lock (k + d) (by omega)) (ih (by omega)))
      rw [show 2 + ((k + d : Nat) : Int) = 1 + ((k + (d + 1) : Nat) : Int) by omega] at this
      exact this
  refine ⟨fun i h1 h2 => ?_, ?_⟩
  · unfold DerK
    rw [ch_cl (by omega), show ((1 + i : Nat) : Int) = 1 + ((k + (i - k) : Nat) : Int) by omega]
    exact key (i - k) (by omega)
  · unfold DerK
    rw [ch_cl (by omega)]
    have h1 := lock m (Nat.le_refl _)
    have h2 := key (m - k) (by omega)
    rw [show (m : Int) + 2 + (m : Int) = 2 * (m : Int) + 2 by omega] at h1
    rw [show 1 + ((k + (m - k) : Nat) : Int) = 1 + (m : Int) by omega] at h2
    exact Der.step (ch_open.2 h1 h2)
theorem ch_no1 {m k i : Nat} (hk : k ≤ m) (hi : i < k) : ¬ DerK (chL m) (chK m ++ [1 + (k : Int)]) (1 + i) := by
  refine der_no (fun c => c = 0 ∨ 1 + (k : Int) ≤ c) ?_ ?_ ?_
  · intro x hx h0 h1
    rw [chL_len] at h1
    rw [ch_cl (by omega)]
    rcases List.mem_append.1 hx with hx | hx
    · have := chK_mem hx
      omega
    · simp at hx
      omega
  · intro c hs
    rcases ch_step hs with ⟨h1, h2⟩ | ⟨i, hi, h1, rfl⟩ | ⟨h1, rfl⟩
    · omega
    · omega
    · exact .inl rfl
  · rw [ch_cl (by omega)]
    omega
theorem ch_no0 {m : Nat} : ¬ DerK (chL m) (chK m) 0 := by
  refine der_no (fun c => (m : Int) + 2 ≤ c) ?_ ?_ ?_
  · intro x hx h0 h1
    rw [chL_len] at h1
    rw [ch_cl (by omega)]
    have := chK_mem hx
    omega
  · intro c hs
    rcases ch_step hs with ⟨h1, h2⟩ | ⟨i, hi, h1, rfl⟩ | ⟨h1, rfl⟩
    · exact h1
    · exfalso
      omega
    · exfalso
      omega
  · rw [ch_cl (by omega)]
    omega
theorem ch_can0 {m : Nat} (hm : m ≤ 20) : canB (chL m) (chK m) 0 = false := canB_no (ch_may hm) (i := 0) (by rw [chL_len]; omega) ch_no0
theorem ch_key {m k i : Nat} (hm : m ≤ 20) (hk : k ≤ m) (hi : i ≤ m) : (knows (chL m) (chK m ++ [1 + (k : Int)]))[1 + i]? = some (decide ((k : Int) ≤ (i : Int))) := by
  refine knows_at (ch_may hm) (by rw [chL_len]; omega) ?_
  rw [decide_eq_true_iff]
  constructor
  · intro h
    exact (ch_yes hk).1 i (by omega) hi
  · intro h
    by_cases hik : k ≤ i
    · omega
    · exact absurd h (ch_no1 hk (by omega))
theorem ch_atom {m k : Nat} (hm : m ≤ 20) (hk : k ≤ m) : (knows (chL m) (chK m ++ [1 + (k : Int)]))[0]? = some true := by
  refine knows_at (ch_may hm) (by rw [chL_len]; omega) ?_
  exact ⟨fun _ => (ch_yes hk).2, fun _ => rfl⟩
theorem ch_needs {m : Nat} (hm : m ≤ 20) : (needs (chL m) (chK m) 0).length = m + 1 := by
  have hl := chL_len m
  have hmay := ch_may hm
  have e : needs (chL m) (chK m) 0 = (List.range (m + 1)).map fun i : Nat => (i : Int) := by
    unfold needs
    rw [if_neg (by rintro (h1 | h1 | h1 | h1); omega; omega; (rw [hmay] at h1; cases h1); (rw [ch_can0 hm] at h1; cases h1))]
    refine lt_ext (rise_props _).2 ?_ fun x => ((rise_props _).1 x).trans ?_
    · rw [List.pairwise_map]
      exact List.Pairwise.imp (fun h => by omega) List.pairwise_lt_range
    · unfold needsU
      rw [List.mem_map, List.mem_map]
      constructor
      · rintro ⟨j, hj, rfl⟩
        obtain ⟨h1, h2⟩ := List.mem_filter.1 hj
        have hjl := List.mem_range.1 h1
        have hx : (chL m)[j]? = some (chL m)[j] := List.getElem?_eq_getElem hjl
        have hgd : (chL m).getD j nd0 = (chL m)[j] := by rw [List.getD_eq_getElem?_getD, hx]; rfl
        rw [hgd] at h2 ⊢
        generalize (chL m)[j] = y at *
        rw [Bool.and_eq_true, decide_eq_true_iff] at h2
        rcases ch_at hx with ⟨rfl, rfl⟩ | ⟨i, hi, rfl, rfl⟩ | ⟨i, hi, rfl, rfl⟩ | ⟨rfl, rfl⟩
        · simp at h2
        · exact ⟨i, List.mem_range.2 (by omega), rfl⟩
        · simp at h2
        · simp at h2
      · rintro ⟨i, hi, rfl⟩
        have hi := List.mem_range.1 hi
        have hgd : (chL m).getD (1 + i) nd0 = ⟨1, (i : Int), 0⟩ := by rw [List.getD_eq_getElem?_getD, (ch_get m).2.1 i (by omega)]; rfl
        refine ⟨1 + i, List.mem_filter.2 ⟨List.mem_range.2 (by omega), ?_⟩, by rw [hgd]⟩
        rw [hgd, Bool.and_eq_true, decide_eq_true_iff]
        refine ⟨rfl, (canB_iff hmay (i := 0) (by omega)).2 ?_⟩
        have := (ch_yes (m := m) (k := i) (by omega)).2
        rw [show ((1 + i : Nat) : Int) = 1 + (i : Int) by omega]
        exact this
  rw [e]
  simp
end Go.Proofs.Ytnppjkekbdapkaa
