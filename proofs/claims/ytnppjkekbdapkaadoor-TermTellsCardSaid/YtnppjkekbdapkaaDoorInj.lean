/-
  A text has one tree; places have one class just if they have one tree.
-/
import Derived.Test.YtnppjkekbdapkaaDoorSzs
set_option linter.unusedVariables false
namespace Go.Proofs.YtnppjkekbdapkaaDoor
open Go.RowKit

def isDig (c : UInt8) : Bool := decide (48 ≤ c.toNat ∧ c.toNat ≤ 57)
def numOf (ds : List UInt8) : Nat := ds.foldl (fun n c => 10 * n + (c.toNat - 48)) 0
theorem dig_c (n : Nat) (h : n < 10) : (UInt8.ofNat (48 + n)).toNat = 48 + n := by
  rw [UInt8.toNat_ofNat']
  exact Nat.mod_eq_of_lt (by omega)
theorem dec_dig (u : Nat) : ∀ c ∈ Lib.decDigits u, isDig c = true := by
  induction u using Nat.strongRecOn with
  | ind u ih =>
    rw [Lib.decDigits]
    intro c hc
    split at hc
    · obtain rfl := List.mem_singleton.1 hc
      unfold isDig
      rw [dig_c _ (by omega)]
      exact decide_eq_true (by omega)
    · rcases List.mem_append.1 hc with hc | hc
      · exact ih (u / 10) (by omega) c hc
      · obtain rfl := List.mem_singleton.1 hc
        unfold isDig
        rw [dig_c _ (by omega)]
        exact decide_eq_true (by omega)
theorem num_dec (u : Nat) : numOf (Lib.decDigits u) = u := by
  induction u using Nat.strongRecOn with
  | ind u ih =>
    rw [Lib.decDigits]
    split
    · unfold numOf
      rw [List.foldl_cons, List.foldl_nil, dig_c _ (by omega)]
      omega
    · have := ih (u / 10) (by omega)
      unfold numOf at this ⊢
      rw [List.foldl_append, this, List.foldl_cons, List.foldl_nil, dig_c _ (by omega)]
      omega
/-- No digit stands ahead. -/
def nodig (r : List UInt8) : Prop := r.takeWhile isDig = []
theorem nodig_cons (c : UInt8) (r : List UInt8) (h : isDig c = false) : nodig (c :: r) := by
  unfold nodig
  rw [List.takeWhile_cons, h]
  rfl
theorem dig_split {ds r : List UInt8} (h : ∀ c ∈ ds, isDig c = true) (hr : nodig r) : (ds ++ r).takeWhile isDig = ds := by
  induction ds with
  | nil => exact hr
  | cons c ds ih =>
    rw [List.cons_append, List.takeWhile_cons, h c (by simp), if_pos rfl, ih (fun c hc => h c (by simp [hc]))]
theorem dig_parse {m n : Nat} {r q : List UInt8} (h : Lib.decDigits m ++ r = Lib.decDigits n ++ q) (hr : nodig r) (hq : nodig q) : m = n ∧ r = q := by
  have h1 := congrArg (List.takeWhile isDig) h
  rw [dig_split (dec_dig m) hr, dig_split (dec_dig n) hq] at h1
  refine ⟨by rw [← num_dec m, h1, num_dec], ?_⟩
  rw [h1] at h
  exact List.append_cancel_left h
def txT : Tm → List UInt8
  | .leaf k n => (if k = 0 then 97 else 107) :: Lib.itoa n
  | .pair a b => 40 :: (txT a ++ 44 :: (txT b ++ [41]))
  | .lock a b => 123 :: (txT b ++ 125 :: txT a)
def okT : Tm → Prop
  | .leaf k n => (k = 0 ∨ k = 1) ∧ 0 ≤ n
  | .pair a b => okT a ∧ okT b
  | .lock a b => okT a ∧ okT b
theorem gtr_leaf {u v : Tm} {x : Nd} (h : ¬ (x.op = 2 ∨ x.op = 3)) : gtr u v x = .leaf x.op x.a := by
  unfold gtr
  rw [if_neg (fun k => h (.inl k)), if_neg (fun k => h (.inr k))]
theorem gtr_pair {u v : Tm} {x : Nd} (h : x.op = 2) : gtr u v x = .pair u v := if_pos h
theorem gtr_lock {u v : Tm} {x : Nd} (h : x.op = 3) : gtr u v x = .lock u v := by
  unfold gtr
  rw [if_neg (by omega), if_pos h]
theorem gtx_leaf {u v : List UInt8} {x : Nd} (h : ¬ (x.op = 2 ∨ x.op = 3)) : gtx u v x = (if x.op = 0 then 97 else 107) :: Lib.itoa x.a := by
  unfold gtx
  rw [if_neg (fun k => h (.inl k)), if_neg (fun k => h (.inr k))]
theorem gtx_pair {u v : List UInt8} {x : Nd} (h : x.op = 2) : gtx u v x = 40 :: (u ++ 44 :: (v ++ [41])) := if_pos h
theorem gtx_lock {u v : List UInt8} {x : Nd} (h : x.op = 3) : gtx u v x = 123 :: (v ++ 125 :: u) := by
  unfold gtx
  rw [if_neg (by omega), if_pos h]
theorem txT_parse (s : Tm) : ∀ (t : Tm) (r q : List UInt8), okT s → okT t → txT s ++ r = txT t ++ q → nodig r → nodig q → s = t ∧ r = q := by
  induction s with
  | leaf k n =>
    intro t r q hs ht h hr hq
    obtain ⟨hk, hn⟩ := hs
    cases t with
    | leaf k' n' =>
      obtain ⟨hk', hn'⟩ := ht
      unfold txT at h
      rw [List.cons_append, List.cons_append, List.cons.injEq, itoa_dec hn, itoa_dec hn'] at h
      obtain ⟨h1, h2⟩ := dig_parse h.2 hr hq
      refine ⟨?_, h2⟩
      have hkk : k = k' := by
        rcases hk with rfl | rfl <;> rcases hk' with rfl | rfl <;> first | rfl | (exfalso; revert h; simp)
      have hnn : n = n' := by omega
      rw [hkk, hnn]
    | pair a b => exfalso; revert h; unfold txT; rcases hk with rfl | rfl <;> simp
    | lock a b => exfalso; revert h; unfold txT; rcases hk with rfl | rfl <;> simp
  | pair a b iha ihb =>
    intro t r q hs ht h hr hq
    cases t with
    | leaf k' n' => exfalso; revert h; obtain ⟨hk', _⟩ := ht; unfold txT; rcases hk' with rfl | rfl <;> simp
    | pair a' b' =>
      unfold txT at h
      simp only [List.cons_append, List.append_assoc, List.cons.injEq, true_and, List.nil_append] at h
      obtain ⟨rfl, h2⟩ := iha _ _ _ hs.1 ht.1 h (nodig_cons _ _ rfl) (nodig_cons _ _ rfl)
      rw [List.cons.injEq] at h2
      obtain ⟨rfl, h3⟩ := ihb _ _ _ hs.2 ht.2 h2.2 (nodig_cons _ _ rfl) (nodig_cons _ _ rfl)
      rw [List.cons.injEq] at h3
      exact ⟨rfl, h3.2⟩
    | lock a' b' => exfalso; revert h; unfold txT; simp
  | lock a b iha ihb =>
    intro t r q hs ht h hr hq
    cases t with
    | leaf k' n' => exfalso; revert h; obtain ⟨hk', _⟩ := ht; unfold txT; rcases hk' with rfl | rfl <;> simp
    | pair a' b' => exfalso; revert h; unfold txT; simp
    | lock a' b' =>
      unfold txT at h
      simp only [List.cons_append, List.append_assoc, List.cons.injEq, true_and] at h
      obtain ⟨rfl, h2⟩ := ihb _ _ _ hs.2 ht.2 h (nodig_cons _ _ rfl) (nodig_cons _ _ rfl)
      rw [List.cons.injEq] at h2
      obtain ⟨rfl, h3⟩ := iha _ _ _ hs.1 ht.1 h2.2 hr hq
      exact ⟨rfl, h3⟩
theorem txT_inj {s t : Tm} (hs : okT s) (ht : okT t) : txT s = txT t ↔ s = t := by
  refine ⟨fun h => ?_, fun h => by rw [h]⟩
  exact (txT_parse s t [] [] hs ht (by rw [h]) rfl rfl).1
theorem tr_tx {l : List Nd} (hm : mayB l = true) (i : Nat) (hi : i < l.length) : txN l i = txT (trN l i) ∧ okT (trN l i) := by
  induction i using Nat.strongRecOn with
  | ind i ih =>
    have hx : l[i]? = some l[i] := List.getElem?_eq_getElem hi
    generalize l[i] = x at hx
    unfold txN trN
    by_cases ho : x.op = 2 ∨ x.op = 3
    · obtain ⟨⟨a0, a1⟩, b0, b1⟩ := may_made hm hx ho
      obtain ⟨ha, ha2⟩ := ih x.a.toNat (by omega) (by omega)
      obtain ⟨hb, hb2⟩ := ih x.b.toNat (by omega) (by omega)
      rw [valN_made _ _ l hm hx ho, valN_made _ _ l hm hx ho]
      unfold txN trN at ha hb
      unfold trN at ha2 hb2
      rw [ha, hb]
      rcases ho with h2 | h3
      · rw [gtx_pair h2, gtr_pair h2]
        exact ⟨rfl, ha2, hb2⟩
      · rw [gtx_lock h3, gtr_lock h3]
        exact ⟨rfl, ha2, hb2⟩
    · obtain ⟨h01, n0, n1, _⟩ := leaf_num hm hx ho
      rw [valN_at _ _ l hx, valN_at _ _ l hx, gtx_leaf ho, gtr_leaf ho]
      exact ⟨rfl, h01, n0⟩
theorem cl_eq_ks {l : List Nd} {i j : Nat} (hi : i < l.length) (hj : j < l.length) : cl l i = cl l j ↔ (ks l)[i]? = (ks l)[j]? := by
  have h1 : (ks l)[i]? = some ((ks l)[i]'(by rw [ks_len]; exact hi)) := List.getElem?_eq_getElem _
  have h2 : (ks l)[j]? = some ((ks l)[j]'(by rw [ks_len]; exact hj)) := List.getElem?_eq_getElem _
  generalize (ks l)[i]'(by rw [ks_len]; exact hi) = y at h1
  generalize (ks l)[j]'(by rw [ks_len]; exact hj) = z at h2
  rw [cl_ks h1, cl_ks h2, h1, h2, Option.some.injEq]
  constructor
  · intro h
    have a1 := List.getElem_idxOf (List.idxOf_lt_length_of_mem (List.mem_of_getElem? h1))
    have a2 := List.getElem_idxOf (List.idxOf_lt_length_of_mem (List.mem_of_getElem? h2))
    rw [← a1, ← a2]
    have : (ks l).idxOf y = (ks l).idxOf z := by omega
    simp only [this]
  · rintro rfl
    rfl
theorem ks_full {l : List Nd} (hm : mayB l = true) {i : Nat} {x : Nd} (h : l[i]? = some x) : (ks l)[i]? = some (normAt (firsts l) x) := by
  have hl := (List.getElem?_eq_some_iff.1 h).1
  rw [ks_eq h, norm_any hm h (Nat.le_of_lt hl), List.take_of_length_le (by rw [firsts_len]; exact Nat.le_refl _)]
theorem cl_tr {l : List Nd} (hm : mayB l = true) (i : Nat) : ∀ j, i < l.length → j < l.length → (cl l i = cl l j ↔ trN l i = trN l j) := by
  induction i using Nat.strongRecOn with
  | ind i ih =>
    intro j hi hj
    have hx : l[i]? = some l[i] := List.getElem?_eq_getElem hi
    have hy : l[j]? = some l[j] := List.getElem?_eq_getElem hj
    generalize l[i] = x at hx
    generalize l[j] = y at hy
    rw [cl_eq_ks hi hj, ks_full hm hx, ks_full hm hy, Option.some.injEq]
    unfold trN
    by_cases ho : x.op = 2 ∨ x.op = 3
    · obtain ⟨⟨a0, a1⟩, b0, b1⟩ := may_made hm hx ho
      rw [valN_made _ _ l hm hx ho]
      by_cases hp : y.op = 2 ∨ y.op = 3
      · obtain ⟨⟨c0, c1⟩, d0, d1⟩ := may_made hm hy hp
        rw [valN_made _ _ l hm hy hp]
        have ha := ih x.a.toNat (by omega) y.a.toNat (by omega) (by omega)
        have hb := ih x.b.toNat (by omega) y.b.toNat (by omega) (by omega)
        unfold normAt
        rw [if_pos ho, if_pos hp, Nd.mk.injEq]
        unfold cl trN at ha hb
        rcases ho with h2 | h3
        · rcases hp with k2 | k3
          · rw [gtr_pair h2, gtr_pair k2, Tm.pair.injEq, ← ha, ← hb, h2, k2]
            simp
          · rw [gtr_pair h2, gtr_lock k3, h2, k3]
            simp
        · rcases hp with k2 | k3
          · rw [gtr_lock h3, gtr_pair k2, h3, k2]
            simp
          · rw [gtr_lock h3, gtr_lock k3, Tm.lock.injEq, ← ha, ← hb, h3, k3]
            simp
      · rw [valN_at _ _ l hy, gtr_leaf hp]
        unfold normAt
        rw [if_pos ho, if_neg hp]
        constructor
        · intro h
          exfalso
          apply hp
          rw [← h]
          exact ho
        · intro h
          exfalso
          revert h
          rcases ho with h2 | h3
          · rw [gtr_pair h2]
            simp
          · rw [gtr_lock h3]
            simp
    · rw [valN_at _ _ l hx, gtr_leaf ho]
      obtain ⟨_, _, _, bx⟩ := leaf_num hm hx ho
      by_cases hp : y.op = 2 ∨ y.op = 3
      · rw [valN_made _ _ l hm hy hp]
        unfold normAt
        rw [if_neg ho, if_pos hp]
        constructor
        · intro h
          exfalso
          apply ho
          rw [h]
          exact hp
        · intro h
          exfalso
          revert h
          rcases hp with h2 | h3
          · rw [gtr_pair h2]
            simp
          · rw [gtr_lock h3]
            simp
      · rw [valN_at _ _ l hy, gtr_leaf hp]
        obtain ⟨_, _, _, by'⟩ := leaf_num hm hy hp
        unfold normAt
        rw [if_neg ho, if_neg hp, Tm.leaf.injEq]
        constructor
        · rintro rfl
          exact ⟨rfl, rfl⟩
        · rintro ⟨h1, h2⟩
          obtain ⟨p, q, r⟩ := x
          obtain ⟨p', q', r'⟩ := y
          dsimp only at *
          rw [h1, h2, bx, by']
/-- Texts are the same just if the classes are. -/
theorem tx_cl {l : List Nd} (hm : mayB l = true) {i j : Nat} (hi : i < l.length) (hj : j < l.length) : txN l i = txN l j ↔ cl l i = cl l j := by
  rw [cl_tr hm i j hi hj, (tr_tx hm i hi).1, (tr_tx hm j hj).1]
  exact txT_inj (tr_tx hm i hi).2 (tr_tx hm j hj).2
end Go.Proofs.YtnppjkekbdapkaaDoor
