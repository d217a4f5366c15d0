/-
  The reference's Program: the buffer; the texts' slices.
-/
import Derived.Test.YtjnjnkkdpglfhaaRer
set_option linter.unusedVariables false
namespace Go.Proofs.Ytjnjnkkdpglfhaa
open Go.RowKit

section
variable {P : Program} {ops : Array Oper} {rest : List Oper} {o : Oper} {a : Act} {w w' : World} {Q : Exit → Act → World → Prop}
theorem wpList_conv_at (hgd : o.guard = none) (sT dT : TypeId) (x : Operand) (ho : o.op = .convert sT dT x) (u : Value) (hx : a.eval x = u) (v : Value) (hrun : (convert sT dT u).run P w = .ok v w) (h : wpList P ops Q rest (a.put o.dst v) w) : wpList P ops Q (o :: rest) a w :=
  wpList_plain hgd fun _ hK => by
    unfold Oper.wp
    rw [exec_conv sT dT x ho u hx v hrun, Oper.upon_value]
    exact hK _ _ h
end
/-- The end, the box and the result of it. -/
theorem c53_end' {T : List (Nat × Array Value × TypeId)} {a w : World} {gb gr : Nat} {Z A : Array Value} (h : Tab T a w) {i j : Nat} (hi : T[i]? = some (gr, Z, 53)) (hj : T[j]? = some (gb, A, 53)) (hz : Z.size = 139) (hA : A.size = 139) (h1 : ∀ v ∈ A.toList, v.oneCell' = true) :
    (loadVar 53 ⟨gb, 0, none⟩).run Try.prog w = .ok (.agg A) w ∧ ∃ W, (storeVar 53 ⟨gr, 0, none⟩ (.agg A)).run Try.prog w = .ok () W ∧ (loadVar 53 ⟨gr, 0, none⟩).run Try.prog W = .ok (.agg A) W ∧ Tab (T.set i (gr, A, 53)) a W ∧ Only (fun k => k = gr) w W := by
  refine ⟨h.loadAll j hj 53 _ Try.underlying53 rfl info53s hA, ?_⟩
  obtain ⟨W, hs, ht, _, ho⟩ := h.whole (B := A) i hi 53 info53s hA hz h1
  have hil : i < T.length := (List.getElem?_eq_some_iff.1 hi).1
  exact ⟨W, hs, ht.loadAll i (List.getElem?_set_self hil) 53 _ Try.underlying53 rfl info53s hA, ht, ho⟩
theorem build97 (t : ByteArray) (w : World) : (Instr.build 97 #[(0, .bool true), (1, .string t)]).run Try.prog w = .ok (.agg #[.bool true, .string t]) w := run_build w 97 _ _ (by kernel_rfl)
theorem fillT_len {s : ByteArray} (h : s.size ≤ 256) : (fillT s).size = 256 := fillT_size h
/-- A row of bytes. -/
def rowB (l : List UInt8) : Array Value := (l.map fun c => Value.int .u8 (c.toNat : Int)).toArray
theorem rowB_size (l : List UInt8) : (rowB l).size = l.length := by simp [rowB]
theorem rowB_set (l : List UInt8) (k : Nat) (x : UInt8) : (rowB l).setIfInBounds k (.int .u8 (x.toNat : Int)) = rowB (l.set k x) := by
  apply Array.toList_inj.1
  rw [Array.toList_setIfInBounds]
  simp [rowB, List.map_set]
theorem rowB_at {l : List UInt8} {k : Nat} {x : UInt8} (h : l[k]? = some x) : (rowB l)[k]? = some (.int .u8 (x.toNat : Int)) := by simp [rowB, h]
theorem made_rep (n : Nat) : madeCells #[Value.int .u8 0] n = rowB (List.replicate n 0) := by
  apply Array.toList_inj.1
  apply List.ext_getElem?
  intro j
  by_cases hj : j < n
  · simp [madeCells, rowB, hj, Nat.mod_one]
  · rw [List.getElem?_eq_none (by simp [madeCells]; omega), List.getElem?_eq_none (by simp [rowB]; omega)]
/-- A row of nothing. -/
def zrow : List UInt8 := List.replicate 256 0
theorem make35 (w : World) : (Instr.makeSlice 35 (.int .i64 256) (.int .i64 256)).run Try.prog w = .ok (.slice (some ⟨w.heap.size, 0, none⟩) 256 256) (w.alloc (.cells (rowB zrow) 5)) := by
  obtain ⟨i, hi, hz, h1, h2⟩ := info_parts info5
  have := run_make (P := Try.prog) w 35 5 i _ Try.underlying35 hi hz .i64 .i64 256 256 (by omega) (by omega) (by rw [h2]; omega) (by omega)
  rw [h1, show (Value.int .u8 0).cells = #[Value.int .u8 0] from rfl, made_rep] at this
  exact this
/-- The first k bytes copied. -/
def filL (s : ByteArray) (k : Nat) : List UInt8 := s.data.toList.take k ++ List.replicate (256 - k) 0
theorem filL_0 (s : ByteArray) : filL s 0 = zrow := rfl
theorem filL_len (s : ByteArray) (k : Nat) (hk : k ≤ s.size) (hs : s.size ≤ 256) : (filL s k).length = 256 := by
  have e : s.data.toList.length = s.size := by simp
  simp only [filL, List.length_append, List.length_take, List.length_replicate]
  omega
theorem filL_step (s : ByteArray) (k : Nat) {x : UInt8} (hx : s.data.toList[k]? = some x) (hs : s.size ≤ 256) : (filL s k).set k x = filL s (k + 1) := by
  have hl : s.data.toList.length = s.size := by simp
  have hk : k < s.size := by rw [← hl]; exact (List.getElem?_eq_some_iff.1 hx).1
  unfold filL
  generalize s.data.toList = l at *
  apply List.ext_getElem?
  intro j
  have ht : (l.take k).length = k := by rw [List.length_take]; omega
  have ht1 : (l.take (k + 1)).length = k + 1 := by rw [List.length_take]; omega
  by_cases hj : j = k
  · subst hj
    rw [List.getElem?_set_self (by simp; omega), List.getElem?_append_left (by omega), List.getElem?_take_of_lt (by omega), hx]
  · rw [List.getElem?_set_ne (by omega)]
    by_cases hlt : j < k
    · rw [List.getElem?_append_left (by omega), List.getElem?_append_left (by omega), List.getElem?_take_of_lt hlt, List.getElem?_take_of_lt (by omega)]
    · rw [List.getElem?_append_right (by omega), List.getElem?_append_right (by omega), ht, ht1, List.getElem?_replicate, List.getElem?_replicate]
      by_cases h2 : j < 256
      · rw [if_pos (by omega), if_pos (by omega)]
      · rw [if_neg (by omega), if_neg (by omega)]
theorem rep_one (x : UInt8) (n : Nat) : Lib.repeatL [x] n = List.replicate n x := by
  have := Lib.repeatL_replicate x 1 n
  rw [Nat.mul_one] at this
  exact this
theorem filL_end (s : ByteArray) : filL s s.size = (fillT s).data.toList := by
  unfold filL fillT
  have e : s.data.toList.length = s.size := by simp
  rw [ByteArray.data_append, Array.toList_append, List.take_of_length_le (by omega), rep_one]
/-- Junk from m up to j. -/
def torL (t : ByteArray) (m j : Nat) (x : UInt8) : List UInt8 := t.data.toList.take m ++ List.replicate (j - m) x ++ t.data.toList.drop j
theorem torL_0 (t : ByteArray) (m : Nat) (x : UInt8) : torL t m m x = t.data.toList := by simp [torL]
theorem torL_len {t : ByteArray} {m j : Nat} (x : UInt8) (h : t.size = 256) (h1 : m ≤ j) (h2 : j ≤ 256) : (torL t m j x).length = 256 := by
  have e : t.data.toList.length = t.size := by simp
  simp only [torL, List.length_append, List.length_take, List.length_replicate, List.length_drop]
  omega
theorem torL_at {t : ByteArray} {m j : Nat} (x : UInt8) (h : t.size = 256) (h1 : m ≤ j) (h2 : j ≤ 256) (i : Nat) : (torL t m j x)[i]? = if m ≤ i ∧ i < j then some x else t.data.toList[i]? := by
  have e : t.data.toList.length = t.size := by simp
  unfold torL
  generalize t.data.toList = l at *
  have ht : (l.take m ++ List.replicate (j - m) x).length = j := by simp; omega
  have htm : (l.take m).length = m := by rw [List.length_take]; omega
  by_cases hlt : i < j
  · rw [List.getElem?_append_left (by omega)]
    by_cases him : i < m
    · rw [List.getElem?_append_left (by omega), if_neg (by omega), List.getElem?_take_of_lt him]
    · rw [List.getElem?_append_right (by omega), List.getElem?_replicate, if_pos (by omega), if_pos (by omega)]
  · rw [List.getElem?_append_right (by omega), ht, if_neg (by omega), List.getElem?_drop]
    congr 1
    omega
theorem torL_step {t : ByteArray} {m j : Nat} (x : UInt8) (h : t.size = 256) (h1 : m ≤ j) (h2 : j < 256) : (torL t m j x).set j x = torL t m (j + 1) x := by
  apply List.ext_getElem?
  intro i
  rw [torL_at x h (by omega) (by omega)]
  by_cases hj : i = j
  · subst hj
    rw [List.getElem?_set_self (by rw [torL_len x h h1 (by omega)]; omega), if_pos (by omega)]
  · rw [List.getElem?_set_ne (by omega), torL_at x h h1 (by omega)]
    by_cases hi : m ≤ i ∧ i < j
    · rw [if_pos hi, if_pos (by omega)]
    · rw [if_neg hi, if_neg (by omega)]
theorem torL_end {t : ByteArray} (m : Nat) (x : UInt8) (h : t.size = 256) : torL t m 256 x = (tornT t m x).data.toList := by
  have e : t.data.toList.length = t.size := by simp
  unfold torL tornT
  rw [ByteArray.data_append, Array.toList_append, rep_one, List.drop_of_length_le (by omega), List.append_nil]
  congr 1
  simp
theorem rowB_conv {w : World} {g : Nat} {t : ByteArray} (hg : w.heap[g]? = some (.cells (rowB t.data.toList) 5 (0, 0))) (h : t.size = 256) : (convert 35 9 (.slice (some ⟨g, 0, none⟩) 256 256)).run Try.prog w = .ok (.string t) w := by
  have := bytes_conv (w := w) (g := g) (o := 0) (n := 256) (cap := 256) (l := t.data.toList) (by simpa using h) (fun i hi => by
    rw [Nat.zero_add, cell_of_row _ _ _ _ _ _ hg]
    exact rowB_at (List.getElem?_eq_getElem hi))
  exact this

section
variable {D W : World} {base : Nat} {v pv : Value} {xs ss : List ByteArray}
/-- An own row of texts. -/
def OS (w : World) (base : Nat) (v : Value) (xs : List ByteArray) : Prop := w.ownsRow base 9 1 v xs.length (xs.map Value.string)
theorem OS.sl (h : OS D base v xs) (hn : xs.length ≤ 1000000) : SL D v xs := by
  obtain ⟨_, ⟨rfl, h0⟩ | ⟨g, cap, cur, rfl, hb, hg, h1, h2, h3, h4⟩⟩ := h
  · have : xs = [] := List.eq_nil_of_length_eq_zero h0
    subst this
    exact ⟨none, 0, rfl, by simp, by unfold maxLen; omega, fun i u hu => by simp at hu⟩
  · refine ⟨some ⟨g, 0, none⟩, cap, rfl, h1, h2, fun i u hu => ⟨g, 0, rfl, ?_⟩⟩
    rw [Nat.zero_add, cell_of_row _ _ _ _ _ _ hg]
    have e : (xs.map Value.string)[i]? = some (.string u) := by simp [hu]
    rw [← h4, List.getElem?_take] at e
    split at e
    · simpa using e
    · cases e
theorem OS.mono {b : Nat} (h : OS D base v xs) (hb : b ≤ base) : OS D b v xs := by
  obtain ⟨h1, h | ⟨g, cap, cur, rfl, hg, rest⟩⟩ := h
  · exact ⟨h1, .inl h⟩
  · exact ⟨h1, .inr ⟨g, cap, cur, rfl, Nat.le_trans hb hg, rest⟩⟩
theorem OS.new (w : World) (h : base ≤ w.heap.size) : OS (w.alloc (.cells #[] 9)) base (.slice (some ⟨w.heap.size, 0, none⟩) 0 0) [] := World.ownsRow_lit w #[] 0 h (Nat.zero_le _) rfl
theorem sbuild_0 (w : World) : (Instr.buildSlice 43 0 #[]).run Try.prog w = .ok (.slice (some ⟨w.heap.size, 0, none⟩) 0 0) (w.alloc (.cells #[] 9)) := by
  obtain ⟨ie, hie, hz, hs, hb⟩ := info_parts info9
  simp [Instr.buildSlice, run_underlying (P := Try.prog) Try.underlying43, sizeOf, typeInfo, hie, Instr.fill, newRow]
  have he : ∀ f : Nat → Value, Array.map f (Array.range 0) = #[] := fun f => Array.eq_empty_of_size_eq_zero (by simp)
  rw [he]
/-- append of texts, onto a row of the call's own. -/
theorem app_strs (h : OS D base v xs) (hu : SL D pv ss) (hb : base ≤ D.heap.size) (hn : xs.length + ss.length ≤ 1000000) :
    ∃ v' W, (∀ ty, (Builtin.append_ #[43, 43] ty #[v, pv]).run Try.prog D = .ok v' W) ∧ OS W base v' (xs ++ ss) ∧ Only (fun k => v.ownBlock = some k) D W ∧ (v'.ownBlock = v.ownBlock ∨ v'.ownBlock = some D.heap.size) := by
  obtain ⟨ie, hie, hz, hs, hby⟩ := info_parts info9
  obtain ⟨a, cap, rfl, h1, h2, h3⟩ := hu
  cases a with
  | none =>
    obtain rfl : ss = [] := by
      cases ss with
      | nil => rfl
      | cons y ys =>
        obtain ⟨b, o, he, _⟩ := h3 0 _ rfl
        cases he
    rw [List.append_nil]
    refine ⟨v, D, fun ty => ?_, h, Only.refl _ _, .inl rfl⟩
    obtain ⟨_, ⟨rfl, h0⟩ | ⟨g, c, cur, rfl, _, _, hnc, _⟩⟩ := h
    · simp [Builtin.append_, run_underlying (P := Try.prog) Try.underlying43, sizeOf, typeInfo, hie, Builtin.lenOf, Builtin.firstCells]
    · simp [Builtin.append_, run_underlying (P := Try.prog) Try.underlying43, sizeOf, typeInfo, hie, Builtin.lenOf, Builtin.firstCells, hnc, storeCells]
  | some ad =>
    have hnews : ∀ (j : Nat) (u : Value), (ss.map Value.string)[j]? = some u → D.cell? (ad.add j) = some u := fun j u hu => by
      rw [List.getElem?_map] at hu
      cases hx : ss[j]? with
      | none => simp [hx] at hu
      | some x =>
        rw [hx] at hu
        obtain rfl : Value.string x = u := by simpa using hu
        obtain ⟨b, o, he, hc⟩ := h3 j x hx
        cases he
        have : (⟨b, o, none⟩ : Addr).add j = ⟨b, o + j, none⟩ := by unfold Addr.add; split <;> simp_all
        rw [this]
        exact hc
    have hrun := fun ty => run_append_own_at (P := Try.prog) D base 43 ty 9 ie (.string ByteArray.empty) 1 16 Try.underlying43 hie hz hs hby rfl (by decide) v xs.length (xs.map Value.string) h ad ss.length cap (ss.map Value.string) (by simp) hnews (by intro u hu; obtain ⟨z, _, rfl⟩ := List.mem_map.1 hu; rfl) (by unfold maxLen; omega) (by omega) hb
    obtain ⟨v', W, hr, ho, hg, _, hat⟩ := hrun 43
    refine ⟨v', W, fun ty => hr, ?_, grown_only hg, hat⟩
    show W.ownsRow base 9 1 v' (xs ++ ss).length ((xs ++ ss).map Value.string)
    rw [List.length_append, List.map_append]
    exact ho
theorem OS.keep {S : Nat → Prop} (h : OS D base v xs) (o : Only S D W) (hS : ∀ k, v.ownBlock = some k → ¬ S k) : OS W base v xs := keepOwn o h hS
theorem OS.cell1 (h : OS D base v xs) : v.oneCell' = true := by
  obtain ⟨_, ⟨rfl, _⟩ | ⟨g, cap, cur, rfl, _⟩⟩ := h <;> rfl
theorem OS.base_le (h : OS D base v xs) {k : Nat} (hk : v.ownBlock = some k) : base ≤ k := by
  obtain ⟨_, ⟨rfl, _⟩ | ⟨g, cap, cur, rfl, hg, _⟩⟩ := h
  · cases hk
  · cases hk
    exact hg
theorem SL.one {g : Nat} {t : ByteArray} (hg : D.heap[g]? = some (.cells #[.string t] 9 (0, 0))) : SL D (.slice (some ⟨g, 0, none⟩) 1 1) [t] :=
  ⟨_, 1, rfl, by simp, by unfold maxLen; omega, fun i u hu => ⟨g, 0, rfl, by
    cases i with
    | zero =>
      rw [cell_of_row _ _ _ _ _ _ hg]
      simpa using hu
    | succ i => simp at hu⟩⟩
end
end Go.Proofs.Ytjnjnkkdpglfhaa
