/-
  FieldWide: the walk of the law.
-/
import Derived.Test.YtkflodclakngfaaTkl
import Derived.Test.YtkflodclakngfaaLawFieldNumbers
set_option linter.unusedVariables false
namespace Go.Proofs.Ytkflodclakngfaa
open Go.RowKit

theorem new_cell (w : World) (cs : Array Value) (e : TypeId) (i : Nat) : (w.alloc (.cells cs e)).cell? ⟨w.heap.size, i, none⟩ = cs[i]? := by
  simp only [World.cell?, heap_alloc_new]
  rfl

theorem zero_str (w : World) (n c : Nat) :
    (convert 31 9 (.slice (some ⟨w.heap.size, 0, none⟩) n n)).run Try.prog (w.alloc (.cells (madeCells #[.int .u8 0] n) 5)) = .ok (.string (strOfNums (List.replicate n 0))) (w.alloc (.cells (madeCells #[.int .u8 0] n) 5)) := by
  refine run_convert_bytes_arg (P := Try.prog) _ 31 5 Try.underlying31 Try.underlying5 w.heap.size 0 n n _ (by simp) ?_ 9 Try.underlying9
  intro i hi
  have e := toList_madeCells_one (.int .u8 0) n
  have e2 : (madeCells #[.int .u8 0] n)[i]? = some (.int .u8 0) := by rw [← Array.getElem?_toList, e]; simp [hi]
  rw [new_cell, Nat.zero_add, e2]; simp [hi]

theorem lsGo_zero (n : Nat) (acc : ByteArray) : (lsGo (List.replicate n ⟨#[]⟩) acc).2 = 0 ∧ (lsGo (List.replicate n ⟨#[]⟩) acc).1.size = acc.size + 2 * n := by
  induction n generalizing acc with
  | zero => exact ⟨rfl, rfl⟩
  | succ n ih =>
    rw [List.replicate_succ, lsGo, if_neg (by decide)]
    obtain ⟨h1, h2⟩ := ih (acc ++ (⟨(leBytes (⟨#[]⟩ : ByteArray).size 2).toArray⟩ ++ ⟨#[]⟩))
    refine ⟨h1, ?_⟩
    rw [h2, ByteArray.size_append, ByteArray.size_append, pre_size]
    show acc.size + (2 + 0) + 2 * n = _
    omega

/-- What Text says of a text that is not too long, and of one that is. -/
theorem text_size (T : ByteArray) (w : World) (hs : T.size ≤ 9223372036854775807) :
    Calls Try.prog 15 #[.string T] w fun e w' => ∃ (S : ByteArray) (E : Int), e = .returned (.tuple #[.string S, .int .i64 E]) ∧ Below w.heap.size w w' ∧
      Hid ((1000 < T.size ∧ E = 11 ∧ S = ⟨#[]⟩) ∨ (T.size ≤ 1000 ∧ E = 0 ∧ S.size = 2 + T.size)) := by
  refine (text_any T w hs).mono ?_
  rintro e w' ⟨rfl, hb⟩
  refine ⟨txS T, txE T, rfl, hb, ?_⟩
  by_cases h : 1000 < T.size
  · exact .inl ⟨h, if_pos h, if_pos h⟩
  · refine .inr ⟨by omega, if_neg h, ?_⟩
    rw [txS, if_neg h, ByteArray.size_append, pre_size]

theorem list_size (m : Nat) (v : Value) (w : World) (hv : SRow w v (List.replicate m ⟨#[]⟩)) (hm : m ≤ 65535) :
    Calls Try.prog 16 #[v] w fun e w' => ∃ (S : ByteArray) (E : Int), e = .returned (.tuple #[.string S, .int .i64 E]) ∧ Below w.heap.size w w' ∧
      Hid ((255 < m ∧ E = 11 ∧ S = ⟨#[]⟩) ∨ (m ≤ 255 ∧ E = 0 ∧ S.size = 1 + 2 * m)) := by
  refine (list_any v _ w hv (by rw [List.length_replicate]; omega)).mono ?_
  rintro e w' ⟨rfl, hb⟩
  refine ⟨_, _, rfl, hb, ?_⟩
  by_cases h : 255 < m
  · have e : ls (List.replicate m ⟨#[]⟩) = (⟨#[]⟩, 11) := if_pos (by rw [List.length_replicate]; exact h)
    rw [e]; exact .inl ⟨h, rfl, rfl⟩
  · have e := ls_go (l := List.replicate m (⟨#[]⟩ : ByteArray)) (by rw [List.length_replicate]; exact h)
    rw [e]
    obtain ⟨h1, h2⟩ := lsGo_zero m ⟨#[UInt8.ofNat (List.replicate m (⟨#[]⟩ : ByteArray)).length]⟩
    exact .inr ⟨by omega, h1, h2⟩

theorem made_row (w : World) (m : Nat) : SRow (w.alloc (.cells (madeCells #[.string ⟨#[]⟩] m) 9)) (.slice (some ⟨w.heap.size, 0, none⟩) m m) (List.replicate m ⟨#[]⟩) := by
  refine ⟨some ⟨w.heap.size, 0, none⟩, m, by rw [List.length_replicate], ?_, ?_⟩
  · intro s hs; rw [List.eq_of_mem_replicate hs]; exact Nat.zero_le _
  · intro i s hi
    obtain ⟨hk, hs⟩ := List.getElem?_eq_some_iff.1 hi
    rw [List.length_replicate] at hk
    rw [List.getElem_replicate] at hs
    subst hs
    refine ⟨w.heap.size, 0, rfl, by simp, ?_⟩
    have e := toList_madeCells_one (.string ⟨#[]⟩) m
    have e2 : (madeCells #[.string ⟨#[]⟩] m)[i]? = some (.string ⟨#[]⟩) := by rw [← Array.getElem?_toList, e]; simp [hk]
    rw [new_cell, Nat.zero_add, e2]

set_option maxHeartbeats 2000000 in
theorem fieldWide_nat (n m : Nat) (w : World) (hn : n ≤ 65535) (hm : m ≤ 65535) :
    Calls Try.prog 4 #[.int .u16 n, .int .u16 m] w fun e w' => e = .returned (.bool true) ∧ Below w.heap.size w w' := by
  have hmk := fun W => run_make_row' (P := Try.prog) 31 5 (.int .u8 0) 1 Try.underlying31 info5 rfl .i64 .i64 (n % 1100) (by omega) (by omega) W
  have hmk2 := fun W => run_make_row' (P := Try.prog) 33 9 (.string ⟨#[]⟩) 16 Try.underlying33 info9 rfl .i64 .i64 (m % 300) (by omega) (by omega) W
  have en : ((n % 1100 : Nat) : Int) = (n : Int) % 1100 := by omega
  have em : ((m % 300 : Nat) : Int) = (m : Int) % 300 := by omega
  rw [en] at hmk
  rw [em] at hmk2
  clear en em
  have hcv := zero_str w (n % 1100) 0
  have hTs : (strOfNums (List.replicate (n % 1100) 0)).size ≤ 1100 := by
    show (strOfNums (List.replicate (n % 1100) 0)).data.size ≤ 1100
    simp [strOfNums]; omega
  generalize strOfNums (List.replicate (n % 1100) 0) = T at hcv hTs
  go_enter Try.func4, Try.ntmps4
  go_wp2_with fail
  refine (text_size T _ (by omega)).mono ?_
  rintro e w1 ⟨S, E, rfl, h1, hS⟩
  go_wp2_with fail
  refine (list_size (m % 300) _ _ (made_row _ _) (by omega)).mono ?_
  rintro e w2 ⟨U, F, rfl, h2, hU⟩
  have hb : Below w.heap.size w w2 := ((below_alloc (Below.refl _ _) (Nat.le_refl _) _).trans (h1.mono (by simp))).trans ((below_alloc (Below.refl _ _) (Nat.le_refl _) _).trans (h2.mono (by simp)) |>.mono (by have := h1.size; simp at this; omega))
  have HB := Lib.hid hb
  clear hb h1 h2 hmk hmk2 hcv
  rcases hS.out with ⟨t1, rfl, rfl⟩ | ⟨t1, rfl, hs⟩ <;> rcases hU.out with ⟨u1, rfl, rfl⟩ | ⟨u1, rfl, hu⟩ <;> clear hS hU
  · have u2 : (255 : Int) < (m : Int) % 300 := by omega
    go_wp2_with fail
    refine (shown_ok _).mono ?_
    rintro e w3 ⟨rfl, h3⟩
    go_wp2_with fail
    go_ret
    exact ⟨rfl, below2 HB.out h3⟩
  · have u2 : (m : Int) % 300 ≤ 255 := by omega
    have hu2 : ((U.size : Int) == 1 + 2 * ((m : Int) % 300)) = true := by rw [beq_iff_eq]; omega
    have HU := Lib.hid hu
    clear hu
    go_wp2_with fail
    refine (shown_ok _).mono ?_
    rintro e w3 ⟨rfl, h3⟩
    go_wp2_with fail
    go_ret
    exact ⟨rfl, below2 HB.out h3⟩
  · have u2 : (255 : Int) < (m : Int) % 300 := by omega
    have hs2 : ((S.size : Int) == 2 + (T.size : Int)) = true := by rw [beq_iff_eq]; omega
    have HS := Lib.hid hs
    clear hs
    go_wp2_with fail
    refine (shown_ok _).mono ?_
    rintro e w3 ⟨rfl, h3⟩
    go_wp2_with fail
    go_ret
    exact ⟨rfl, below2 HB.out h3⟩
  · have u2 : (m : Int) % 300 ≤ 255 := by omega
    have hu2 : ((U.size : Int) == 1 + 2 * ((m : Int) % 300)) = true := by rw [beq_iff_eq]; omega
    have hs2 : ((S.size : Int) == 2 + (T.size : Int)) = true := by rw [beq_iff_eq]; omega
    have HU := Lib.hid hu
    have HS := Lib.hid hs
    clear hu hs
    go_wp2_with fail
    refine (shown_ok _).mono ?_
    rintro e w3 ⟨rfl, h3⟩
    go_wp2_with fail
    go_ret
    exact ⟨rfl, below2 HB.out h3⟩

theorem fieldWide_walk (n : Int) (hn : (Lit.int .u16 n).wf = true) (m : Int) (hm : (Lit.int .u16 m).wf = true) (w : World) :
    Calls Try.prog 4 #[.int .u16 n, .int .u16 m] w fun e w' => e = .returned (.bool true) ∧ Below w.heap.size w w' := by
  have h1 := bounds_u16 hn
  have h2 := bounds_u16 hm
  obtain ⟨n, rfl⟩ : ∃ k : Nat, n = k := ⟨n.toNat, by omega⟩
  obtain ⟨m, rfl⟩ : ∃ k : Nat, m = k := ⟨m.toNat, by omega⟩
  exact fieldWide_nat n m w (by omega) (by omega)
end Go.Proofs.Ytkflodclakngfaa
