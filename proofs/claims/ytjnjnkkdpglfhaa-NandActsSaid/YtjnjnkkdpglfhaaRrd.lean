/-
  The reference: Read.
-/
import Derived.Test.YtjnjnkkdpglfhaaRin
import Derived.Test.YtjnjnkkdpglfhaaRea
set_option linter.unusedVariables false
namespace Go.Proofs.Ytjnjnkkdpglfhaa
open Go.RowKit

theorem at_lt {s p a b : Nat} (ha : a < s) (hb : b < p) : a * p + b < s * p := by
  have : (a + 1) * p ≤ s * p := Nat.mul_le_mul_right p ha
  rw [Nat.add_mul] at this
  omega
theorem at_div {p a b : Nat} (hb : b < p) : (a * p + b) / p = a ∧ (a * p + b) % p = b := by
  have hp : 0 < p := by omega
  constructor
  · rw [Nat.add_comm, Nat.add_mul_div_right _ _ hp, Nat.div_eq_of_lt hb, Nat.zero_add]
  · rw [Nat.add_comm, Nat.add_mul_mod_self_right, Nat.mod_eq_of_lt hb]
theorem lc_two {st : Cp} {a b : Nat} (ha : a < st.segs) (hb : b < st.pages) : (lcs st)[(a * st.pages + b) * 2]? = some (.bool (st.page a b).isSome) ∧ (lcs st)[(a * st.pages + b) * 2 + 1]? = some (.string ((st.page a b).getD ByteArray.empty)) := by
  have h := at_lt ha hb
  obtain ⟨d1, d2⟩ := at_div (a := a) hb
  generalize a * st.pages + b = N at *
  constructor
  · rw [lcs_at (by omega)]
    unfold lcAt
    rw [if_pos (by omega), show N * 2 / 2 = N by omega, d1, d2]
  · rw [lcs_at (by omega)]
    unfold lcAt
    rw [if_neg (by omega), show (N * 2 + 1) / 2 = N by omega, d1, d2]
theorem load97 {w : World} {b o : Nat} {u v : Value} (h0 : w.cell? ⟨b, o, none⟩ = some u) (h1 : w.cell? ⟨b, o + 1, none⟩ = some v) : (loadVar 97 ⟨b, o, none⟩).run Try.prog w = .ok (.agg #[u, v]) w := by
  have hl := run_loadCells_list (P := Try.prog) w ⟨b, o, none⟩ [u, v] (fun j x hx => by
    have hadd : (⟨b, o, none⟩ : Addr).add j = ⟨b, o + j, none⟩ := by unfold Addr.add; split <;> simp_all
    rw [hadd]
    match j, hx with
    | 0, hx => rw [Nat.add_zero, h0]; exact hx
    | 1, hx => rw [h1]; exact hx)
  have hq : (Try.prog.info? 97).map (·.size) = some 2 := by kernel_rfl
  cases hi : Try.prog.info? 97 with
  | none => simp [hi] at hq
  | some i =>
    have hs : i.size = 2 := by simpa [hi] using hq
    simp [loadVar, Sem.run_bind, isAgg_run (P := Try.prog) Try.underlying97 rfl, sizeOf, typeInfo, hi, hs]
    simp at hl
    simp [hl]
set_option maxRecDepth 100000 in
set_option maxHeartbeats 4000000 in
theorem rread_any {A : Array Value} {lv pv : Value} {st : Cp} {p : Pw} (h : RA A lv pv st p) (i j : Int) (w : World) (hl : LC w lv st) :
    Calls Try.prog 25 #[.agg A, .int .i64 i, .int .i64 j] w fun e w' => e = .returned (.tuple #[.string ((st.rdO p i j).getD ByteArray.empty), .bool (st.rdO p i j).isSome, .int .i64 (st.rdE p i j)]) ∧ Only (fun _ => False) w w' := by
  have T1 := Tab.box1 w A 53
  have HR := Lib.hid h
  have HLC := Lib.hid hl
  unfold Cp.rdO Cp.rdE
  by_cases ho : p.off = true
  · rw [if_pos ho, if_pos ho]
    go_enter Try.func25, Try.ntmps25
    go_upto_region 1 with fail
    generalize w.alloc (.cells A 53) = W1 at *
    have c0 := T1.c 0 rfl 0 h.p0.1
    rw [ho] at c0
    have HO := Lib.hid T1.only
    clear T1 h hl ho
    go_wp2_with fail
    go_ret3
    exact ⟨rfl, HO.out⟩
  · have ho' : p.off = false := by simpa using ho
    rw [if_neg ho, if_neg ho]
    cases hh : hasB st.segs st.pages i j
    · rw [if_neg (by simp), if_neg (by simp)]
      go_enter Try.func25, Try.ntmps25
      go_upto_region 1 with fail
      generalize w.alloc (.cells A 53) = W1 at *
      have c0 := T1.c 0 rfl 0 h.p0.1
      rw [ho'] at c0
      have HO := Lib.hid T1.only
      have HL := Lib.hid (T1.loadAll 0 rfl 53 _ Try.underlying53 rfl info53s h.size)
      have HI := Lib.hid (rin_any h i j W1)
      rw [hh] at HI
      clear T1 h hl ho ho' hh
      go_wp2_with (first | ((with_reducible refine wpList_load_at ?_ 53 (.tmp 3) ?_ _ ?_ _ HL.out ?_); rfl; rfl; rfl) | (go_at_call 41; (with_reducible refine HI.out.mono ?_); rintro e w2 ⟨rfl, k2⟩))
      go_ret3
      exact ⟨rfl, HO.out.trans k2⟩
    · rw [if_pos rfl, if_pos rfl]
      have hx := has_iff hh
      obtain ⟨a, rfl⟩ := Int.eq_ofNat_of_zero_le hx.1
      obtain ⟨b, rfl⟩ := Int.eq_ofNat_of_zero_le hx.2.2.1
      have ha : a < st.segs := by omega
      have hb : b < st.pages := by omega
      rw [Int.toNat_natCast, Int.toNat_natCast]
      obtain ⟨g, cap, rfl, hc1, hc2, hcs⟩ := hl
      obtain ⟨pg, hpg⟩ : ∃ x, st.page a b = x := ⟨_, rfl⟩
      rw [hpg]
      go_enter Try.func25, Try.ntmps25
      go_upto_region 1 with fail
      generalize w.alloc (.cells A 53) = W1 at *
      have c0 := T1.c 0 rfl 0 h.p0.1
      rw [ho'] at c0
      have HO := Lib.hid T1.only
      have HL := Lib.hid (T1.loadAll 0 rfl 53 _ Try.underlying53 rfl info53s h.size)
      have HI := Lib.hid (rin_any h (a : Int) (b : Int) W1)
      rw [hh] at HI
      have HT := Lib.hid T1
      have hlt := at_lt ha hb
      obtain ⟨hz0, hz1⟩ := lc_two ha hb
      have hc0 := hcs _ _ hz0
      have hc1' := hcs _ _ hz1
      have hlen := h.lens
      have hmb : a * st.pages ≤ 64 * 16 := Nat.mul_le_mul (by omega) (by omega)
      have hcA := h.pages
      have hcL := h.l
      have hmul : (a : Int) * (st.pages : Int) = ((a * st.pages : Nat) : Int) := by simp
      obtain ⟨q, hq⟩ : ∃ q, st.pages = q := ⟨_, rfl⟩
      rw [hpg] at hc0 hc1'
      rw [hq] at hcA hlt hc0 hc1' hmb hcL hmul
      obtain ⟨M, hM⟩ : ∃ M, a * q = M := ⟨_, rfl⟩
      obtain ⟨L, hL⟩ : ∃ L, st.segs * q = L := ⟨_, rfl⟩
      rw [hM] at hlt hc0 hc1' hmb hmul
      rw [hL] at hlt hcL
      have hw1 : IntKind.i64.wrap (M : Int) = (M : Int) := by rw [IntKind.wrap_i64]; omega
      have hbb : b < 16 := by omega
      obtain ⟨N, hN⟩ : ∃ N, M + b = N := ⟨_, rfl⟩
      have hadd : (M : Int) + (b : Int) = (N : Int) := by omega
      rw [hN] at hlt hc0 hc1'
      have hw2 : IntKind.i64.wrap (N : Int) = (N : Int) := by rw [IntKind.wrap_i64]; omega
      have hNL : (N : Int) < (L : Int) := by omega
      have HC := Lib.hid (And.intro hc0 hc1')
      clear T1 h ho ho' hh hx hlen hz0 hz1 hc0 hc1' hcs HR hc1 hq hpg hM hL hN
      go_upto_region 5 with (first | ((with_reducible refine wpList_load_at ?_ 53 (.tmp 3) ?_ _ ?_ _ HL.out ?_); rfl; rfl; rfl) | (go_at_call 41; (with_reducible refine HI.out.mono ?_); rintro e w2 ⟨rfl, k2⟩))
      have T2 := HT.out.on k2
      have d1 := T2.c 0 rfl 5 hcA
      have d2 := T2.c 0 rfl 71 hcL
      have o2 := HO.out.trans k2
      have HLD := Lib.hid (load97 ((World.cell?_of_block (o2.block _ (World.block_lt_of_cell? w _ HC.out.1) (fun x => x))).trans HC.out.1) ((World.cell?_of_block (o2.block _ (World.block_lt_of_cell? w _ HC.out.2) (fun x => x))).trans HC.out.2))
      have HO2 := Lib.hid o2
      clear T2 k2 o2 hcA hcL c0 HT HI HL
      go_upto_region 6 with ((with_reducible refine wpList_load_at ?_ 97 (.tmp 26) ?_ _ ?_ _ HLD.out ?_); rfl; rfl; rfl)
      have HO3 : Hid (Only (fun _ => False) w (w2.alloc (.cells #[.bool pg.isSome, .string (pg.getD ByteArray.empty)] 97))) := HO2.out.alloc _
      have hg3 : (w2.alloc (.cells #[.bool pg.isSome, .string (pg.getD ByteArray.empty)] 97)).heap[w2.heap.size]? = some (.cells #[.bool pg.isSome, .string (pg.getD ByteArray.empty)] 97 (0, 0)) := heap_alloc_new _ _
      generalize w2.alloc (.cells #[.bool pg.isSome, .string (pg.getD ByteArray.empty)] 97) = W3 at *
      have q0 := cell_of_row _ _ 0 _ _ _ hg3
      have q1 := cell_of_row _ _ 1 _ _ _ hg3
      clear hg3
      go_quiet (fail)
      go_wp2_with fail
      go_ret3
      exact ⟨rfl, HO3.out.drewN _⟩
end Go.Proofs.Ytjnjnkkdpglfhaa
