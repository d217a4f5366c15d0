/-
  The chip: Erase. (Printed by mkera.py.)
-/
import Derived.Test.YtjnjnkkdpglfhaaPro
set_option linter.unusedVariables false
namespace Go.Proofs.Ytjnjnkkdpglfhaa
open Go.RowKit

theorem zero91 (w : World) : (zeroValue 91).run Try.prog w = .ok (.pointer none) w := by kernel_rfl
theorem zeroCells_nil (n : Nat) : (Builtin.zeroCells #[Value.pointer none] n).toList = List.replicate n (.pointer none) := by
  apply List.ext_getElem?
  intro i
  by_cases hi : i < n
  · rw [List.getElem?_replicate, if_pos hi]
    simp [Builtin.zeroCells, hi, Nat.mod_one]
  · rw [List.getElem?_replicate, if_neg hi, List.getElem?_eq_none]
    simp [size_zeroCells]
    omega
theorem clear_at (w : World) {g n c : Nat} {ty : TypeId} {cs : Array Value} (hg : w.heap[g]? = some (.cells cs 91 (0, 0))) (hn : n ≤ cs.size) :
    ∃ W cs', (Builtin.clear_ #[77] ty #[.slice (some ⟨g, 0, none⟩) n c]).run Try.prog w = .ok (.tuple #[]) W ∧ W.heap[g]? = some (.cells cs' 91 (0, 0)) ∧ cs'.size = cs.size ∧
      (∀ j, cs'[j]? = if j < n ∧ j < cs.size then some (.pointer none) else cs[j]?) ∧ Only (fun k => k = g) w W := by
  cases n with
  | zero => exact ⟨w, cs, by simp [Builtin.clear_, run_underlying Try.underlying77], hg, rfl, fun j => by rw [if_neg (by omega)], Only.refl _ _⟩
  | succ n =>
    have hst := run_storeCells_at Try.prog g 0 91 (List.replicate (n + 1) (.pointer none)) 0 cs w hg (by simp; omega) (by intro v hv; rw [List.eq_of_mem_replicate hv]; rfl)
    refine ⟨w.setRow g (cs.toList.take (0 + 0) ++ List.replicate (n + 1) (Value.pointer none) ++ cs.toList.drop (0 + 0 + (List.replicate (n + 1) (Value.pointer none)).length)).toArray, _, ?_, setRow_heap _ _ _ _ _ _ hg, ?_, ?_, ⟨rfl, rfl, rfl, by simp, fun k hk hs => setRow_other w g k _ hs⟩⟩
    · have hz : (Value.pointer none).cells = #[.pointer none] := rfl
      simp only [Builtin.clear_, List.getElem?_toArray, List.getElem?_cons_zero, Sem.run_bind, run_underlying Try.underlying77, Result.andThen_ok, zero91, hz, zeroCells_nil, hst, Sem.run_pure]
    · simp
      omega
    · intro j
      simp only [Nat.add_zero, Nat.zero_add, List.take_zero, List.nil_append, List.length_replicate, List.getElem?_toArray]
      by_cases hj : j < n + 1
      · rw [if_pos ⟨hj, by omega⟩, List.getElem?_append_left (by simpa using hj), List.getElem?_replicate, if_pos hj]
      · rw [if_neg (by omega), List.getElem?_append_right (by simp; omega), List.length_replicate, List.getElem?_drop]
        simp
        congr 1
        omega
section
variable {P : Program} {ops : Array Oper} {S : World → Prop} {md : Region.Mode} {Q : Exit → Act → World → Prop}
theorem exec_clear {o : Oper} {a : Act} {w w' : World} (x : Operand) (t : TypeId) (ho : o.op = .call { callee := .builtin .clear, args := #[x], argTypes := #[t] }) (u : Value) (hx : a.eval x = u) (hrun : (Builtin.clear_ #[t] o.type #[u]).run P w = .ok (.tuple #[]) w') :
    (execOp a.eval o).run P w = .ok (.value (.tuple #[])) w' := by
  unfold execOp
  simp only [ho, resolve, invoke, builtin, Sem.run_bind, Sem.run_pure, Result.andThen_ok, List.map_toArray, List.map_cons, List.map_nil, hx, hrun]
end
def Cp.ers (st : Cp) (i n : Nat) : Cp := { st with page := clrP st.page i n, wear := fun k => if k = i then st.wear i + 1 else st.wear k, erases := st.erases + 1 }
/-- How many pages an erasure takes. -/
def erN (st : Cp) (p : Pw) (wh : Bool) : Nat := if wh = true then st.pages else min st.pages p.keep.toNat
section
variable {B gc gl gp : Nat} {pg : Nat → Nat} {pv : Value} {st : Cp} {p : Pw} {a w : World} {T : List (Nat × Array Value × TypeId)}


set_option maxHeartbeats 8000000 in
theorem er1_w {bi bc i : Nat} (h : Chip B gc gl gp pg pv st p w) (hT : Tab ((bi, #[.int .i64 i], 3) :: (bc, #[.pointer (some ⟨gc, 0, none⟩)], 23) :: T) a w) (hno : ∀ q ∈ ((bi, #[.int .i64 i], 3) :: (bc, #[.pointer (some ⟨gc, 0, none⟩)], 23) :: T), ¬ Mine gc gl gp pg pv st.segs q.1) (hB : a.heap.size ≤ B) (hpi : p.In) (hi : i < st.segs) (hE : 0 ≤ st.erases ∧ st.erases ≤ 100000000) (hW : 0 ≤ st.wear i ∧ st.wear i < 9223372036854775807) :
    Calls Try.prog 36 #[.bool true, .pointer (some ⟨bc, 0, none⟩), .pointer (some ⟨bi, 0, none⟩)] w fun e w' => e = .returned (.tuple #[]) ∧ Chip B gc gl gp pg pv (st.ers i (erN st p true)) p w' ∧ Held ((bi, #[.int .i64 i], 3) :: (bc, #[.pointer (some ⟨gc, 0, none⟩)], 23) :: T) a B gc gl gp pg pv st.segs w' := by
  have HI := Lib.hid hi
  have HBA := Lib.hid hB
  have HE := Lib.hid hE
  have HWE := Lib.hid hW
  have HNO := Lib.hid hno
  have c2 := h.c2
  have c1 := h.c1
  have b1 := hT.c 1 rfl 0 (v := .pointer (some ⟨gc, 0, none⟩)) rfl
  have HK := Lib.hid (kept_any gp p w h.pw)
  have HW := Lib.hid h
  have HTW := Lib.hid hT
  have hij : (i : Int) < (st.segs : Int) := by omega
  have hi0 : (0 : Int) ≤ (i : Int) := by omega
  obtain ⟨n, hn⟩ : ∃ n, n = erN st p true := ⟨_, rfl⟩
  have HN : Hid (n ≤ st.pages) := by
    rw [hn]
    unfold erN Hid
    rw [if_pos rfl]; exact Nat.le_refl _
  have hnp : (n : Int) ≤ (st.pages : Int) := by have := HN.out; omega
  have hn0 : (0 : Int) ≤ (n : Int) := by omega
  have hnn : n ≤ st.pages := HN.out
  have hpn : (st.pages : Int) = (n : Int) := by rw [hn]; rfl
  rw [hpn] at c1
  rw [← hn]
  clear h hT hno hB hpi hi hE hW hn
  go_enter Try.func36, Try.ntmps36
  go_wp2_with fail
  refine HK.out.mono ?_
  rintro e w1 ⟨rfl, m, rfl⟩
  go_wp2_with fail
  obtain ⟨X, hX⟩ : ∃ X, X = w.drewN m := ⟨_, rfl⟩
  have HC := Lib.hid (HW.out.keep ((Only.refl _ w).drewN m))
  have HTT := Lib.hid (HTW.out.drewN m)
  rw [← hX] at HC HTT ⊢
  clear hX
  refine wp_region_held (S := (fun W => Tab ((bi, #[.int .i64 i], 3) :: (bc, #[.pointer (some ⟨gc, 0, none⟩)], 23) :: T) a W ∧ W.cell? ⟨gc, 4, none⟩ = some (.slice (some ⟨gl, 0, none⟩) st.segs st.segs) ∧ W.cell? ⟨gl, i * 3, none⟩ = some (.slice (some ⟨pg i, 0, none⟩) st.pages st.pages))) (by kernel_rfl) ?_
  change wpAnyH _ _ _ _ _ _ _ _ (World.drew _)
  have hC4 := HC.out.keep (Only.refl _ _).drew
  have hT4 := HTT.out.drew
  have hS0 : (fun W => Tab ((bi, #[.int .i64 i], 3) :: (bc, #[.pointer (some ⟨gc, 0, none⟩)], 23) :: T) a W ∧ W.cell? ⟨gc, 4, none⟩ = some (.slice (some ⟨gl, 0, none⟩) st.segs st.segs) ∧ W.cell? ⟨gl, i * 3, none⟩ = some (.slice (some ⟨pg i, 0, none⟩) st.pages st.pages)) (World.drew X) := ⟨hT4, hC4.c4, hC4.pgs HI.out⟩
  have F1 := Lib.hid (fun W (h : (fun W => Tab ((bi, #[.int .i64 i], 3) :: (bc, #[.pointer (some ⟨gc, 0, none⟩)], 23) :: T) a W ∧ W.cell? ⟨gc, 4, none⟩ = some (.slice (some ⟨gl, 0, none⟩) st.segs st.segs) ∧ W.cell? ⟨gl, i * 3, none⟩ = some (.slice (some ⟨pg i, 0, none⟩) st.pages st.pages)) W) => h.1.c 1 rfl 0 (v := .pointer (some ⟨gc, 0, none⟩)) rfl)
  have F2 := Lib.hid (fun W (h : (fun W => Tab ((bi, #[.int .i64 i], 3) :: (bc, #[.pointer (some ⟨gc, 0, none⟩)], 23) :: T) a W ∧ W.cell? ⟨gc, 4, none⟩ = some (.slice (some ⟨gl, 0, none⟩) st.segs st.segs) ∧ W.cell? ⟨gl, i * 3, none⟩ = some (.slice (some ⟨pg i, 0, none⟩) st.pages st.pages)) W) => h.2.1)
  have F3 := Lib.hid (fun W (h : (fun W => Tab ((bi, #[.int .i64 i], 3) :: (bc, #[.pointer (some ⟨gc, 0, none⟩)], 23) :: T) a W ∧ W.cell? ⟨gc, 4, none⟩ = some (.slice (some ⟨gl, 0, none⟩) st.segs st.segs) ∧ W.cell? ⟨gl, i * 3, none⟩ = some (.slice (some ⟨pg i, 0, none⟩) st.pages st.pages)) W) => h.1.c 0 rfl 0 (v := .int .i64 i) rfl)
  have F4 := Lib.hid (fun W (h : (fun W => Tab ((bi, #[.int .i64 i], 3) :: (bc, #[.pointer (some ⟨gc, 0, none⟩)], 23) :: T) a W ∧ W.cell? ⟨gc, 4, none⟩ = some (.slice (some ⟨gl, 0, none⟩) st.segs st.segs) ∧ W.cell? ⟨gl, i * 3, none⟩ = some (.slice (some ⟨pg i, 0, none⟩) st.pages st.pages)) W) => h.2.2)
  obtain ⟨cs, hcs, hcz, -⟩ := hC4.page i HI.out
  obtain ⟨X5, cs', hr5, g5, z5, e5, o5⟩ := clear_at (World.drew X) (n := n) (c := st.pages) (ty := 0) hcs (by rw [hcz]; exact HN.out)
  have hT5 : Tab ((bi, #[.int .i64 i], 3) :: (bc, #[.pointer (some ⟨gc, 0, none⟩)], 23) :: T) a X5 := hT4.move o5 (fun q hq hk => HNO.out q hq (.inr (.inr (.inr (.inl ⟨i, HI.out, hk⟩))))) (fun k hk => by rw [hk]; exact Nat.le_trans HBA.out (HC.out.base.2.2.2 i HI.out))
  have hC5 := hC4.clear (n := n) HI.out g5 ⟨cs, hcs, z5, e5⟩ o5
  have HR5 := Lib.hid hr5
  have HS5 : Hid ((fun W => Tab ((bi, #[.int .i64 i], 3) :: (bc, #[.pointer (some ⟨gc, 0, none⟩)], 23) :: T) a W ∧ W.cell? ⟨gc, 4, none⟩ = some (.slice (some ⟨gl, 0, none⟩) st.segs st.segs) ∧ W.cell? ⟨gl, i * 3, none⟩ = some (.slice (some ⟨pg i, 0, none⟩) st.pages st.pages)) X5) := ⟨hT5, hC5.c4, hC5.pgs HI.out⟩
  have HT5 := Lib.hid hT5
  have HC5 := Lib.hid hC5
  clear hcs hcz hr5 g5 z5 e5 o5 hT5 hC5 hC4 hT4
  refine held_take (i := 0) (v := (.pointer (some ⟨gc, 0, none⟩))) rfl rfl (by kernel_rfl) (by kernel_rfl) (by kernel_rfl) (fun _ _ _ h => h) (Or.inl ⟨by rfl, fun w hS => by have hc := F1.out w hS; go_simp⟩) hS0 ?_
  simp only [List.setIfInBounds_toArray, List.set]
  refine held_pure (i := 1) (v := (.pointer (some ⟨gc, 0, none⟩))) rfl rfl (by kernel_rfl) (by kernel_rfl) (by kernel_rfl) (fun _ _ _ h => h) (Or.inl ⟨by rfl, fun w => by go_simp⟩) hS0 ?_
  simp only [List.setIfInBounds_toArray, List.set]
  refine held_pure (i := 2) (v := (.pointer (some ⟨gc, 4, none⟩))) rfl rfl (by kernel_rfl) (by kernel_rfl) (by kernel_rfl) (fun _ _ _ h => h) (Or.inl ⟨by rfl, fun w => by go_simp⟩) hS0 ?_
  simp only [List.setIfInBounds_toArray, List.set]
  refine held_take (i := 3) (v := (.slice (some ⟨gl, 0, none⟩) st.segs st.segs)) rfl rfl (by kernel_rfl) (by kernel_rfl) (by kernel_rfl) (fun _ _ _ h => h) (Or.inl ⟨by rfl, fun w hS => by have hc := F2.out w hS; go_simp⟩) hS0 ?_
  simp only [List.setIfInBounds_toArray, List.set]
  refine held_take (i := 4) (v := (.int .i64 i)) rfl rfl (by kernel_rfl) (by kernel_rfl) (by kernel_rfl) (fun _ _ _ h => h) (Or.inl ⟨by rfl, fun w hS => by have hc := F3.out w hS; go_simp⟩) hS0 ?_
  simp only [List.setIfInBounds_toArray, List.set]
  refine held_pure (i := 5) (v := (.pointer (some ⟨gl, i * 3, none⟩))) rfl rfl (by kernel_rfl) (by kernel_rfl) (by kernel_rfl) (fun _ _ _ h => h) (Or.inl ⟨by rfl, fun w => by go_simp⟩) hS0 ?_
  simp only [List.setIfInBounds_toArray, List.set]
  refine held_pure (i := 6) (v := (.pointer (some ⟨gl, i * 3, none⟩))) rfl rfl (by kernel_rfl) (by kernel_rfl) (by kernel_rfl) (fun _ _ _ h => h) (Or.inl ⟨by rfl, fun w => by go_simp⟩) hS0 ?_
  simp only [List.setIfInBounds_toArray, List.set]
  refine held_take (i := 7) (v := (.slice (some ⟨pg i, 0, none⟩) st.pages st.pages)) rfl rfl (by kernel_rfl) (by kernel_rfl) (by kernel_rfl) (fun _ _ _ h => h) (Or.inl ⟨by rfl, fun w hS => by have hc := F4.out w hS; go_simp⟩) hS0 ?_
  simp only [List.setIfInBounds_toArray, List.set]
  refine held_pure (i := 8) (v := (.int .i64 n)) rfl rfl (by kernel_rfl) (by kernel_rfl) (by kernel_rfl) (fun _ _ _ h => h) (Or.inl ⟨by rfl, fun w => by go_simp⟩) hS0 ?_
  simp only [List.setIfInBounds_toArray, List.set]
  refine held_pure (i := 9) (v := (.slice (some ⟨pg i, 0, none⟩) n st.pages)) rfl rfl (by kernel_rfl) (by kernel_rfl) (by kernel_rfl) (fun _ _ _ h => h) (Or.inl ⟨by rfl, fun w => by go_simp⟩) hS0 ?_
  simp only [List.setIfInBounds_toArray, List.set]
  refine held_exec (j := 10) (by kernel_rfl) rfl (by rfl) (.tuple #[]) (exec_clear (.tmp 34) 77 rfl _ rfl HR5.out) HS5.out ?_
  change wpAnyH _ _ _ _ _ _ _ _ _
  refine wpAnyH_done (by kernel_rfl) ?_ _
  clear F1 F2 F3 F4 hS0
  go_wp2_with fail
  refine wp_region_held (S := (fun W => Tab ((bi, #[.int .i64 i], 3) :: (bc, #[.pointer (some ⟨gc, 0, none⟩)], 23) :: T) a W ∧ W.cell? ⟨gc, 4, none⟩ = some (.slice (some ⟨gl, 0, none⟩) st.segs st.segs))) (by kernel_rfl) ?_
  change wpAnyH _ _ _ _ _ _ _ _ (World.drew _)
  have hC6 := HC5.out.keep (Only.refl _ X5).drew
  have hT6 := HT5.out.drew
  have hS0 : (fun W => Tab ((bi, #[.int .i64 i], 3) :: (bc, #[.pointer (some ⟨gc, 0, none⟩)], 23) :: T) a W ∧ W.cell? ⟨gc, 4, none⟩ = some (.slice (some ⟨gl, 0, none⟩) st.segs st.segs)) (World.drew X5) := ⟨hT6, hC6.c4⟩
  have G1 := Lib.hid (fun W (h : (fun W => Tab ((bi, #[.int .i64 i], 3) :: (bc, #[.pointer (some ⟨gc, 0, none⟩)], 23) :: T) a W ∧ W.cell? ⟨gc, 4, none⟩ = some (.slice (some ⟨gl, 0, none⟩) st.segs st.segs)) W) => h.1.c 1 rfl 0 (v := .pointer (some ⟨gc, 0, none⟩)) rfl)
  have G2 := Lib.hid (fun W (h : (fun W => Tab ((bi, #[.int .i64 i], 3) :: (bc, #[.pointer (some ⟨gc, 0, none⟩)], 23) :: T) a W ∧ W.cell? ⟨gc, 4, none⟩ = some (.slice (some ⟨gl, 0, none⟩) st.segs st.segs)) W) => h.2)
  have G3 := Lib.hid (fun W (h : (fun W => Tab ((bi, #[.int .i64 i], 3) :: (bc, #[.pointer (some ⟨gc, 0, none⟩)], 23) :: T) a W ∧ W.cell? ⟨gc, 4, none⟩ = some (.slice (some ⟨gl, 0, none⟩) st.segs st.segs)) W) => h.1.c 0 rfl 0 (v := .int .i64 i) rfl)
  have HLW := Lib.hid (load_one 3 _ Try.underlying3 rfl (hC6.wr HI.out))
  have HSM : Hid (IntKind.i64.wrap (st.wear i + 1) = st.wear i + 1) := by
    have := HWE.out
    unfold Hid
    rw [IntKind.wrap_i64]
    omega
  obtain ⟨cs2, hc2, hz2, -⟩ := hC6.segs
  obtain ⟨X6, hs6, g6, o6, -⟩ := one_at (World.drew X5) (o := i * 3 + 1) (ty := 3) (v := .int .i64 (st.wear i + 1)) hc2 info3s rfl (by rw [hz2]; have := HI.out; show i * 3 + 1 < st.segs * 3; omega)
  have hT7 : Tab ((bi, #[.int .i64 i], 3) :: (bc, #[.pointer (some ⟨gc, 0, none⟩)], 23) :: T) a X6 := hT6.move o6 (fun q hq hk => HNO.out q hq (.inr (.inl hk))) (fun k hk => by rw [hk]; exact Nat.le_trans HBA.out HC.out.base.2.1)
  have hC7 := hC6.setWear HI.out (st.wear i + 1) hc2 g6 o6
  have HS6 := Lib.hid hs6
  have HS7 : Hid ((fun W => Tab ((bi, #[.int .i64 i], 3) :: (bc, #[.pointer (some ⟨gc, 0, none⟩)], 23) :: T) a W ∧ W.cell? ⟨gc, 4, none⟩ = some (.slice (some ⟨gl, 0, none⟩) st.segs st.segs)) X6) := ⟨hT7, hC7.c4⟩
  have HT7 := Lib.hid hT7
  have HC7 := Lib.hid hC7
  clear hc2 hz2 hs6 g6 o6 hT7 hC7 hC6 hT6
  have hsm := HSM.out
  refine held_take (i := 0) (v := (.pointer (some ⟨gc, 0, none⟩))) rfl rfl (by kernel_rfl) (by kernel_rfl) (by kernel_rfl) (fun _ _ _ h => h) (Or.inl ⟨by rfl, fun w hS => by have hc := G1.out w hS; go_simp⟩) hS0 ?_
  simp only [List.setIfInBounds_toArray, List.set]
  refine held_pure (i := 1) (v := (.pointer (some ⟨gc, 0, none⟩))) rfl rfl (by kernel_rfl) (by kernel_rfl) (by kernel_rfl) (fun _ _ _ h => h) (Or.inl ⟨by rfl, fun w => by go_simp⟩) hS0 ?_
  simp only [List.setIfInBounds_toArray, List.set]
  refine held_pure (i := 2) (v := (.pointer (some ⟨gc, 4, none⟩))) rfl rfl (by kernel_rfl) (by kernel_rfl) (by kernel_rfl) (fun _ _ _ h => h) (Or.inl ⟨by rfl, fun w => by go_simp⟩) hS0 ?_
  simp only [List.setIfInBounds_toArray, List.set]
  refine held_take (i := 3) (v := (.slice (some ⟨gl, 0, none⟩) st.segs st.segs)) rfl rfl (by kernel_rfl) (by kernel_rfl) (by kernel_rfl) (fun _ _ _ h => h) (Or.inl ⟨by rfl, fun w hS => by have hc := G2.out w hS; go_simp⟩) hS0 ?_
  simp only [List.setIfInBounds_toArray, List.set]
  refine held_take (i := 4) (v := (.int .i64 i)) rfl rfl (by kernel_rfl) (by kernel_rfl) (by kernel_rfl) (fun _ _ _ h => h) (Or.inl ⟨by rfl, fun w hS => by have hc := G3.out w hS; go_simp⟩) hS0 ?_
  simp only [List.setIfInBounds_toArray, List.set]
  refine held_pure (i := 5) (v := (.pointer (some ⟨gl, i * 3, none⟩))) rfl rfl (by kernel_rfl) (by kernel_rfl) (by kernel_rfl) (fun _ _ _ h => h) (Or.inl ⟨by rfl, fun w => by go_simp⟩) hS0 ?_
  simp only [List.setIfInBounds_toArray, List.set]
  refine held_pure (i := 6) (v := (.pointer (some ⟨gl, i * 3 + 1, none⟩))) rfl rfl (by kernel_rfl) (by kernel_rfl) (by kernel_rfl) (fun _ _ _ h => h) (Or.inl ⟨by rfl, fun w => by go_simp⟩) hS0 ?_
  simp only [List.setIfInBounds_toArray, List.set]
  refine held_execd (j := 7) (by kernel_rfl) rfl rfl (by rfl) (.int .i64 (st.wear i)) (exec_load 3 (.tmp 41) rfl _ rfl _ HLW.out) hS0 ?_
  simp only [List.setIfInBounds_toArray, List.set]
  refine held_pure (i := 8) (v := (.int .i64 (st.wear i + 1))) rfl rfl (by kernel_rfl) (by kernel_rfl) (by kernel_rfl) (fun _ _ _ h => h) (Or.inl ⟨by rfl, fun w => by go_simp⟩) hS0 ?_
  simp only [List.setIfInBounds_toArray, List.set]
  refine held_pure (i := 9) (v := (.pointer (some ⟨gl, i * 3, none⟩))) rfl rfl (by kernel_rfl) (by kernel_rfl) (by kernel_rfl) (fun _ _ _ h => h) (Or.inl ⟨by rfl, fun w => by go_simp⟩) hS0 ?_
  simp only [List.setIfInBounds_toArray, List.set]
  refine held_pure (i := 10) (v := (.pointer (some ⟨gl, i * 3 + 1, none⟩))) rfl rfl (by kernel_rfl) (by kernel_rfl) (by kernel_rfl) (fun _ _ _ h => h) (Or.inl ⟨by rfl, fun w => by go_simp⟩) hS0 ?_
  simp only [List.setIfInBounds_toArray, List.set]
  refine held_store (j := 11) (by kernel_rfl) rfl rfl rfl 3 (.tmp 45) (.tmp 43) rfl _ rfl _ rfl HS6.out HS7.out ?_
  refine wpAnyH_done (by kernel_rfl) ?_ _
  clear G1 G2 G3 hS0 hsm
  have b1 := HT7.out.c 1 rfl 0 (v := .pointer (some ⟨gc, 0, none⟩)) rfl
  have b7 := HC7.out.c7
  change X6.cell? _ = some (.int .i64 st.erases) at b7
  obtain ⟨X8, hs8, g8, o8, -⟩ := one_at X6 (o := 7) (ty := 3) (v := .int .i64 (st.erases + 1)) HC7.out.chip info3s rfl (by show 7 < 8; omega)
  have hT9 : Tab ((bi, #[.int .i64 i], 3) :: (bc, #[.pointer (some ⟨gc, 0, none⟩)], 23) :: T) a X8 := HT7.out.move o8 (fun q hq hk => HNO.out q hq (.inl hk)) (fun k hk => by rw [hk]; exact Nat.le_trans HBA.out HC.out.base.1)
  have hC9 : Chip B gc gl gp pg pv (st.ers i n) p X8 := HC7.out.self (st' := st.ers i n) rfl rfl rfl rfl rfl g8 (o8.mono fun k hk => .inl hk) (keepOwn o8 HC7.out.past (fun k hk e => by subst e; obtain ⟨c3, h3⟩ := HC7.out.pastBlock hk; exact heap_ne h3 HC7.out.chip (by decide) rfl)) (fun b s hb hp => hp)
  have HS8 := Lib.hid hs8
  have HF : Hid (Chip B gc gl gp pg pv (st.ers i n) p X8 ∧ Held ((bi, #[.int .i64 i], 3) :: (bc, #[.pointer (some ⟨gc, 0, none⟩)], 23) :: T) a B gc gl gp pg pv st.segs X8) := ⟨hC9, hT9, HNO.out, HBA.out⟩
  have hE0 : 0 ≤ st.erases := HE.out.1
  have hE1 : st.erases ≤ 100000000 := HE.out.2
  clear hs8 g8 o8 hT9 hC9
  go_wp2_with (((with_reducible refine wpList_store_at ?_ 3 (.tmp 52) (.tmp 50) ?_ _ ?_ _ ?_ HS8.out ?_); rfl; rfl; rfl; rfl))
  go_end0
  exact ⟨rfl, HF.out⟩


set_option maxHeartbeats 8000000 in
theorem er1_t {bi bc i : Nat} (h : Chip B gc gl gp pg pv st p w) (hT : Tab ((bi, #[.int .i64 i], 3) :: (bc, #[.pointer (some ⟨gc, 0, none⟩)], 23) :: T) a w) (hno : ∀ q ∈ ((bi, #[.int .i64 i], 3) :: (bc, #[.pointer (some ⟨gc, 0, none⟩)], 23) :: T), ¬ Mine gc gl gp pg pv st.segs q.1) (hB : a.heap.size ≤ B) (hpi : p.In) (hi : i < st.segs) (hE : 0 ≤ st.erases ∧ st.erases ≤ 100000000) (hW : 0 ≤ st.wear i ∧ st.wear i < 9223372036854775807) :
    Calls Try.prog 36 #[.bool false, .pointer (some ⟨bc, 0, none⟩), .pointer (some ⟨bi, 0, none⟩)] w fun e w' => e = .returned (.tuple #[]) ∧ Chip B gc gl gp pg pv (st.ers i (erN st p false)) p w' ∧ Held ((bi, #[.int .i64 i], 3) :: (bc, #[.pointer (some ⟨gc, 0, none⟩)], 23) :: T) a B gc gl gp pg pv st.segs w' := by
  have HI := Lib.hid hi
  have HBA := Lib.hid hB
  have HE := Lib.hid hE
  have HWE := Lib.hid hW
  have HNO := Lib.hid hno
  have c2 := h.c2
  have c1 := h.c1
  have b1 := hT.c 1 rfl 0 (v := .pointer (some ⟨gc, 0, none⟩)) rfl
  have HK := Lib.hid (kept_any gp p w h.pw)
  have HW := Lib.hid h
  have HTW := Lib.hid hT
  have hij : (i : Int) < (st.segs : Int) := by omega
  have hi0 : (0 : Int) ≤ (i : Int) := by omega
  obtain ⟨n, hn⟩ : ∃ n, n = erN st p false := ⟨_, rfl⟩
  have HN : Hid (n ≤ st.pages) := by
    rw [hn]
    unfold erN Hid
    rw [if_neg (by simp)]; omega
  have hnp : (n : Int) ≤ (st.pages : Int) := by have := HN.out; omega
  have hn0 : (0 : Int) ≤ (n : Int) := by omega
  have hnn : n ≤ st.pages := HN.out
  have hmin : min (st.pages : Int) p.keep = (n : Int) := by have := hpi.2.1; rw [hn]; unfold erN; rw [if_neg (by simp)]; omega
  rw [← hn]
  clear h hT hno hB hpi hi hE hW hn
  go_enter Try.func36, Try.ntmps36
  go_wp2_with fail
  refine HK.out.mono ?_
  rintro e w1 ⟨rfl, m, rfl⟩
  go_wp2_with fail
  obtain ⟨X, hX⟩ : ∃ X, X = w.drewN m := ⟨_, rfl⟩
  have HC := Lib.hid (HW.out.keep ((Only.refl _ w).drewN m))
  have HTT := Lib.hid (HTW.out.drewN m)
  rw [← hX] at HC HTT ⊢
  clear hX
  refine wp_region_held (S := (fun W => Tab ((bi, #[.int .i64 i], 3) :: (bc, #[.pointer (some ⟨gc, 0, none⟩)], 23) :: T) a W ∧ W.cell? ⟨gc, 4, none⟩ = some (.slice (some ⟨gl, 0, none⟩) st.segs st.segs) ∧ W.cell? ⟨gl, i * 3, none⟩ = some (.slice (some ⟨pg i, 0, none⟩) st.pages st.pages))) (by kernel_rfl) ?_
  change wpAnyH _ _ _ _ _ _ _ _ (World.drew _)
  have hC4 := HC.out.keep (Only.refl _ _).drew
  have hT4 := HTT.out.drew
  have hS0 : (fun W => Tab ((bi, #[.int .i64 i], 3) :: (bc, #[.pointer (some ⟨gc, 0, none⟩)], 23) :: T) a W ∧ W.cell? ⟨gc, 4, none⟩ = some (.slice (some ⟨gl, 0, none⟩) st.segs st.segs) ∧ W.cell? ⟨gl, i * 3, none⟩ = some (.slice (some ⟨pg i, 0, none⟩) st.pages st.pages)) (World.drew X) := ⟨hT4, hC4.c4, hC4.pgs HI.out⟩
  have F1 := Lib.hid (fun W (h : (fun W => Tab ((bi, #[.int .i64 i], 3) :: (bc, #[.pointer (some ⟨gc, 0, none⟩)], 23) :: T) a W ∧ W.cell? ⟨gc, 4, none⟩ = some (.slice (some ⟨gl, 0, none⟩) st.segs st.segs) ∧ W.cell? ⟨gl, i * 3, none⟩ = some (.slice (some ⟨pg i, 0, none⟩) st.pages st.pages)) W) => h.1.c 1 rfl 0 (v := .pointer (some ⟨gc, 0, none⟩)) rfl)
  have F2 := Lib.hid (fun W (h : (fun W => Tab ((bi, #[.int .i64 i], 3) :: (bc, #[.pointer (some ⟨gc, 0, none⟩)], 23) :: T) a W ∧ W.cell? ⟨gc, 4, none⟩ = some (.slice (some ⟨gl, 0, none⟩) st.segs st.segs) ∧ W.cell? ⟨gl, i * 3, none⟩ = some (.slice (some ⟨pg i, 0, none⟩) st.pages st.pages)) W) => h.2.1)
  have F3 := Lib.hid (fun W (h : (fun W => Tab ((bi, #[.int .i64 i], 3) :: (bc, #[.pointer (some ⟨gc, 0, none⟩)], 23) :: T) a W ∧ W.cell? ⟨gc, 4, none⟩ = some (.slice (some ⟨gl, 0, none⟩) st.segs st.segs) ∧ W.cell? ⟨gl, i * 3, none⟩ = some (.slice (some ⟨pg i, 0, none⟩) st.pages st.pages)) W) => h.1.c 0 rfl 0 (v := .int .i64 i) rfl)
  have F4 := Lib.hid (fun W (h : (fun W => Tab ((bi, #[.int .i64 i], 3) :: (bc, #[.pointer (some ⟨gc, 0, none⟩)], 23) :: T) a W ∧ W.cell? ⟨gc, 4, none⟩ = some (.slice (some ⟨gl, 0, none⟩) st.segs st.segs) ∧ W.cell? ⟨gl, i * 3, none⟩ = some (.slice (some ⟨pg i, 0, none⟩) st.pages st.pages)) W) => h.2.2)
  obtain ⟨cs, hcs, hcz, -⟩ := hC4.page i HI.out
  obtain ⟨X5, cs', hr5, g5, z5, e5, o5⟩ := clear_at (World.drew X) (n := n) (c := st.pages) (ty := 0) hcs (by rw [hcz]; exact HN.out)
  have hT5 : Tab ((bi, #[.int .i64 i], 3) :: (bc, #[.pointer (some ⟨gc, 0, none⟩)], 23) :: T) a X5 := hT4.move o5 (fun q hq hk => HNO.out q hq (.inr (.inr (.inr (.inl ⟨i, HI.out, hk⟩))))) (fun k hk => by rw [hk]; exact Nat.le_trans HBA.out (HC.out.base.2.2.2 i HI.out))
  have hC5 := hC4.clear (n := n) HI.out g5 ⟨cs, hcs, z5, e5⟩ o5
  have HR5 := Lib.hid hr5
  have HS5 : Hid ((fun W => Tab ((bi, #[.int .i64 i], 3) :: (bc, #[.pointer (some ⟨gc, 0, none⟩)], 23) :: T) a W ∧ W.cell? ⟨gc, 4, none⟩ = some (.slice (some ⟨gl, 0, none⟩) st.segs st.segs) ∧ W.cell? ⟨gl, i * 3, none⟩ = some (.slice (some ⟨pg i, 0, none⟩) st.pages st.pages)) X5) := ⟨hT5, hC5.c4, hC5.pgs HI.out⟩
  have HT5 := Lib.hid hT5
  have HC5 := Lib.hid hC5
  clear hcs hcz hr5 g5 z5 e5 o5 hT5 hC5 hC4 hT4
  refine held_take (i := 0) (v := (.pointer (some ⟨gc, 0, none⟩))) rfl rfl (by kernel_rfl) (by kernel_rfl) (by kernel_rfl) (fun _ _ _ h => h) (Or.inl ⟨by rfl, fun w hS => by have hc := F1.out w hS; go_simp⟩) hS0 ?_
  simp only [List.setIfInBounds_toArray, List.set]
  refine held_pure (i := 1) (v := (.pointer (some ⟨gc, 0, none⟩))) rfl rfl (by kernel_rfl) (by kernel_rfl) (by kernel_rfl) (fun _ _ _ h => h) (Or.inl ⟨by rfl, fun w => by go_simp⟩) hS0 ?_
  simp only [List.setIfInBounds_toArray, List.set]
  refine held_pure (i := 2) (v := (.pointer (some ⟨gc, 4, none⟩))) rfl rfl (by kernel_rfl) (by kernel_rfl) (by kernel_rfl) (fun _ _ _ h => h) (Or.inl ⟨by rfl, fun w => by go_simp⟩) hS0 ?_
  simp only [List.setIfInBounds_toArray, List.set]
  refine held_take (i := 3) (v := (.slice (some ⟨gl, 0, none⟩) st.segs st.segs)) rfl rfl (by kernel_rfl) (by kernel_rfl) (by kernel_rfl) (fun _ _ _ h => h) (Or.inl ⟨by rfl, fun w hS => by have hc := F2.out w hS; go_simp⟩) hS0 ?_
  simp only [List.setIfInBounds_toArray, List.set]
  refine held_take (i := 4) (v := (.int .i64 i)) rfl rfl (by kernel_rfl) (by kernel_rfl) (by kernel_rfl) (fun _ _ _ h => h) (Or.inl ⟨by rfl, fun w hS => by have hc := F3.out w hS; go_simp⟩) hS0 ?_
  simp only [List.setIfInBounds_toArray, List.set]
  refine held_pure (i := 5) (v := (.pointer (some ⟨gl, i * 3, none⟩))) rfl rfl (by kernel_rfl) (by kernel_rfl) (by kernel_rfl) (fun _ _ _ h => h) (Or.inl ⟨by rfl, fun w => by go_simp⟩) hS0 ?_
  simp only [List.setIfInBounds_toArray, List.set]
  refine held_pure (i := 6) (v := (.pointer (some ⟨gl, i * 3, none⟩))) rfl rfl (by kernel_rfl) (by kernel_rfl) (by kernel_rfl) (fun _ _ _ h => h) (Or.inl ⟨by rfl, fun w => by go_simp⟩) hS0 ?_
  simp only [List.setIfInBounds_toArray, List.set]
  refine held_take (i := 7) (v := (.slice (some ⟨pg i, 0, none⟩) st.pages st.pages)) rfl rfl (by kernel_rfl) (by kernel_rfl) (by kernel_rfl) (fun _ _ _ h => h) (Or.inl ⟨by rfl, fun w hS => by have hc := F4.out w hS; go_simp⟩) hS0 ?_
  simp only [List.setIfInBounds_toArray, List.set]
  refine held_pure (i := 8) (v := (.int .i64 n)) rfl rfl (by kernel_rfl) (by kernel_rfl) (by kernel_rfl) (fun _ _ _ h => h) (Or.inl ⟨by rfl, fun w => by go_simp⟩) hS0 ?_
  simp only [List.setIfInBounds_toArray, List.set]
  refine held_pure (i := 9) (v := (.slice (some ⟨pg i, 0, none⟩) n st.pages)) rfl rfl (by kernel_rfl) (by kernel_rfl) (by kernel_rfl) (fun _ _ _ h => h) (Or.inl ⟨by rfl, fun w => by go_simp⟩) hS0 ?_
  simp only [List.setIfInBounds_toArray, List.set]
  refine held_exec (j := 10) (by kernel_rfl) rfl (by rfl) (.tuple #[]) (exec_clear (.tmp 34) 77 rfl _ rfl HR5.out) HS5.out ?_
  change wpAnyH _ _ _ _ _ _ _ _ _
  refine wpAnyH_done (by kernel_rfl) ?_ _
  clear F1 F2 F3 F4 hS0
  go_wp2_with fail
  refine wp_region_held (S := (fun W => Tab ((bi, #[.int .i64 i], 3) :: (bc, #[.pointer (some ⟨gc, 0, none⟩)], 23) :: T) a W ∧ W.cell? ⟨gc, 4, none⟩ = some (.slice (some ⟨gl, 0, none⟩) st.segs st.segs))) (by kernel_rfl) ?_
  change wpAnyH _ _ _ _ _ _ _ _ (World.drew _)
  have hC6 := HC5.out.keep (Only.refl _ X5).drew
  have hT6 := HT5.out.drew
  have hS0 : (fun W => Tab ((bi, #[.int .i64 i], 3) :: (bc, #[.pointer (some ⟨gc, 0, none⟩)], 23) :: T) a W ∧ W.cell? ⟨gc, 4, none⟩ = some (.slice (some ⟨gl, 0, none⟩) st.segs st.segs)) (World.drew X5) := ⟨hT6, hC6.c4⟩
  have G1 := Lib.hid (fun W (h : (fun W => Tab ((bi, #[.int .i64 i], 3) :: (bc, #[.pointer (some ⟨gc, 0, none⟩)], 23) :: T) a W ∧ W.cell? ⟨gc, 4, none⟩ = some (.slice (some ⟨gl, 0, none⟩) st.segs st.segs)) W) => h.1.c 1 rfl 0 (v := .pointer (some ⟨gc, 0, none⟩)) rfl)
  have G2 := Lib.hid (fun W (h : (fun W => Tab ((bi, #[.int .i64 i], 3) :: (bc, #[.pointer (some ⟨gc, 0, none⟩)], 23) :: T) a W ∧ W.cell? ⟨gc, 4, none⟩ = some (.slice (some ⟨gl, 0, none⟩) st.segs st.segs)) W) => h.2)
  have G3 := Lib.hid (fun W (h : (fun W => Tab ((bi, #[.int .i64 i], 3) :: (bc, #[.pointer (some ⟨gc, 0, none⟩)], 23) :: T) a W ∧ W.cell? ⟨gc, 4, none⟩ = some (.slice (some ⟨gl, 0, none⟩) st.segs st.segs)) W) => h.1.c 0 rfl 0 (v := .int .i64 i) rfl)
  have HLW := Lib.hid (load_one 3 _ Try.underlying3 rfl (hC6.wr HI.out))
  have HSM : Hid (IntKind.i64.wrap (st.wear i + 1) = st.wear i + 1) := by
    have := HWE.out
    unfold Hid
    rw [IntKind.wrap_i64]
    omega
  obtain ⟨cs2, hc2, hz2, -⟩ := hC6.segs
  obtain ⟨X6, hs6, g6, o6, -⟩ := one_at (World.drew X5) (o := i * 3 + 1) (ty := 3) (v := .int .i64 (st.wear i + 1)) hc2 info3s rfl (by rw [hz2]; have := HI.out; show i * 3 + 1 < st.segs * 3; omega)
  have hT7 : Tab ((bi, #[.int .i64 i], 3) :: (bc, #[.pointer (some ⟨gc, 0, none⟩)], 23) :: T) a X6 := hT6.move o6 (fun q hq hk => HNO.out q hq (.inr (.inl hk))) (fun k hk => by rw [hk]; exact Nat.le_trans HBA.out HC.out.base.2.1)
  have hC7 := hC6.setWear HI.out (st.wear i + 1) hc2 g6 o6
  have HS6 := Lib.hid hs6
  have HS7 : Hid ((fun W => Tab ((bi, #[.int .i64 i], 3) :: (bc, #[.pointer (some ⟨gc, 0, none⟩)], 23) :: T) a W ∧ W.cell? ⟨gc, 4, none⟩ = some (.slice (some ⟨gl, 0, none⟩) st.segs st.segs)) X6) := ⟨hT7, hC7.c4⟩
  have HT7 := Lib.hid hT7
  have HC7 := Lib.hid hC7
  clear hc2 hz2 hs6 g6 o6 hT7 hC7 hC6 hT6
  have hsm := HSM.out
  refine held_take (i := 0) (v := (.pointer (some ⟨gc, 0, none⟩))) rfl rfl (by kernel_rfl) (by kernel_rfl) (by kernel_rfl) (fun _ _ _ h => h) (Or.inl ⟨by rfl, fun w hS => by have hc := G1.out w hS; go_simp⟩) hS0 ?_
  simp only [List.setIfInBounds_toArray, List.set]
  refine held_pure (i := 1) (v := (.pointer (some ⟨gc, 0, none⟩))) rfl rfl (by kernel_rfl) (by kernel_rfl) (by kernel_rfl) (fun _ _ _ h => h) (Or.inl ⟨by rfl, fun w => by go_simp⟩) hS0 ?_
  simp only [List.setIfInBounds_toArray, List.set]
  refine held_pure (i := 2) (v := (.pointer (some ⟨gc, 4, none⟩))) rfl rfl (by kernel_rfl) (by kernel_rfl) (by kernel_rfl) (fun _ _ _ h => h) (Or.inl ⟨by rfl, fun w => by go_simp⟩) hS0 ?_
  simp only [List.setIfInBounds_toArray, List.set]
  refine held_take (i := 3) (v := (.slice (some ⟨gl, 0, none⟩) st.segs st.segs)) rfl rfl (by kernel_rfl) (by kernel_rfl) (by kernel_rfl) (fun _ _ _ h => h) (Or.inl ⟨by rfl, fun w hS => by have hc := G2.out w hS; go_simp⟩) hS0 ?_
  simp only [List.setIfInBounds_toArray, List.set]
  refine held_take (i := 4) (v := (.int .i64 i)) rfl rfl (by kernel_rfl) (by kernel_rfl) (by kernel_rfl) (fun _ _ _ h => h) (Or.inl ⟨by rfl, fun w hS => by have hc := G3.out w hS; go_simp⟩) hS0 ?_
  simp only [List.setIfInBounds_toArray, List.set]
  refine held_pure (i := 5) (v := (.pointer (some ⟨gl, i * 3, none⟩))) rfl rfl (by kernel_rfl) (by kernel_rfl) (by kernel_rfl) (fun _ _ _ h => h) (Or.inl ⟨by rfl, fun w => by go_simp⟩) hS0 ?_
  simp only [List.setIfInBounds_toArray, List.set]
  refine held_pure (i := 6) (v := (.pointer (some ⟨gl, i * 3 + 1, none⟩))) rfl rfl (by kernel_rfl) (by kernel_rfl) (by kernel_rfl) (fun _ _ _ h => h) (Or.inl ⟨by rfl, fun w => by go_simp⟩) hS0 ?_
  simp only [List.setIfInBounds_toArray, List.set]
  refine held_execd (j := 7) (by kernel_rfl) rfl rfl (by rfl) (.int .i64 (st.wear i)) (exec_load 3 (.tmp 41) rfl _ rfl _ HLW.out) hS0 ?_
  simp only [List.setIfInBounds_toArray, List.set]
  refine held_pure (i := 8) (v := (.int .i64 (st.wear i + 1))) rfl rfl (by kernel_rfl) (by kernel_rfl) (by kernel_rfl) (fun _ _ _ h => h) (Or.inl ⟨by rfl, fun w => by go_simp⟩) hS0 ?_
  simp only [List.setIfInBounds_toArray, List.set]
  refine held_pure (i := 9) (v := (.pointer (some ⟨gl, i * 3, none⟩))) rfl rfl (by kernel_rfl) (by kernel_rfl) (by kernel_rfl) (fun _ _ _ h => h) (Or.inl ⟨by rfl, fun w => by go_simp⟩) hS0 ?_
  simp only [List.setIfInBounds_toArray, List.set]
  refine held_pure (i := 10) (v := (.pointer (some ⟨gl, i * 3 + 1, none⟩))) rfl rfl (by kernel_rfl) (by kernel_rfl) (by kernel_rfl) (fun _ _ _ h => h) (Or.inl ⟨by rfl, fun w => by go_simp⟩) hS0 ?_
  simp only [List.setIfInBounds_toArray, List.set]
  refine held_store (j := 11) (by kernel_rfl) rfl rfl rfl 3 (.tmp 45) (.tmp 43) rfl _ rfl _ rfl HS6.out HS7.out ?_
  refine wpAnyH_done (by kernel_rfl) ?_ _
  clear G1 G2 G3 hS0 hsm
  have b1 := HT7.out.c 1 rfl 0 (v := .pointer (some ⟨gc, 0, none⟩)) rfl
  have b7 := HC7.out.c7
  change X6.cell? _ = some (.int .i64 st.erases) at b7
  obtain ⟨X8, hs8, g8, o8, -⟩ := one_at X6 (o := 7) (ty := 3) (v := .int .i64 (st.erases + 1)) HC7.out.chip info3s rfl (by show 7 < 8; omega)
  have hT9 : Tab ((bi, #[.int .i64 i], 3) :: (bc, #[.pointer (some ⟨gc, 0, none⟩)], 23) :: T) a X8 := HT7.out.move o8 (fun q hq hk => HNO.out q hq (.inl hk)) (fun k hk => by rw [hk]; exact Nat.le_trans HBA.out HC.out.base.1)
  have hC9 : Chip B gc gl gp pg pv (st.ers i n) p X8 := HC7.out.self (st' := st.ers i n) rfl rfl rfl rfl rfl g8 (o8.mono fun k hk => .inl hk) (keepOwn o8 HC7.out.past (fun k hk e => by subst e; obtain ⟨c3, h3⟩ := HC7.out.pastBlock hk; exact heap_ne h3 HC7.out.chip (by decide) rfl)) (fun b s hb hp => hp)
  have HS8 := Lib.hid hs8
  have HF : Hid (Chip B gc gl gp pg pv (st.ers i n) p X8 ∧ Held ((bi, #[.int .i64 i], 3) :: (bc, #[.pointer (some ⟨gc, 0, none⟩)], 23) :: T) a B gc gl gp pg pv st.segs X8) := ⟨hC9, hT9, HNO.out, HBA.out⟩
  have hE0 : 0 ≤ st.erases := HE.out.1
  have hE1 : st.erases ≤ 100000000 := HE.out.2
  clear hs8 g8 o8 hT9 hC9
  go_wp2_with (((with_reducible refine wpList_store_at ?_ 3 (.tmp 52) (.tmp 50) ?_ _ ?_ _ ?_ HS8.out ?_); rfl; rfl; rfl; rfl))
  go_end0
  exact ⟨rfl, HF.out⟩

end
end Go.Proofs.Ytjnjnkkdpglfhaa
