/-
  The chip: New, History. (Printed by mknew.py.)
-/
import Derived.Test.YtjnjnkkdpglfhaaErb
set_option linter.unusedVariables false
namespace Go.Proofs.Ytjnjnkkdpglfhaa
open Go.RowKit

def newCp (sg pz : Nat) (rt : Int) (bd : Nat → Bool) : Cp := ⟨sg, pz, rt, fun _ _ => none, fun _ => 0, bd, [], 0, 0⟩
theorem info79 : (Try.prog.info? 79).map (fun i => (i.zero, i.size, i.bytes)) = some (some (.agg #[.slice none 0 0, .int .i64 0, .bool false]), 3, 40) := by kernel_rfl
theorem info91 : (Try.prog.info? 91).map (fun i => (i.zero, i.size, i.bytes)) = some (some (.pointer none), 1, 8) := by kernel_rfl
theorem build75 (sg pz gp gl : Nat) (rt : Int) (bd : Nat → Bool) (w : World) :
    (Instr.build 75 #[(0, .agg (szA sg pz)), (1, .pointer (some ⟨gp, 0, none⟩)), (2, .int .i64 rt), (3, .slice (some ⟨gl, 0, none⟩) sg sg)]).run Try.prog w = .ok (.agg (cpA gl gp (.slice none 0 0) (newCp sg pz rt bd))) w := run_build w 75 _ _ (by kernel_rfl)
theorem build72 (sg pz : Nat) (w : World) : (Instr.build 72 #[(0, .int .i64 sg), (1, .int .i64 pz)]).run Try.prog w = .ok (.agg (szA sg pz)) w := run_build w 72 _ _ (by kernel_rfl)
theorem make73 (sg : Nat) (hs : sg ≤ 64) (w : World) : (Instr.makeSlice 73 (.int .i64 sg) (.int .i64 sg)).run Try.prog w = .ok (.slice (some ⟨w.heap.size, 0, none⟩) sg sg) (w.alloc (.cells (madeCells #[.slice none 0 0, .int .i64 0, .bool false] (sg * 3)) 79)) := by
  obtain ⟨i, hi, hz, h1, h2⟩ := info_parts info79
  have := run_make (P := Try.prog) w 73 79 i _ Try.underlying73 hi hz .i64 .i64 sg sg (by omega) (by omega) (by rw [h2]; omega) (by omega)
  rw [h1, show (Value.agg #[Value.slice none 0 0, .int .i64 0, .bool false]).cells = #[Value.slice none 0 0, .int .i64 0, .bool false] from rfl] at this
  simpa using this
theorem make77 (n : Nat) (hs : n ≤ 16) (w : World) : (Instr.makeSlice 77 (.int .i64 n) (.int .i64 n)).run Try.prog w = .ok (.slice (some ⟨w.heap.size, 0, none⟩) n n) (w.alloc (.cells (madeCells #[.pointer none] n) 91)) := by
  obtain ⟨i, hi, hz, h1, h2⟩ := info_parts info91
  have := run_make (P := Try.prog) w 77 91 i _ Try.underlying77 hi hz .i64 .i64 n n (by omega) (by omega) (by rw [h2]; omega) (by omega)
  rw [h1, Nat.mul_one, show (Value.pointer none).cells = #[Value.pointer none] from rfl] at this
  simpa using this
theorem made79 (sg i : Nat) (hi : i < sg) : (madeCells #[Value.slice none 0 0, .int .i64 0, .bool false] (sg * 3))[i * 3]? = some (.slice none 0 0) ∧ (madeCells #[Value.slice none 0 0, .int .i64 0, .bool false] (sg * 3))[i * 3 + 1]? = some (.int .i64 0) ∧ (madeCells #[Value.slice none 0 0, .int .i64 0, .bool false] (sg * 3))[i * 3 + 2]? = some (.bool false) := by
  have e0 : i * 3 % 3 = 0 := by omega
  have e1 : (i * 3 + 1) % 3 = 1 := by omega
  have e2 : (i * 3 + 2) % 3 = 2 := by omega
  refine ⟨?_, ?_, ?_⟩
  · rw [madeCells, Array.getElem?_map, Array.getElem?_range, if_pos (by omega)]; simp [e0]
  · rw [madeCells, Array.getElem?_map, Array.getElem?_range, if_pos (by omega)]; simp [e1]
  · rw [madeCells, Array.getElem?_map, Array.getElem?_range, if_pos (by omega)]; simp [e2]
theorem made91 (n j : Nat) (hj : j < n) : (madeCells #[Value.pointer none] n)[j]? = some (.pointer none) := by
  rw [madeCells, Array.getElem?_map, Array.getElem?_range, if_pos hj]
  simp [Nat.mod_one]

/-- What New's loop has done behind k rounds. -/
structure Laid (w : World) (gp sg pz : Nat) (rt : Int) (bd : Nat → Bool) (pg : Nat → Nat) (k : Nat) (wr : World) : Prop where
  chip : wr.heap[w.heap.size + 1]? = some (.cells (cpA w.heap.size gp (.slice none 0 0) (newCp sg pz rt bd)) 75 (0, 0))
  segs : ∃ cs, wr.heap[w.heap.size]? = some (.cells cs 79 (0, 0)) ∧ cs.size = sg * 3 ∧ ∀ i, i < sg → (i < k → cs[i * 3]? = some (.slice (some ⟨pg i, 0, none⟩) pz pz)) ∧ cs[i * 3 + 1]? = some (.int .i64 0) ∧ cs[i * 3 + 2]? = some (.bool (if i < k then bd i else false))
  page : ∀ i, i < k → wr.heap[pg i]? = some (.cells (madeCells #[.pointer none] pz) 91 (0, 0))
  inj : ∀ i j, i < k → j < k → pg i = pg j → i = j
  new : ∀ i, i < k → w.heap.size ≤ pg i
  only : Only (fun _ => False) w wr
theorem Laid.on {w wr x : World} {gp sg pz : Nat} {rt : Int} {bd : Nat → Bool} {pg : Nat → Nat} {k : Nat} (h : Laid w gp sg pz rt bd pg k wr) (o : Only (fun _ => False) wr x) : Laid w gp sg pz rt bd pg k x := by
  refine ⟨keepRow o h.chip (fun x => x), ?_, fun i hi => keepRow o (h.page i hi) (fun x => x), h.inj, h.new, h.only.trans o⟩
  obtain ⟨cs, h1, h2⟩ := h.segs
  exact ⟨cs, keepRow o h1 (fun x => x), h2⟩
theorem Laid.c4 {w wr : World} {gp sg pz : Nat} {rt : Int} {bd : Nat → Bool} {pg : Nat → Nat} {k : Nat} (h : Laid w gp sg pz rt bd pg k wr) : wr.cell? ⟨w.heap.size + 1, 4, none⟩ = some (.slice (some ⟨w.heap.size, 0, none⟩) sg sg) := cell_of_row wr _ 4 _ _ _ h.chip
theorem fresh_only {a b c : World} {S : Nat → Prop} (h : Only (fun _ => False) a b) (k : Only S b c) (hs : ∀ k, S k → a.heap.size ≤ k) : Only (fun _ => False) a c :=
  ⟨k.os.trans h.os, k.tape.trans h.tape, k.output.trans h.output, Nat.le_trans h.size k.size, fun i hi hf => (k.block i (Nat.lt_of_lt_of_le hi h.size) fun x => by have := hs i x; omega).trans (h.block i hi hf)⟩
theorem Laid.all {w wr : World} {gp sg pz B : Nat} {rt : Int} {bd : Nat → Bool} {pg : Nat → Nat} {q : Pw} (h : Laid w gp sg pz rt bd pg sg wr) (hq : IsPw gp q w) (h1 : sg ≤ 64) (h2 : pz ≤ 16) (hB : B ≤ gp) (hBw : B ≤ w.heap.size) :
    Chip B (w.heap.size + 1) w.heap.size gp pg (.slice none 0 0) (newCp sg pz rt bd) q wr := by
  refine ⟨h.chip, ?_, fun i hi => ⟨_, h.page i hi, size_madeCells _ _, fun j hj => ⟨.pointer none, made91 _ _ hj, .inl ⟨rfl, rfl⟩⟩⟩, keepRow h.only hq (fun x => x), World.ownsRow_nil _ _ _ _, h.inj, ⟨h1, h2⟩, ⟨by omega, hBw, hB, fun i hi => Nat.le_trans hBw (h.new i hi)⟩⟩
  obtain ⟨cs, k1, k2, k3⟩ := h.segs
  refine ⟨cs, k1, k2, fun i hi => ?_⟩
  have hi' : i < sg := hi
  obtain ⟨e1, e2, e3⟩ := k3 i hi'
  refine ⟨e1 hi', e2, ?_⟩
  rw [if_pos hi'] at e3
  exact e3

set_option maxRecDepth 100000 in
set_option maxHeartbeats 8000000 in
theorem new_ok (w : World) (gp sg pz B : Nat) (rt : Int) (bv : Value) (bd : Nat → Bool) (q : Pw) (hq : IsPw gp q w) (h1 : 1 ≤ sg ∧ sg ≤ 64) (h2 : 1 ≤ pz ∧ pz ≤ 16) (h3 : 0 ≤ rt) (hB : B ≤ gp) (hBw : B ≤ w.heap.size)
    (hbad : ∀ W, Only (fun _ => False) w W → ∀ k : Nat, k < sg → Calls Try.prog 33 #[bv, .int .i64 k] W fun e w' => e = .returned (.bool (bd k)) ∧ W = w') :
    Calls Try.prog 8 #[.pointer (some ⟨gp, 0, none⟩), .int .i64 sg, .int .i64 pz, .int .i64 rt, bv] w fun e w' => e = .returned (.pointer (some ⟨w.heap.size + 1, 0, none⟩)) ∧ ∃ pg, Chip B (w.heap.size + 1) w.heap.size gp pg (.slice none 0 0) (newCp sg pz rt bd) q w' ∧ Only (fun _ => False) w w' ∧ ∀ i, i < sg → w.heap.size ≤ pg i := by
  have HBD := Lib.hid hbad
  have HQ := Lib.hid hq
  have HX1 := Lib.hid h1
  have HX2 := Lib.hid h2
  have HB1 := Lib.hid hB
  have HB2 := Lib.hid hBw
  have hr1 : (0 : Int) ≤ (sg : Int) := by omega
  have hr2 : (0 : Int) ≤ (pz : Int) := by omega
  have n1 : ¬ (sg : Int) < 1 := by omega
  have n2 : ¬ (64 : Int) < (sg : Int) := by omega
  have n3 : ¬ (pz : Int) < 1 := by omega
  have n4 : ¬ (16 : Int) < (pz : Int) := by omega
  have n5 : ¬ rt < 0 := by omega
  have d1 : decide ((sg : Int) < 1) = false := decide_eq_false n1
  have d2 : decide ((64 : Int) < (sg : Int)) = false := decide_eq_false n2
  have d3 : decide ((pz : Int) < 1) = false := decide_eq_false n3
  have d4 : decide ((16 : Int) < (pz : Int)) = false := decide_eq_false n4
  have d5 : decide (rt < 0) = false := decide_eq_false n5
  have d6 : decide ((sg : Int) ≤ 0) = false := decide_eq_false (by omega)
  have d7 : decide ((pz : Int) ≤ 0) = false := decide_eq_false (by omega)
  have HM := Lib.hid (make73 sg h1.2 w)
  have HB72 := Lib.hid (fun W => build72 sg pz W)
  have HB75 := Lib.hid (fun W => build75 sg pz gp w.heap.size rt bd W)
  have HL0 : Hid (Laid w gp sg pz rt bd (fun _ => 0) 0 ((w.alloc (.cells (madeCells #[.slice none 0 0, .int .i64 0, .bool false] (sg * 3)) 79)).alloc (.cells (cpA w.heap.size gp (.slice none 0 0) (newCp sg pz rt bd)) 75))) := by
    have T0 := Tab.box2 w (madeCells #[.slice none 0 0, .int .i64 0, .bool false] (sg * 3)) (cpA w.heap.size gp (.slice none 0 0) (newCp sg pz rt bd)) 79 75
    refine ⟨T0.get 0 rfl, ⟨_, T0.get 1 rfl, size_madeCells _ _, fun i hi => ⟨fun h => by omega, (made79 sg i hi).2.1, ?_⟩⟩, fun i hi => by omega, fun i j hi => by omega, fun i hi => by omega, T0.only⟩
    rw [if_neg (by omega)]
    exact (made79 sg i hi).2.2
  have hlc : sg ≤ 9223372036854775807 := by omega
  clear hbad hq h1 h2 h3 hB hBw
  generalize madeCells #[.slice none 0 0, .int .i64 0, .bool false] (sg * 3) = M0 at *
  generalize cpA w.heap.size gp (.slice none 0 0) (newCp sg pz rt bd) = C0 at *
  have c40 := HL0.out.c4
  go_enter Try.func8, Try.ntmps8
  go_wp2_with (first | ((with_reducible refine wpList_make_at ?_ 73 (.tmp 40) (.tmp 40) ?_ _ _ _ ?_ ?_ HM.out ?_); rfl; rfl; rfl; rfl) | ((with_reducible refine wpList_build_at ?_ 72 #[(0, .tmp 35), (1, .tmp 36)] ?_ [(0, .int .i64 sg), (1, .int .i64 pz)] ?_ _ (HB72.out _) ?_); rfl; rfl; rfl) | ((with_reducible refine wpList_build_at ?_ 75 #[(0, .tmp 37), (1, .tmp 38), (2, .tmp 39), (3, .tmp 41)] ?_ [(0, .agg (szA sg pz)), (1, .pointer (some ⟨gp, 0, none⟩)), (2, .int .i64 rt), (3, .slice (some ⟨w.heap.size, 0, none⟩) sg sg)] ?_ _ (HB75.out _) ?_); rfl; rfl; rfl))
  go_loopw [49] (fun i wr => ∃ (k : Nat) (pg : Nat → Nat), k ≤ sg ∧ i = .int .i64 k ∧ Hid (Laid w gp sg pz rt bd pg k wr)) (fun i _ => sg - (intOf i).toNat)
  case atStart => exact ⟨0, _, by omega, rfl, HL0.out⟩
  case round =>
    obtain ⟨k, pg, hk, rfl, hL⟩ := hrel
    clear c40
    by_cases hlt : k < sg
    · have hlt' : (k : Int) < sg := by omega
      have hk0 : (0 : Int) ≤ (k : Int) := by omega
      have HK := Lib.hid hlt
      go_wp2_with fail
      have hD := hL.out.on (Only.refl _ wr).drew
      have hS0 : (fun (W : World) => W.cell? ⟨w.heap.size + 1, 4, none⟩ = some (.slice (some ⟨w.heap.size, 0, none⟩) sg sg)) (World.drew wr) := hD.c4
      have HMK := Lib.hid (make77 pz HX2.out.2 (World.drew wr))
      have hA := hD.on ((Only.refl _ (World.drew wr)).alloc (.cells (madeCells #[.pointer none] pz) 91))
      have HSA : Hid ((fun (W : World) => W.cell? ⟨w.heap.size + 1, 4, none⟩ = some (.slice (some ⟨w.heap.size, 0, none⟩) sg sg)) ((World.drew wr).alloc (.cells (madeCells #[.pointer none] pz) 91))) := hA.c4
      obtain ⟨cs, hc1, hc2, hc3⟩ := hA.segs
      obtain ⟨W6, hs6, g6, o6, z6⟩ := one_at ((World.drew wr).alloc (.cells (madeCells #[.pointer none] pz) 91)) (o := k * 3) (ty := 77) (v := .slice (some ⟨(World.drew wr).heap.size, 0, none⟩) pz pz) hc1 info77s rfl (by omega)
      have hgl : w.heap.size < (World.drew wr).heap.size := by
        obtain ⟨c2, e2, _⟩ := hD.segs
        exact (Array.getElem?_eq_some_iff.1 e2).1
      have hgc : w.heap.size + 1 < (World.drew wr).heap.size := (Array.getElem?_eq_some_iff.1 hD.chip).1
      have hpglt : ∀ i, i < k → pg i < (World.drew wr).heap.size := fun i hi => (Array.getElem?_eq_some_iff.1 (hD.page i hi)).1
      have hC6 : W6.heap[w.heap.size + 1]? = some (.cells (cpA w.heap.size gp (.slice none 0 0) (newCp sg pz rt bd)) 75 (0, 0)) := keepRow o6 hA.chip (by omega)
      have hN6 : W6.heap[(World.drew wr).heap.size]? = some (.cells (madeCells #[.pointer none] pz) 91 (0, 0)) := keepRow o6 (heap_alloc_new _ _) (by omega)
      have hO6 : Only (fun _ => False) w W6 := fresh_only hA.only o6 (by rintro k rfl; exact Nat.le_refl _)
      have HS6 := Lib.hid hs6
      have HSB : Hid ((fun (W : World) => W.cell? ⟨w.heap.size + 1, 4, none⟩ = some (.slice (some ⟨w.heap.size, 0, none⟩) sg sg)) W6) := cell_of_row W6 _ 4 _ _ _ hC6
      -- the segment's own row, and its mark
      obtain ⟨W9, hs9, g9, o9, z9⟩ := one_at (World.drew W6) (o := k * 3 + 2) (ty := 4) (v := .bool (bd k)) (A := cs.setIfInBounds (k * 3) (.slice (some ⟨(World.drew wr).heap.size, 0, none⟩) pz pz)) g6 info4s rfl (by rw [Array.size_setIfInBounds]; omega)
      have hL9 : Laid w gp sg pz rt bd (fun i => if i = k then (World.drew wr).heap.size else pg i) (k + 1) W9 := by
        refine ⟨keepRow o9 hC6 (by omega), ⟨_, g9, by rw [Array.size_setIfInBounds, Array.size_setIfInBounds]; exact hc2, fun i hi => ?_⟩, fun i hi => ?_, ?_, ?_, fresh_only hO6.drew o9 (by rintro k rfl; exact Nat.le_refl _)⟩
        · obtain ⟨e1, e2, e3⟩ := hc3 i hi
          by_cases hik : i = k
          · subst hik
            refine ⟨fun _ => ?_, ?_, ?_⟩
            · rw [Array.getElem?_setIfInBounds_ne (by omega), Array.getElem?_setIfInBounds_self_of_lt (by omega)]
              simp
            · rw [Array.getElem?_setIfInBounds_ne (by omega), Array.getElem?_setIfInBounds_ne (by omega)]
              exact e2
            · rw [Array.getElem?_setIfInBounds_self_of_lt (by rw [Array.size_setIfInBounds]; omega), if_pos (by omega)]
          · refine ⟨fun h => ?_, ?_, ?_⟩
            · rw [Array.getElem?_setIfInBounds_ne (by omega), Array.getElem?_setIfInBounds_ne (by omega)]
              simp only [if_neg hik]
              exact e1 (by omega)
            · rw [Array.getElem?_setIfInBounds_ne (by omega), Array.getElem?_setIfInBounds_ne (by omega)]
              exact e2
            · rw [Array.getElem?_setIfInBounds_ne (by omega), Array.getElem?_setIfInBounds_ne (by omega), e3]
              by_cases hlk : i < k
              · rw [if_pos hlk, if_pos (by omega)]
              · rw [if_neg hlk, if_neg (by omega)]
        · by_cases hik : i = k
          · subst hik
            simp only [if_true]
            exact keepRow o9 hN6 (by omega)
          · simp only [if_neg hik]
            have hil : i < k := by omega
            have h6 := keepRow o6 (hA.page i hil) (by
              obtain ⟨c2, e2, _⟩ := hA.segs
              exact heap_ne (hA.page i hil) e2 (by decide))
            exact keepRow o9 h6 (by
              obtain ⟨c2, e2, _⟩ := hA.segs
              exact heap_ne (hA.page i hil) e2 (by decide))
        · intro i j hi hj e
          by_cases hik : i = k <;> by_cases hjk : j = k
          · omega
          · simp only [if_pos hik, if_neg hjk] at e
            have := hpglt j (by omega)
            omega
          · simp only [if_neg hik, if_pos hjk] at e
            have := hpglt i (by omega)
            omega
          · simp only [if_neg hik, if_neg hjk] at e
            exact hD.inj i j (by omega) (by omega) e
        · intro i hi
          by_cases hik : i = k
          · simp only [if_pos hik]; omega
          · simp only [if_neg hik]; exact hD.new i (by omega)
      have HCT := Lib.hid (HBD.out (World.drew W6) hO6.drew k hlt)
      have HS9 := Lib.hid hs9
      have HSC : Hid ((fun (W : World) => W.cell? ⟨w.heap.size + 1, 4, none⟩ = some (.slice (some ⟨w.heap.size, 0, none⟩) sg sg)) W9) := hL9.c4
      have HL9 := Lib.hid hL9
      have hE : (fun (W : World) => W.cell? ⟨w.heap.size + 1, 4, none⟩ = some (.slice (some ⟨w.heap.size, 0, none⟩) sg sg)) (World.drew W6) := HSB.out
      have HE := Lib.hid hE
      have F3 := Lib.hid (fun W (h : (fun (W : World) => W.cell? ⟨w.heap.size + 1, 4, none⟩ = some (.slice (some ⟨w.heap.size, 0, none⟩) sg sg)) W) => h)
      clear hA hc1 hc2 hc3 hs6 g6 o6 z6 hgl hgc hpglt hC6 hN6 hO6 hs9 g9 o9 z9 hL9 hD hlt hE
      refine wp_region_held (S := (fun (W : World) => W.cell? ⟨w.heap.size + 1, 4, none⟩ = some (.slice (some ⟨w.heap.size, 0, none⟩) sg sg))) (by kernel_rfl) ?_
      change wpAnyH _ _ _ _ _ _ _ _ (World.drew _)
      refine held_pure (i := 0) (v := (.pointer (some ⟨(w.heap.size + 1), 0, none⟩))) rfl rfl (by kernel_rfl) (by kernel_rfl) (by kernel_rfl) (fun _ _ _ h => h) (Or.inl ⟨by rfl, fun w => by go_simp⟩) hS0 ?_
      simp only [List.setIfInBounds_toArray, List.set]
      refine held_pure (i := 1) (v := (.pointer (some ⟨(w.heap.size + 1), 0, none⟩))) rfl rfl (by kernel_rfl) (by kernel_rfl) (by kernel_rfl) (fun _ _ _ h => h) (Or.inl ⟨by rfl, fun w => by go_simp⟩) hS0 ?_
      simp only [List.setIfInBounds_toArray, List.set]
      refine held_pure (i := 2) (v := (.pointer (some ⟨(w.heap.size + 1), 4, none⟩))) rfl rfl (by kernel_rfl) (by kernel_rfl) (by kernel_rfl) (fun _ _ _ h => h) (Or.inl ⟨by rfl, fun w => by go_simp⟩) hS0 ?_
      simp only [List.setIfInBounds_toArray, List.set]
      refine held_take (i := 3) (v := (.slice (some ⟨w.heap.size, 0, none⟩) sg sg)) rfl rfl (by kernel_rfl) (by kernel_rfl) (by kernel_rfl) (fun _ _ _ h => h) (Or.inl ⟨by rfl, fun w hS => by have hc := F3.out w hS; go_simp⟩) hS0 ?_
      simp only [List.setIfInBounds_toArray, List.set]
      refine held_pure (i := 4) (v := (.int .i64 k)) rfl rfl (by kernel_rfl) (by kernel_rfl) (by kernel_rfl) (fun _ _ _ h => h) (Or.inl ⟨by rfl, fun w => by go_simp⟩) hS0 ?_
      simp only [List.setIfInBounds_toArray, List.set]
      refine held_pure (i := 5) (v := (.int .i64 pz)) rfl rfl (by kernel_rfl) (by kernel_rfl) (by kernel_rfl) (fun _ _ _ h => h) (Or.inl ⟨by rfl, fun w => by go_simp⟩) hS0 ?_
      simp only [List.setIfInBounds_toArray, List.set]
      refine held_make (j := 6) (by kernel_rfl) rfl rfl rfl 77 (.tmp 57) (.tmp 57) rfl _ _ _ rfl rfl HMK.out HSA.out ?_
      simp only [List.setIfInBounds_toArray, List.set]
      refine held_pure (i := 7) (v := (.pointer (some ⟨w.heap.size, k * 3, none⟩))) rfl rfl (by kernel_rfl) (by kernel_rfl) (by kernel_rfl) (fun _ _ _ h => h) (Or.inl ⟨by rfl, fun w => by go_simp⟩) HSA.out ?_
      simp only [List.setIfInBounds_toArray, List.set]
      refine held_pure (i := 8) (v := (.pointer (some ⟨w.heap.size, k * 3, none⟩))) rfl rfl (by kernel_rfl) (by kernel_rfl) (by kernel_rfl) (fun _ _ _ h => h) (Or.inl ⟨by rfl, fun w => by go_simp⟩) HSA.out ?_
      simp only [List.setIfInBounds_toArray, List.set]
      refine held_store (j := 9) (by kernel_rfl) rfl rfl rfl 77 (.tmp 60) (.tmp 58) rfl _ rfl _ rfl HS6.out HSB.out ?_
      refine wpAnyH_done (by kernel_rfl) ?_ _
      clear hS0
      go_wp2_with fail
      refine wp_region_held (S := (fun (W : World) => W.cell? ⟨w.heap.size + 1, 4, none⟩ = some (.slice (some ⟨w.heap.size, 0, none⟩) sg sg))) (by kernel_rfl) ?_
      change wpAnyH _ _ _ _ _ _ _ _ (World.drew _)
      have hS0 := HE.out
      refine held_pure (i := 0) (v := (.pointer (some ⟨(w.heap.size + 1), 0, none⟩))) rfl rfl (by kernel_rfl) (by kernel_rfl) (by kernel_rfl) (fun _ _ _ h => h) (Or.inl ⟨by rfl, fun w => by go_simp⟩) hS0 ?_
      simp only [List.setIfInBounds_toArray, List.set]
      refine held_pure (i := 1) (v := (.pointer (some ⟨(w.heap.size + 1), 0, none⟩))) rfl rfl (by kernel_rfl) (by kernel_rfl) (by kernel_rfl) (fun _ _ _ h => h) (Or.inl ⟨by rfl, fun w => by go_simp⟩) hS0 ?_
      simp only [List.setIfInBounds_toArray, List.set]
      refine held_pure (i := 2) (v := (.pointer (some ⟨(w.heap.size + 1), 4, none⟩))) rfl rfl (by kernel_rfl) (by kernel_rfl) (by kernel_rfl) (fun _ _ _ h => h) (Or.inl ⟨by rfl, fun w => by go_simp⟩) hS0 ?_
      simp only [List.setIfInBounds_toArray, List.set]
      refine held_take (i := 3) (v := (.slice (some ⟨w.heap.size, 0, none⟩) sg sg)) rfl rfl (by kernel_rfl) (by kernel_rfl) (by kernel_rfl) (fun _ _ _ h => h) (Or.inl ⟨by rfl, fun w hS => by have hc := F3.out w hS; go_simp⟩) hS0 ?_
      simp only [List.setIfInBounds_toArray, List.set]
      refine held_pure (i := 4) (v := (.int .i64 k)) rfl rfl (by kernel_rfl) (by kernel_rfl) (by kernel_rfl) (fun _ _ _ h => h) (Or.inl ⟨by rfl, fun w => by go_simp⟩) hS0 ?_
      simp only [List.setIfInBounds_toArray, List.set]
      refine held_pure (i := 5) (v := bv) rfl rfl (by kernel_rfl) (by kernel_rfl) (by kernel_rfl) (fun _ _ _ h => h) (Or.inl ⟨by rfl, fun w => by go_simp⟩) hS0 ?_
      simp only [List.setIfInBounds_toArray, List.set]
      refine held_pure (i := 6) (v := (.int .i64 k)) rfl rfl (by kernel_rfl) (by kernel_rfl) (by kernel_rfl) (fun _ _ _ h => h) (Or.inl ⟨by rfl, fun w => by go_simp⟩) hS0 ?_
      simp only [List.setIfInBounds_toArray, List.set]
      refine held_call (j := 7) (by kernel_rfl) rfl rfl (by rfl) Try.func33 (by kernel_rfl) rfl rfl [bv, .int .i64 k] rfl HCT.out ?_
      rintro y1 rfl
      refine ⟨hS0, ?_⟩
      simp only [List.setIfInBounds_toArray, List.set]
      refine held_pure (i := 8) (v := (.pointer (some ⟨w.heap.size, k * 3, none⟩))) rfl rfl (by kernel_rfl) (by kernel_rfl) (by kernel_rfl) (fun _ _ _ h => h) (Or.inl ⟨by rfl, fun w => by go_simp⟩) hS0 ?_
      simp only [List.setIfInBounds_toArray, List.set]
      refine held_pure (i := 9) (v := (.pointer (some ⟨w.heap.size, k * 3 + 2, none⟩))) rfl rfl (by kernel_rfl) (by kernel_rfl) (by kernel_rfl) (fun _ _ _ h => h) (Or.inl ⟨by rfl, fun w => by go_simp⟩) hS0 ?_
      simp only [List.setIfInBounds_toArray, List.set]
      refine held_store (j := 10) (by kernel_rfl) rfl rfl rfl 4 (.tmp 70) (.tmp 68) rfl _ rfl _ rfl HS9.out HSC.out ?_
      refine wpAnyH_done (by kernel_rfl) ?_ _
      clear hS0
      go_wp2_with fail
      go_roundw
      case rel => exact ⟨k + 1, _, by have := HK.out; omega, by go_num, HL9.out⟩
      case measure => have := HK.out; simp [intOf]; omega
    · obtain rfl : k = sg := by omega
      go_wp2_with fail
      go_ret
      exact ⟨rfl, pg, hL.out.all HQ.out HX1.out.2 HX2.out.2 HB1.out HB2.out, hL.out.only, hL.out.new⟩

end Go.Proofs.Ytjnjnkkdpglfhaa
