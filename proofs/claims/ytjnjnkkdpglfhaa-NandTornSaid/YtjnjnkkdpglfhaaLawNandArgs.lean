/-
  NandArgs: the walk.
-/
import Derived.Test.YtjnjnkkdpglfhaaLawNandWears
import Derived.Deep.OwnRows
set_option linter.unusedVariables false
namespace Go.Proofs.Ytjnjnkkdpglfhaa
open Go.RowKit

theorem new_cell (w : World) (cs : Array Value) (e : TypeId) (i : Nat) : (w.alloc (.cells cs e)).cell? ⟨w.heap.size, i, none⟩ = cs[i]? := by
  simp only [World.cell?, heap_alloc_new]
  rfl
theorem zero_str (w : World) (n : Nat) :
    (convert 35 9 (.slice (some ⟨w.heap.size, 0, none⟩) n n)).run Try.prog (w.alloc (.cells (madeCells #[.int .u8 0] n) 5)) = .ok (.string (strOfNums (List.replicate n 0))) (w.alloc (.cells (madeCells #[.int .u8 0] n) 5)) := by
  refine run_convert_bytes_arg (P := Try.prog) _ 35 5 Try.underlying35 Try.underlying5 w.heap.size 0 n n _ (by simp) ?_ 9 Try.underlying9
  intro i hi
  have e := toList_madeCells_one (.int .u8 0) n
  have e2 : (madeCells #[.int .u8 0] n)[i]? = some (.int .u8 0) := by rw [← Array.getElem?_toList, e]; simp [hi]
  rw [new_cell, Nat.zero_add, e2]; simp [hi]
theorem zero_size (n : Nat) : (strOfNums (List.replicate n 0)).size = n := by
  show (strOfNums (List.replicate n 0)).data.size = n
  simp [strOfNums]

theorem number_any (b : Bool) (w : World) : Calls Try.prog 16 #[.bool b] w fun e w' => e = .returned (.int .i64 (if b = true then 1 else 0)) ∧ w = w' := by
  cases b
  · go_enter Try.func16, Try.ntmps16
    go_wp2_with fail
    go_ret
    exact ⟨rfl, rfl⟩
  · go_enter Try.func16, Try.ntmps16
    go_wp2_with fail
    go_ret
    exact ⟨rfl, rfl⟩

def bd2 : Nat → Bool := fun k => k == 2
def pA (off : Bool) : Pw := ⟨off, 0, 0, 0⟩
theorem pA_in (off : Bool) : (pA off).In := by cases off <;> exact ⟨⟨by decide, by decide⟩, by decide, by decide, by decide, by decide⟩
def wantA (off : Bool) (i j : Int) (n : Nat) : Int := if off = true then 4 else if hasB 3 4 i j = false ∨ 256 < n then 1 else 0
def wornA (off : Bool) (i : Int) : Int := if off = true then 4 else if hasB 3 4 i 0 = false then 1 else if bd2 i.toNat = true then 101 else 0
structure Ag (st : Cp) (P : Int) : Prop where
  segs : st.segs = 3
  pages : st.pages = 4
  rated : st.rated = 1
  bad : st.bad = bd2
  wear : st.wear = fun _ => 0
  programs : st.programs = P
  erases : st.erases = 0
section
variable {B gc gl gp : Nat} {pg : Nat → Nat} {st : Cp} {a w : World} {off : Bool}
theorem args_prog (h : On [] a B gc gl gp pg (newCp 3 4 1 bd2) (pA off) w) (i j : Int) (s : ByteArray) :
    Calls Try.prog 15 #[.pointer (some ⟨gc, 0, none⟩), .int .i64 i, .int .i64 j, .string s] w fun e w' => e = .returned (.int .i64 (wantA off i j s.size)) ∧ ∃ st, Ag st (if wantA off i j s.size = 0 then 1 else 0) ∧ On [] a B gc gl gp pg st (pA off) w' := by
  refine (program_on h i j s (pA_in off) (by decide) ⟨by decide, by decide⟩).mono ?_
  rintro e w' ⟨rfl, h1⟩
  cases off
  · by_cases hh : hasB 3 4 i j = false ∨ 256 < s.size
    · have e1 : (newCp 3 4 1 bd2).prE (pA false) i j s = 1 := by
        rw [Cp.prE, if_neg (by decide)]; exact if_pos hh
      have e2 : (newCp 3 4 1 bd2).fits (pA false) i j s = false := by
        unfold Cp.fits
        rcases hh with hh | hh
        · rw [show hasB (newCp 3 4 1 bd2).segs (newCp 3 4 1 bd2).pages i j = false from hh]; simp
        · rw [decide_eq_false (show ¬ s.size ≤ 256 by omega)]; simp
      have e3 : wantA false i j s.size = 1 := by rw [wantA, if_neg (by decide), if_pos hh]
      rw [Cp.prS, Cp.prP, e2] at h1
      rw [e1, e3]
      exact ⟨rfl, _, ⟨rfl, rfl, rfl, rfl, rfl, rfl, rfl⟩, h1⟩
    · have hb : hasB 3 4 i j = true := by cases hq : hasB 3 4 i j; exact absurd (.inl hq) hh; rfl
      have e1 : (newCp 3 4 1 bd2).prE (pA false) i j s = 0 := by
        rw [Cp.prE, if_neg (by decide)]; exact (if_neg hh).trans rfl
      have e2 : (newCp 3 4 1 bd2).fits (pA false) i j s = true := by
        unfold Cp.fits
        rw [show hasB (newCp 3 4 1 bd2).segs (newCp 3 4 1 bd2).pages i j = true from hb, decide_eq_true (show s.size ≤ 256 by omega)]; rfl
      have e3 : wantA false i j s.size = 0 := by rw [wantA, if_neg (by decide), if_neg hh]
      rw [Cp.prS, Cp.prP, e2] at h1
      rw [e1, e3]
      exact ⟨rfl, _, ⟨rfl, rfl, rfl, rfl, rfl, rfl, rfl⟩, h1⟩
  · have e1 : (newCp 3 4 1 bd2).prE (pA true) i j s = 4 := rfl
    have e2 : (newCp 3 4 1 bd2).fits (pA true) i j s = false := rfl
    have e3 : wantA true i j s.size = 4 := rfl
    rw [Cp.prS, Cp.prP, e2] at h1
    rw [e1, e3]
    exact ⟨rfl, _, ⟨rfl, rfl, rfl, rfl, rfl, rfl, rfl⟩, h1⟩
theorem args_erase {P : Int} (h : On [] a B gc gl gp pg st (pA off) w) (g : Ag st P) (i : Int) :
    Calls Try.prog 11 #[.pointer (some ⟨gc, 0, none⟩), .int .i64 i] w fun e w' => e = .returned (.int .i64 (wornA off i)) ∧ ∃ st, st.programs = P ∧ st.erases = (if wornA off i = 0 then 1 else 0) ∧ On [] a B gc gl gp pg st (pA off) w' := by
  refine (erase_on h i (pA_in off) (by rw [g.erases]; decide) (by intro k; rw [g.wear]; exact Int.le_refl _) (by rw [g.rated]; decide)).mono ?_
  rintro e w' ⟨rfl, h1⟩
  cases off
  · by_cases hh : hasB 3 4 i 0 = false
    · have e1 : st.erE (pA false) i = 1 := by
        rw [Cp.erE, if_neg (by decide), g.segs, g.pages, if_pos hh]
      have e2 : st.erOk (pA false) i = false := by
        unfold Cp.erOk
        rw [g.segs, g.pages, hh]; simp
      have e3 : wornA false i = 1 := by rw [wornA, if_neg (by decide), if_pos hh]
      rw [Cp.erS, Cp.erP, e2] at h1
      rw [e1, e3]
      exact ⟨rfl, _, g.programs, g.erases, h1⟩
    · have hb : hasB 3 4 i 0 = true := by cases hq : hasB 3 4 i 0; exact absurd hq hh; rfl
      by_cases h2 : bd2 i.toNat = true
      · have e1 : st.erE (pA false) i = 101 := by
          rw [Cp.erE, if_neg (by decide), g.segs, g.pages, if_neg hh, g.bad, if_pos (.inl h2)]
        have e2 : st.erOk (pA false) i = false := by
          unfold Cp.erOk
          rw [g.bad, h2]; simp
        have e3 : wornA false i = 101 := by rw [wornA, if_neg (by decide), if_neg hh, if_pos h2]
        rw [Cp.erS, Cp.erP, e2] at h1
        rw [e1, e3]
        exact ⟨rfl, _, g.programs, g.erases, h1⟩
      · have h3 : bd2 i.toNat = false := by simpa using h2
        have e1 : st.erE (pA false) i = 0 := by
          rw [Cp.erE, if_neg (by decide), g.segs, g.pages, if_neg hh, g.bad, g.wear, g.rated, if_neg (by rw [h3]; simp)]
          rfl
        have e2 : st.erOk (pA false) i = true := by
          unfold Cp.erOk
          rw [g.segs, g.pages, g.bad, g.wear, g.rated, h3, hb]; rfl
        have e3 : wornA false i = 0 := by rw [wornA, if_neg (by decide), if_neg hh, if_neg h2]
        rw [Cp.erS, Cp.erP, e2] at h1
        rw [e1, e3]
        refine ⟨rfl, st.ers i.toNat (erN st (pA false).next (pA false).whole), g.programs, ?_, h1⟩
        show st.erases + 1 = 1
        rw [g.erases]; rfl
  · have e1 : st.erE (pA true) i = 4 := rfl
    have e2 : st.erOk (pA true) i = false := rfl
    have e3 : wornA true i = 4 := rfl
    rw [Cp.erS, Cp.erP, e2] at h1
    rw [e1, e3]
    exact ⟨rfl, _, g.programs, g.erases, h1⟩
end
theorem contains_2 (g : Nat) (w W : World) (hg : w.heap[g]? = some (.cells #[.int .i64 2] 3 (0, 0))) (o : Only (fun _ => False) w W) (k : Nat) : Calls Try.prog 33 #[.slice (some ⟨g, 0, none⟩) 1 1, .int .i64 k] W fun e w' => e = .returned (.bool (bd2 k)) ∧ W = w' := by
  have := Try.slices_Contains_int g 0 1 1 [2] k W (by decide) (by omega) (fun j hj => by
    have hj0 : j = 0 := by simp at hj; omega
    subst hj0
    rw [cell_of_row W g _ _ _ _ (keepRow o hg (fun x => x))]
    rfl)
  refine this.mono ?_
  rintro e w' ⟨rfl, rfl⟩
  refine ⟨?_, rfl⟩
  congr 2
  show _ = (k == 2)
  by_cases hk : k = 2
  · subst hk; rfl
  · have h1 : ¬ ((k : Int) = 2) := by omega
    simp [hk, h1]
theorem args_new (w : World) : Calls Try.prog 8 #[.pointer (some ⟨w.heap.size, 0, none⟩), .int .i64 3, .int .i64 4, .int .i64 1, .slice (some ⟨w.heap.size + 1, 0, none⟩) 1 1] ((WP w).alloc (.cells #[.int .i64 2] 3)) fun e w' => ∃ gc gl pg, e = .returned (.pointer (some ⟨gc, 0, none⟩)) ∧ On [] w w.heap.size gc gl w.heap.size pg (newCp 3 4 1 bd2) (pA false) w' := by
  have ho : Only (fun _ => False) (WP w) ((WP w).alloc (.cells #[.int .i64 2] 3)) := (Only.refl _ _).alloc _
  have hg : ((WP w).alloc (.cells #[.int .i64 2] 3)).heap[w.heap.size + 1]? = some (.cells #[.int .i64 2] 3 (0, 0)) := by
    have := heap_alloc_new (WP w) (.cells #[.int .i64 2] 3)
    rw [wp_size] at this
    exact this
  have hs : ((WP w).alloc (.cells #[.int .i64 2] 3)).heap.size = w.heap.size + 2 := by
    have : ((WP w).alloc (.cells #[.int .i64 2] 3)).heap.size = (WP w).heap.size + 1 := by simp
    rw [this, wp_size]
  refine (new_ok ((WP w).alloc (.cells #[.int .i64 2] 3)) w.heap.size 3 4 w.heap.size 1 _ bd2 p0 (keepRow ho (wp_pw w) (fun x => x)) (by omega) (by omega) (by omega) (Nat.le_refl _) (by omega) (fun W o k _ => contains_2 _ _ W hg o k)).mono ?_
  rintro e w' ⟨rfl, pg, hc, h1, _⟩
  exact ⟨_, _, pg, rfl, _, hc, held_nil (((wp_only w).trans ho).trans h1) (Nat.le_refl _)⟩




set_option maxHeartbeats 32000000 in
theorem args_nat (w : World) (i j : Int) (n : Nat) (off : Bool) (hn : n ≤ 65535) :
    Calls Try.prog 4 #[.int .i64 i, .int .i64 j, .int .u16 n, .bool off] w fun e w' => e = .returned (.bool true) ∧ Below w.heap.size w w' := by
  have hwn : wrap64 (n : Int) = n := by unfold wrap64; omega
  have HM := Lib.hid (fun W => run_make_row' (P := Try.prog) 35 5 (.int .u8 0) 1 Try.underlying35 info5 rfl .i64 .i64 (n % 300) (by omega) (by omega) W)
  have HP := Lib.hid (newPower_wp w)
  have hb := build_i1 2 (WP w)
  rw [wp_size] at hb
  have HB := Lib.hid hb
  have HN := Lib.hid (args_new w)
  clear hb
  generalize (WP w).alloc (.cells #[.int .i64 2] 3) = W1 at *
  generalize WP w = W0 at *
  go_enter Try.func4, Try.ntmps4
  go_wp2_with (((with_reducible refine wpList_bs_at ?_ 22 1 #[(0, .const (.int .i64 2))] ?_ [(0, .int .i64 2)] ?_ _ HB.out ?_); rfl; rfl; rfl))
  refine HP.out.mono ?_
  rintro e w1 ⟨rfl, rfl⟩
  go_wp2_with (((with_reducible refine wpList_bs_at ?_ 22 1 #[(0, .const (.int .i64 2))] ?_ [(0, .int .i64 2)] ?_ _ HB.out ?_); rfl; rfl; rfl))
  refine HN.out.mono ?_
  rintro e w2 ⟨gc, gl, pg, rfl, h0⟩
  have HH0 := Lib.hid h0
  clear h0 HN HP HB
  go_wp2_with fail
  refine (shown_any _).mono ?_
  rintro e w3 ⟨rfl, k3⟩
  have HH1 := Lib.hid (HH0.out.call k3)
  clear k3 HH0
  go_wp2_with fail
  refine (new_nil _ _ _ _ _).mono ?_
  rintro e w4 ⟨rfl, rfl⟩
  obtain ⟨T, hT⟩ : ∃ T, T = strOfNums (List.replicate (n % 300) 0) := ⟨_, rfl⟩
  have HT : Hid (T.size = n % 300) := by rw [hT]; exact zero_size _
  have hmk := HM.out
  have hcv := fun W => zero_str W (n % 300)
  rw [← hT] at hcv
  rw [show ((n % 300 : Nat) : Int) = (n : Int) % 300 by omega] at hmk
  clear hT HM
  cases off
  · have HO := Lib.hid HH1.out
    clear HH1
    by_cases h1 : 0 ≤ i
    · by_cases h2 : i < 3
      · have hb0 : hasB 3 4 i 0 = true := by simp [hasB]; omega
        by_cases h6 : i = 2
        · subst h6
          have HWO : Hid (wornA false 2 = 101) := (rfl : wornA false 2 = 101)
          clear hb0
          by_cases h3 : j < 0
          · have hb1 : hasB 3 4 2 j = false := by simp [hasB]; omega
            have HWA : Hid (wantA false 2 j (n % 300) = 1) := show wantA false 2 j (n % 300) = 1 by rw [wantA, if_neg (by decide), if_pos (.inl hb1)]
            clear hb1
            go_wp2_with fail
            refine (args_prog (HO.out.on ((Only.refl _ _).alloc _)) _ _ T).mono ?_
            rintro e w6 ⟨rfl, st1, g1, h1⟩
            rw [HT.out] at g1 ⊢
            rw [HWA.out] at g1 ⊢
            have k1 := args_erase h1 g1 2
            rw [HWO.out] at k1
            have K1 := Lib.hid k1
            clear h1 g1 k1
            go_wp2_with fail
            refine K1.out.mono ?_
            rintro e w7 ⟨rfl, st2, e1, e2, h2⟩
            have k2 := counts_on h2
            rw [e1, e2] at k2
            have K2 := Lib.hid k2
            clear h2 k2 e1 e2 K1
            go_wp2_with fail
            refine K2.out.mono ?_
            rintro e w8 ⟨rfl, h3⟩
            have K3 := Lib.hid (up_on h3)
            have HF := Lib.hid h3.below
            clear h3 K2
            go_wp2_with fail
            refine (number_any _ _).mono ?_
            rintro e w9 ⟨rfl, rfl⟩
            go_wp2_with fail
            refine (number_any _ _).mono ?_
            rintro e w10 ⟨rfl, rfl⟩
            go_wp2_with fail
            refine K3.out.mono ?_
            rintro e w11 ⟨rfl, h4⟩
            have HF2 := Lib.hid h4.below
            clear h4 K3
            go_wp2_with fail
            go_ret
            exact ⟨rfl, HF2.out⟩
          · by_cases h4 : 3 < j
            · have hb1 : hasB 3 4 2 j = false := by simp [hasB]; omega
              have HWA : Hid (wantA false 2 j (n % 300) = 1) := show wantA false 2 j (n % 300) = 1 by rw [wantA, if_neg (by decide), if_pos (.inl hb1)]
              clear hb1
              go_wp2_with fail
              refine (args_prog (HO.out.on ((Only.refl _ _).alloc _)) _ _ T).mono ?_
              rintro e w6 ⟨rfl, st1, g1, h1⟩
              rw [HT.out] at g1 ⊢
              rw [HWA.out] at g1 ⊢
              have k1 := args_erase h1 g1 2
              rw [HWO.out] at k1
              have K1 := Lib.hid k1
              clear h1 g1 k1
              go_wp2_with fail
              refine K1.out.mono ?_
              rintro e w7 ⟨rfl, st2, e1, e2, h2⟩
              have k2 := counts_on h2
              rw [e1, e2] at k2
              have K2 := Lib.hid k2
              clear h2 k2 e1 e2 K1
              go_wp2_with fail
              refine K2.out.mono ?_
              rintro e w8 ⟨rfl, h3⟩
              have K3 := Lib.hid (up_on h3)
              have HF := Lib.hid h3.below
              clear h3 K2
              go_wp2_with fail
              refine (number_any _ _).mono ?_
              rintro e w9 ⟨rfl, rfl⟩
              go_wp2_with fail
              refine (number_any _ _).mono ?_
              rintro e w10 ⟨rfl, rfl⟩
              go_wp2_with fail
              refine K3.out.mono ?_
              rintro e w11 ⟨rfl, h4⟩
              have HF2 := Lib.hid h4.below
              clear h4 K3
              go_wp2_with fail
              go_ret
              exact ⟨rfl, HF2.out⟩
            · have hb1 : hasB 3 4 2 j = true := by simp [hasB]; omega
              have hTs : (T.size : Int) = ((n % 300 : Nat) : Int) := by rw [HT.out]
              by_cases h5 : 256 < n % 300
              · have HWA : Hid (wantA false 2 j (n % 300) = 1) := show wantA false 2 j (n % 300) = 1 by rw [wantA, if_neg (by decide), if_pos (.inr h5)]
                have h7 : (256 : Int) < (T.size : Int) := by omega
                clear hb1 hTs
                go_wp2_with fail
                refine (args_prog (HO.out.on ((Only.refl _ _).alloc _)) _ _ T).mono ?_
                rintro e w6 ⟨rfl, st1, g1, h1⟩
                rw [HT.out] at g1 ⊢
                rw [HWA.out] at g1 ⊢
                have k1 := args_erase h1 g1 2
                rw [HWO.out] at k1
                have K1 := Lib.hid k1
                clear h1 g1 k1
                go_wp2_with fail
                refine K1.out.mono ?_
                rintro e w7 ⟨rfl, st2, e1, e2, h2⟩
                have k2 := counts_on h2
                rw [e1, e2] at k2
                have K2 := Lib.hid k2
                clear h2 k2 e1 e2 K1
                go_wp2_with fail
                refine K2.out.mono ?_
                rintro e w8 ⟨rfl, h3⟩
                have K3 := Lib.hid (up_on h3)
                have HF := Lib.hid h3.below
                clear h3 K2
                go_wp2_with fail
                refine (number_any _ _).mono ?_
                rintro e w9 ⟨rfl, rfl⟩
                go_wp2_with fail
                refine (number_any _ _).mono ?_
                rintro e w10 ⟨rfl, rfl⟩
                go_wp2_with fail
                refine K3.out.mono ?_
                rintro e w11 ⟨rfl, h4⟩
                have HF2 := Lib.hid h4.below
                clear h4 K3
                go_wp2_with fail
                go_ret
                exact ⟨rfl, HF2.out⟩
              · have HWA : Hid (wantA false 2 j (n % 300) = 0) := show wantA false 2 j (n % 300) = 0 by rw [wantA, if_neg (by decide), hb1, if_neg (by simp; omega)]
                have h7 : ¬ (256 : Int) < (T.size : Int) := by omega
                clear hb1 hTs
                go_wp2_with fail
                refine (args_prog (HO.out.on ((Only.refl _ _).alloc _)) _ _ T).mono ?_
                rintro e w6 ⟨rfl, st1, g1, h1⟩
                rw [HT.out] at g1 ⊢
                rw [HWA.out] at g1 ⊢
                have k1 := args_erase h1 g1 2
                rw [HWO.out] at k1
                have K1 := Lib.hid k1
                clear h1 g1 k1
                go_wp2_with fail
                refine K1.out.mono ?_
                rintro e w7 ⟨rfl, st2, e1, e2, h2⟩
                have k2 := counts_on h2
                rw [e1, e2] at k2
                have K2 := Lib.hid k2
                clear h2 k2 e1 e2 K1
                go_wp2_with fail
                refine K2.out.mono ?_
                rintro e w8 ⟨rfl, h3⟩
                have K3 := Lib.hid (up_on h3)
                have HF := Lib.hid h3.below
                clear h3 K2
                go_wp2_with fail
                refine (number_any _ _).mono ?_
                rintro e w9 ⟨rfl, rfl⟩
                go_wp2_with fail
                refine (number_any _ _).mono ?_
                rintro e w10 ⟨rfl, rfl⟩
                go_wp2_with fail
                refine K3.out.mono ?_
                rintro e w11 ⟨rfl, h4⟩
                have HF2 := Lib.hid h4.below
                clear h4 K3
                go_wp2_with fail
                go_ret
                exact ⟨rfl, HF2.out⟩
        · have hbd : bd2 i.toNat = false := by
            have : ¬ i.toNat = 2 := by omega
            simp [bd2, this]
          have HWO : Hid (wornA false i = 0) := show wornA false i = 0 by rw [wornA, if_neg (by decide), hb0, if_neg (by decide), hbd, if_neg (by decide)]
          clear hbd
          clear hb0
          by_cases h3 : j < 0
          · have hb1 : hasB 3 4 i j = false := by simp [hasB]; omega
            have HWA : Hid (wantA false i j (n % 300) = 1) := show wantA false i j (n % 300) = 1 by rw [wantA, if_neg (by decide), if_pos (.inl hb1)]
            clear hb1
            go_wp2_with fail
            refine (args_prog (HO.out.on ((Only.refl _ _).alloc _)) _ _ T).mono ?_
            rintro e w6 ⟨rfl, st1, g1, h1⟩
            rw [HT.out] at g1 ⊢
            rw [HWA.out] at g1 ⊢
            have k1 := args_erase h1 g1 i
            rw [HWO.out] at k1
            have K1 := Lib.hid k1
            clear h1 g1 k1
            go_wp2_with fail
            refine K1.out.mono ?_
            rintro e w7 ⟨rfl, st2, e1, e2, h2⟩
            have k2 := counts_on h2
            rw [e1, e2] at k2
            have K2 := Lib.hid k2
            clear h2 k2 e1 e2 K1
            go_wp2_with fail
            refine K2.out.mono ?_
            rintro e w8 ⟨rfl, h3⟩
            have K3 := Lib.hid (up_on h3)
            have HF := Lib.hid h3.below
            clear h3 K2
            go_wp2_with fail
            refine (number_any _ _).mono ?_
            rintro e w9 ⟨rfl, rfl⟩
            go_wp2_with fail
            refine (number_any _ _).mono ?_
            rintro e w10 ⟨rfl, rfl⟩
            go_wp2_with fail
            refine K3.out.mono ?_
            rintro e w11 ⟨rfl, h4⟩
            have HF2 := Lib.hid h4.below
            clear h4 K3
            go_wp2_with fail
            go_ret
            exact ⟨rfl, HF2.out⟩
          · by_cases h4 : 3 < j
            · have hb1 : hasB 3 4 i j = false := by simp [hasB]; omega
              have HWA : Hid (wantA false i j (n % 300) = 1) := show wantA false i j (n % 300) = 1 by rw [wantA, if_neg (by decide), if_pos (.inl hb1)]
              clear hb1
              go_wp2_with fail
              refine (args_prog (HO.out.on ((Only.refl _ _).alloc _)) _ _ T).mono ?_
              rintro e w6 ⟨rfl, st1, g1, h1⟩
              rw [HT.out] at g1 ⊢
              rw [HWA.out] at g1 ⊢
              have k1 := args_erase h1 g1 i
              rw [HWO.out] at k1
              have K1 := Lib.hid k1
              clear h1 g1 k1
              go_wp2_with fail
              refine K1.out.mono ?_
              rintro e w7 ⟨rfl, st2, e1, e2, h2⟩
              have k2 := counts_on h2
              rw [e1, e2] at k2
              have K2 := Lib.hid k2
              clear h2 k2 e1 e2 K1
              go_wp2_with fail
              refine K2.out.mono ?_
              rintro e w8 ⟨rfl, h3⟩
              have K3 := Lib.hid (up_on h3)
              have HF := Lib.hid h3.below
              clear h3 K2
              go_wp2_with fail
              refine (number_any _ _).mono ?_
              rintro e w9 ⟨rfl, rfl⟩
              go_wp2_with fail
              refine (number_any _ _).mono ?_
              rintro e w10 ⟨rfl, rfl⟩
              go_wp2_with fail
              refine K3.out.mono ?_
              rintro e w11 ⟨rfl, h4⟩
              have HF2 := Lib.hid h4.below
              clear h4 K3
              go_wp2_with fail
              go_ret
              exact ⟨rfl, HF2.out⟩
            · have hb1 : hasB 3 4 i j = true := by simp [hasB]; omega
              have hTs : (T.size : Int) = ((n % 300 : Nat) : Int) := by rw [HT.out]
              by_cases h5 : 256 < n % 300
              · have HWA : Hid (wantA false i j (n % 300) = 1) := show wantA false i j (n % 300) = 1 by rw [wantA, if_neg (by decide), if_pos (.inr h5)]
                have h7 : (256 : Int) < (T.size : Int) := by omega
                clear hb1 hTs
                go_wp2_with fail
                refine (args_prog (HO.out.on ((Only.refl _ _).alloc _)) _ _ T).mono ?_
                rintro e w6 ⟨rfl, st1, g1, h1⟩
                rw [HT.out] at g1 ⊢
                rw [HWA.out] at g1 ⊢
                have k1 := args_erase h1 g1 i
                rw [HWO.out] at k1
                have K1 := Lib.hid k1
                clear h1 g1 k1
                go_wp2_with fail
                refine K1.out.mono ?_
                rintro e w7 ⟨rfl, st2, e1, e2, h2⟩
                have k2 := counts_on h2
                rw [e1, e2] at k2
                have K2 := Lib.hid k2
                clear h2 k2 e1 e2 K1
                go_wp2_with fail
                refine K2.out.mono ?_
                rintro e w8 ⟨rfl, h3⟩
                have K3 := Lib.hid (up_on h3)
                have HF := Lib.hid h3.below
                clear h3 K2
                go_wp2_with fail
                refine (number_any _ _).mono ?_
                rintro e w9 ⟨rfl, rfl⟩
                go_wp2_with fail
                refine (number_any _ _).mono ?_
                rintro e w10 ⟨rfl, rfl⟩
                go_wp2_with fail
                refine K3.out.mono ?_
                rintro e w11 ⟨rfl, h4⟩
                have HF2 := Lib.hid h4.below
                clear h4 K3
                go_wp2_with fail
                go_ret
                exact ⟨rfl, HF2.out⟩
              · have HWA : Hid (wantA false i j (n % 300) = 0) := show wantA false i j (n % 300) = 0 by rw [wantA, if_neg (by decide), hb1, if_neg (by simp; omega)]
                have h7 : ¬ (256 : Int) < (T.size : Int) := by omega
                clear hb1 hTs
                go_wp2_with fail
                refine (args_prog (HO.out.on ((Only.refl _ _).alloc _)) _ _ T).mono ?_
                rintro e w6 ⟨rfl, st1, g1, h1⟩
                rw [HT.out] at g1 ⊢
                rw [HWA.out] at g1 ⊢
                have k1 := args_erase h1 g1 i
                rw [HWO.out] at k1
                have K1 := Lib.hid k1
                clear h1 g1 k1
                go_wp2_with fail
                refine K1.out.mono ?_
                rintro e w7 ⟨rfl, st2, e1, e2, h2⟩
                have k2 := counts_on h2
                rw [e1, e2] at k2
                have K2 := Lib.hid k2
                clear h2 k2 e1 e2 K1
                go_wp2_with fail
                refine K2.out.mono ?_
                rintro e w8 ⟨rfl, h3⟩
                have K3 := Lib.hid (up_on h3)
                have HF := Lib.hid h3.below
                clear h3 K2
                go_wp2_with fail
                refine (number_any _ _).mono ?_
                rintro e w9 ⟨rfl, rfl⟩
                go_wp2_with fail
                refine (number_any _ _).mono ?_
                rintro e w10 ⟨rfl, rfl⟩
                go_wp2_with fail
                refine K3.out.mono ?_
                rintro e w11 ⟨rfl, h4⟩
                have HF2 := Lib.hid h4.below
                clear h4 K3
                go_wp2_with fail
                go_ret
                exact ⟨rfl, HF2.out⟩
      · have hb0 : hasB 3 4 i 0 = false := by simp [hasB]; omega
        have hb1 : hasB 3 4 i j = false := by simp [hasB]; omega
        have HWA : Hid (wantA false i j (n % 300) = 1) := show wantA false i j (n % 300) = 1 by rw [wantA, if_neg (by decide), if_pos (.inl hb1)]
        have HWO : Hid (wornA false i = 1) := show wornA false i = 1 by rw [wornA, if_neg (by decide), if_pos hb0]
        clear hb0 hb1
        go_wp2_with fail
        refine (args_prog (HO.out.on ((Only.refl _ _).alloc _)) _ _ T).mono ?_
        rintro e w6 ⟨rfl, st1, g1, h1⟩
        rw [HT.out] at g1 ⊢
        rw [HWA.out] at g1 ⊢
        have k1 := args_erase h1 g1 i
        rw [HWO.out] at k1
        have K1 := Lib.hid k1
        clear h1 g1 k1
        go_wp2_with fail
        refine K1.out.mono ?_
        rintro e w7 ⟨rfl, st2, e1, e2, h2⟩
        have k2 := counts_on h2
        rw [e1, e2] at k2
        have K2 := Lib.hid k2
        clear h2 k2 e1 e2 K1
        go_wp2_with fail
        refine K2.out.mono ?_
        rintro e w8 ⟨rfl, h3⟩
        have K3 := Lib.hid (up_on h3)
        have HF := Lib.hid h3.below
        clear h3 K2
        go_wp2_with fail
        refine (number_any _ _).mono ?_
        rintro e w9 ⟨rfl, rfl⟩
        go_wp2_with fail
        refine (number_any _ _).mono ?_
        rintro e w10 ⟨rfl, rfl⟩
        go_wp2_with fail
        refine K3.out.mono ?_
        rintro e w11 ⟨rfl, h4⟩
        have HF2 := Lib.hid h4.below
        clear h4 K3
        go_wp2_with fail
        go_ret
        exact ⟨rfl, HF2.out⟩
    · have hb0 : hasB 3 4 i 0 = false := by simp [hasB]; omega
      have hb1 : hasB 3 4 i j = false := by simp [hasB]; omega
      have HWA : Hid (wantA false i j (n % 300) = 1) := show wantA false i j (n % 300) = 1 by rw [wantA, if_neg (by decide), if_pos (.inl hb1)]
      have HWO : Hid (wornA false i = 1) := show wornA false i = 1 by rw [wornA, if_neg (by decide), if_pos hb0]
      clear hb0 hb1
      go_wp2_with fail
      refine (args_prog (HO.out.on ((Only.refl _ _).alloc _)) _ _ T).mono ?_
      rintro e w6 ⟨rfl, st1, g1, h1⟩
      rw [HT.out] at g1 ⊢
      rw [HWA.out] at g1 ⊢
      have k1 := args_erase h1 g1 i
      rw [HWO.out] at k1
      have K1 := Lib.hid k1
      clear h1 g1 k1
      go_wp2_with fail
      refine K1.out.mono ?_
      rintro e w7 ⟨rfl, st2, e1, e2, h2⟩
      have k2 := counts_on h2
      rw [e1, e2] at k2
      have K2 := Lib.hid k2
      clear h2 k2 e1 e2 K1
      go_wp2_with fail
      refine K2.out.mono ?_
      rintro e w8 ⟨rfl, h3⟩
      have K3 := Lib.hid (up_on h3)
      have HF := Lib.hid h3.below
      clear h3 K2
      go_wp2_with fail
      refine (number_any _ _).mono ?_
      rintro e w9 ⟨rfl, rfl⟩
      go_wp2_with fail
      refine (number_any _ _).mono ?_
      rintro e w10 ⟨rfl, rfl⟩
      go_wp2_with fail
      refine K3.out.mono ?_
      rintro e w11 ⟨rfl, h4⟩
      have HF2 := Lib.hid h4.below
      clear h4 K3
      go_wp2_with fail
      go_ret
      exact ⟨rfl, HF2.out⟩
  · go_wp2_with fail
    refine (cut_on HH1.out).mono ?_
    rintro e w5 ⟨rfl, h0⟩
    have HO := Lib.hid h0
    clear h0 HH1
    have HWA : Hid (wantA true i j (n % 300) = 4) := rfl
    have HWO : Hid (wornA true i = 4) := rfl
    by_cases h1 : 0 ≤ i
    · by_cases h2 : i < 3
      · go_wp2_with fail
        refine (args_prog (HO.out.on ((Only.refl _ _).alloc _)) _ _ T).mono ?_
        rintro e w6 ⟨rfl, st1, g1, h1⟩
        rw [HT.out] at g1 ⊢
        rw [HWA.out] at g1 ⊢
        have k1 := args_erase h1 g1 i
        rw [HWO.out] at k1
        have K1 := Lib.hid k1
        clear h1 g1 k1
        go_wp2_with fail
        refine K1.out.mono ?_
        rintro e w7 ⟨rfl, st2, e1, e2, h2⟩
        have k2 := counts_on h2
        rw [e1, e2] at k2
        have K2 := Lib.hid k2
        clear h2 k2 e1 e2 K1
        go_wp2_with fail
        refine K2.out.mono ?_
        rintro e w8 ⟨rfl, h3⟩
        have K3 := Lib.hid (up_on h3)
        have HF := Lib.hid h3.below
        clear h3 K2
        go_wp2_with fail
        refine (number_any _ _).mono ?_
        rintro e w9 ⟨rfl, rfl⟩
        go_wp2_with fail
        refine (number_any _ _).mono ?_
        rintro e w10 ⟨rfl, rfl⟩
        go_wp2_with fail
        refine K3.out.mono ?_
        rintro e w11 ⟨rfl, h4⟩
        have HF2 := Lib.hid h4.below
        clear h4 K3
        go_wp2_with fail
        go_ret
        exact ⟨rfl, HF2.out⟩
      · go_wp2_with fail
        refine (args_prog (HO.out.on ((Only.refl _ _).alloc _)) _ _ T).mono ?_
        rintro e w6 ⟨rfl, st1, g1, h1⟩
        rw [HT.out] at g1 ⊢
        rw [HWA.out] at g1 ⊢
        have k1 := args_erase h1 g1 i
        rw [HWO.out] at k1
        have K1 := Lib.hid k1
        clear h1 g1 k1
        go_wp2_with fail
        refine K1.out.mono ?_
        rintro e w7 ⟨rfl, st2, e1, e2, h2⟩
        have k2 := counts_on h2
        rw [e1, e2] at k2
        have K2 := Lib.hid k2
        clear h2 k2 e1 e2 K1
        go_wp2_with fail
        refine K2.out.mono ?_
        rintro e w8 ⟨rfl, h3⟩
        have K3 := Lib.hid (up_on h3)
        have HF := Lib.hid h3.below
        clear h3 K2
        go_wp2_with fail
        refine (number_any _ _).mono ?_
        rintro e w9 ⟨rfl, rfl⟩
        go_wp2_with fail
        refine (number_any _ _).mono ?_
        rintro e w10 ⟨rfl, rfl⟩
        go_wp2_with fail
        refine K3.out.mono ?_
        rintro e w11 ⟨rfl, h4⟩
        have HF2 := Lib.hid h4.below
        clear h4 K3
        go_wp2_with fail
        go_ret
        exact ⟨rfl, HF2.out⟩
    · go_wp2_with fail
      refine (args_prog (HO.out.on ((Only.refl _ _).alloc _)) _ _ T).mono ?_
      rintro e w6 ⟨rfl, st1, g1, h1⟩
      rw [HT.out] at g1 ⊢
      rw [HWA.out] at g1 ⊢
      have k1 := args_erase h1 g1 i
      rw [HWO.out] at k1
      have K1 := Lib.hid k1
      clear h1 g1 k1
      go_wp2_with fail
      refine K1.out.mono ?_
      rintro e w7 ⟨rfl, st2, e1, e2, h2⟩
      have k2 := counts_on h2
      rw [e1, e2] at k2
      have K2 := Lib.hid k2
      clear h2 k2 e1 e2 K1
      go_wp2_with fail
      refine K2.out.mono ?_
      rintro e w8 ⟨rfl, h3⟩
      have K3 := Lib.hid (up_on h3)
      have HF := Lib.hid h3.below
      clear h3 K2
      go_wp2_with fail
      refine (number_any _ _).mono ?_
      rintro e w9 ⟨rfl, rfl⟩
      go_wp2_with fail
      refine (number_any _ _).mono ?_
      rintro e w10 ⟨rfl, rfl⟩
      go_wp2_with fail
      refine K3.out.mono ?_
      rintro e w11 ⟨rfl, h4⟩
      have HF2 := Lib.hid h4.below
      clear h4 K3
      go_wp2_with fail
      go_ret
      exact ⟨rfl, HF2.out⟩

theorem nandArgs_walk (w : World) (i : Int) (hi : (Lit.int .i64 i).wf = true) (j : Int) (hj : (Lit.int .i64 j).wf = true) (n : Int) (hn : (Lit.int .u16 n).wf = true) (off : Bool) :
    Calls Try.prog 4 #[.int .i64 i, .int .i64 j, .int .u16 n, .bool off] w fun e w' => e = .returned (.bool true) ∧ Below w.heap.size w w' := by
  have h1 : 0 ≤ n ∧ n ≤ 65535 := by
    simp [Lit.wf, IntKind.min, IntKind.max, IntKind.signed, IntKind.bits] at hn
    omega
  obtain ⟨n, rfl⟩ := Int.eq_ofNat_of_zero_le h1.1
  exact args_nat w i j n off (by omega)
end Go.Proofs.Ytjnjnkkdpglfhaa
