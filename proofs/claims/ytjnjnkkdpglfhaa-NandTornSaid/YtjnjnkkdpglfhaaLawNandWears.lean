/-
  NandWears: the walk.
-/
import Derived.Test.YtjnjnkkdpglfhaaSho
set_option linter.unusedVariables false
namespace Go.Proofs.Ytjnjnkkdpglfhaa
open Go.RowKit

theorem info3 : (Try.prog.info? 3).map (fun i => (i.zero, i.size, i.bytes)) = some (some (.int .i64 0), 1, 8) := by kernel_rfl
theorem build_i0 (w : World) : (Instr.buildSlice 22 0 #[]).run Try.prog w = .ok (.slice (some ⟨w.heap.size, 0, none⟩) 0 0) (w.alloc (.cells #[] 3)) := by
  obtain ⟨ie, hie, hz, hs, hb⟩ := info_parts info3
  simp [Instr.buildSlice, run_underlying Try.underlying22, sizeOf, typeInfo, hie, Instr.fill, newRow]
  have e : (Array.map (fun _ : Nat => (default : Value)) (Array.range 0)) = #[] := Array.eq_empty_of_size_eq_zero (by simp)
  rw [e]
theorem build_i1 (x : Int) (w : World) : (Instr.buildSlice 22 1 #[(0, .int .i64 x)]).run Try.prog w = .ok (.slice (some ⟨w.heap.size, 0, none⟩) 1 1) (w.alloc (.cells #[.int .i64 x] 3)) := by
  obtain ⟨ie, hie, hz, hs, hb⟩ := info_parts info3
  refine run_buildSlice w 22 3 1 _ _ ie _ Try.underlying22 hie hz (by omega) (by omega) ?_
  rw [hs]
  kernel_rfl

/-- A chip of one segment, erased m times. -/
structure Wn (st : Cp) (r : Nat) (bad : Bool) (m : Int) : Prop where
  segs : st.segs = 1
  pages : st.pages = 1
  rated : st.rated = r
  bad : st.bad 0 = bad
  wear : st.wear 0 = m
  pos : ∀ i, 0 ≤ st.wear i
  erases : st.erases = m
  lo : 0 ≤ m
  hi : m ≤ 255
theorem Wn.no {st : Cp} {r : Nat} {bad : Bool} {m : Int} (h : Wn st r bad m) (hb : bad = true ∨ (r : Int) ≤ m) : st.erE p0 0 = 101 ∧ st.erS p0 0 = st ∧ st.erP p0 0 = p0 := by
  have hh : hasB st.segs st.pages 0 0 = true := by rw [h.segs, h.pages]; rfl
  have hz : st.bad (0 : Int).toNat = true ∨ st.rated ≤ st.wear (0 : Int).toNat := by
    show st.bad 0 = true ∨ st.rated ≤ st.wear 0
    rw [h.bad, h.rated, h.wear]
    exact hb
  have hf : st.erOk p0 0 = false := by
    unfold Cp.erOk
    rcases hz with hz | hz
    · rw [hz]; simp
    · rw [decide_eq_false (by omega)]; simp
  refine ⟨?_, ?_, ?_⟩
  · rw [Cp.erE, if_neg (by decide), if_neg (by rw [hh]; decide), if_pos hz]
  · rw [Cp.erS, hf]; rfl
  · rw [Cp.erP, hf]; rfl
theorem Wn.yes {st : Cp} {r : Nat} {m : Int} (h : Wn st r false m) (hb : m < (r : Int)) (hr : r ≤ 255) : st.erE p0 0 = 0 ∧ Wn (st.erS p0 0) r false (m + 1) ∧ st.erP p0 0 = p0 := by
  have hh : hasB st.segs st.pages 0 0 = true := by rw [h.segs, h.pages]; rfl
  have hbd : st.bad (0 : Int).toNat = false := h.bad
  have hw : st.wear (0 : Int).toNat < st.rated := by
    show st.wear 0 < st.rated
    rw [h.rated, h.wear]
    exact hb
  have hf : st.erOk p0 0 = true := by
    unfold Cp.erOk
    rw [hbd, hh, decide_eq_true hw]
    rfl
  refine ⟨?_, ?_, ?_⟩
  · rw [Cp.erE, if_neg (by decide), if_neg (by rw [hh]; decide), if_neg (by rw [hbd]; simp; exact hw)]
    rfl
  · rw [Cp.erS, hf, if_pos rfl]
    have h1 := h.lo
    refine ⟨h.segs, h.pages, h.rated, h.bad, ?_, ?_, ?_, by omega, by omega⟩
    · show (if (0 : Nat) = 0 then st.wear 0 + 1 else st.wear 0) = m + 1
      rw [if_pos rfl, h.wear]
    · intro i
      show 0 ≤ (if i = (0 : Int).toNat then st.wear (0 : Int).toNat + 1 else st.wear i)
      have := h.pos i
      have := h.pos (0 : Int).toNat
      split <;> omega
    · show st.erases + 1 = _
      rw [h.erases]
  · rw [Cp.erP, hf, if_pos rfl]
    rfl
theorem Wn.at {st : Cp} {r : Nat} {bad : Bool} {m : Int} (h : Wn st r bad m) : st.wearI 0 = m := by
  have hh : hasB st.segs st.pages 0 0 = true := by rw [h.segs, h.pages]; rfl
  rw [Cp.wearI, hh, if_pos rfl]
  exact h.wear
theorem Wn.new (r : Nat) (bad : Bool) : Wn (newCp 1 1 r (fun _ => bad)) r bad 0 := ⟨rfl, rfl, rfl, rfl, rfl, fun _ => Int.le_refl _, rfl, by omega, by omega⟩

/-- What stands at the beginning: the list of bad segments. -/
theorem contains_e (g c k : Nat) (W : World) : Calls Try.prog 33 #[.slice (some ⟨g, 0, none⟩) 0 c, .int .i64 k] W fun e w' => e = .returned (.bool false) ∧ W = w' := by
  refine (Try.slices_Contains_int_empty (some ⟨g, 0, none⟩) c k W).mono ?_
  rintro e w' ⟨rfl, rfl⟩
  exact ⟨rfl, rfl⟩
theorem contains_0 {b : Nat} {v : Value} {w W : World} (h : w.ownsRow b 3 1 v 1 [.int .i64 0]) (o : Only (fun _ => False) w W) (k : Nat) (hk : k < 1) : Calls Try.prog 33 #[v, .int .i64 k] W fun e w' => e = .returned (.bool true) ∧ W = w' := by
  obtain rfl : k = 0 := by omega
  obtain ⟨_, ⟨_, h0⟩ | ⟨g, cap, cur, rfl, _, hg, _, _, _, ht⟩⟩ := h
  · omega
  · have := Try.slices_Contains_int g 0 1 cap [0] 0 W (by decide) (by omega) (fun j hj => by
      have hj0 : j = 0 := by simp at hj; omega
      subst hj0
      rw [cell_of_row W g _ _ _ _ (keepRow o hg (fun x => x))]
      have e1 : ([.int .i64 0] : List Value)[0]? = some (.int .i64 0) := rfl
      rw [← ht, List.getElem?_take, if_pos (by omega)] at e1
      simpa using e1)
    refine this.mono ?_
    rintro e w' ⟨rfl, rfl⟩
    exact ⟨rfl, rfl⟩

theorem most_ge (k M : Nat) : decide ((M : Int) ≤ (k : Int)) = decide (M ≤ k) := by
  by_cases h : M ≤ k
  · rw [decide_eq_true h, decide_eq_true (by omega)]
  · rw [decide_eq_false h, decide_eq_false (by omega)]
/-- The loop's state: erased k times, or as often as may be. -/
def Ws (w : World) (B gc gl gp : Nat) (pg : Nat → Nat) (r : Nat) (bad : Bool) (M k : Nat) (wr : World) : Prop := ∃ st, On [] w B gc gl gp pg st p0 wr ∧ Wn st r bad (min k M : Nat)
theorem ws_step {w wr : World} {B gc gl gp : Nat} {pg : Nat → Nat} {r : Nat} {bad : Bool} {M k : Nat} (h : Ws w B gc gl gp pg r bad M k wr) (hM : M = if bad = true then 0 else r) (hr : r ≤ 255) :
    Calls Try.prog 11 #[.pointer (some ⟨gc, 0, none⟩), .int .i64 0] wr fun e w' => e = .returned (.int .i64 (if M ≤ k then 101 else 0)) ∧ Ws w B gc gl gp pg r bad M (k + 1) w' := by
  obtain ⟨st, h1, h2⟩ := h
  refine (erase_on h1 0 p0_in ⟨by rw [h2.erases]; exact h2.lo, by have := h2.hi; rw [h2.erases]; omega⟩ h2.pos (by rw [h2.rated]; omega)).mono ?_
  rintro e w' ⟨rfl, h3⟩
  by_cases hk : M ≤ k
  · obtain ⟨e1, e2, e3⟩ := h2.no (by
      cases bad
      · right; rw [if_neg (by simp)] at hM; omega
      · left; rfl)
    rw [if_pos hk, e1]
    rw [e2, e3] at h3
    refine ⟨rfl, st, h3, ?_⟩
    rw [show min (k + 1) M = min k M by omega]
    exact h2
  · cases bad
    · rw [if_neg (by simp)] at hM
      obtain ⟨e1, e2, e3⟩ := h2.yes (by omega) hr
      rw [if_neg hk, e1]
      rw [e3] at h3
      refine ⟨rfl, _, h3, ?_⟩
      rw [show ((min (k + 1) M : Nat) : Int) = ((min k M : Nat) : Int) + 1 by omega]
      exact e2
    · rw [if_pos rfl] at hM
      omega

set_option maxHeartbeats 8000000 in
theorem wears_good (w : World) (r t : Nat) (hr : r ≤ 255) (ht : t ≤ 255) :
    Calls Try.prog 3 #[.int .u8 r, .int .u8 t, .bool false] w fun e w' => e = .returned (.bool true) ∧ Below w.heap.size w w' := by
  have hwr : wrap64 (r : Int) = r := by unfold wrap64; omega
  have hwt : wrap64 (t : Int) = t := by unfold wrap64; omega
  obtain ⟨x, hx⟩ : ∃ x, x = w.alloc (.cells #[] 3) := ⟨_, rfl⟩
  have HB := Lib.hid (build_i0 w)
  have ho : Only (fun _ => False) w x := by rw [hx]; exact (Only.refl _ w).alloc _
  rw [← hx] at HB
  have HP := Lib.hid (newPower_wp x)
  have HN := Lib.hid (new_on w x ho 1 1 r (.slice (some ⟨w.heap.size, 0, none⟩) 0 0) (fun _ => false) (by omega) (by omega) (by omega) (fun W _ k _ => contains_e _ _ k W))
  clear hx ho
  generalize WP x = W0 at *
  go_enter Try.func3, Try.ntmps3
  go_wp2_with (((with_reducible refine wpList_bs_at ?_ 22 0 #[] ?_ [] ?_ _ HB.out ?_); rfl; rfl; rfl))
  refine HP.out.mono ?_
  rintro e w1 ⟨rfl, rfl⟩
  go_wp2_with fail
  refine HN.out.mono ?_
  rintro e w2 ⟨gc, gl, pg, rfl, h0⟩
  have HH0 := Lib.hid h0
  clear h0
  go_wp2_with fail
  refine (shown_any _).mono ?_
  rintro e w3 ⟨rfl, k3⟩
  have HS0 : Hid (Ws w x.heap.size gc gl x.heap.size pg r false r 0 w3) := ⟨_, HH0.out.call k3, by rw [Nat.zero_min]; exact Wn.new r false⟩
  clear k3 HN HP
  go_wp2_with fail
  go_loopw [10] (fun i wr => ∃ k : Nat, k ≤ t ∧ i = .int .i64 k ∧ Hid (Ws w x.heap.size gc gl x.heap.size pg r false r k wr)) (fun i _ => t - (intOf i).toNat)
  case atStart => exact ⟨0, by omega, rfl, HS0.out⟩
  case round =>
    obtain ⟨k, hk, rfl, hS⟩ := hrel
    clear HS0 HH0
    by_cases hlt : k < t
    · have hlt' : (k : Int) < (t : Int) := by omega
      have K1 := Lib.hid (ws_step hS.out (by first | rfl | simp) hr)
      by_cases hge : r ≤ k
      · rw [if_pos hge] at K1
        have hge' : (r : Int) ≤ (k : Int) := by omega
        have hgd : decide ((r : Int) ≤ (k : Int)) = true := decide_eq_true hge'
        go_wp2_with fail
        refine K1.out.mono ?_
        rintro e w4 ⟨rfl, h1⟩
        have H1 := Lib.hid h1
        clear h1
        go_wp2_with fail
        go_roundw
        case rel => exact ⟨k + 1, by omega, by go_num, H1.out⟩
        case measure => simp [intOf]; omega
      · rw [if_neg hge] at K1
        have hge' : ¬ (r : Int) ≤ (k : Int) := by omega
        have hgd : decide ((r : Int) ≤ (k : Int)) = false := decide_eq_false hge'
        go_wp2_with fail
        refine K1.out.mono ?_
        rintro e w4 ⟨rfl, h1⟩
        have H1 := Lib.hid h1
        clear h1
        go_wp2_with fail
        go_roundw
        case rel => exact ⟨k + 1, by omega, by go_num, H1.out⟩
        case measure => simp [intOf]; omega
    · obtain rfl : k = t := by omega
      obtain ⟨st, hO, hWn⟩ := hS.out
      have K2 := counts_on hO
      rw [hWn.erases] at K2
      have HC := Lib.hid K2
      have HWA := Lib.hid hWn.at
      have hmn : min (k : Int) (r : Int) = ((min k r : Nat) : Int) := by omega
      clear K2 hO hWn
      go_wp2_with fail
      refine HC.out.mono ?_
      rintro e w5 ⟨rfl, h1⟩
      have K3 := wear_on h1 0
      rw [HWA.out] at K3
      have K4 := Lib.hid K3
      clear h1 K3
      go_wp2_with fail
      refine K4.out.mono ?_
      rintro e w6 ⟨rfl, h1⟩
      have K3 := wear_on h1 0
      rw [HWA.out] at K3
      have K5 := Lib.hid K3
      clear h1 K3
      go_wp2_with fail
      refine K5.out.mono ?_
      rintro e w7 ⟨rfl, h1⟩
      have HF := Lib.hid h1.below
      clear h1
      go_wp2_with fail
      go_ret
      exact ⟨rfl, HF.out⟩

set_option maxHeartbeats 8000000 in
theorem wears_bad (w : World) (r t : Nat) (hr : r ≤ 255) (ht : t ≤ 255) :
    Calls Try.prog 3 #[.int .u8 r, .int .u8 t, .bool true] w fun e w' => e = .returned (.bool true) ∧ Below w.heap.size w w' := by
  have hwr : wrap64 (r : Int) = r := by unfold wrap64; omega
  have hwt : wrap64 (t : Int) = t := by unfold wrap64; omega
  obtain ⟨i3, hi3, hz3, hz31, hz32⟩ := info_parts info3
  have HB := Lib.hid (build_i0 w)
  have HB1 := Lib.hid (build_i1 0 (w.alloc (.cells #[] 3)))
  have hown : World.ownsRow ((w.alloc (.cells #[] 3)).alloc (.cells #[.int .i64 0] 3)) w.heap.size 3 1 (.slice (some ⟨w.heap.size, 0, none⟩) 0 0) 0 [] := (World.ownsRow_made (base := w.heap.size) (size := 1) (e := 3) w #[] 0 (Nat.le_refl _) (by decide) rfl).alloc _
  have HOW := Lib.hid hown
  have HO1 : Hid (Only (fun _ => False) w ((w.alloc (.cells #[] 3)).alloc (.cells #[.int .i64 0] 3))) := ((Only.refl _ w).alloc _).alloc _
  have hs1 : (w.alloc (.cells #[] 3)).heap.size = w.heap.size + 1 := by simp
  rw [hs1] at HB1
  have HCN := Lib.hid (cell_one_new (w.alloc (.cells #[] 3)) (.int .i64 0) 3)
  rw [hs1] at HCN
  clear hown hs1
  go_enter Try.func3, Try.ntmps3
  go_wp2_with (first | ((with_reducible refine wpList_bs_at ?_ 22 0 #[] ?_ [] ?_ _ HB.out ?_); rfl; rfl; rfl) | ((with_reducible refine wpList_bs_at ?_ 22 1 #[(0, .const (.int .i64 0))] ?_ [(0, .int .i64 0)] ?_ _ HB1.out ?_); rfl; rfl; rfl) | (at_builtin; refine wpList_append_own _ rfl _ _ 22 rfl w.heap.size 3 i3 (.int .i64 0) 1 8 Try.underlying22 hi3 hz3 hz31 hz32 rfl (by decide) _ _ _ rfl HOW.out ⟨w.heap.size + 1, 0, none⟩ 1 1 [.int .i64 0] rfl rfl ?c1 ?c2 ?c3 ?c4 ?c5 ?_))
  case c1 => exact HCN.out
  case c2 => intro u hu; simp at hu; subst hu; rfl
  case c3 => unfold maxLen; omega
  case c4 => omega
  case c5 => simp; omega
  intro bv x own gro _
  have ho : Only (fun _ => False) w x := fresh_only HO1.out (grown_only gro) (fun k hk => by cases hk; exact Nat.le_refl _)
  have HP := Lib.hid (newPower_wp x)
  have HN := Lib.hid (new_on w x ho 1 1 r bv (fun _ => true) (by omega) (by omega) (by omega) (fun W o k hk => contains_0 own ((wp_only x).trans o) k hk))
  clear own gro ho
  generalize WP x = W0 at *
  go_wp2_with fail
  refine HP.out.mono ?_
  rintro e w1 ⟨rfl, rfl⟩
  go_wp2_with fail
  refine HN.out.mono ?_
  rintro e w2 ⟨gc, gl, pg, rfl, h0⟩
  have HH0 := Lib.hid h0
  clear h0
  go_wp2_with fail
  refine (shown_any _).mono ?_
  rintro e w3 ⟨rfl, k3⟩
  have HS0 : Hid (Ws w x.heap.size gc gl x.heap.size pg r true 0 0 w3) := ⟨_, HH0.out.call k3, by rw [Nat.zero_min]; exact Wn.new r true⟩
  clear k3 HN HP
  go_wp2_with fail
  go_loopw [10] (fun i wr => ∃ k : Nat, k ≤ t ∧ i = .int .i64 k ∧ Hid (Ws w x.heap.size gc gl x.heap.size pg r true 0 k wr)) (fun i _ => t - (intOf i).toNat)
  case atStart => exact ⟨0, by omega, rfl, HS0.out⟩
  case round =>
    obtain ⟨k, hk, rfl, hS⟩ := hrel
    clear HS0 HH0
    by_cases hlt : k < t
    · have hlt' : (k : Int) < (t : Int) := by omega
      have K1 := Lib.hid (ws_step hS.out (by first | rfl | simp) hr)
      by_cases hge : 0 ≤ k
      · rw [if_pos hge] at K1
        have hge' : (0 : Int) ≤ (k : Int) := by omega
        have hgd : decide ((0 : Int) ≤ (k : Int)) = true := decide_eq_true hge'
        go_wp2_with fail
        refine K1.out.mono ?_
        rintro e w4 ⟨rfl, h1⟩
        have H1 := Lib.hid h1
        clear h1
        go_wp2_with fail
        go_roundw
        case rel => exact ⟨k + 1, by omega, by go_num, H1.out⟩
        case measure => simp [intOf]; omega
      · rw [if_neg hge] at K1
        have hge' : ¬ (0 : Int) ≤ (k : Int) := by omega
        have hgd : decide ((0 : Int) ≤ (k : Int)) = false := decide_eq_false hge'
        go_wp2_with fail
        refine K1.out.mono ?_
        rintro e w4 ⟨rfl, h1⟩
        have H1 := Lib.hid h1
        clear h1
        go_wp2_with fail
        go_roundw
        case rel => exact ⟨k + 1, by omega, by go_num, H1.out⟩
        case measure => simp [intOf]; omega
    · obtain rfl : k = t := by omega
      obtain ⟨st, hO, hWn⟩ := hS.out
      have K2 := counts_on hO
      rw [hWn.erases] at K2
      have HC := Lib.hid K2
      have HWA := Lib.hid hWn.at
      have hmn : min (k : Int) (0 : Int) = ((min k 0 : Nat) : Int) := by omega
      clear K2 hO hWn
      go_wp2_with fail
      refine HC.out.mono ?_
      rintro e w5 ⟨rfl, h1⟩
      have K3 := wear_on h1 0
      rw [HWA.out] at K3
      have K4 := Lib.hid K3
      clear h1 K3
      go_wp2_with fail
      refine K4.out.mono ?_
      rintro e w6 ⟨rfl, h1⟩
      have K3 := wear_on h1 0
      rw [HWA.out] at K3
      have K5 := Lib.hid K3
      clear h1 K3
      go_wp2_with fail
      refine K5.out.mono ?_
      rintro e w7 ⟨rfl, h1⟩
      have HF := Lib.hid h1.below
      clear h1
      go_wp2_with fail
      go_ret
      exact ⟨rfl, HF.out⟩

theorem nandWears_walk (w : World) (r : Int) (hr : (Lit.int .u8 r).wf = true) (t : Int) (ht : (Lit.int .u8 t).wf = true) (bad : Bool) :
    Calls Try.prog 3 #[.int .u8 r, .int .u8 t, .bool bad] w fun e w' => e = .returned (.bool true) ∧ Below w.heap.size w w' := by
  have h1 : 0 ≤ r ∧ r ≤ 255 := by
    simp [Lit.wf, IntKind.min, IntKind.max, IntKind.signed, IntKind.bits] at hr
    omega
  have h2 : 0 ≤ t ∧ t ≤ 255 := by
    simp [Lit.wf, IntKind.min, IntKind.max, IntKind.signed, IntKind.bits] at ht
    omega
  obtain ⟨r, rfl⟩ := Int.eq_ofNat_of_zero_le h1.1
  obtain ⟨t, rfl⟩ := Int.eq_ofNat_of_zero_le h2.1
  cases bad
  · exact wears_good w r t (by omega) (by omega)
  · exact wears_bad w r t (by omega) (by omega)
end Go.Proofs.Ytjnjnkkdpglfhaa
