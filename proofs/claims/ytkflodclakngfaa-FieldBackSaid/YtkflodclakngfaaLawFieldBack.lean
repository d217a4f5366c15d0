/-
  FieldBack: the walk of the law.
-/
import Derived.Test.YtkflodclakngfaaLawFieldLists
import Derived.Test.YtkflodclakngfaaBack
import Derived.StillTailTactics
set_option linter.unusedVariables false
namespace Go.Proofs.Ytkflodclakngfaa
open Go.RowKit

def cutTo (s : ByteArray) : ByteArray := s.extract 0 (min s.size 300)

theorem number_ok (n k : Nat) (w : World) (h1 : 1 ≤ k) (h8 : k ≤ 8) (hn : n < 256 ^ k) (hn2 : n ≤ 18446744073709551615) :
    Calls Try.prog 11 #[.int .u64 n, .int .i64 k] w fun e w' => e = .returned (.tuple #[.string ⟨(leBytes n k).toArray⟩, .int .i64 0]) ∧ Below w.heap.size w w' := by
  refine (num_all n k w hn2).mono fun e w' ⟨he, hb⟩ => ⟨?_, hb⟩
  rw [he, nmV_ok ⟨by omega, by omega, by rw [Int.toNat_natCast]; exact Nat.div_eq_of_lt hn⟩, Int.toNat_natCast]

theorem number_ok2 (N : Int) (n k : Nat) (w : World) (h1 : 1 ≤ k) (h8 : k ≤ 8) (hN : N = n) (hn : n < 256 ^ k) (hn2 : n ≤ 18446744073709551615) :
    Calls Try.prog 11 #[.int .u64 N, .int .i64 k] w fun e w' => e = .returned (.tuple #[.string ⟨(leBytes n k).toArray⟩, .int .i64 0]) ∧ Below w.heap.size w w' := by
  subst hN; exact number_ok n k w h1 h8 hn hn2

theorem leBytes_arr (n k : Nat) : (⟨(leBytes n k).toArray⟩ : ByteArray).size ≤ k := by show (leBytes n k).toArray.size ≤ k; simp [leBytes_len]

theorem cutTo_size (l : List ByteArray) (s : ByteArray) (h : s ∈ l.map cutTo) : s.size ≤ 300 := by
  obtain ⟨t, _, rfl⟩ := List.mem_map.1 h
  rw [cutTo, ByteArray.size_extract]; omega

theorem body_size (l : List ByteArray) (h : ∀ s ∈ l, s.size ≤ 1000) : (body l).size ≤ 1002 * l.length := by
  induction l with
  | nil => exact Nat.le_refl _
  | cons s l ih =>
    have h1 := h s (by simp)
    have h2 := ih fun t ht => h t (by simp [ht])
    have h3 : (pre s).size = 2 + s.size := by rw [pre, ByteArray.size_append, pre_size]
    rw [body, ByteArray.size_append, List.length_cons]; omega

theorem listBytes_size (l : List ByteArray) (h : l.length ≤ 50) (hl : ∀ s ∈ l, s.size ≤ 1000) : (listBytes l).size ≤ 60000 := by
  have := body_size l hl
  have e : (⟨#[UInt8.ofNat l.length]⟩ : ByteArray).size = 1 := rfl
  rw [listBytes, ByteArray.size_append, e]; omega

theorem map_take_snoc (l : List ByteArray) (k : Nat) (t : ByteArray) (h : l[k]? = some t) : ((l.take (k + 1)).map fun s => Value.string (cutTo s)) = ((l.take k).map fun s => Value.string (cutTo s)) ++ [.string (cutTo t)] := by
  rw [List.take_add_one, h]; simp

set_option maxHeartbeats 4000000 in
theorem fieldBack_main (n kk width : Nat) (v : Value) (l : List ByteArray) (s : ByteArray) (w : World) (hv : SRow w v l) (hl : l.length ≤ 50) (hs : s.size ≤ 1000)
    (hn : n ≤ 18446744073709551615) (hw : width ≤ 255) (hk : kk = 1 + width % 8) :
    Calls Try.prog 7 #[.int .u64 n, .int .u8 width, v, .string s] w fun e w' => e = .returned (.bool true) ∧ Below w.heap.size w w' := by
  have hv0 := Lib.hid hv
  obtain ⟨a, c, rfl, hss, hcell⟩ := hv
  have HC := Lib.hid hcell
  have HS := Lib.hid hss
  clear hcell hss
  obtain ⟨i0, hi, hz0, hz1, hz2⟩ := info_parts info9
  have hkI : (1 : Int) + (width : Int) % 8 = (kk : Int) := by omega
  have hk1 : 1 ≤ kk := by omega
  have hk8 : kk ≤ 8 := by omega
  clear hk
  go_enter Try.func7, Try.ntmps7
  go_wp2_with fail
  refine (shown_ok _).mono ?_
  rintro e w3 ⟨rfl, h3⟩
  by_cases h8 : kk < 8
  · have hP : ∃ Pn : Nat, IntKind.u64.wrap (2 ^ (8 * kk)) = (Pn : Int) ∧ 1 ≤ Pn ∧ Pn = 256 ^ kk := by
      have e : (256 : Nat) ^ kk = 2 ^ (8 * kk) := by rw [Nat.pow_mul]
      have e2 : 2 ^ (8 * kk) ≤ 2 ^ 56 := Nat.pow_le_pow_right (by omega) (by omega)
      have e3 : (2 : Nat) ^ 56 = 72057594037927936 := rfl
      refine ⟨256 ^ kk, ?_, Nat.pow_pos (by omega), rfl⟩
      rw [IntKind.wrap_u64, e, show ((2 : Int) ^ (8 * kk)) = ((2 ^ (8 * kk) : Nat) : Int) by push_cast; rfl]
      generalize 2 ^ (8 * kk) = q at *
      omega
    obtain ⟨Pn, hp, hp1, hp2⟩ := hP
    have hd8 : decide ((kk : Int) < 8) = true := decide_eq_true (by omega)
    have HP2 := Lib.hid hp2
    clear hp2
    go_wp2_with fail
    clear hp

    go_loopw [10, 11] (fun v i wr => ∃ k : Nat, k ≤ l.length ∧ i = .int .i64 k ∧ wr.ownsRow w.heap.size 9 1 v k ((l.take k).map fun s => Value.string (cutTo s)) ∧ Below w.heap.size w wr) (fun _ i _ => l.length - (intOf i).toNat)
    case atStart => exact ⟨0, Nat.zero_le _, rfl, World.ownsRow_made w3 #[] 0 h3.size (by simp [maxLen]) rfl, below_alloc h3 (Nat.le_refl _) _⟩
    case round =>
      obtain ⟨k, hk, rfl, hown, hbel⟩ := hrel
      by_cases hlt : k < l.length
      · obtain ⟨t, ht⟩ : ∃ t, l[k]? = some t := ⟨_, List.getElem?_eq_getElem hlt⟩
        obtain ⟨b, off, rfl, hb, hc⟩ := HC.out k t ht
        have hc' := (hbel.cell (p := ⟨b, off + k, none⟩) hb).trans hc
        have hsz := HS.out t (List.mem_of_getElem? ht)
        have HT := Lib.hid ht
        clear hc ht
        have hlt' : (k : Int) < (l.length : Int) := by omega
        have hm1 : (0 : Int) ≤ min (t.size : Int) 300 := by omega
        have hm2 : min (t.size : Int) 300 ≤ (t.size : Int) := by omega
        have hm3 : (min (t.size : Int) 300).toNat = min t.size 300 := by omega
        have hbW := hbel.size
        go_wp2_with fail
        go_region_held3 (fun w' => w'.cell? ⟨b, off + k, none⟩ = some (.string t))
          (first
            | go_keep
            | (rw [hgrow.cell_far _ (by simp; omega) (by intro e; have := (hown.lt _ e.symm).1; simp at this; omega)]; simp; assumption))
          ((refine step_append_lies _ (by rfl) _ _ _ (by rfl) w.heap.size 9 i0 _ 1 16 Try.underlying33 hi hz0 hz1 hz2 rfl (by omega) u10 k _ (by rfl) ((hown.alloc _).drew) ⟨wr.heap.size, 0, none⟩ 1 1 [.string (cutTo t)] (by rfl) (by rfl) (by exact World.news_of_block (heap_alloc_new wr _)) (by exact one_cellS) (by omega) (by unfold maxLen; omega) (by omega) (by simp; omega) (wr.heap.size + 1) (by simp) ?_; intro gg cap w4 hown4 hgrow hat hlt4))
        have hb4 : Below w.heap.size w w4 := below_grown_own (below_alloc hbel (Nat.le_refl _) _).drew (Nat.le_refl _) ((hown.alloc _).drew) hgrow
        have h4' := map_take_snoc l k t HT.out
        go_wp2_with fail
        go_roundw
        case rel => exact ⟨k + 1, by omega, by go_num, by rw [h4']; exact hown4, hb4⟩
        case measure => simp [intOf]; omega
      · obtain rfl : k = l.length := by omega
        rw [List.take_length] at hown
        have hsl : ∀ s ∈ l.map cutTo, s.size ≤ 1000 := fun s hs => Nat.le_trans (cutTo_size l s hs) (by omega)
        have hrow : SRow wr u10 (l.map cutTo) := SRow_of_own (by rw [List.map_map]; exact hown) (fun s hs => Nat.le_trans (hsl s hs) (by omega))
        have hls := ls_ok (l.map cutTo) (by rw [List.length_map]; omega) hsl
        have HLS := Lib.hid hls
        have HSL := Lib.hid hsl
        have HR := Lib.hid hrow
        have HO := Lib.hid hown
        have hbs := listBytes_size (l.map cutTo) (by rw [List.length_map]; omega) hsl
        clear hls hsl hrow hown
        go_wp2_with fail
        refine (number_ok2 ((n : Int) % (Pn : Int)) (n % Pn) kk _ (by omega) (by omega) ?_ ?_ ?_).mono ?_
        · exact (Int.natCast_emod n Pn).symm
        · exact (by rw [← HP2.out]; exact Nat.mod_lt _ hp1)
        · exact Nat.le_trans (Nat.mod_le _ _) hn
        rintro e w4 ⟨rfl, h4⟩
        have b4 := below2 hbel h4
        have hA := leBytes_arr (n % Pn) kk
        generalize hAe : (⟨(leBytes (n % Pn) kk).toArray⟩ : ByteArray) = A at hA ⊢
        have HA := Lib.hid hAe
        clear hAe
        go_wp2_with fail
        refine (list_any _ (l.map cutTo) _ (HR.out.below h4) (by rw [List.length_map]; omega)).mono ?_
        rintro e w5 ⟨rfl, h5⟩
        rw [HLS.out]
        have b5 := below2 b4 h5
        unfold v2
        generalize hBe : listBytes (l.map cutTo) = B at hbs ⊢
        have HB := Lib.hid hBe
        clear hBe
        go_wp2_with fail
        refine (take_any (A ++ B ++ s) kk _ ?_).mono ?_
        · rw [ByteArray.size_append, ByteArray.size_append]; omega
        rintro e w6 ⟨rfl, h6⟩
        have b6 := below2 b5 h6
        have HTK : tkV (⟨(leBytes (n % Pn) kk).toArray⟩ ++ (B ++ s)) ((kk : Int)) = .tuple #[.int .u64 ((n % Pn : Nat) : Int), .string (B ++ s), .int .i64 0] := tk_ok (n % Pn) kk (B ++ s) (by omega) (by omega) ((by rw [← HP2.out]; exact Nat.mod_lt _ hp1))
        rw [ByteArray.append_assoc, ← HA.out, HTK]
        clear HTK
        go_wp2_with fail
        refine (takelist_any (B ++ s) _ ?_).mono ?_
        · rw [ByteArray.size_append]; omega
        rintro e w7 ⟨y, rfl, hy, h7⟩
        have b7 := below2 b6 h7
        rw [← HB.out, tl_ok (l.map cutTo) s (by rw [List.length_map]; omega) HSL.out] at hy ⊢
        have HY := Lib.hid hy
        clear hy
        have HR7 : Hid (SRow w7 u10 (l.map cutTo)) := (((HR.out.below h4).below h5).below h6).below h7
        go_wp2_with fail
        refine (same_true y u10 _ _ HY.out HR7.out (by simp; omega)).mono ?_
        rintro e w8 ⟨rfl, h8'⟩
        go_wp2_with fail
        go_ret
        exact ⟨rfl, below2 b7 h8'⟩
  · obtain rfl : kk = 8 := by omega
    go_wp2_with fail

    go_loopw [10, 11] (fun v i wr => ∃ k : Nat, k ≤ l.length ∧ i = .int .i64 k ∧ wr.ownsRow w.heap.size 9 1 v k ((l.take k).map fun s => Value.string (cutTo s)) ∧ Below w.heap.size w wr) (fun _ i _ => l.length - (intOf i).toNat)
    case atStart => exact ⟨0, Nat.zero_le _, rfl, World.ownsRow_made w3 #[] 0 h3.size (by simp [maxLen]) rfl, below_alloc h3 (Nat.le_refl _) _⟩
    case round =>
      obtain ⟨k, hk, rfl, hown, hbel⟩ := hrel
      by_cases hlt : k < l.length
      · obtain ⟨t, ht⟩ : ∃ t, l[k]? = some t := ⟨_, List.getElem?_eq_getElem hlt⟩
        obtain ⟨b, off, rfl, hb, hc⟩ := HC.out k t ht
        have hc' := (hbel.cell (p := ⟨b, off + k, none⟩) hb).trans hc
        have hsz := HS.out t (List.mem_of_getElem? ht)
        have HT := Lib.hid ht
        clear hc ht
        have hlt' : (k : Int) < (l.length : Int) := by omega
        have hm1 : (0 : Int) ≤ min (t.size : Int) 300 := by omega
        have hm2 : min (t.size : Int) 300 ≤ (t.size : Int) := by omega
        have hm3 : (min (t.size : Int) 300).toNat = min t.size 300 := by omega
        have hbW := hbel.size
        go_wp2_with fail
        go_region_held3 (fun w' => w'.cell? ⟨b, off + k, none⟩ = some (.string t))
          (first
            | go_keep
            | (rw [hgrow.cell_far _ (by simp; omega) (by intro e; have := (hown.lt _ e.symm).1; simp at this; omega)]; simp; assumption))
          ((refine step_append_lies _ (by rfl) _ _ _ (by rfl) w.heap.size 9 i0 _ 1 16 Try.underlying33 hi hz0 hz1 hz2 rfl (by omega) u10 k _ (by rfl) ((hown.alloc _).drew) ⟨wr.heap.size, 0, none⟩ 1 1 [.string (cutTo t)] (by rfl) (by rfl) (by exact World.news_of_block (heap_alloc_new wr _)) (by exact one_cellS) (by omega) (by unfold maxLen; omega) (by omega) (by simp; omega) (wr.heap.size + 1) (by simp) ?_; intro gg cap w4 hown4 hgrow hat hlt4))
        have hb4 : Below w.heap.size w w4 := below_grown_own (below_alloc hbel (Nat.le_refl _) _).drew (Nat.le_refl _) ((hown.alloc _).drew) hgrow
        have h4' := map_take_snoc l k t HT.out
        go_wp2_with fail
        go_roundw
        case rel => exact ⟨k + 1, by omega, by go_num, by rw [h4']; exact hown4, hb4⟩
        case measure => simp [intOf]; omega
      · obtain rfl : k = l.length := by omega
        rw [List.take_length] at hown
        have hsl : ∀ s ∈ l.map cutTo, s.size ≤ 1000 := fun s hs => Nat.le_trans (cutTo_size l s hs) (by omega)
        have hrow : SRow wr u10 (l.map cutTo) := SRow_of_own (by rw [List.map_map]; exact hown) (fun s hs => Nat.le_trans (hsl s hs) (by omega))
        have hls := ls_ok (l.map cutTo) (by rw [List.length_map]; omega) hsl
        have HLS := Lib.hid hls
        have HSL := Lib.hid hsl
        have HR := Lib.hid hrow
        have HO := Lib.hid hown
        have hbs := listBytes_size (l.map cutTo) (by rw [List.length_map]; omega) hsl
        clear hls hsl hrow hown
        go_wp2_with fail
        refine (number_ok2 ((n : Int)) (n) 8 _ (by omega) (by omega) ?_ ?_ ?_).mono ?_
        · exact rfl
        · exact (show n < 18446744073709551616 by omega)
        · exact hn
        rintro e w4 ⟨rfl, h4⟩
        have b4 := below2 hbel h4
        have hA := leBytes_arr (n) 8
        generalize hAe : (⟨(leBytes (n) 8).toArray⟩ : ByteArray) = A at hA ⊢
        have HA := Lib.hid hAe
        clear hAe
        go_wp2_with fail
        refine (list_any _ (l.map cutTo) _ (HR.out.below h4) (by rw [List.length_map]; omega)).mono ?_
        rintro e w5 ⟨rfl, h5⟩
        rw [HLS.out]
        have b5 := below2 b4 h5
        unfold v2
        generalize hBe : listBytes (l.map cutTo) = B at hbs ⊢
        have HB := Lib.hid hBe
        clear hBe
        go_wp2_with fail
        refine (take_any (A ++ B ++ s) 8 _ ?_).mono ?_
        · rw [ByteArray.size_append, ByteArray.size_append]; omega
        rintro e w6 ⟨rfl, h6⟩
        have b6 := below2 b5 h6
        have HTK : tkV (⟨(leBytes (n) 8).toArray⟩ ++ (B ++ s)) ((8 : Int)) = .tuple #[.int .u64 ((n : Nat) : Int), .string (B ++ s), .int .i64 0] := tk_ok (n) 8 (B ++ s) (by omega) (by omega) ((show n < 18446744073709551616 by omega))
        rw [ByteArray.append_assoc, ← HA.out, HTK]
        clear HTK
        go_wp2_with fail
        refine (takelist_any (B ++ s) _ ?_).mono ?_
        · rw [ByteArray.size_append]; omega
        rintro e w7 ⟨y, rfl, hy, h7⟩
        have b7 := below2 b6 h7
        rw [← HB.out, tl_ok (l.map cutTo) s (by rw [List.length_map]; omega) HSL.out] at hy ⊢
        have HY := Lib.hid hy
        clear hy
        have HR7 : Hid (SRow w7 u10 (l.map cutTo)) := (((HR.out.below h4).below h5).below h6).below h7
        go_wp2_with fail
        refine (same_true y u10 _ _ HY.out HR7.out (by simp; omega)).mono ?_
        rintro e w8 ⟨rfl, h8'⟩
        go_wp2_with fail
        go_ret
        exact ⟨rfl, below2 b7 h8'⟩

theorem fieldBack_walk (w : World) (n : Int) (hn : (Lit.int .u64 n).wf = true) (width : Int) (hw : (Lit.int .u8 width).wf = true) (a : Option Addr) (len cap : Nat) (ss : List ByteArray) (h : StrRow w a len cap ss) (s : ByteArray) (hs : s.size ≤ 140737488351232) :
    Calls Try.prog 7 #[.int .u64 n, .int .u8 width, .slice a len cap, .string s] w fun e w' => e = .returned (.bool true) ∧ Below w.heap.size w w' := by
  obtain ⟨n, rfl, hn'⟩ := u64_nat hn
  have hw' := bounds_u8 hw
  obtain ⟨width, rfl⟩ : ∃ k : Nat, width = k := ⟨width.toNat, by omega⟩
  obtain ⟨l, hl, hm, hr⟩ := h.srow
  by_cases h1 : 50 < l.length
  · have hd : decide ((50 : Int) < (l.length : Int)) = true := decide_eq_true (by omega)
    obtain ⟨a, c, e, _, _⟩ := hr
    rw [e]
    clear e
    go_enter Try.func7, Try.ntmps7
    go_wp2_with fail
    refine (shown_ok _).mono ?_
    rintro e w3 ⟨rfl, h3⟩
    go_wp2_with fail
    go_ret
    exact ⟨rfl, h3⟩
  by_cases h2 : 1000 < s.size
  · have hd : decide ((50 : Int) < (l.length : Int)) = false := decide_eq_false (by omega)
    have hd2 : decide ((1000 : Int) < (s.size : Int)) = true := decide_eq_true (by omega)
    obtain ⟨a, c, e, _, _⟩ := hr
    rw [e]
    clear e
    go_enter Try.func7, Try.ntmps7
    go_wp2_with fail
    refine (shown_ok _).mono ?_
    rintro e w3 ⟨rfl, h3⟩
    go_wp2_with fail
    go_ret
    exact ⟨rfl, h3⟩
  exact fieldBack_main n _ width _ l s w hr (by omega) (by omega) hn' (by omega) rfl
end Go.Proofs.Ytkflodclakngfaa
