/-
  The chip: New refused, History; the laws' beginning, and 'shown'.
-/
import Derived.Test.YtjnjnkkdpglfhaaNew
set_option linter.unusedVariables false
namespace Go.Proofs.Ytjnjnkkdpglfhaa
open Go.RowKit

theorem new_nil (w : World) (a b c : Int) (bv : Value) : Calls Try.prog 8 #[.pointer none, .int .i64 a, .int .i64 b, .int .i64 c, bv] w fun e w' => e = .returned (.pointer none) ∧ w = w' := by
  go_enter Try.func8, Try.ntmps8
  go_wp2_with fail
  go_ret
  exact ⟨rfl, rfl⟩

theorem history_any {B gc gl gp : Nat} {pg : Nat → Nat} {pv : Value} {st : Cp} {p : Pw} {w : World} (h : Chip B gc gl gp pg pv st p w) (hN : st.past.length ≤ 1000000) :
    Calls Try.prog 21 #[.pointer (some ⟨gc, 0, none⟩)] w fun e w' => ∃ v, e = .returned v ∧ w'.ownsRow w.heap.size 9 1 v st.past.length (st.past.map Value.string) ∧ Below w.heap.size w w' := by
  have c5 := h.c5
  have hX : Calls Try.prog 40 #[pv] w fun e w' => ∃ v, e = .returned v ∧ w'.ownsRow w.heap.size 9 1 v st.past.length (st.past.map Value.string) ∧ Below w.heap.size w w' := by
    obtain ⟨h1, ⟨rfl, h0⟩ | ⟨g, cap, cur, rfl, _, hg, hc, _, hz, ht⟩⟩ := h.past
    · refine (Try.slices_Clone_string_nil 0 0 w).mono ?_
      rintro e w' ⟨rfl, rfl⟩
      have : st.past = [] := List.eq_nil_of_length_eq_zero h0
      rw [this]
      exact ⟨_, rfl, World.ownsRow_nil _ _ _ _, Below.refl _ _⟩
    · have := Try.slices_Clone_string g 0 st.past.length cap st.past w (Nat.le_refl _) (by omega) (fun j hj => by
        rw [Nat.zero_add, cell_of_row w g j _ _ _ hg]
        have e1 : (st.past.map Value.string)[j]? = some (.string (st.past.getD j ByteArray.empty)) := by
          rw [List.getElem?_map, List.getElem?_eq_getElem hj, List.getD_eq_getElem?_getD, List.getElem?_eq_getElem hj]
          rfl
        rw [← ht, List.getElem?_take] at e1
        split at e1
        · simpa using e1
        · cases e1)
      refine this.mono ?_
      rintro e w' ⟨v, rfl, h2, _, h3⟩
      rw [List.take_of_length_le (Nat.le_refl _)] at h2
      exact ⟨v, rfl, h2, h3⟩
  have HX := Lib.hid hX
  clear h hN hX
  go_enter Try.func21, Try.ntmps21
  go_wp2_with fail
  refine HX.out.mono ?_
  rintro e w1 ⟨v, rfl, h1⟩
  have H1 := Lib.hid h1
  clear h1
  go_wp2_with fail
  go_ret
  exact ⟨v, rfl, H1.out⟩

def p0 : Pw := ⟨false, 0, 0, 0⟩
theorem p0_in : p0.In := ⟨⟨by decide, by decide⟩, by decide, by decide, by decide, by decide⟩
/-- A new power, behind which a chip is made. -/
def WP (w : World) : World := w.alloc (.cells #[.bool false, .int .i64 0, .int .i64 0, .int .u8 0] 87)
theorem wp_pw (w : World) : IsPw w.heap.size p0 (WP w) := heap_alloc_new w _
theorem wp_only (w : World) : Only (fun _ => False) w (WP w) := (Only.refl _ w).alloc _
theorem wp_size (w : World) : (WP w).heap.size = w.heap.size + 1 := by simp [WP]
/-- A chip in a world, nothing else kept. -/
theorem held_nil {a w : World} {B gc gl gp : Nat} {pg : Nat → Nat} {pv : Value} {n : Nat} (o : Only (fun _ => False) a w) (hB : a.heap.size ≤ B) : Held [] a B gc gl gp pg pv n w := ⟨(Tab.nil a).on o, fun q hq => (by cases hq), hB⟩
/-- New on a new power, no bad segments. -/
theorem new_fresh (a w : World) (o : Only (fun _ => False) a w) (sg pz : Nat) (rt : Int) (bv : Value) (bd : Nat → Bool) (h1 : 1 ≤ sg ∧ sg ≤ 64) (h2 : 1 ≤ pz ∧ pz ≤ 16) (h3 : 0 ≤ rt)
    (hbad : ∀ W, Only (fun _ => False) (WP w) W → ∀ k : Nat, k < sg → Calls Try.prog 33 #[bv, .int .i64 k] W fun e w' => e = .returned (.bool (bd k)) ∧ W = w') :
    Calls Try.prog 8 #[.pointer (some ⟨w.heap.size, 0, none⟩), .int .i64 sg, .int .i64 pz, .int .i64 rt, bv] (WP w) fun e w' => ∃ gc gl pg, e = .returned (.pointer (some ⟨gc, 0, none⟩)) ∧
      Chip w.heap.size gc gl w.heap.size pg (.slice none 0 0) (newCp sg pz rt bd) p0 w' ∧ Held [] a w.heap.size gc gl w.heap.size pg (.slice none 0 0) sg w' := by
  refine (new_ok (WP w) w.heap.size sg pz w.heap.size rt bv bd p0 (wp_pw w) h1 h2 h3 (Nat.le_refl _) (by rw [wp_size]; omega) hbad).mono ?_
  rintro e w' ⟨rfl, pg, hc, ho, _⟩
  exact ⟨_, _, pg, rfl, hc, held_nil ((o.trans (wp_only w)).trans ho) o.size⟩
theorem contains_nil (k : Nat) (W : World) : Calls Try.prog 33 #[.slice none 0 0, .int .i64 k] W fun e w' => e = .returned (.bool false) ∧ W = w' := by
  refine (Try.slices_Contains_int_empty none 0 k W).mono ?_
  rintro e w' ⟨rfl, rfl⟩
  exact ⟨rfl, rfl⟩
theorem newPower_wp (w : World) : Calls Try.prog 9 #[] w fun e w' => e = .returned (.pointer (some ⟨w.heap.size, 0, none⟩)) ∧ WP w = w' := newPower_any w

theorem prS_segs (st : Cp) (p : Pw) (i j : Int) (s : ByteArray) : (st.prS p i j s).segs = st.segs := by unfold Cp.prS; split <;> rfl
theorem erS_segs (st : Cp) (p : Pw) (i : Int) : (st.erS p i).segs = st.segs := by unfold Cp.erS; split <;> rfl
/-- The chip as it is, its rows and the caller's. -/
def On (T : List (Nat × Array Value × TypeId)) (a : World) (B gc gl gp : Nat) (pg : Nat → Nat) (st : Cp) (p : Pw) (w : World) : Prop := ∃ pv, Chip B gc gl gp pg pv st p w ∧ Held T a B gc gl gp pg pv st.segs w
section
variable {B gc gl gp : Nat} {pg : Nat → Nat} {st : Cp} {p : Pw} {a w : World} {T : List (Nat × Array Value × TypeId)}
theorem On.on {w' : World} (h : On T a B gc gl gp pg st p w) (o : Only (fun _ => False) w w') : On T a B gc gl gp pg st p w' := by
  obtain ⟨pv, h1, h2⟩ := h
  exact ⟨pv, h1.keep o, h2.on o⟩
theorem On.call {w' : World} (h : On T a B gc gl gp pg st p w) (o : Below w.heap.size w w') : On T a B gc gl gp pg st p w' := h.on (Only.of_below o)
theorem On.below (h : On T a B gc gl gp pg st p w) : Below a.heap.size a w := by
  obtain ⟨pv, h1, h2⟩ := h
  exact h2.tab.below
theorem On.tab (h : On T a B gc gl gp pg st p w) : Tab T a w := by
  obtain ⟨pv, h1, h2⟩ := h
  exact h2.tab
theorem program_on (h : On T a B gc gl gp pg st p w) (i j : Int) (s : ByteArray) (hpi : p.In) (hN : st.past.length ≤ 100000) (hP : 0 ≤ st.programs ∧ st.programs ≤ 100000) :
    Calls Try.prog 15 #[.pointer (some ⟨gc, 0, none⟩), .int .i64 i, .int .i64 j, .string s] w fun e w' => e = .returned (.int .i64 (st.prE p i j s)) ∧ On T a B gc gl gp pg (st.prS p i j s) (st.prP p i j s) w' := by
  obtain ⟨pv, h1, h2⟩ := h
  refine (program_any h1 h2 i j s hpi hN hP).mono ?_
  rintro e w' ⟨rfl, pv', h3, h4⟩
  exact ⟨rfl, pv', h3, by rw [prS_segs]; exact h4⟩
theorem erase_on (h : On T a B gc gl gp pg st p w) (i : Int) (hpi : p.In) (hE : 0 ≤ st.erases ∧ st.erases ≤ 100000000) (hW : ∀ i, 0 ≤ st.wear i) (hrt : st.rated ≤ 9223372036854775807) :
    Calls Try.prog 11 #[.pointer (some ⟨gc, 0, none⟩), .int .i64 i] w fun e w' => e = .returned (.int .i64 (st.erE p i)) ∧ On T a B gc gl gp pg (st.erS p i) (st.erP p i) w' := by
  obtain ⟨pv, h1, h2⟩ := h
  refine (erase_any h1 h2 i hpi hE hW hrt).mono ?_
  rintro e w' ⟨rfl, h3, h4⟩
  exact ⟨rfl, pv, h3, by rw [erS_segs]; exact h4⟩
theorem read_on (h : On T a B gc gl gp pg st p w) (i j : Int) :
    Calls Try.prog 19 #[.pointer (some ⟨gc, 0, none⟩), .int .i64 i, .int .i64 j] w fun e w' => e = .returned (.tuple #[.string ((st.rdO p i j).getD ByteArray.empty), .bool (st.rdO p i j).isSome, .int .i64 (st.rdE p i j)]) ∧ On T a B gc gl gp pg st p w' := by
  obtain ⟨pv, h1, h2⟩ := h
  refine (read_any h1 i j).mono ?_
  rintro e w' ⟨rfl, h3⟩
  exact ⟨rfl, On.call ⟨pv, h1, h2⟩ h3⟩
theorem wear_on (h : On T a B gc gl gp pg st p w) (i : Int) : Calls Try.prog 13 #[.pointer (some ⟨gc, 0, none⟩), .int .i64 i] w fun e w' => e = .returned (.int .i64 (st.wearI i)) ∧ On T a B gc gl gp pg st p w' := by
  obtain ⟨pv, h1, h2⟩ := h
  refine (wear_any h1 i).mono ?_
  rintro e w' ⟨rfl, h3⟩
  exact ⟨rfl, On.call ⟨pv, h1, h2⟩ h3⟩
theorem counts_on (h : On T a B gc gl gp pg st p w) : Calls Try.prog 12 #[.pointer (some ⟨gc, 0, none⟩)] w fun e w' => e = .returned (.tuple #[.int .i64 st.programs, .int .i64 st.erases]) ∧ On T a B gc gl gp pg st p w' := by
  obtain ⟨pv, h1, h2⟩ := h
  refine (counts_any h1).mono ?_
  rintro e w' ⟨rfl, h3⟩
  exact ⟨rfl, On.call ⟨pv, h1, h2⟩ h3⟩
theorem history_on (h : On T a B gc gl gp pg st p w) (hN : st.past.length ≤ 1000000) :
    Calls Try.prog 21 #[.pointer (some ⟨gc, 0, none⟩)] w fun e w' => ∃ v, e = .returned v ∧ w'.ownsRow w.heap.size 9 1 v st.past.length (st.past.map Value.string) ∧ On T a B gc gl gp pg st p w' := by
  obtain ⟨pv, h1, h2⟩ := h
  refine (history_any h1 hN).mono ?_
  rintro e w' ⟨v, rfl, h4, h3⟩
  exact ⟨v, rfl, h4, On.call ⟨pv, h1, h2⟩ h3⟩
theorem On.power {q : Pw} {w' : World} (h : On T a B gc gl gp pg st p w) (hq : IsPw gp q w') (o : Only (fun k => k = gp) w w') : On T a B gc gl gp pg st q w' := by
  obtain ⟨pv, h1, h2⟩ := h
  exact ⟨pv, h1.power hq o, h2.mine h1 (fun k hk => .inr (.inr (.inl hk))) o, h2.no, h2.base⟩
theorem On.pw (h : On T a B gc gl gp pg st p w) : IsPw gp p w := by
  obtain ⟨pv, h1, h2⟩ := h
  exact h1.pw
theorem up_on (h : On T a B gc gl gp pg st p w) : Calls Try.prog 17 #[.pointer (some ⟨gp, 0, none⟩)] w fun e w' => e = .returned (.bool (!p.off)) ∧ On T a B gc gl gp pg st p w' := by
  refine (up_any gp p w h.pw).mono ?_
  rintro e w' ⟨rfl, rfl⟩
  exact ⟨rfl, h⟩
theorem cut_on (h : On T a B gc gl gp pg st p w) : Calls Try.prog 14 #[.pointer (some ⟨gp, 0, none⟩)] w fun e w' => e = .returned (.tuple #[]) ∧ On T a B gc gl gp pg st { p with off := true } w' := by
  refine (cut_any gp p w h.pw).mono ?_
  rintro e w' ⟨rfl, h1, h2⟩
  exact ⟨rfl, h.power h1 h2⟩
theorem on_on (h : On T a B gc gl gp pg st p w) : Calls Try.prog 20 #[.pointer (some ⟨gp, 0, none⟩)] w fun e w' => e = .returned (.tuple #[]) ∧ On T a B gc gl gp pg st { p with off := false, left := 0 } w' := by
  refine (on_any gp p w h.pw).mono ?_
  rintro e w' ⟨rfl, h1, h2⟩
  exact ⟨rfl, h.power h1 h2⟩
theorem fuse_on (h : On T a B gc gl gp pg st p w) (n keep junk : Int) :
    Calls Try.prog 18 #[.pointer (some ⟨gp, 0, none⟩), .int .i64 n, .int .i64 keep, .int .u8 junk] w fun e w' => e = .returned (.tuple #[]) ∧ On T a B gc gl gp pg st { p with left := max n 0, keep := max keep 0, junk := junk } w' := by
  refine (fuse_any gp p w n keep junk h.pw).mono ?_
  rintro e w' ⟨rfl, h1, h2⟩
  exact ⟨rfl, h.power h1 h2⟩
end
theorem new_on (a w : World) (o : Only (fun _ => False) a w) (sg pz : Nat) (rt : Int) (bv : Value) (bd : Nat → Bool) (h1 : 1 ≤ sg ∧ sg ≤ 64) (h2 : 1 ≤ pz ∧ pz ≤ 16) (h3 : 0 ≤ rt)
    (hbad : ∀ W, Only (fun _ => False) (WP w) W → ∀ k : Nat, k < sg → Calls Try.prog 33 #[bv, .int .i64 k] W fun e w' => e = .returned (.bool (bd k)) ∧ W = w') :
    Calls Try.prog 8 #[.pointer (some ⟨w.heap.size, 0, none⟩), .int .i64 sg, .int .i64 pz, .int .i64 rt, bv] (WP w) fun e w' => ∃ gc gl pg, e = .returned (.pointer (some ⟨gc, 0, none⟩)) ∧ On [] a w.heap.size gc gl w.heap.size pg (newCp sg pz rt bd) p0 w' := by
  refine (new_fresh a w o sg pz rt bv bd h1 h2 h3 hbad).mono ?_
  rintro e w' ⟨gc, gl, pg, rfl, k1, k2⟩
  exact ⟨gc, gl, pg, rfl, _, k1, k2⟩

def sAb : ByteArray := ⟨#[97, 98]⟩
def sh0 : Cp := newCp 2 2 5 (fun _ => false)
def sh1 : Cp := sh0.prg 0 1 (fillT sAb)
def sh2 : Cp := sh1.ers 0 2
theorem sh_1 : sh0.prS p0 0 1 sAb = sh1 ∧ sh0.prP p0 0 1 sAb = p0 ∧ sh0.prE p0 0 1 sAb = 0 := ⟨rfl, rfl, rfl⟩
theorem sh_2 : sh1.prS p0 0 1 ByteArray.empty = sh1 ∧ sh1.prP p0 0 1 ByteArray.empty = p0 ∧ sh1.prE p0 0 1 ByteArray.empty = 100 := ⟨rfl, rfl, rfl⟩
theorem sh_3 : sh1.rdO p0 0 1 = some (fillT sAb) ∧ sh1.rdE p0 0 1 = 0 := ⟨rfl, rfl⟩
theorem sh_4 : sh1.erS p0 0 = sh2 ∧ sh1.erP p0 0 = p0 ∧ sh1.erE p0 0 = 0 ∧ sh2.wearI 0 = 1 := ⟨rfl, rfl, rfl, rfl⟩
theorem sh_5 : (fillT sAb).extract 0 2 = sAb := by
  rw [fillT]
  have : sAb.size = 2 := rfl
  exact ByteArray.extract_append_eq_left rfl

set_option maxHeartbeats 4000000 in
theorem shown_any (w : World) : Calls Try.prog 10 #[] w fun e w' => e = .returned (.bool true) ∧ Below w.heap.size w w' := by
  have HP := Lib.hid (newPower_wp w)
  have HN := Lib.hid (new_on w w (Only.refl _ w) 2 2 5 (.slice none 0 0) (fun _ => false) (by omega) (by omega) (by omega) (fun W _ k _ => contains_nil k W))
  have H0 : Hid (sh0.past.length ≤ 100000 ∧ (0 ≤ sh0.programs ∧ sh0.programs ≤ 100000)) := ⟨by decide, by decide, by decide⟩
  have H1 : Hid (sh1.past.length ≤ 100000 ∧ (0 ≤ sh1.programs ∧ sh1.programs ≤ 100000)) := ⟨by decide, by decide, by decide⟩
  have HE1 : Hid ((0 ≤ sh1.erases ∧ sh1.erases ≤ 100000000) ∧ (∀ i, 0 ≤ sh1.wear i) ∧ sh1.rated ≤ 9223372036854775807) := ⟨⟨by decide, by decide⟩, fun i => Int.le_refl _, by decide⟩
  have hsz : (fillT sAb).size = 256 := fillT_size (by decide)
  have hx := sh_5
  have HSZ := Lib.hid hsz
  have HX := Lib.hid hx
  clear hsz hx
  generalize WP w = W0 at *
  go_enter Try.func10, Try.ntmps10
  go_wp2_with fail
  refine HP.out.mono ?_
  rintro e w1 ⟨rfl, rfl⟩
  go_wp2_with fail
  refine HN.out.mono ?_
  rintro e w2 ⟨gc, gl, pg, rfl, h0⟩
  have h1 := program_on h0 0 1 sAb p0_in H0.out.1 H0.out.2
  have e1 := sh_1
  rw [show newCp 2 2 5 (fun _ => false) = sh0 from rfl, e1.1, e1.2.1, e1.2.2] at h1
  have K1 := Lib.hid h1
  clear h0 h1 e1
  go_wp2_with fail
  refine K1.out.mono ?_
  rintro e w3 ⟨rfl, h0⟩
  have h1 := program_on h0 0 1 ByteArray.empty p0_in H1.out.1 H1.out.2
  have e1 := sh_2
  rw [e1.1, e1.2.1, e1.2.2] at h1
  have K2 := Lib.hid h1
  clear h0 h1 e1 K1
  go_wp2_with fail
  refine K2.out.mono ?_
  rintro e w4 ⟨rfl, h0⟩
  have h1 := read_on h0 0 1
  rw [sh_3.1, sh_3.2] at h1
  have K3 := Lib.hid h1
  have K4 := Lib.hid (fun X (h : On [] w w.heap.size gc gl w.heap.size pg sh1 p0 X) => erase_on h 0 p0_in HE1.out.1 HE1.out.2.1 HE1.out.2.2)
  clear h0 h1 K2
  have e4 := sh_4
  rw [e4.1, e4.2.1, e4.2.2.1] at K4
  have HW4 := Lib.hid e4.2.2.2
  clear e4
  generalize hF : fillT sAb = F at *
  clear hF
  go_wp2_with fail
  refine K3.out.mono ?_
  rintro e w5 ⟨rfl, h0⟩
  have K5 := Lib.hid (K4.out _ h0)
  have hsz := HSZ.out
  have hx : F.extract 0 2 = ⟨#[97, 98]⟩ := HX.out
  clear h0 K3
  go_wp2_with fail
  refine K5.out.mono ?_
  rintro e w6 ⟨rfl, h0⟩
  have h1 := wear_on h0 0
  rw [HW4.out] at h1
  have K6 := Lib.hid h1
  clear h0 h1 K5
  go_wp2_with fail
  refine K6.out.mono ?_
  rintro e w7 ⟨rfl, h0⟩
  have HF := Lib.hid h0.below
  clear h0 K6
  go_wp2_with fail
  go_ret
  exact ⟨rfl, HF.out⟩
end Go.Proofs.Ytjnjnkkdpglfhaa
