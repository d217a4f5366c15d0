/-
  FieldCut: the walk of the law.
-/
import Derived.Test.YtkflodclakngfaaLawFieldLists
import Derived.Test.YtkflodclakngfaaCut
set_option linter.unusedVariables false
namespace Go.Proofs.Ytkflodclakngfaa
open Go.RowKit

theorem body_le (l : List ByteArray) (h : ∀ s ∈ l, s.size ≤ 1000) : (body l).size ≤ 1002 * l.length := by
  induction l with
  | nil => exact Nat.le_refl _
  | cons s l ih =>
    have h1 := h s (by simp)
    have h2 := ih fun t ht => h t (by simp [ht])
    have h3 : (pre s).size = 2 + s.size := by rw [pre, ByteArray.size_append, pre_size]
    rw [body, ByteArray.size_append, List.length_cons]; omega

theorem listBytes_le (l : List ByteArray) (h : l.length ≤ 50) (hl : ∀ s ∈ l, s.size ≤ 1000) : (listBytes l).size ≤ 60000 := by
  have := body_le l hl
  have e : (⟨#[UInt8.ofNat l.length]⟩ : ByteArray).size = 1 := rfl
  rw [listBytes, ByteArray.size_append, e]; omega

theorem number8 (n : Nat) (w : World) (hn : n ≤ 18446744073709551615) :
    Calls Try.prog 11 #[.int .u64 n, .int .i64 8] w fun e w' => e = .returned (.tuple #[.string ⟨(leBytes n 8).toArray⟩, .int .i64 0]) ∧ Below w.heap.size w w' := by
  refine (num_all n 8 w hn).mono fun e w' ⟨he, hb⟩ => ⟨?_, hb⟩
  rw [he, nmV_ok ⟨by omega, by omega, Nat.div_eq_of_lt (show n < 18446744073709551616 by omega)⟩]
  rfl

theorem take8_cut (s : ByteArray) (w : World) (hs : s.size = 8) (m : Nat) (h : m < 8) :
    Calls Try.prog 13 #[.string (s.extract 0 m), .int .i64 8] w fun e w' => e = .returned (.tuple #[.int .u64 0, .string ⟨#[]⟩, .int .i64 10]) ∧ Below w.heap.size w w' := by
  refine (take_any _ 8 w ?_).mono fun e w' ⟨he, hb⟩ => ⟨?_, hb⟩
  · rw [cut_size _ _ (by omega)]; omega
  · rw [he, tk_cut s m h hs]

theorem taketext_cut (t : ByteArray) (w : World) (ht : t.size ≤ 300) (m : Nat) (h : m < (pre t).size) :
    Calls Try.prog 18 #[.string ((pre t).extract 0 m)] w fun e w' => (∃ a b, e = .returned (.tuple #[.string a, .string b, .int .i64 10])) ∧ Below w.heap.size w w' := by
  have hp : (pre t).size = 2 + t.size := by rw [pre, ByteArray.size_append, pre_size]
  refine (taketext_any _ w ?_).mono fun e w' ⟨he, hb⟩ => ⟨⟨ttX ((pre t).extract 0 m), ttR ((pre t).extract 0 m), by rw [he, v3, tt_cut t m (by omega) h]⟩, hb⟩
  · rw [cut_size _ _ (by omega)]; omega

theorem takelist_cut (l : List ByteArray) (w : World) (hl : l.length ≤ 50) (hs : ∀ s ∈ l, s.size ≤ 1000) (hb : (listBytes l).size ≤ 60000) (m : Nat) (h : m < (listBytes l).size) :
    Calls Try.prog 23 #[.string ((listBytes l).extract 0 m)] w fun e w' => (∃ v b, e = .returned (.tuple #[v, .string b, .int .i64 10])) ∧ Below w.heap.size w w' := by
  refine (takelist_any _ w ?_).mono fun e w' ⟨v, he, _, hb⟩ => ⟨⟨v, (tl ((listBytes l).extract 0 m)).r, by rw [he, tl_cut l (by omega) hs m h]⟩, hb⟩
  · rw [cut_size _ _ (by omega)]; omega

/-- Three texts in a block. -/
def Three (w : World) (g : Nat) (a b c : ByteArray) : Prop :=
  w.cell? ⟨g, 0, none⟩ = some (.string a) ∧ w.cell? ⟨g, 1, none⟩ = some (.string b) ∧ w.cell? ⟨g, 2, none⟩ = some (.string c) ∧ g < w.heap.size

theorem Three.below {w w' : World} {g : Nat} {a b c : ByteArray} (h : Three w g a b c) (hb : Below w.heap.size w w') : Three w' g a b c :=
  ⟨(hb.cell (p := ⟨g, 0, none⟩) h.2.2.2).trans h.1, (hb.cell (p := ⟨g, 1, none⟩) h.2.2.2).trans h.2.1, (hb.cell (p := ⟨g, 2, none⟩) h.2.2.2).trans h.2.2.1, Nat.lt_of_lt_of_le h.2.2.2 hb.size⟩

theorem three_new (w : World) (a b c : ByteArray) (t : TypeId) : Three (w.alloc (.cells #[.string a, .string b, .string c] t)) w.heap.size a b c := by
  refine ⟨?_, ?_, ?_, by simp⟩ <;> (simp only [World.cell?, heap_alloc_new]; rfl)

set_option maxHeartbeats 4000000 in
theorem fieldCut_main (n : Nat) (t : ByteArray) (v : Value) (l : List ByteArray) (cut : Nat) (w : World) (hv : SRow w v l) (hl : l.length ≤ 20) (ht : t.size ≤ 300)
    (hn : n ≤ 18446744073709551615) (hc : cut ≤ 65535) :
    Calls Try.prog 9 #[.int .u64 n, .string t, v, .int .u16 cut] w fun e w' => e = .returned (.bool true) ∧ Below w.heap.size w w' := by
  have hv0 := Lib.hid hv
  obtain ⟨a, c, rfl, hss, hcell⟩ := hv
  have HC := Lib.hid hcell
  have HSS := Lib.hid hss
  clear hcell hss
  go_enter Try.func9, Try.ntmps9
  go_wp2_with fail
  refine (shown_ok _).mono ?_
  rintro e w3 ⟨rfl, h3⟩
  go_wp2_with fail
  go_loopw [9] (fun i wr => ∃ k : Nat, k ≤ l.length ∧ i = .int .i64 k ∧ Hid (∀ s ∈ l.take k, s.size ≤ 200) ∧ w3 = wr) (fun i _ => l.length - (intOf i).toNat)
  case atStart => exact ⟨0, Nat.zero_le _, rfl, (fun s hs => by simp at hs), rfl⟩
  case round =>
    obtain ⟨k, hk, rfl, hT2, rfl⟩ := hrel
    by_cases hlt : k < l.length
    · obtain ⟨u, hu⟩ : ∃ u, l[k]? = some u := ⟨_, List.getElem?_eq_getElem hlt⟩
      obtain ⟨b, off, rfl, hb, hc⟩ := HC.out k u hu
      have hc' := (h3.cell (p := ⟨b, off + k, none⟩) hb).trans hc
      have hsz := HSS.out u (List.mem_of_getElem? hu)
      have HU := Lib.hid hu
      clear hc hu
      by_cases h200 : 200 < u.size
      · go_wp2_with fail
        refine (shown_ok _).mono ?_
        rintro e w4 ⟨rfl, h4⟩
        go_wp2_with fail
        go_ret
        exact ⟨rfl, below2 h3 h4⟩
      · have HN : Hid (∀ s ∈ l.take (k + 1), s.size ≤ 200) := by
          intro s hs
          rw [List.take_add_one, HU.out] at hs
          rcases List.mem_append.1 hs with hs | hs
          · exact hT2.out s hs
          · simp at hs; subst hs; omega
        go_wp2_with fail
        go_roundw
        case rel => exact ⟨k + 1, by omega, by go_num, HN, trivial⟩
        case measure => simp [intOf]; omega
    · obtain rfl : k = l.length := by omega
      have hs1000 : ∀ s ∈ l, s.size ≤ 1000 := fun s hs => Nat.le_trans (hT2.out s (by rw [List.take_length]; exact hs)) (by omega)
      have hls := Lib.hid (ls_ok l (by omega) hs1000)
      have HS := Lib.hid hs1000
      clear hs1000
      go_wp2_with fail
      refine (number8 n _ hn).mono ?_
      rintro e w4 ⟨rfl, h4⟩
      have b4 := below2 h3 h4
      have hA : (⟨(leBytes n 8).toArray⟩ : ByteArray).size = 8 := by show (leBytes n 8).toArray.size = 8; simp [leBytes_len]
      generalize (⟨(leBytes n 8).toArray⟩ : ByteArray) = A at hA ⊢
      have HA := Lib.hid hA
      have hA1 : 8 ≤ A.size := by omega
      have hA2 : A.size ≤ 8 := by omega
      clear hA
      go_wp2_with fail
      refine (text_ok t _ (by omega) (by omega)).mono ?_
      rintro e w5 ⟨rfl, h5⟩
      have b5 := below2 b4 h5
      have hB : (⟨(leBytes t.size 2).toArray⟩ ++ t : ByteArray) = pre t := rfl
      rw [hB]
      clear hB
      have hp1 : 2 ≤ (pre t).size := by rw [pre, ByteArray.size_append, pre_size]; omega
      have hp2 : (pre t).size ≤ 302 := by rw [pre, ByteArray.size_append, pre_size]; omega
      go_wp2_with fail
      refine (list_any _ l _ ((hv0.out.below h3).below (h4.trans (h5.mono h4.size))) (by omega)).mono ?_
      rintro e w6 ⟨rfl, h6⟩
      have b6 := below2 b5 h6
      rw [hls.out]
      have hq1 : 1 ≤ (listBytes l).size := by
        have e1 : (⟨#[UInt8.ofNat l.length]⟩ : ByteArray).size = 1 := rfl
        rw [listBytes, ByteArray.size_append, e1]; omega
      have hq2 : (listBytes l).size ≤ 60000 := listBytes_le l (by omega) HS.out
      unfold v2
      go_wp2_with fail
      have h3' := three_new w6 A (pre t) (listBytes l) 9
      have b7 := below_alloc b6 (Nat.le_refl _) (.cells #[.string A, .string (pre t), .string (listBytes l)] 9)
      go_loopw [17, 18, 19] (fun i s e wr => ∃ k : Nat, k ≤ 3 ∧ i = .int .i64 k ∧ Three wr w6.heap.size A (pre t) (listBytes l) ∧ Below w.heap.size w wr) (fun i _ _ _ => 3 - (intOf i).toNat)
      case atStart => exact ⟨0, by omega, rfl, h3', b7⟩
      case round =>
        obtain ⟨k, hk, rfl, hT, hbel⟩ := hrel
        have HT := Lib.hid hT
        obtain ⟨c0, c1, c2, c3⟩ := hT
        by_cases k0 : k = 0
        · subst k0
          have x0 : (((A).size : Int) == 0) = false := by rw [beq_eq_false_iff_ne]; omega
          obtain ⟨m, hm⟩ : ∃ m : Nat, (cut : Int) % ((A).size : Int) = (m : Int) := ⟨cut % (A).size, by rw [Int.natCast_emod]⟩
          have hm2 : m < (A).size := by have := Int.emod_lt_of_pos (cut : Int) (show (0 : Int) < ((A).size : Int) by omega); omega
          have hm3 : (m : Int) ≤ ((A).size : Int) := by omega
          have z0 : ¬ ((A).size : Int) = 0 := by omega
          go_wp2_with fail
          go_quiet (fail)
          go_wp2_with fail
          refine (take8_cut A _ HA.out m (by omega)).mono ?_
          rintro e w8 ⟨rfl, h8⟩
          have hb8 := hbel.trans ((bdrewN (Below.refl w.heap.size wr) nq).trans (h8.mono hbel.size))
          have HB8 := Lib.hid hb8
          have HT8 := Lib.hid (HT.out.below ((bdrewN (Below.refl wr.heap.size wr) nq).trans h8))
          clear hb8 hm
          go_wp2_with fail
          go_roundw
          case rel => exact ⟨1, by omega, by go_num, HT8.out, HB8.out⟩
          case measure => simp [intOf]
        by_cases k1 : k = 1
        · subst k1
          have x0 : (((pre t).size : Int) == 0) = false := by rw [beq_eq_false_iff_ne]; omega
          obtain ⟨m, hm⟩ : ∃ m : Nat, (cut : Int) % ((pre t).size : Int) = (m : Int) := ⟨cut % (pre t).size, by rw [Int.natCast_emod]⟩
          have hm2 : m < (pre t).size := by have := Int.emod_lt_of_pos (cut : Int) (show (0 : Int) < ((pre t).size : Int) by omega); omega
          have hm3 : (m : Int) ≤ ((pre t).size : Int) := by omega
          have z0 : ¬ ((pre t).size : Int) = 0 := by omega
          go_wp2_with fail
          go_quiet (fail)
          go_wp2_with fail
          refine (taketext_cut t _ ht m hm2).mono ?_
          rintro e w8 ⟨⟨y, z, rfl⟩, h8⟩
          have hb8 := hbel.trans ((bdrewN (Below.refl w.heap.size wr) nq).trans (h8.mono hbel.size))
          have HB8 := Lib.hid hb8
          have HT8 := Lib.hid (HT.out.below ((bdrewN (Below.refl wr.heap.size wr) nq).trans h8))
          clear hb8 hm
          go_wp2_with fail
          go_roundw
          case rel => exact ⟨2, by omega, by go_num, HT8.out, HB8.out⟩
          case measure => simp [intOf]
        by_cases k2 : k = 2
        · subst k2
          have x0 : (((listBytes l).size : Int) == 0) = false := by rw [beq_eq_false_iff_ne]; omega
          obtain ⟨m, hm⟩ : ∃ m : Nat, (cut : Int) % ((listBytes l).size : Int) = (m : Int) := ⟨cut % (listBytes l).size, by rw [Int.natCast_emod]⟩
          have hm2 : m < (listBytes l).size := by have := Int.emod_lt_of_pos (cut : Int) (show (0 : Int) < ((listBytes l).size : Int) by omega); omega
          have hm3 : (m : Int) ≤ ((listBytes l).size : Int) := by omega
          have z0 : ¬ ((listBytes l).size : Int) = 0 := by omega
          go_wp2_with fail
          go_quiet (fail)
          go_wp2_with fail
          refine (takelist_cut l _ (by omega) HS.out hq2 m hm2).mono ?_
          rintro e w8 ⟨⟨y, z, rfl⟩, h8⟩
          have hb8 := hbel.trans ((bdrewN (Below.refl w.heap.size wr) nq).trans (h8.mono hbel.size))
          have HB8 := Lib.hid hb8
          have HT8 := Lib.hid (HT.out.below ((bdrewN (Below.refl wr.heap.size wr) nq).trans h8))
          clear hb8 hm
          go_wp2_with fail
          go_roundw
          case rel => exact ⟨3, by omega, by go_num, HT8.out, HB8.out⟩
          case measure => simp [intOf]
        obtain rfl : k = 3 := by omega
        go_wp2_with fail
        go_ret
        exact ⟨rfl, hbel⟩

theorem fieldCut_walk (w : World) (n : Int) (hn : (Lit.int .u64 n).wf = true) (t : ByteArray) (ht : t.size ≤ 140737488351232) (a : Option Addr) (len cap : Nat) (ss : List ByteArray) (h : StrRow w a len cap ss) (cut : Int) (hc : (Lit.int .u16 cut).wf = true) :
    Calls Try.prog 9 #[.int .u64 n, .string t, .slice a len cap, .int .u16 cut] w fun e w' => e = .returned (.bool true) ∧ Below w.heap.size w w' := by
  obtain ⟨n, rfl, hn'⟩ := u64_nat hn
  have hc' := bounds_u16 hc
  obtain ⟨cut, rfl⟩ : ∃ k : Nat, cut = k := ⟨cut.toNat, by omega⟩
  obtain ⟨l, hl, hm, hr⟩ := h.srow
  by_cases h1 : 300 < t.size
  · have hd : decide ((300 : Int) < (t.size : Int)) = true := decide_eq_true (by omega)
    obtain ⟨a, c, e, _, _⟩ := hr
    rw [e]
    clear e
    go_enter Try.func9, Try.ntmps9
    go_wp2_with fail
    refine (shown_ok _).mono ?_
    rintro e w3 ⟨rfl, h3⟩
    go_wp2_with fail
    go_ret
    exact ⟨rfl, h3⟩
  by_cases h2 : 20 < l.length
  · have hd : decide ((300 : Int) < (t.size : Int)) = false := decide_eq_false (by omega)
    have hd2 : decide ((20 : Int) < (l.length : Int)) = true := decide_eq_true (by omega)
    obtain ⟨a, c, e, _, _⟩ := hr
    rw [e]
    clear e
    go_enter Try.func9, Try.ntmps9
    go_wp2_with fail
    refine (shown_ok _).mono ?_
    rintro e w3 ⟨rfl, h3⟩
    go_wp2_with fail
    go_ret
    exact ⟨rfl, h3⟩
  exact fieldCut_main n t _ l cut w hr (by omega) (by omega) hn' (by omega)
end Go.Proofs.Ytkflodclakngfaa
