/-
  The reader's child.
-/
import Derived.Test.YtbmckmlekhkpeaaRdr
set_option linter.unusedVariables false
namespace Go.Proofs.Ytbmckmlekhkpeaa
open Go.RowKit

theorem Only.over {r g : Nat} {w a b : World} (h : Only (fun k => k = r) w a) (k : Only (fun k => k = g) a b) (hg : w.heap.size ≤ g) : Only (fun k => k = r) w b :=
  ⟨k.os.trans h.os, k.tape.trans h.tape, k.output.trans h.output, Nat.le_trans h.size k.size, fun i hi hr => (k.block i (Nat.lt_of_lt_of_le hi h.size) (by omega)).trans (h.block i hi hr)⟩
theorem set_row {w : World} {g j : Nat} {A : Array Value} {t : TypeId} (hg : w.heap[g]? = some (.cells A t (0, 0))) (v : Value) : (w.setCell ⟨g, j, none⟩ v).heap[g]? = some (.cells (A.setIfInBounds j v) t (0, 0)) := heap_setCell_same w g j A t v hg
theorem set_only {w : World} {g j : Nat} (v : Value) : Only (fun k => k = g) w (w.setCell ⟨g, j, none⟩ v) := Only.setCell (S := fun k => k = g) (Only.refl _ w) (p := ⟨g, j, none⟩) rfl _
theorem put_at (w : World) {g o n : Nat} {A B : Array Value} {t ty : TypeId} (hg : w.heap[g]? = some (.cells A t (0, 0))) (hi : (Try.prog.info? ty).map (·.size) = some n) (hn : B.size = n) (hfit : o + n ≤ A.size) (h1 : ∀ v ∈ B.toList, v.oneCell' = true) :
    ∃ W, (storeVar ty ⟨g, o, none⟩ (.agg B)).run Try.prog w = .ok () W ∧ W.heap[g]? = some (.cells (splice A o B) t (0, 0)) ∧ Only (fun k => k = g) w W ∧ W.heap.size = w.heap.size :=
  ⟨_, storeVar_at (P := Try.prog) w g o t ty A B n hg hi hn hfit h1, setRow_heap _ _ _ _ _ _ hg, Only.setRow (S := fun k => k = g) (Only.refl _ w) rfl _, by simp⟩

theorem ch_set0 (c : Ch) (b : Bool) : (chA c).setIfInBounds 0 (.bool b) = chA { c with has := b } := rfl
theorem ch_set1 (c : Ch) (x : Int) : (chA c).setIfInBounds 1 (.int .i64 x) = chA { c with seg := x } := rfl
theorem ch_set2 (c : Ch) (x : Int) : (chA c).setIfInBounds 2 (.int .i64 x) = chA { c with page := x } := rfl
theorem ch_set19 {c : Ch} (h : c.key.length = 16) (x : Int) : (chA c).setIfInBounds 19 (.int .u64 x) = chA { c with ex := x } := by
  have : ∀ y, chL { c with ex := y } = ([.bool c.has, .int .i64 c.seg, .int .i64 c.page] ++ kyL c.key) ++ [.int .u64 y] ++ [.int .u64 c.ver] := fun y => by simp [chL]
  show ((chL { c with ex := c.ex }).toArray).setIfInBounds 19 _ = (chL { c with ex := x }).toArray
  rw [this, this]
  exact set_mid _ _ _ _ (by simp [kyL_len h])
theorem ch_set20 {c : Ch} (h : c.key.length = 16) (x : Int) : (chA c).setIfInBounds 20 (.int .u64 x) = chA { c with ver := x } := by
  have : ∀ y, chL { c with ver := y } = ([.bool c.has, .int .i64 c.seg, .int .i64 c.page] ++ kyL c.key ++ [.int .u64 c.ex]) ++ [.int .u64 y] ++ [] := fun y => by simp [chL]
  show ((chL { c with ver := c.ver }).toArray).setIfInBounds 20 _ = (chL { c with ver := x }).toArray
  rw [this, this]
  exact set_mid _ _ _ _ (by simp [kyL_len h])
theorem ch_put {c : Ch} (h : c.key.length = 16) {k : List UInt8} (hk : k.length = 16) : splice (chA c) 3 (kyC k) = chA { c with key := k } :=
  splice_mid [.bool c.has, .int .i64 c.seg, .int .i64 c.page] (kyL c.key) [.int .u64 c.ex, .int .u64 c.ver] (kyL k) rfl (by rw [kyL_len h, kyL_len hk])

theorem rdB_ok {m : Nat} {s s' : ByteArray} {n : Nat} (h : rdB m s = .ok (n, s')) : n < m ∧ s'.size ≤ s.size := by
  unfold rdB at h
  split at h
  · cases h
  · split at h
    · cases h
    · injection h with h
      injection h with h1 h2
      subst h1 h2
      exact ⟨by omega, tkR_size s 1⟩
theorem rdK_ok {s s' : ByteArray} {k : List UInt8} (h : rdK s = .ok (k, s')) : k.length = 16 ∧ s'.size ≤ s.size := by
  unfold rdK at h
  split at h
  · cases h
  · injection h with h
    injection h with h1 h2
    subst h1 h2
    refine ⟨tyK_len s, ?_⟩
    unfold tyR
    split
    · rw [ByteArray.size_extract]; omega
    · exact Nat.zero_le _
theorem rdN_ok {s s' : ByteArray} {n : Nat} (h : rdN s = .ok (n, s')) : n ≤ 18446744073709551615 ∧ s'.size ≤ s.size := by
  unfold rdN at h
  split at h
  · cases h
  · injection h with h
    injection h with h1 h2
    subst h1 h2
    exact ⟨tkN_wide s, tkR_size s 8⟩

/-- A child read. -/
def rdC (leaf : Bool) (s : ByteArray) : Except Int (Ch × ByteArray) :=
  match rdB 2 s with
  | .error x => .error x
  | .ok (h, s1) => if h = 0 then .ok (chZ, s1) else
    match rdB 64 s1 with
    | .error x => .error x
    | .ok (sg, s2) =>
      match rdB 16 s2 with
      | .error x => .error x
      | .ok (pg, s3) =>
        match rdK s3 with
        | .error x => .error x
        | .ok (k, s4) => if leaf = false then .ok (⟨true, sg, pg, k, 0, 0⟩, s4) else
          match rdN s4 with
          | .error x => .error x
          | .ok (ex, s5) =>
            match rdN s5 with
            | .error x => .error x
            | .ok (ver, s6) => .ok (⟨true, sg, pg, k, ex, ver⟩, s6)
def CPost (r : Nat) (w : World) (x : Except Int (Ch × ByteArray)) (e : Ending) (w' : World) : Prop :=
  match x with
  | .ok (c, s) => e = .returned (.agg (chA c)) ∧ IsR r s w' ∧ Only (fun k => k = r) w w'
  | .error c => e = pan c ∧ Only (fun k => k = r) w w'
theorem chA_size' {c : Ch} (h : c.key.length = 16) : (chA c).size = 21 := by simp [chA, chL, kyL_len h]

set_option maxHeartbeats 8000000 in
theorem child_any (leaf : Bool) (r : Nat) (s : ByteArray) (w : World) (hR : IsR r s w) (hs : s.size ≤ 140737488351232) :
    Calls Try.prog 26 #[.pointer (some ⟨r, 0, none⟩), .bool leaf] w (CPost r w (rdC leaf s)) := by
  have hrl : r < w.heap.size := lt_of_heap hR
  have hal : Only (fun _ => False) w (w.alloc (.cells (chA chZ) 27)) := (Only.refl _ w).alloc _
  have hR0 := hR.keep hal (fun x => x)
  have hg0 : (w.alloc (.cells (chA chZ) 27)).heap[w.heap.size]? = some (.cells (chA chZ) 27 (0, 0)) := heap_alloc_new w _
  have hc := below_any 2 r s (w.alloc (.cells (chA chZ) 27)) hR0 hs (by omega)
  have OW : Hid (Only (fun k => k = r) w (w.alloc (.cells (chA chZ) 27))) := hal.mono (fun _ x => x.elim)
  have HG0 := Lib.hid hg0
  have HNE : Hid (w.heap.size ≠ r) := by unfold Hid; omega
  have HNE' : Hid (r ≠ w.heap.size) := by unfold Hid; omega
  have HPOST : Hid (∀ x, rdC leaf s = x → ∀ e W, CPost r w x e W → CPost r w (rdC leaf s) e W) := fun x hx e W h => by rw [hx]; exact h
  have HRD : Hid (rdC leaf s = rdC leaf s) := rfl
  conv at HRD => arg 1; rhs; unfold rdC
  clear hR0 hg0 hal
  rw [chZ_is] at hc
  generalize rdC leaf s = RES at *
  cases hb1 : rdB 2 s with
  | error x =>
    rw [hb1] at hc HRD
    have HC := Lib.hid hc
    clear hc hb1
    go_enter Try.func26, Try.ntmps26
    go_wp2_with fail
    refine HC.out.mono ?_
    rintro e w1 ⟨rfl, o1⟩
    have O1 := Lib.hid (OW.out.trans o1)
    clear o1
    unfold pan
    go_wp2_with fail
    exact ⟨rfl, HPOST.out _ HRD.out _ _ ⟨rfl, O1.out⟩⟩
  | ok p =>
    obtain ⟨h, s1⟩ := p
    obtain ⟨hh2, hs1⟩ := rdB_ok hb1
    rw [hb1] at hc
    simp only [hb1] at HRD
    obtain rfl | rfl : h = 0 ∨ h = 1 := by omega
    · -- no child
      rw [if_pos rfl] at HRD
      have HC := Lib.hid hc
      clear hc hb1
      go_enter Try.func26, Try.ntmps26
      go_wp2_with fail
      refine HC.out.mono ?_
      rintro e w1 ⟨rfl, r1, o1⟩
      have g1 := o1.row HG0.out HNE.out
      have f1 := frozen_of_row w1 w.heap.size 0 _ _ g1
      have c1 := (cell_of_row w1 w.heap.size 0 _ _ _ g1).trans (ch_has _)
      have g2 := set_row (j := 0) g1 (.bool false)
      rw [ch_set0] at g2
      have HL := Lib.hid (load27 (chA_size' (c := chZ) rfl) g2)
      have HST := Lib.hid (same_row _ (ty := 27) g2 info27s (chA_size' (c := chZ) rfl) (chA_one chZ))
      have R2 := Lib.hid ((r1.keep (set_only (w := w1) (g := w.heap.size) (j := 0) (.bool false)) HNE'.out))
      have O2 := Lib.hid ((OW.out.trans o1).over (set_only (w := w1) (g := w.heap.size) (j := 0) (.bool false)) (Nat.le_refl _))
      change Hid ((loadVar 27 _).run Try.prog _ = .ok (.agg (chA chZ)) _) at HL
      change Hid ((storeVar 27 _ (.agg (chA chZ))).run Try.prog _ = .ok () _) at HST
      have HK := Lib.hid g1
      clear r1 o1 g1 g2
      go_wp2_with (first | (refine wpList_load_at rfl 27 _ rfl _ rfl _ HL.out ?_) | (refine wpList_store_at rfl 27 _ _ rfl _ rfl _ rfl HST.out ?_))
      refine bodyPost_ret (v := .agg (chA chZ)) ?_ rfl (HPOST.out _ HRD.out _ _ ⟨rfl, R2.out, O2.out⟩)
      have := HL.out
      simp [results, Try.results26, asAddr, Act.put, this]
    · simp only [Nat.one_ne_zero, if_false] at HRD
      have HC := Lib.hid hc
      have HS := Lib.hid hs
      have HS1 := Lib.hid hs1
      clear hc hb1 hh2 hs hs1
      go_enter Try.func26, Try.ntmps26
      go_wp2_with fail
      refine HC.out.mono ?_
      rintro e w1 ⟨rfl, r1, o1⟩
      have g1 := o1.row HG0.out HNE.out
      have f1 := frozen_of_row w1 w.heap.size 0 _ _ g1
      have c1 := (cell_of_row w1 w.heap.size 0 _ _ _ g1).trans (ch_has _)
      have g2 := set_row (j := 0) g1 (.bool true)
      rw [ch_set0] at g2
      have G2 := Lib.hid g2
      have R2 := Lib.hid ((r1.keep (set_only (w := w1) (g := w.heap.size) (j := 0) (.bool true)) HNE'.out))
      have O2 := Lib.hid ((OW.out.trans o1).over (set_only (w := w1) (g := w.heap.size) (j := 0) (.bool true)) (Nat.le_refl _))
      have hc2 := below_any 64 r s1 _ R2.out (by have := HS.out; have := HS1.out; omega) (by omega)
      have HK := Lib.hid g1
      clear r1 o1 g1 g2
      cases hb2 : rdB 64 s1 with
      | error x =>
        rw [hb2] at hc2
        simp only [hb2] at HRD
        have HC2 := Lib.hid hc2
        clear hc2 hb2
        go_wp2_with fail
        refine HC2.out.mono ?_
        rintro e w2 ⟨rfl, o2⟩
        have O3 := Lib.hid (O2.out.trans o2)
        clear o2
        unfold pan
        go_wp2_with fail
        exact ⟨rfl, HPOST.out _ HRD.out _ _ ⟨rfl, O3.out⟩⟩
      | ok p =>
        obtain ⟨sg, s2⟩ := p
        have hs2 := rdB_ok hb2
        rw [hb2] at hc2
        simp only [hb2] at HRD
        have HC2 := Lib.hid hc2
        have HS2 := Lib.hid hs2
        clear hc2 hb2 hs2
        go_wp2_with fail
        refine HC2.out.mono ?_
        rintro e w2 ⟨rfl, r3, o3⟩
        have R3 := Lib.hid r3
        have G3 := Lib.hid (o3.row G2.out HNE.out)
        have O3 := Lib.hid (O2.out.trans o3)
        have hc3 := below_any 16 r s2 _ R3.out (by have := HS.out; have := HS1.out; have := HS2.out.2; omega) (by omega)
        clear r3 o3
        cases hb3 : rdB 16 s2 with
        | error x =>
          rw [hb3] at hc3
          simp only [hb3] at HRD
          have HC3 := Lib.hid hc3
          clear hc3 hb3
          go_wp2_with fail
          refine HC3.out.mono ?_
          rintro e w3 ⟨rfl, o4⟩
          have O4 := Lib.hid (O3.out.trans o4)
          clear o4
          unfold pan
          go_wp2_with fail
          exact ⟨rfl, HPOST.out _ HRD.out _ _ ⟨rfl, O4.out⟩⟩
        | ok p =>
          obtain ⟨pg, s3⟩ := p
          have hs3 := rdB_ok hb3
          rw [hb3] at hc3
          simp only [hb3] at HRD
          have HC3 := Lib.hid hc3
          have HS3 := Lib.hid hs3
          clear hc3 hb3 hs3
          go_wp2_with fail
          refine HC3.out.mono ?_
          rintro e w3 ⟨rfl, r4, o4⟩
          have R4 := Lib.hid r4
          have G4 := Lib.hid (o4.row G3.out HNE.out)
          have O4 := Lib.hid (O3.out.trans o4)
          have hc4 := rkey_rd r s3 _ R4.out (by have := HS.out; have := HS1.out; have := HS2.out.2; have := HS3.out.2; omega)
          clear r4 o4
          cases hb4 : rdK s3 with
          | error x =>
            rw [hb4] at hc4
            simp only [hb4] at HRD
            have HC4 := Lib.hid hc4
            clear hc4 hb4
            go_wp2_with fail
            refine HC4.out.mono ?_
            rintro e w4 ⟨rfl, o5⟩
            have O5 := Lib.hid (O4.out.trans o5)
            clear o5
            unfold pan
            go_wp2_with fail
            exact ⟨rfl, HPOST.out _ HRD.out _ _ ⟨rfl, O5.out⟩⟩
          | ok p =>
            obtain ⟨k, s4⟩ := p
            have hs4 := rdK_ok hb4
            rw [hb4] at hc4
            simp only [hb4] at HRD
            have HC4 := Lib.hid hc4
            have HS4 := Lib.hid hs4
            clear hc4 hb4 hs4
            go_wp2_with fail
            refine HC4.out.mono ?_
            rintro e w4 ⟨rfl, r5, o5⟩
            have g5 := o5.row G4.out HNE.out
            have O5 := Lib.hid (O4.out.trans o5)
            have f1 := frozen_of_row w4 w.heap.size 1 _ _ g5
            have f2 := frozen_of_row w4 w.heap.size 2 _ _ g5
            have c1 := (cell_of_row w4 w.heap.size 1 _ _ _ g5).trans (ch_seg _)
            have c2 := (cell_of_row w4 w.heap.size 2 _ _ _ g5).trans (ch_page _)
            have g6 := set_row (j := 1) g5 (.int .i64 (sg : Int))
            rw [ch_set1] at g6
            have f3 := frozen_of_row _ w.heap.size 2 _ _ g6
            have c3 := (cell_of_row _ w.heap.size 2 _ _ _ g6).trans (ch_page _)
            have g7 := set_row (j := 2) g6 (.int .i64 (pg : Int))
            rw [ch_set2] at g7
            have o7 := (set_only (w := w4) (g := w.heap.size) (j := 1) (.int .i64 (sg : Int))).trans (set_only (w := w4.setCell ⟨w.heap.size, 1, none⟩ (.int .i64 (sg : Int))) (g := w.heap.size) (j := 2) (.int .i64 (pg : Int)))
            obtain ⟨W8, hst, g8, o8, _⟩ := put_at _ (o := 3) (B := kyC k) g7 info24s (kyC_size HS4.out.1) (by rw [chA_size' (by rfl)]; omega) (kyC_one k)
            rw [ch_put rfl HS4.out.1] at g8
            have HST := Lib.hid hst
            have G8 : Hid (W8.heap[w.heap.size]? = some (.cells (chA ⟨true, sg, pg, k, 0, 0⟩) 27 (0, 0))) := g8
            have R8 := Lib.hid (r5.keep (o7.trans o8) HNE'.out)
            have O8 := Lib.hid (O5.out.over (o7.trans o8) (Nat.le_refl _))
            have HK := Lib.hid g5
            clear r5 o5 g5 g6 g7 o7 hst g8 o8
            cases leaf
            · rw [if_pos rfl] at HRD
              have HL := Lib.hid (load27 (chA_size' (c := ⟨true, sg, pg, k, 0, 0⟩) HS4.out.1) G8.out)
              have HS9 := Lib.hid (same_row _ (ty := 27) G8.out info27s (chA_size' (c := ⟨true, sg, pg, k, 0, 0⟩) HS4.out.1) (chA_one _))
              go_wp2_with (first | (refine wpList_store_at rfl 24 _ _ rfl _ rfl _ rfl HST.out ?_) | (refine wpList_load_at rfl 27 _ rfl _ rfl _ HL.out ?_) | (refine wpList_store_at rfl 27 _ _ rfl _ rfl _ rfl HS9.out ?_))
              refine bodyPost_ret (v := .agg (chA ⟨true, sg, pg, k, 0, 0⟩)) ?_ rfl (HPOST.out _ HRD.out _ _ ⟨rfl, R8.out, O8.out⟩)
              have := HL.out
              simp [results, Try.results26, asAddr, Act.put, this]
            · simp only [Bool.true_eq_false, if_false] at HRD
              have hc5 := number_rd r s4 _ R8.out (by have := HS.out; have := HS1.out; have := HS2.out.2; have := HS3.out.2; have := HS4.out.2; omega)
              cases hb5 : rdN s4 with
              | error x =>
                rw [hb5] at hc5
                simp only [hb5] at HRD
                have HC5 := Lib.hid hc5
                clear hc5 hb5
                go_wp2_with (refine wpList_store_at rfl 24 _ _ rfl _ rfl _ rfl HST.out ?_)
                refine HC5.out.mono ?_
                rintro e w5 ⟨rfl, o9⟩
                have O9 := Lib.hid (O8.out.trans o9)
                clear o9
                unfold pan
                go_wp2_with fail
                exact ⟨rfl, HPOST.out _ HRD.out _ _ ⟨rfl, O9.out⟩⟩
              | ok p =>
                obtain ⟨ex, s5⟩ := p
                have hs5 := rdN_ok hb5
                rw [hb5] at hc5
                simp only [hb5] at HRD
                have HC5 := Lib.hid hc5
                have HS5 := Lib.hid hs5
                clear hc5 hb5 hs5
                go_wp2_with (refine wpList_store_at rfl 24 _ _ rfl _ rfl _ rfl HST.out ?_)
                refine HC5.out.mono ?_
                rintro e w5 ⟨rfl, r9, o9⟩
                have R9 := Lib.hid r9
                have G9 := Lib.hid (o9.row G8.out HNE.out)
                have O9 := Lib.hid (O8.out.trans o9)
                have hc6 := number_rd r s5 _ R9.out (by have := HS.out; have := HS1.out; have := HS2.out.2; have := HS3.out.2; have := HS4.out.2; have := HS5.out.2; omega)
                clear r9 o9
                cases hb6 : rdN s5 with
                | error x =>
                  rw [hb6] at hc6
                  simp only [hb6] at HRD
                  have HC6 := Lib.hid hc6
                  clear hc6 hb6
                  go_wp2_with fail
                  refine HC6.out.mono ?_
                  rintro e w6 ⟨rfl, oa⟩
                  have OA := Lib.hid (O9.out.trans oa)
                  clear oa
                  unfold pan
                  go_wp2_with fail
                  exact ⟨rfl, HPOST.out _ HRD.out _ _ ⟨rfl, OA.out⟩⟩
                | ok p =>
                  obtain ⟨ver, s6⟩ := p
                  have hs6 := rdN_ok hb6
                  rw [hb6] at hc6
                  simp only [hb6] at HRD
                  have HC6 := Lib.hid hc6
                  have HS6 := Lib.hid hs6
                  clear hc6 hb6 hs6
                  go_wp2_with fail
                  refine HC6.out.mono ?_
                  rintro e w6 ⟨rfl, ra, oa⟩
                  have ga := oa.row G9.out HNE.out
                  have OA := Lib.hid (O9.out.trans oa)
                  have fa := frozen_of_row w6 w.heap.size 19 _ _ ga
                  have ca := (cell_of_row w6 w.heap.size 19 _ _ _ ga).trans (by simp [chA, chL, kyL_len HS4.out.1] : (chA ⟨true, (sg : Int), (pg : Int), k, 0, 0⟩)[19]? = some (.int .u64 0))
                  have gb := set_row (j := 19) ga (.int .u64 (ex : Int))
                  rw [ch_set19 HS4.out.1] at gb
                  have fb := frozen_of_row _ w.heap.size 20 _ _ gb
                  have cb := (cell_of_row _ w.heap.size 20 _ _ _ gb).trans (by simp [chA, chL, kyL_len HS4.out.1] : (chA ⟨true, (sg : Int), (pg : Int), k, (ex : Int), 0⟩)[20]? = some (.int .u64 0))
                  have gc := set_row (j := 20) gb (.int .u64 (ver : Int))
                  rw [ch_set20 (by exact HS4.out.1)] at gc
                  have oc := (set_only (w := w6) (g := w.heap.size) (j := 19) (.int .u64 (ex : Int))).trans (set_only (w := w6.setCell ⟨w.heap.size, 19, none⟩ (.int .u64 (ex : Int))) (g := w.heap.size) (j := 20) (.int .u64 (ver : Int)))
                  have RC := Lib.hid (ra.keep oc HNE'.out)
                  have OC := Lib.hid (OA.out.over oc (Nat.le_refl _))
                  have HL := Lib.hid (load27 (chA_size' (c := ⟨true, sg, pg, k, ex, ver⟩) HS4.out.1) gc)
                  have HSC := Lib.hid (same_row _ (ty := 27) gc info27s (chA_size' (c := ⟨true, sg, pg, k, ex, ver⟩) HS4.out.1) (chA_one _))
                  have HK2 := Lib.hid ga
                  change Hid ((loadVar 27 _).run Try.prog _ = .ok (.agg (chA ⟨true, (sg : Int), (pg : Int), k, (ex : Int), (ver : Int)⟩)) _) at HL
                  change Hid ((storeVar 27 _ (.agg (chA ⟨true, (sg : Int), (pg : Int), k, (ex : Int), (ver : Int)⟩))).run Try.prog _ = .ok () _) at HSC
                  clear ra oa ga gb gc oc
                  go_wp2_with (first | (refine wpList_load_at rfl 27 _ rfl _ rfl _ HL.out ?_) | (refine wpList_store_at rfl 27 _ _ rfl _ rfl _ rfl HSC.out ?_))
                  refine bodyPost_ret (v := .agg (chA ⟨true, sg, pg, k, ex, ver⟩)) ?_ rfl (HPOST.out _ HRD.out _ _ ⟨rfl, RC.out, OC.out⟩)
                  have := HL.out
                  simp [results, Try.results26, asAddr, Act.put, this]
end Go.Proofs.Ytbmckmlekhkpeaa
