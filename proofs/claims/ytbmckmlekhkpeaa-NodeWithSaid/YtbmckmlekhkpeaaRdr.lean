/-
  The reader of bytes: number, below, key; what goes wrong is a panic.
-/
import Derived.Test.YtbmckmlekhkpeaaEmp
import Derived.Defers
import Derived.Recover
set_option linter.unusedVariables false
namespace Go.Proofs.Ytbmckmlekhkpeaa
open Go.RowKit

def IsR (r : Nat) (s : ByteArray) (w : World) : Prop := w.heap[r]? = some (.cells #[.string s] 58 (0, 0))
theorem IsR.c0 {r : Nat} {s : ByteArray} {w : World} (h : IsR r s w) : w.cell? ⟨r, 0, none⟩ = some (.string s) := cell_of_row w r 0 _ _ _ h
theorem IsR.f0 {r : Nat} {s : ByteArray} {w : World} (h : IsR r s w) : w.frozen? ⟨r, 0, none⟩ = false := frozen_of_row w r 0 _ _ h
theorem IsR.set {r : Nat} {s : ByteArray} {w : World} (h : IsR r s w) (t : ByteArray) : IsR r t (w.setCell ⟨r, 0, none⟩ (.string t)) := heap_setCell_same w r 0 _ 58 _ h
theorem IsR.keep {r : Nat} {s : ByteArray} {w w' : World} {S : Nat → Prop} (h : IsR r s w) (o : Only S w w') (hs : ¬ S r) : IsR r s w' := o.row h hs
/-- The panic with an error's number. -/
def pan (x : Int) : Ending := .panicked [{ v := .iface 31 (.int .i64 x), recovered := false }]

theorem tkR_size (s : ByteArray) (width : Int) : (tkR s width).size ≤ s.size := by
  unfold tkR
  split
  · rw [ByteArray.size_extract]; omega
  · exact Nat.zero_le _

set_option maxHeartbeats 1000000 in
theorem number_ok (r : Nat) (s : ByteArray) (width : Int) (w : World) (hR : IsR r s w) (hs : s.size ≤ 140737488351232) (he : tkE s width = 0) :
    Calls Try.prog 38 #[.pointer (some ⟨r, 0, none⟩), .int .i64 width] w fun e w' => e = .returned (.int .u64 (tkN s width)) ∧ IsR r (tkR s width) w' ∧ Only (fun k => k = r) w w' := by
  have c0 := hR.c0
  have hc := take_any s width w hs
  rw [tkV, he] at hc
  have HC := Lib.hid hc
  have HR := Lib.hid hR
  clear hc hR hs he
  generalize tkN s width = n at *
  generalize tkR s width = s' at *
  go_enter Try.func38, Try.ntmps38
  go_wp2_with fail
  refine HC.out.mono ?_
  rintro e w1 ⟨rfl, h1⟩
  have HR1 := Lib.hid (HR.out.keep (Only.of_below (S := fun _ => False) h1) (fun x => x))
  have d0 := HR1.out.c0
  have f0 := HR1.out.f0
  have O1 : Hid (Only (fun k => k = r) w w1) := Only.of_below h1
  clear h1 c0
  go_wp2_with fail
  go_ret
  exact ⟨rfl, HR1.out.set _, O1.out.setCell (p := ⟨r, 0, none⟩) rfl _⟩

set_option maxHeartbeats 1000000 in
theorem number_bad (r : Nat) (s : ByteArray) (width : Int) (w : World) (hR : IsR r s w) (hs : s.size ≤ 140737488351232) (he : tkE s width ≠ 0) :
    Calls Try.prog 38 #[.pointer (some ⟨r, 0, none⟩), .int .i64 width] w fun e w' => e = pan (tkE s width) ∧ Only (fun k => k = r) w w' := by
  have c0 := hR.c0
  have hc := take_any s width w hs
  rw [tkV] at hc
  have HC := Lib.hid hc
  have HR := Lib.hid hR
  have hx : (tkE s width == 0) = false := by rw [beq_eq_false_iff_ne]; exact he
  have hx2 : (tkE s width != 0) = true := by simp [he]
  clear hc hR hs he
  unfold pan
  generalize tkN s width = n at *
  generalize tkR s width = s' at *
  generalize tkE s width = x at *
  go_enter Try.func38, Try.ntmps38
  go_wp2_with fail
  refine HC.out.mono ?_
  rintro e w1 ⟨rfl, h1⟩
  have O1 : Hid (Only (fun k => k = r) w w1) := Only.of_below h1
  clear h1 c0
  go_wp2_with fail
  exact ⟨rfl, rfl, O1.out⟩

/-- A byte below a number. -/
def rdB (m : Nat) (s : ByteArray) : Except Int (Nat × ByteArray) := if tkE s 1 ≠ 0 then .error (tkE s 1) else if m ≤ tkN s 1 then .error 1 else .ok (tkN s 1, tkR s 1)
def BPost (r : Nat) (w : World) (x : Except Int (Nat × ByteArray)) (e : Ending) (w' : World) : Prop :=
  match x with
  | .ok (n, s) => e = .returned (.int .i64 n) ∧ IsR r s w' ∧ Only (fun k => k = r) w w'
  | .error c => e = pan c ∧ Only (fun k => k = r) w w'
theorem tkN_small (s : ByteArray) : tkN s 1 < 256 := by
  unfold tkN
  split
  · have := leNum_lt (s.data.toList.take (1 : Int).toNat)
    have h : (s.data.toList.take (1 : Int).toNat).length ≤ 1 := List.length_take_le _ _
    have : 2 ^ (8 * (s.data.toList.take (1 : Int).toNat).length) ≤ 2 ^ 8 := Nat.pow_le_pow_right (by omega) (by omega)
    omega
  · omega
theorem tkN_wide (s : ByteArray) : tkN s 8 ≤ 18446744073709551615 := by
  unfold tkN
  split
  · have := leNum_lt (s.data.toList.take (8 : Int).toNat)
    have h : (s.data.toList.take (8 : Int).toNat).length ≤ 8 := List.length_take_le _ _
    have : 2 ^ (8 * (s.data.toList.take (8 : Int).toNat).length) ≤ 2 ^ 64 := Nat.pow_le_pow_right (by omega) (by omega)
    have : (2 : Nat) ^ 64 = 18446744073709551616 := rfl
    omega
  · omega

set_option maxHeartbeats 1000000 in
theorem below_any (m : Nat) (r : Nat) (s : ByteArray) (w : World) (hR : IsR r s w) (hs : s.size ≤ 140737488351232) (hm : m ≤ 255) :
    Calls Try.prog 25 #[.pointer (some ⟨r, 0, none⟩), .int .i64 m] w (BPost r w (rdB m s)) := by
  by_cases he : tkE s 1 = 0
  · have hn := Lib.hid (number_ok r s 1 w hR hs he)
    have h256 := tkN_small s
    by_cases hmn : m ≤ tkN s 1
    · have e1 : rdB m s = .error 1 := by unfold rdB; rw [if_neg (by simpa using he), if_pos hmn]
      rw [e1]
      unfold BPost pan
      generalize tkN s 1 = n at *
      generalize tkR s 1 = s' at *
      have hge : (m : Int) ≤ (n : Int) := by omega
      clear hR hs he e1
      go_enter Try.func25, Try.ntmps25
      go_wp2_with fail
      refine hn.out.mono ?_
      rintro e w1 ⟨rfl, h1, o1⟩
      have O1 := Lib.hid o1
      clear h1 o1
      go_wp2_with fail
      exact ⟨rfl, rfl, O1.out⟩
    · have e1 : rdB m s = .ok (tkN s 1, tkR s 1) := by unfold rdB; rw [if_neg (by simpa using he), if_neg hmn]
      rw [e1]
      unfold BPost
      simp only
      generalize tkN s 1 = n at *
      generalize tkR s 1 = s' at *
      have hge : (n : Int) < (m : Int) := by omega
      clear hR hs he e1
      go_enter Try.func25, Try.ntmps25
      go_wp2_with fail
      refine hn.out.mono ?_
      rintro e w1 ⟨rfl, h1, o1⟩
      have O1 := Lib.hid o1
      have H1 := Lib.hid h1
      clear h1 o1
      go_wp2_with fail
      go_ret
      exact ⟨rfl, H1.out, O1.out⟩
  · have hn := Lib.hid (number_bad r s 1 w hR hs he)
    have e1 : rdB m s = .error (tkE s 1) := by unfold rdB; rw [if_pos he]
    rw [e1]
    unfold BPost
    simp only
    unfold pan at *
    generalize tkE s 1 = x at *
    clear hR hs he e1
    go_enter Try.func25, Try.ntmps25
    go_wp2_with fail
    refine hn.out.mono ?_
    rintro e w1 ⟨rfl, o1⟩
    have O1 := Lib.hid o1
    clear o1
    go_wp2_with fail
    exact ⟨rfl, rfl, O1.out⟩

/-- A key taken. -/
def rdK (s : ByteArray) : Except Int (List UInt8 × ByteArray) := if tyE s ≠ 0 then .error (tyE s) else .ok (tyK s, tyR s)
def KPost (r : Nat) (w : World) (x : Except Int (List UInt8 × ByteArray)) (e : Ending) (w' : World) : Prop :=
  match x with
  | .ok (k, s) => e = .returned (.agg (kyC k)) ∧ IsR r s w' ∧ Only (fun k => k = r) w w'
  | .error c => e = pan c ∧ Only (fun k => k = r) w w'
theorem kz_is : kyC kz = ky0 := rfl

theorem same_row (w : World) {g n : Nat} {A : Array Value} {t ty : TypeId} (hg : w.heap[g]? = some (.cells A t (0, 0))) (hi : (Try.prog.info? ty).map (·.size) = some n) (hn : A.size = n) (h1 : ∀ v ∈ A.toList, v.oneCell' = true) :
    (storeVar ty ⟨g, 0, none⟩ (.agg A)).run Try.prog w = .ok () w := by
  have := storeVar_at (P := Try.prog) w g 0 t ty A A n hg hi hn (by omega) h1
  rw [splice_all rfl, setRow_self w g A t (0, 0) hg] at this
  exact this

theorem store_row (w : World) {g n : Nat} {A B : Array Value} {t ty : TypeId} (hg : w.heap[g]? = some (.cells A t (0, 0))) (hi : (Try.prog.info? ty).map (·.size) = some n) (hn : B.size = n) (hA : A.size = n) (h1 : ∀ v ∈ B.toList, v.oneCell' = true) :
    ∃ W, (storeVar ty ⟨g, 0, none⟩ (.agg B)).run Try.prog w = .ok () W ∧ W.heap[g]? = some (.cells B t (0, 0)) ∧ Only (fun k => k = g) w W ∧ W.heap.size = w.heap.size := by
  have := storeVar_at (P := Try.prog) w g 0 t ty A B n hg hi hn (by omega) h1
  rw [splice_all (by rw [hn, hA])] at this
  exact ⟨_, this, setRow_heap _ _ _ _ _ _ hg, Only.setRow (S := fun k => k = g) (Only.refl _ w) rfl _, by simp⟩

set_option maxHeartbeats 2000000 in
theorem rkey_walk_ok (r : Nat) (s : ByteArray) (w : World) (hR : IsR r s w) (hs : s.size ≤ 140737488351232) (he : tyE s = 0) :
    Calls Try.prog 39 #[.pointer (some ⟨r, 0, none⟩)] w fun e w' => e = .returned (.agg (kyC (tyK s))) ∧ IsR r (tyR s) w' ∧ Only (fun k => k = r) w w' := by
  have hrl : r < w.heap.size := lt_of_heap hR
  have hal : Only (fun _ => False) w (w.alloc (.cells ky0 24)) := (Only.refl _ w).alloc _
  have hR0 := hR.keep hal (fun x => x)
  have c0 := hR0.c0
  have hg0 : (w.alloc (.cells ky0 24)).heap[w.heap.size]? = some (.cells ky0 24 (0, 0)) := heap_alloc_new w _
  have hc := key_any s (w.alloc (.cells ky0 24)) hs
  rw [tyV, he] at hc
  have HC := Lib.hid hc
  have HR := Lib.hid hR0
  have HG := Lib.hid hg0
  have HAL := Lib.hid hal
  have hkl := tyK_len s
  clear hc hR hs he hR0 hg0 hal
  generalize tyK s = k at *
  generalize tyR s = s' at *
  have HKL := Lib.hid hkl
  clear hkl
  unfold ky0 at c0
  go_enter Try.func39, Try.ntmps39
  go_wp2_with fail
  refine HC.out.mono ?_
  rintro e w1 ⟨rfl, h1⟩
  have HR1 := HR.out.keep (Only.of_below (S := fun _ => False) h1) (fun x => x)
  have HG1 := (Only.of_below (S := fun _ => False) h1).row HG.out (fun x => x)
  obtain ⟨W2, hst, hw2, o2, hs2⟩ := fresh_at w1 24 16 ky0 (kyC k) info24s rfl (kyC_size HKL.out) (kyC_one k)
  have HST := Lib.hid hst
  have HR2 := Lib.hid (HR1.keep o2 (fun x => x))
  have HG2 := Lib.hid (o2.row HG1 (fun x => x))
  have d0 := HR2.out.c0
  have f0 := HR2.out.f0
  have HR3 := Lib.hid (HR2.out.set s')
  have hrl2 : r ≠ w.heap.size := by omega
  have hw1 : w.heap.size < w1.heap.size := lt_of_heap HG1
  have hgo : ∀ (W : World) (g : Nat) (hgr : g ≠ r) (o : Obj), W.heap[g]? = some o → (W.setCell ⟨r, 0, none⟩ (.string s')).heap[g]? = some o := fun W g hgr o h => (heap_setCell_other W ⟨r, 0, none⟩ g _ (by simpa using hgr)).trans h
  have HK3 := Lib.hid (hgo W2 w1.heap.size (by omega) _ hw2)
  have HG3 := Lib.hid (hgo W2 w.heap.size (by omega) _ HG2.out)
  have HL := Lib.hid (load24 (kyC_size HKL.out) HK3.out)
  obtain ⟨W4, hst4, hw4, o4, hs4⟩ := store_row (W2.setCell ⟨r, 0, none⟩ (.string s')) HG3.out info24s (kyC_size HKL.out) rfl (kyC_one k)
  have HST4 := Lib.hid hst4
  have HL4 := Lib.hid (load24 (kyC_size HKL.out) hw4)
  have HRES := Lib.hid (HR3.out.keep o4 hrl2)
  have HO : Hid (Only (fun k => k = r) w W4) := by
    have a1 : Only (fun _ => False) w W2 := (HAL.out.trans (Only.of_below h1)).trans o2
    have a2 : Only (fun k => k = r) w (W2.setCell ⟨r, 0, none⟩ (.string s')) := Only.setCell (S := fun k => k = r) (a1.mono (fun _ x => x.elim)) (p := ⟨r, 0, none⟩) rfl _
    exact ⟨o4.os.trans a2.os, o4.tape.trans a2.tape, o4.output.trans a2.output, Nat.le_trans a2.size o4.size, fun i hi hr => (o4.block i (Nat.lt_of_lt_of_le hi a2.size) (by omega)).trans (a2.block i hi hr)⟩
  unfold ky0 at HST
  clear h1 HR1 HG1 hst hw2 o2 hs2 hgo hst4 hw4 o4 hs4
  go_wp2_with (first | (refine wpList_store_at rfl 24 _ _ rfl _ rfl _ rfl HST.out ?_) | (refine wpList_load_at rfl 24 _ rfl _ rfl _ HL.out ?_) | (refine wpList_store_at rfl 24 _ _ rfl _ rfl _ rfl HST4.out ?_))
  refine bodyPost_ret (v := .agg (kyC k)) ?_ rfl ⟨rfl, HRES.out, HO.out⟩
  have := HL4.out
  simp [results, Try.results39, asAddr, Act.put, this]

set_option maxHeartbeats 2000000 in
theorem rkey_walk_bad (r : Nat) (s : ByteArray) (w : World) (hR : IsR r s w) (hs : s.size ≤ 140737488351232) (he : tyE s ≠ 0) :
    Calls Try.prog 39 #[.pointer (some ⟨r, 0, none⟩)] w fun e w' => e = pan (tyE s) ∧ Only (fun k => k = r) w w' := by
  have hrl : r < w.heap.size := lt_of_heap hR
  have hal : Only (fun _ => False) w (w.alloc (.cells ky0 24)) := (Only.refl _ w).alloc _
  have c0 := (hR.keep hal (fun x => x)).c0
  have hc := key_any s (w.alloc (.cells ky0 24)) hs
  rw [tyV] at hc
  have HC := Lib.hid hc
  have HAL := Lib.hid hal
  have HKL := Lib.hid (tyK_len s)
  have hx : (tyE s == 0) = false := by rw [beq_eq_false_iff_ne]; exact he
  have hx2 : (tyE s != 0) = true := by simp [he]
  clear hc hR hs he hal
  unfold pan
  generalize tyK s = k at *
  generalize tyR s = s' at *
  generalize tyE s = x at *
  unfold ky0 at c0
  go_enter Try.func39, Try.ntmps39
  go_wp2_with fail
  refine HC.out.mono ?_
  rintro e w1 ⟨rfl, h1⟩
  obtain ⟨W2, hst, hw2, o2, hs2⟩ := fresh_at w1 24 16 ky0 (kyC k) info24s rfl (kyC_size HKL.out) (kyC_one k)
  have HST := Lib.hid hst
  have HO : Hid (Only (fun k => k = r) w W2) := ((HAL.out.trans (Only.of_below h1)).trans o2).mono (fun _ x => x.elim)
  unfold ky0 at HST
  clear h1 hst hw2 o2 hs2
  go_wp2_with (refine wpList_store_at rfl 24 _ _ rfl _ rfl _ rfl HST.out ?_)
  exact ⟨rfl, rfl, HO.out⟩

theorem rkey_rd (r : Nat) (s : ByteArray) (w : World) (hR : IsR r s w) (hs : s.size ≤ 140737488351232) :
    Calls Try.prog 39 #[.pointer (some ⟨r, 0, none⟩)] w (KPost r w (rdK s)) := by
  by_cases he : tyE s = 0
  · have e1 : rdK s = .ok (tyK s, tyR s) := by unfold rdK; rw [if_neg (by simpa using he)]
    rw [e1]
    exact rkey_walk_ok r s w hR hs he
  · have e1 : rdK s = .error (tyE s) := by unfold rdK; rw [if_pos he]
    rw [e1]
    exact rkey_walk_bad r s w hR hs he

/-- A number of eight bytes. -/
def rdN (s : ByteArray) : Except Int (Nat × ByteArray) := if tkE s 8 ≠ 0 then .error (tkE s 8) else .ok (tkN s 8, tkR s 8)
def NPost (r : Nat) (w : World) (x : Except Int (Nat × ByteArray)) (e : Ending) (w' : World) : Prop :=
  match x with
  | .ok (n, s) => e = .returned (.int .u64 n) ∧ IsR r s w' ∧ Only (fun k => k = r) w w'
  | .error c => e = pan c ∧ Only (fun k => k = r) w w'
theorem number_rd (r : Nat) (s : ByteArray) (w : World) (hR : IsR r s w) (hs : s.size ≤ 140737488351232) :
    Calls Try.prog 38 #[.pointer (some ⟨r, 0, none⟩), .int .i64 8] w (NPost r w (rdN s)) := by
  by_cases he : tkE s 8 = 0
  · have e1 : rdN s = .ok (tkN s 8, tkR s 8) := by unfold rdN; rw [if_neg (by simpa using he)]
    rw [e1]
    exact number_ok r s 8 w hR hs he
  · have e1 : rdN s = .error (tkE s 8) := by unfold rdN; rw [if_pos he]
    rw [e1]
    exact number_bad r s 8 w hR hs he
end Go.Proofs.Ytbmckmlekhkpeaa
