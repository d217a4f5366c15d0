/-
  The laws' beginning, and 'shown'.
-/
import Derived.Test.YtfolmdcceefflaaNew
set_option linter.unusedVariables false
namespace Go.Proofs.Ytfolmdcceefflaa
open Go.RowKit

theorem Only.fresh {S : Nat → Prop} {a b : World} (h : Only S a b) (hs : ∀ k, S k → a.heap.size ≤ k) : Only (fun _ => False) a b := ⟨h.os, h.tape, h.output, h.size, fun k hk _ => h.block k hk fun x => by have := hs k x; omega⟩
theorem Only.any {S : Nat → Prop} {a b : World} (h : Only (fun _ => False) a b) : Only S a b := h.mono fun _ x => x.elim

def p0 : Pw := ⟨false, 0, 0, 0⟩
def st0 : St := ⟨p0, Ce.zero, Ce.zero⟩
theorem p0_ok : p0.Ok := ⟨by decide, by decide⟩
theorem st0_ok : st0.Ok := ⟨p0_ok, ce_zero_ok, ce_zero_ok⟩

/-- A new power, a new slot. -/
def W0 (w : World) : World := (w.alloc (.cells #[.bool false, .int .i64 0, .int .i64 0, .int .u8 0] 74)).alloc (.cells (slA w.heap.size Ce.zero Ce.zero) 67)
theorem w0_is (w : World) : Is (w.heap.size + 1) w.heap.size st0 (W0 w) := ⟨heap_alloc2_new w _ _, heap_alloc2_old w _ _⟩
theorem w0_only (w : World) : Only (fun _ => False) w (W0 w) := ((Only.refl _ w).alloc _).alloc _
theorem new_there (w : World) : Calls Try.prog 8 #[.pointer (some ⟨w.heap.size, 0, none⟩)] (w.alloc (.cells #[.bool false, .int .i64 0, .int .i64 0, .int .u8 0] 74)) fun e w' => e = .returned (.pointer (some ⟨w.heap.size + 1, 0, none⟩)) ∧ W0 w = w' := by
  have := new_any w.heap.size (w.alloc (.cells #[.bool false, .int .i64 0, .int .i64 0, .int .u8 0] 74))
  rw [show (w.alloc (.cells #[.bool false, .int .i64 0, .int .i64 0, .int .u8 0] 74)).heap.size = w.heap.size + 1 by simp] at this
  exact this

/-- A key's own block. -/
theorem key_cell {k : List UInt8} (w : World) (hk : k.length = 16) :
    ∃ w1, (storeVar 23 ⟨w.heap.size, 0, none⟩ (.agg (kyA k))).run Try.prog (w.alloc (.cells (kyA ky0) 23)) = .ok () w1 ∧ w1.heap[w.heap.size]? = some (.cells (kyA k) 23 (0, 0)) ∧ Only (fun _ => False) w w1 := by
  have hg := heap_alloc_new w (.cells (kyA ky0) 23)
  have := storeVar_at (P := Try.prog) (w.alloc (.cells (kyA ky0) 23)) w.heap.size 0 23 23 (kyA ky0) (kyA k) 16 hg info23s (kyA_size hk) (by decide) (kyL_one k)
  rw [splice_all (by rw [kyA_size hk]; rfl)] at this
  refine ⟨_, this, setRow_heap _ _ _ _ _ _ hg, rfl, rfl, rfl, by simp, fun j hj _ => ?_⟩
  rw [setRow_other _ _ _ _ (by omega), (World.grownBy_alloc w _ none).block j hj (by simp)]

def k4 : List UInt8 := [4,0,0,0,0,0,0,0,0,0,0,0,0,0,0,0]
theorem k4_is : kyA k4 = #[.int .u8 4, .int .u8 0, .int .u8 0, .int .u8 0, .int .u8 0, .int .u8 0, .int .u8 0, .int .u8 0, .int .u8 0, .int .u8 0, .int .u8 0, .int .u8 0, .int .u8 0, .int .u8 0, .int .u8 0, .int .u8 0] := rfl
def st4 : St := ⟨p0, Ce.zero, ⟨true, k4, 3⟩⟩
theorem st4_ok : st4.Ok := ⟨p0_ok, ce_zero_ok, made_ok k4 rfl 3⟩

set_option maxHeartbeats 2000000 in
theorem shown_any (w : World) : Calls Try.prog 10 #[] w fun e w' => e = .returned (.bool true) ∧ Only (fun _ => False) w w' := by
  have hn := Lib.hid (new_there w)
  have hi0 := Lib.hid (w0_is w)
  have ho0 := Lib.hid (w0_only w)
  have hne : w.heap.size + 1 ≠ w.heap.size := by omega
  have hwr := Lib.hid (write_any (w.heap.size + 1) w.heap.size st0 1 3 k4 (W0 w) hi0.out st0_ok hne rfl)
  rw [show st0.writeE 1 = 0 from rfl, show st0.write 1 k4 3 = st4 from rfl, k4_is] at hwr
  have hrd := Lib.hid (fun W hW => read_any (w.heap.size + 1) w.heap.size st4 1 W hW st4_ok)
  rw [show st4.readK 1 = k4 from rfl, show st4.readN 1 = 3 from rfl, show st4.readE 1 = 0 from rfl] at hrd
  have hnw := Lib.hid (fun W hW => newest_any (w.heap.size + 1) w.heap.size st4 W hW st4_ok)
  rw [show st4.newI = 1 from rfl, show st4.newE = 0 from rfl] at hnw
  have her := Lib.hid (fun W hW => erase_any (w.heap.size + 1) w.heap.size st4 1 W hW st4_ok hne)
  rw [show st4.eraseE 1 = 0 from rfl] at her
  have hT : Hid (∀ k, Two (w.heap.size + 1) w.heap.size k → w.heap.size ≤ k) := fun k hk => by unfold Two at hk; omega
  have hkc := Lib.hid (fun W => key_cell W (k := k4) rfl)
  have hkl := Lib.hid (fun (g : Nat) (W : World) (h : W.heap[g]? = some (Obj.cells (kyA k4) 23 (0, 0))) => load_ky (k := k4) h rfl)
  have hke := Lib.hid (fun W => key_eq 9998 k4 k4 rfl rfl W)
  rw [beq_self_eq_true] at hke
  rw [kyA_zero] at hkc
  generalize W0 w = w0 at *
  clear hne
  go_enter Try.func10, Try.ntmps10
  go_wp2_with fail
  refine (newPower_any w).mono ?_
  rintro e w1 ⟨rfl, rfl⟩
  go_wp2_with fail
  refine hn.out.mono ?_
  rintro e w1 ⟨rfl, rfl⟩
  go_wp2_with fail
  refine hwr.out.mono ?_
  rintro e w1 ⟨rfl, h1, o1⟩
  have H1 := Lib.hid h1
  have O1 := Lib.hid (ho0.out.any.trans o1)
  clear h1 o1
  go_wp2_with fail
  refine (hrd.out w1 H1.out).mono ?_
  rintro e w2 ⟨rfl, o2⟩
  obtain ⟨w3, hst, hg3, o3⟩ := hkc.out w2
  have HST := Lib.hid hst
  have O3 := Lib.hid (O1.out.trans (o2.trans o3).any)
  have H3 := Lib.hid (H1.out.keep (o2.trans o3) (fun h => h) (fun h => h))
  have HG3 := Lib.hid hg3
  clear hst hg3 o2 o3
  go_wp2_with (refine wpList_store_at rfl 23 _ _ rfl _ rfl _ rfl HST.out ?_)
  refine (hnw.out w3 H3.out).mono ?_
  rintro e w4 ⟨rfl, o4⟩
  have hg4 : w4.heap[w2.heap.size]? = some (.cells (kyA k4) 23 (0, 0)) := (o4.block _ (Array.getElem?_eq_some_iff.1 HG3.out).1 (fun h => h)).trans HG3.out
  have HL := Lib.hid (hkl.out w2.heap.size w4 hg4)
  have HE := Lib.hid (hke.out w4)
  have O4 := Lib.hid (O3.out.trans o4.any)
  have H4 := Lib.hid (H3.out.keep o4 (fun h => h) (fun h => h))
  rw [k4_is] at HL HE
  clear hg4 o4
  go_wp2_with (first | (refine wpList_load_at rfl 23 _ rfl _ rfl _ HL.out ?_) | (refine wpList_eql_at rfl 23 _ _ _ _ _ _ rfl rfl rfl (by kernel_rfl) HE.out ?_))
  refine (her.out w4 H4.out).mono ?_
  rintro e w5 ⟨rfl, h5, o5⟩
  go_wp2_with fail
  go_ret
  exact ⟨rfl, (O4.out.trans o5).fresh hT.out⟩
end Go.Proofs.Ytfolmdcceefflaa
