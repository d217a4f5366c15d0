/-
  The slot: Holds.
-/
import Derived.Test.YtfolmdcceefflaaRea
import Derived.Great.BuildSlice
import Derived.Lib.FrozenHead2
import Derived.Lib.OthersKept
import Derived.Lib.AppendStr
import Derived.Deep.Draws
import Derived.Deep.AppendLies
import Derived.Maps.AppendAt
import Derived.OwnWalk
import Derived.Laws.BytesArg
import Derived.Laws.MakeOwn
import Derived.Laws.OwnMore
import Derived.Deep.OwnRows
import Derived.RowKit3
import Derived.Deep.LoopGhost
import Derived.Deep.RegionHeld3
import Derived.Laws.Rows
import Derived.ArgAppend
import Derived.OrdersHeld
import Derived.Lib.ItoaNum
import Derived.WideLaws
set_option linter.unusedVariables false
namespace Go.Proofs.Ytfolmdcceefflaa
open Go.RowKit

def St.nth (s : St) (k : Nat) : Ce := if k = 0 then s.c else s.d
theorem St.nth_ok {s : St} (h : s.Ok) (k : Nat) : (s.nth k).Ok := by unfold St.nth; split; exact h.c; exact h.d
/-- The keys of the first cells. -/
def St.keys (s : St) : Nat → List (List UInt8)
  | 0 => []
  | k + 1 => s.keys k ++ (if (s.nth k).is = true then [(s.nth k).key] else [])
def St.holds (s : St) : List (List UInt8) := s.keys 2
def flatK (ks : List (List UInt8)) : List Value := (ks.map kyL).flatten

def clA (s : St) : Array Value := (ceL s.c ++ ceL s.d).toArray
theorem load_cl {gs gp : Nat} {s : St} {w : World} (h : Is gs gp s w) (hok : s.Ok) : (loadVar 65 ⟨gs, 1, none⟩).run Try.prog w = .ok (.agg (clA s)) w := by
  have := loadVar_at (P := Try.prog) w gs 1 67 65 (slA gp s.c s.d) (0, 0) _ 36 h.sl Try.underlying65 rfl info65s (by rw [slA_size hok.c hok.d]; omega)
  rw [this, slA, ext_toArray, clA]
  have e1 := ceL_len hok.c
  have e2 := ceL_len hok.d
  rw [List.drop_succ_cons, List.drop_zero, List.take_of_length_le (by simp [e1, e2])]
theorem index_cl {s : St} (hok : s.Ok) (k : Nat) (hk : k < 2) (w : World) : (Instr.index 65 (.agg (clA s)) (.int .i64 k)).run Try.prog w = .ok (.agg (ceA (s.nth k))) w := by
  have e1 := ceL_len hok.c
  have e2 := ceL_len hok.d
  have hp := part_agg 64 _ (clA s) (k * 18) 18 Try.underlying64 rfl info64s w
  have he : (clA s).extract (k * 18) (k * 18 + 18) = ceA (s.nth k) := by
    obtain rfl | rfl : k = 0 ∨ k = 1 := by omega
    · rw [clA, ext_toArray, ceA]
      congr 1
      show List.take 18 (List.drop 0 _) = _
      rw [List.drop_zero, List.take_append_of_le_length (by omega), List.take_of_length_le (by omega)]
      rfl
    · rw [clA, ext_toArray, ceA]
      congr 1
      show List.take 18 (List.drop 18 _) = _
      rw [List.drop_append_of_le_length (by omega), List.drop_of_length_le (by omega), List.nil_append, List.take_of_length_le (by omega)]
      rfl
  rw [he] at hp
  have hsz : (sizeOf 64).run Try.prog w = .ok 18 w := by
    have := info64s
    cases hq : Try.prog.info? 64 with
    | none => simp [hq] at this
    | some i => simp [hq] at this; simp [sizeOf, typeInfo, hq, this]
  have hlt : (0 : Int) ≤ (k : Int) ∧ (k : Int) < 2 := by omega
  simp [Instr.index, run_underlying Try.underlying65, asIntOf, hsz, hp, hlt]
  omega

theorem info23 : (Try.prog.info? 23).map (fun i => (i.zero, i.size, i.bytes)) = some (some (.agg (kyA ky0)), 16, 16) := by kernel_rfl

theorem build_ks (k : List UInt8) (h : k.length = 16) (w : World) :
    (Instr.buildSlice 33 1 #[(0, .agg (kyA k))]).run Try.prog w = .ok (.slice (some ⟨w.heap.size, 0, none⟩) 1 1) (w.alloc (.cells (kyA k) 23)) := by
  obtain ⟨a0, a1, a2, a3, a4, a5, a6, a7, a8, a9, a10, a11, a12, a13, a14, a15, rfl⟩ := list16 k h
  obtain ⟨ie, hie, hz, hs, hb⟩ := info_parts info23
  refine run_buildSlice w 33 23 1 _ _ ie _ Try.underlying33 hie hz (by omega) (by omega) ?_
  rw [hs]
  kernel_rfl

theorem flatK_app (a b : List (List UInt8)) : flatK (a ++ b) = flatK a ++ flatK b := by simp [flatK]
theorem flatK_one (k : List UInt8) : flatK [k] = kyL k := by simp [flatK]
theorem keys_len (s : St) : ∀ n, (s.keys n).length ≤ n
  | 0 => by simp [St.keys]
  | n + 1 => by
    have := keys_len s n
    simp only [St.keys, List.length_append]
    split <;> simp <;> omega

/-- A cell's block, loaded, and its key. -/
theorem ce_block {g : Nat} {c : Ce} {w : World} (h : w.heap[g]? = some (.cells (ceA c) 64 (0, 0))) (hc : c.Ok) :
    (loadVar 64 ⟨g, 0, none⟩).run Try.prog w = .ok (.agg (ceA c)) w ∧ (loadVar 23 ⟨g, 1, none⟩).run Try.prog w = .ok (.agg (kyA c.key)) w ∧ w.cell? ⟨g, 17, none⟩ = some (.int .u64 c.epoch) := by
  refine ⟨run_loadVar_row (P := Try.prog) _ g 64 64 _ (0, 0) _ h Try.underlying64 rfl (by rw [info64s, ceA_size hc]), ?_, ?_⟩
  · have := loadVar_at (P := Try.prog) w g 1 64 23 (ceA c) (0, 0) _ 16 h Try.underlying23 rfl info23s (by rw [ceA_size hc]; omega)
    rw [ce_key hc] at this
    exact this
  · rw [cell_of_row w g 17 _ _ _ h, ce_epoch hc]
theorem ce_store {g : Nat} {c e : Ce} {w : World} (h : w.heap[g]? = some (.cells (ceA c) 64 (0, 0))) (hc : c.Ok) (he : e.Ok) :
    (storeVar 64 ⟨g, 0, none⟩ (.agg (ceA e))).run Try.prog w = .ok () (w.setRow g (ceA e)) := by
  have := storeVar_at (P := Try.prog) w g 0 64 64 (ceA c) (ceA e) 18 h info64s (ceA_size he) (by rw [ceA_size hc]; omega) (ceL_one e)
  rw [splice_all (by rw [ceA_size hc, ceA_size he])] at this
  exact this

/-- What is behind a round's beginning: the cell in its own block. -/
theorem round_cell {w0 : World} {e : Ce} (w : World) (he : e.Ok) (hb : Only (fun _ => False) w0 w) :
    ∃ w1, (storeVar 64 ⟨w.heap.size, 0, none⟩ (.agg (ceA e))).run Try.prog (w.alloc (.cells (ceA Ce.zero) 64)) = .ok () w1 ∧ w1.heap[w.heap.size]? = some (.cells (ceA e) 64 (0, 0)) ∧ Only (fun _ => False) w0 w1 ∧ w.grownBy w1 none := by
  have hg := heap_alloc_new w (.cells (ceA Ce.zero) 64)
  refine ⟨_, ce_store hg ce_zero_ok he, setRow_heap _ _ _ _ _ _ hg, ?_, ?_⟩
  · refine hb.trans ⟨rfl, rfl, rfl, by simp, fun k hk _ => ?_⟩
    rw [setRow_other _ _ _ _ (by omega), (World.grownBy_alloc w _ none).block k hk (by simp)]
  · refine ⟨rfl, rfl, rfl, by simp, fun k hk _ => ?_⟩
    rw [setRow_other _ _ _ _ (by omega), (World.grownBy_alloc w _ none).block k hk (by simp)]

theorem Only.trans' {S : Nat → Prop} {a b c : World} {row : Option Nat} (h : Only S a b) (hg : b.grownBy c row) (hr : ∀ k, row = some k → a.heap.size ≤ k) : Only S a c :=
  ⟨hg.os.trans h.os, hg.tape.trans h.tape, hg.output.trans h.output, Nat.le_trans h.size hg.size, fun k hk hs => (hg.block k (Nat.lt_of_lt_of_le hk h.size) (fun e => by have := hr k e.symm; omega)).trans (h.block k hk hs)⟩
theorem only_grown {w0 w1 w2 : World} {v : Value} {n : Nat} {xs : List Value} {e : TypeId} {sz : Nat} (hb : Only (fun _ => False) w0 w1) (hown : w1.ownsRow w0.heap.size e sz v n xs) (hg : w1.grownBy w2 v.ownBlock) : Only (fun _ => False) w0 w2 :=
  hb.trans' hg (fun k hk => (hown.lt k hk).1)

theorem own_none {v : Value} : v.ownBlock = none ∨ v.ownBlock ≠ none := by cases v.ownBlock <;> simp

theorem key_new {w : World} {l : List UInt8} : ∀ (j : Nat) (u : Value), (kyL l)[j]? = some u → (w.alloc (.cells (kyA l) 23)).cell? ((⟨w.heap.size, 0, none⟩ : Addr).add j) = some u := by
  intro j u hu
  have hadd : (⟨w.heap.size, 0, none⟩ : Addr).add j = ⟨w.heap.size, j, none⟩ := by unfold Addr.add; split <;> simp_all
  rw [hadd, cell_of_row _ w.heap.size j _ _ _ (heap_alloc_new w _)]
  simpa [kyA] using hu

set_option maxHeartbeats 1000000 in
theorem holds_any (gs gp : Nat) (s : St) (w : World) (h : Is gs gp s w) (hok : s.Ok) :
    Calls Try.prog 13 #[.pointer (some ⟨gs, 0, none⟩)] w fun x w' => ∃ v, x = .returned v ∧ w'.ownsRow w.heap.size 23 16 v s.holds.length (flatK s.holds) ∧ Only (fun _ => False) w w' := by
  have hl := Lib.hid (load_cl h hok)
  have hix := Lib.hid (fun k hk W => index_cl hok k hk W)
  obtain ⟨i0, hi, hz0, hz1, hz2⟩ := info_parts info23
  clear h
  generalize clA s = A at *
  go_enter Try.func13, Try.ntmps13
  go_wp2_with (refine wpList_load_at rfl 65 _ rfl _ rfl _ hl.out ?_)
  go_loopw [2, 9] (fun v i wr => ∃ k : Nat, k ≤ 2 ∧ i = .int .i64 k ∧ wr.ownsRow w.heap.size 23 16 v (s.keys k).length (flatK (s.keys k)) ∧ Hid (Only (fun _ => False) w wr)) (fun _ i _ => 2 - (intOf i).toNat)
  case atStart => exact ⟨0, by omega, rfl, World.ownsRow_nil _ _ _ _, Only.refl _ _⟩
  case round =>
    obtain ⟨k, hk, rfl, hown, hbel⟩ := hrel
    by_cases hlt : k < 2
    · have hx := Lib.hid (hix.out k hlt wr)
      have he := St.nth_ok hok k
      obtain ⟨w1, hst, hg1, ho1, hgr⟩ := round_cell wr he hbel.out
      rw [ce_zero_is] at hst
      have HST := Lib.hid hst
      have hb0 := ce_block hg1 he
      have HL := Lib.hid hb0.1
      have hb2 := Lib.hid (blank_any (s.nth k) he w1)
      have hown1 := Lib.hid (hown.kept hgr own_none)
      have HO1 := Lib.hid (ho1.alloc (.cells (ceA (s.nth k)) 64))
      have HK := Lib.hid (ce_block (((World.grownBy_alloc w1 (.cells (ceA (s.nth k)) 64) none).block _ (Array.getElem?_eq_some_iff.1 hg1).1 (by simp)).trans hg1) he).2.1
      have HBS := Lib.hid (build_ks (s.nth k).key he.len (w1.alloc (.cells (ceA (s.nth k)) 64)))
      have HLE := keys_len s k
      have hkey : s.keys (k + 1) = s.keys k ++ (if (s.nth k).is = true then [(s.nth k).key] else []) := rfl
      have HW : Hid (w.heap.size ≤ w1.heap.size) := ho1.size
      have HLN := Lib.hid (kyL_len he.len)
      have HNE := Lib.hid (kyL_one (s.nth k).key)
      have HKN := Lib.hid (key_new (w := w1.alloc (.cells (ceA (s.nth k)) 64)) (l := (s.nth k).key))
      clear hst hg1 ho1 hgr hb0
      cases hbis : (s.nth k).is
      · rw [hbis] at hb2 hkey
        rw [if_neg (by simp), List.append_nil] at hkey
        go_wp2_with (first | (refine wpList_index_at rfl 65 _ _ rfl _ _ rfl rfl _ hx.out ?_) | (refine wpList_store_at rfl 64 _ _ rfl _ rfl _ rfl HST.out ?_) | (refine wpList_load_at rfl 64 _ rfl _ rfl _ HL.out ?_))
        refine hb2.out.mono ?_
        rintro x w2 ⟨rfl, rfl⟩
        go_wp2_with fail
        go_roundw
        case rel => exact ⟨k + 1, by omega, by go_num, by rw [hkey]; exact hown1.out.alloc _, HO1.out⟩
        case measure => simp [intOf]; omega
      · rw [hbis] at hb2 hkey
        rw [if_pos rfl] at hkey
        go_wp2_with (first | (refine wpList_index_at rfl 65 _ _ rfl _ _ rfl rfl _ hx.out ?_) | (refine wpList_store_at rfl 64 _ _ rfl _ rfl _ rfl HST.out ?_) | (refine wpList_load_at rfl 64 _ rfl _ rfl _ HL.out ?_))
        refine hb2.out.mono ?_
        rintro x w2 ⟨rfl, rfl⟩
        go_wp2_with (first | (refine wpList_load_at rfl 23 _ rfl _ rfl _ HK.out ?_) | (refine wpList_bs_at rfl 33 1 _ rfl [(0, .agg (kyA (s.nth k).key))] rfl _ HBS.out ?_) | (at_builtin; refine wpList_append_own _ rfl _ _ 33 rfl w.heap.size 23 i0 (.agg (kyA ky0)) 16 16 Try.underlying33 hi hz0 hz1 hz2 rfl (by decide) _ _ _ rfl ((hown1.out.alloc _).alloc _) ⟨(w1.alloc (.cells (ceA (s.nth k)) 64)).heap.size, 0, none⟩ 1 1 (kyL (s.nth k).key) rfl HLN.out ?c1 ?c2 ?c3 ?c4 ?c5 ?_))
        case c1 => exact HKN.out
        case c2 => exact HNE.out
        case c3 => unfold maxLen; omega
        case c4 => omega
        case c5 => have := HW.out; simp; omega
        intro v' w3 hown3 hgrow _
        have ho3 := only_grown (HO1.out.alloc _) ((hown1.out.alloc _).alloc _) hgrow
        go_wp2_with fail
        go_roundw
        case rel => exact ⟨k + 1, by omega, by go_num, by rw [hkey, flatK_app, flatK_one, List.length_append]; exact hown3, ho3⟩
        case measure => simp [intOf]; omega
    · obtain rfl : k = 2 := by omega
      go_wp2_with fail
      go_ret
      exact ⟨_, rfl, hown, hbel.out⟩
end Go.Proofs.Ytfolmdcceefflaa
