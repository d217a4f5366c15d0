/-
  Atoms.
-/
import Derived.Test.YtnppjkekbdapkaaRis
import Derived.Deep.LoopGhost
set_option linter.unusedVariables false
namespace Go.Proofs.Ytnppjkekbdapkaa
open Go.RowKit

/-- The numbers of the known atoms among the first k places. -/
def atomsU (l : List Nd) (bs : List Bool) (k : Nat) : List Int := ((List.range k).filter fun i => bs.getD i false && decide ((l.getD i nd0).op = 0)).map fun i => (l.getD i nd0).a
theorem atomsU_next {l : List Nd} {bs : List Bool} {k : Nat} {b : Bool} {x : Nd} (h : bs[k]? = some b) (hx : l[k]? = some x) : atomsU l bs (k + 1) = atomsU l bs k ++ (if b = true ∧ x.op = 0 then [x.a] else []) := by
  unfold atomsU
  rw [List.range_succ, List.filter_append, List.map_append]
  congr 1
  by_cases ho : x.op = 0 <;> cases b <;> simp [h, hx, ho]
theorem atomsU_len (l : List Nd) (bs : List Bool) (k : Nat) : (atomsU l bs k).length ≤ k := by
  unfold atomsU
  rw [List.length_map]
  have := List.length_filter_le (fun i => bs.getD i false && decide ((l.getD i nd0).op = 0)) (List.range k)
  rwa [List.length_range] at this
noncomputable def atoms (l : List Nd) (kn : List Int) : List Int := rise (atomsU l (knows l kn) (knows l kn).length)
theorem knows_le (l : List Nd) (a : List Int) : (knows l a).length ≤ l.length := by
  unfold knows
  split <;> simp
set_option maxHeartbeats 4000000 in
theorem atoms_any (l : List Nd) (kn : List Int) (v kv : Value) (w : World) (hl : NL w v l) (hkn : IL w kv kn) (hwf : ∀ x ∈ l, x.Wf) (hll : l.length ≤ 100000) (hkl : kn.length ≤ 100000) :
    Calls Try.prog 19 #[v, kv] w fun e w' => ∃ v', e = .returned v' ∧ IL w' v' (atoms l kn) ∧ Only (fun _ => False) w w' := by
  have HL := Lib.hid hl
  have HC := Lib.hid (knows_any l kn v kv w hl hkn hwf (by omega) hkl)
  have hbl := knows_le l kn
  unfold atoms
  generalize knows l kn = bs at *
  obtain ⟨ad, cap, rfl, hrow⟩ := hl
  clear hrow hkn hwf
  go_enter Try.func19, Try.ntmps19
  go_wp2_with (go_at_call 10; refine HC.out.mono ?_; rintro e w1 ⟨bv, rfl, hb, h1⟩; have HB := Lib.hid hb; obtain ⟨ab, cb, rfl, hcb, hmb⟩ := hb.val)
  have HO1 := Lib.hid h1
  clear hb h1
  have HF0 : Hid (FL w1 w1.heap.size (.slice none 0 0) []) := World.ownsRow_nil _ _ _ _
  have HRF := Lib.hid (Only.refl (fun _ => False) w1)
  go_loopg [4, 11] bs.length (fun gg av i wr => ∃ k : Nat, k ≤ bs.length ∧ gg = bs.length - k ∧ i = .int .i64 k ∧ Hid (FL wr w1.heap.size av (atomsU l bs k)) ∧ Hid (Only (fun _ => False) w1 wr))
  case atStart => exact ⟨0, by omega, by omega, rfl, HF0.out, HRF.out⟩
  case round =>
    clear HF0 HRF
    revert wr
    intro wa hrel
    obtain ⟨k, hk, hgk, rfl, hS, hO⟩ := hrel
    by_cases hlt : k < bs.length
    · have hlt' : (k : Int) < (bs.length : Int) := by omega
      have hltl : k < l.length := by omega
      have hltl' : (k : Int) < (l.length : Int) := by omega
      obtain ⟨ba, oa, c1, he1, _, _, hc1⟩ := (HB.out.keep hO.out).at hlt
      cases he1
      obtain ⟨gb, go, gc, he2, _, _, d0, d1, _, _⟩ := (HL.out.keep (HO1.out.trans hO.out)).at hltl
      cases he2
      have HX : Hid (bs[k]? = some bs[k]) := List.getElem?_eq_getElem hlt
      have HY : Hid (l[k]? = some l[k]) := List.getElem?_eq_getElem hltl
      generalize bs[k] = b at *
      generalize l[k] = x at *
      by_cases hbx : b = true ∧ x.op = 0
      · obtain ⟨rfl, hx⟩ := hbx
        obtain ⟨op, xa, xb⟩ := x
        dsimp only at hx d0 d1
        subst hx
        have hb7 := build_f xa wa
        have hi7 : IL (wa.alloc (.cells #[.int .i64 xa] 3)) (.slice (some ⟨wa.heap.size, 0, none⟩) 1 1) [xa] := IL.of_row (l := [xa]) (cap := 1) (heap_alloc_new _ _) (Nat.le_refl _) (by unfold maxLen; omega) (fun i u h => by simpa using h)
        have o7 : Only (fun _ => False) wa (wa.alloc (.cells #[.int .i64 xa] 3)) := (Only.refl _ _).alloc _
        generalize wa.alloc (.cells #[.int .i64 xa] 3) = V7 at *
        have HB7 := Lib.hid hb7
        clear hb7
        obtain ⟨v8, V8, hr8, hf8, hg8, _⟩ := app_ints (hS.out.keep o7 (fun _ _ x => x)) hi7 (hO.out.trans o7).size (by have := atomsU_len l bs k; simp; omega)
        have HO8 := Lib.hid (fresh_only (hO.out.trans o7) (grown_only hg8) (fun k hk => hS.out.base_le hk))
        have HF8 : Hid (FL V8 w1.heap.size v8 (atomsU l bs (k + 1))) := by
          rw [atomsU_next HX.out HY.out, if_pos ⟨rfl, rfl⟩]
          exact hf8
        have HR8 := Lib.hid hr8
        clear hr8 hf8 hg8 hi7 o7
        go_wp2_with (first | ((with_reducible refine wpList_bs_at ?_ 23 1 #[(0, .tmp 30)] ?_ [(0, .int .i64 xa)] ?_ _ HB7.out ?_); rfl; rfl; rfl) | (at_builtin; (with_reducible refine wpList_append_run ?_ (.tmp 25) (.tmp 31) 23 ?_ _ _ _ ?_ ?_ HR8.out ?_); rfl; rfl; rfl; rfl))
        go_roundg (bs.length - (k + 1))
        case measure => omega
        case rel => exact ⟨k + 1, by omega, by omega, by go_num, HF8.out, HO8.out⟩
      · have HF8 : Hid (FL wa w1.heap.size u4 (atomsU l bs (k + 1))) := by
          rw [atomsU_next HX.out HY.out, if_neg hbx, List.append_nil]
          exact hS.out
        cases b
        · go_wp2_with fail
          go_roundg (bs.length - (k + 1))
          case measure => omega
          case rel => exact ⟨k + 1, by omega, by omega, by go_num, HF8.out, hO.out⟩
        · have hx : (x.op == 0) = false := by
            rw [beq_eq_false_iff_ne]
            exact fun h => hbx ⟨rfl, h⟩
          clear hbx
          go_wp2_with fail
          go_roundg (bs.length - (k + 1))
          case measure => omega
          case rel => exact ⟨k + 1, by omega, by omega, by go_num, HF8.out, hO.out⟩
    · obtain rfl : k = bs.length := by omega
      have HR := Lib.hid (rising_any hS.out (by have := atomsU_len l bs bs.length; omega))
      go_wp2_with (go_at_call 29; refine HR.out.mono ?_; rintro e w2 ⟨v', rfl, hv, ho⟩)
      go_ret
      exact ⟨v', rfl, hv, HO1.out.trans (fresh_only hO.out ho (fun j hj => hj))⟩
end Go.Proofs.Ytnppjkekbdapkaa
