/-
  The slot: Newest.
-/
import Derived.Test.YtfolmdcceefflaaHol
set_option linter.unusedVariables false
namespace Go.Proofs.Ytfolmdcceefflaa
open Go.RowKit

def St.onI (s : St) : Int := if s.d.is = true ∧ (s.c.is = false ∨ s.c.epoch < s.d.epoch) then 1 else 0
def St.onE (s : St) : Int := if s.c.is = true ∨ s.d.is = true then 0 else 110
def St.newI (s : St) : Int := if s.p.off = true then 0 else s.onI
def St.newE (s : St) : Int := if s.p.off = true then 4 else s.onE

set_option maxHeartbeats 1000000 in
theorem newest_off (gs gp : Nat) (s : St) (w : World) (h : Is gs gp s w) (ho : s.p.off = true) :
    Calls Try.prog 19 #[.pointer (some ⟨gs, 0, none⟩)] w fun x w' => x = .returned (.tuple #[.int .i64 0, .int .i64 4]) ∧ w = w' := by
  have hc := Lib.hid (check_any gs gp s 0 w h)
  rw [St.wrong, if_pos ho] at hc
  clear h ho
  go_enter Try.func19, Try.ntmps19
  go_wp2_with fail
  refine hc.out.mono ?_
  rintro x w1 ⟨rfl, rfl⟩
  go_wp2_with fail
  go_ret2
  exact ⟨rfl, rfl⟩

set_option maxHeartbeats 2000000 in
theorem newest_on (gs gp : Nat) (s : St) (w : World) (h : Is gs gp s w) (hok : s.Ok) (ho : s.p.off = false) :
    Calls Try.prog 19 #[.pointer (some ⟨gs, 0, none⟩)] w fun x w' => x = .returned (.tuple #[.int .i64 s.onI, .int .i64 s.onE]) ∧ Only (fun _ => False) w w' := by
  have hc := Lib.hid (check_any gs gp s 0 w h)
  rw [St.wrong, if_neg (by simp [ho]), if_neg (by omega)] at hc
  have hl := Lib.hid (load_cl h hok)
  have hix := Lib.hid (fun k hk W => index_cl hok k hk W)
  have hsl := Lib.hid h
  clear h ho
  generalize clA s = A at *
  go_enter Try.func19, Try.ntmps19
  go_wp2_with fail
  refine hc.out.mono ?_
  rintro x w1 ⟨rfl, rfl⟩
  go_wp2_with (refine wpList_load_at rfl 65 _ rfl _ rfl _ hl.out ?_)
  go_loopw [5, 6, 18] (fun b e i wr => ∃ k : Nat, i = .int .i64 k ∧ Hid (Only (fun _ => False) w wr) ∧ ((k = 0 ∧ b = .int .i64 0 ∧ e = .int .i64 110) ∨ (k = 1 ∧ b = .int .i64 0 ∧ e = .int .i64 (if s.c.is = true then 0 else 110)) ∨ (k = 2 ∧ b = .int .i64 s.onI ∧ e = .int .i64 s.onE))) (fun _ _ i _ => 2 - (intOf i).toNat)
  case atStart => exact ⟨0, rfl, Only.refl _ _, .inl ⟨rfl, rfl, rfl⟩⟩
  case round =>
    obtain ⟨k, rfl, hbel, hst⟩ := hrel
    rcases hst with ⟨rfl, rfl, rfl⟩ | ⟨rfl, rfl, rfl⟩ | ⟨rfl, rfl, rfl⟩
    · have hx := Lib.hid (hix.out 0 (by omega) wr)
      have he := St.nth_ok hok 0
      obtain ⟨w1, hst, hg1, ho1, hgr⟩ := round_cell wr he hbel.out
      rw [ce_zero_is] at hst
      have HST := Lib.hid hst
      have hb0 := ce_block hg1 he
      have HL := Lib.hid hb0.1
      have hb2 := Lib.hid (blank_any (s.nth 0) he w1)
      have HO1 := Lib.hid (ho1.alloc (.cells (ceA (s.nth 0)) 64))
      clear hst hg1 ho1 hgr hb0
      change Hid (Calls Try.prog 28 #[.agg (ceA (s.nth 0))] w1 fun e w' => e = .returned (.bool (!s.c.is)) ∧ _ = w') at hb2
      cases hbis : s.c.is
      · rw [hbis] at hb2
        go_wp2_with (first | (refine wpList_index_at rfl 65 _ _ rfl _ _ rfl rfl _ hx.out ?_) | (refine wpList_store_at rfl 64 _ _ rfl _ rfl _ rfl HST.out ?_) | (refine wpList_load_at rfl 64 _ rfl _ rfl _ HL.out ?_))
        refine hb2.out.mono ?_
        rintro x w2 ⟨rfl, rfl⟩
        go_wp2_with fail
        go_roundw
        case rel => exact ⟨1, by go_num, HO1.out, .inr (.inl ⟨rfl, rfl, rfl⟩)⟩
        case measure => simp [intOf]
      · rw [hbis] at hb2
        go_wp2_with (first | (refine wpList_index_at rfl 65 _ _ rfl _ _ rfl rfl _ hx.out ?_) | (refine wpList_store_at rfl 64 _ _ rfl _ rfl _ rfl HST.out ?_) | (refine wpList_load_at rfl 64 _ rfl _ rfl _ HL.out ?_))
        refine hb2.out.mono ?_
        rintro x w2 ⟨rfl, rfl⟩
        go_wp2_with fail
        go_quiet (fail)
        go_wp2_with fail
        go_roundw
        case rel => exact ⟨1, by go_num, HO1.out.drewN _, .inr (.inl ⟨rfl, rfl, rfl⟩)⟩
        case measure => simp [intOf]
    · have hx := Lib.hid (hix.out 1 (by omega) wr)
      have he := St.nth_ok hok 1
      obtain ⟨w1, hst, hg1, ho1, hgr⟩ := round_cell wr he hbel.out
      rw [ce_zero_is] at hst
      have HST := Lib.hid hst
      have hb0 := ce_block hg1 he
      have HL := Lib.hid hb0.1
      have hb2 := Lib.hid (blank_any (s.nth 1) he w1)
      have HO1 := Lib.hid (ho1.alloc (.cells (ceA (s.nth 1)) 64))
      have hb0' := ce_block (((World.grownBy_alloc w1 (.cells (ceA (s.nth 1)) 64) none).block _ (Array.getElem?_eq_some_iff.1 hg1).1 (by simp)).trans hg1) he
      have hc1 : (w1.alloc (.cells (ceA (s.nth 1)) 64)).cell? ⟨wr.heap.size, 17, none⟩ = some (.int .u64 s.d.epoch) := hb0'.2.2
      have hsl2 := (hsl.out.keep HO1.out (fun h => h) (fun h => h)).sl
      have hc2 : (w1.alloc (.cells (ceA (s.nth 1)) 64)).cell? ⟨gs, 18, none⟩ = some (.int .u64 s.c.epoch) := (cell_of_row _ gs 18 _ _ _ hsl2).trans (sl_epoch_c hok.c hok.d)
      clear hst hg1 ho1 hgr hb0 hb0' hsl2
      change Hid (Calls Try.prog 28 #[.agg (ceA (s.nth 1))] w1 fun e w' => e = .returned (.bool (!s.d.is)) ∧ _ = w') at hb2
      generalize hEE : ceA (s.nth 1) = EE at *
      clear hEE
      have honI : s.onI = if s.d.is = true ∧ (s.c.is = false ∨ s.c.epoch < s.d.epoch) then 1 else 0 := rfl
      have honE : s.onE = if s.c.is = true ∨ s.d.is = true then 0 else 110 := rfl
      have HonI := Lib.hid honI
      have HonE := Lib.hid honE
      clear honI honE
      cases hcis : s.c.is
      · cases hdis : s.d.is
        · rw [hdis] at hb2
          rw [hdis, hcis] at HonI HonE
          go_wp2_with (first | (refine wpList_index_at rfl 65 _ _ rfl _ _ rfl rfl _ hx.out ?_) | (refine wpList_store_at rfl 64 _ _ rfl _ rfl _ rfl HST.out ?_) | (refine wpList_load_at rfl 64 _ rfl _ rfl _ HL.out ?_))
          refine hb2.out.mono ?_
          rintro x w2 ⟨rfl, rfl⟩
          go_wp2_with fail
          go_roundw
          case rel => exact ⟨2, by go_num, HO1.out, .inr (.inr ⟨rfl, by rw [HonI.out]; rfl, by rw [HonE.out]; rfl⟩)⟩
          case measure => simp [intOf]
        · rw [hdis] at hb2
          rw [hdis, hcis] at HonI HonE
          go_wp2_with (first | (refine wpList_index_at rfl 65 _ _ rfl _ _ rfl rfl _ hx.out ?_) | (refine wpList_store_at rfl 64 _ _ rfl _ rfl _ rfl HST.out ?_) | (refine wpList_load_at rfl 64 _ rfl _ rfl _ HL.out ?_))
          refine hb2.out.mono ?_
          rintro x w2 ⟨rfl, rfl⟩
          go_wp2_with fail
          go_quiet (fail)
          go_wp2_with fail
          go_roundw
          case rel => exact ⟨2, by go_num, HO1.out.drewN _, .inr (.inr ⟨rfl, by rw [HonI.out, if_pos (by simp)], by rw [HonE.out]; rfl⟩)⟩
          case measure => simp [intOf]
      · cases hdis : s.d.is
        · rw [hdis] at hb2
          rw [hdis, hcis] at HonI HonE
          go_wp2_with (first | (refine wpList_index_at rfl 65 _ _ rfl _ _ rfl rfl _ hx.out ?_) | (refine wpList_store_at rfl 64 _ _ rfl _ rfl _ rfl HST.out ?_) | (refine wpList_load_at rfl 64 _ rfl _ rfl _ HL.out ?_))
          refine hb2.out.mono ?_
          rintro x w2 ⟨rfl, rfl⟩
          go_wp2_with fail
          go_roundw
          case rel => exact ⟨2, by go_num, HO1.out, .inr (.inr ⟨rfl, by rw [HonI.out, if_neg (by simp)], by rw [HonE.out]; rfl⟩)⟩
          case measure => simp [intOf]
        · rw [hdis] at hb2
          rw [hdis, hcis] at HonI HonE
          by_cases hlt : s.c.epoch < s.d.epoch
          · go_wp2_with (first | (refine wpList_index_at rfl 65 _ _ rfl _ _ rfl rfl _ hx.out ?_) | (refine wpList_store_at rfl 64 _ _ rfl _ rfl _ rfl HST.out ?_) | (refine wpList_load_at rfl 64 _ rfl _ rfl _ HL.out ?_))
            refine hb2.out.mono ?_
            rintro x w2 ⟨rfl, rfl⟩
            go_wp2_with fail
            go_quiet (fail)
            go_wp2_with fail
            go_roundw
            case rel => exact ⟨2, by go_num, HO1.out.drewN _, .inr (.inr ⟨rfl, by rw [HonI.out, if_pos (by simp [hlt])], by rw [HonE.out]; rfl⟩)⟩
            case measure => simp [intOf]
          · have hlt' : decide (s.c.epoch < s.d.epoch) = false := by simp; omega
            have hle := Lib.hid hlt
            clear hlt
            go_wp2_with (first | (refine wpList_index_at rfl 65 _ _ rfl _ _ rfl rfl _ hx.out ?_) | (refine wpList_store_at rfl 64 _ _ rfl _ rfl _ rfl HST.out ?_) | (refine wpList_load_at rfl 64 _ rfl _ rfl _ HL.out ?_))
            refine hb2.out.mono ?_
            rintro x w2 ⟨rfl, rfl⟩
            go_wp2_with fail
            go_quiet (fail)
            go_wp2_with fail
            go_roundw
            case rel => exact ⟨2, by go_num, HO1.out.drewN _, .inr (.inr ⟨rfl, by rw [HonI.out, if_neg (by have := hle.out; simp; omega)], by rw [HonE.out]; rfl⟩)⟩
            case measure => simp [intOf]
    · go_wp2_with fail
      go_ret2
      exact ⟨rfl, hbel.out⟩

theorem newest_any (gs gp : Nat) (s : St) (w : World) (h : Is gs gp s w) (hok : s.Ok) :
    Calls Try.prog 19 #[.pointer (some ⟨gs, 0, none⟩)] w fun x w' => x = .returned (.tuple #[.int .i64 s.newI, .int .i64 s.newE]) ∧ Only (fun _ => False) w w' := by
  unfold St.newI St.newE
  by_cases ho : s.p.off = true
  · rw [if_pos ho, if_pos ho]
    refine (newest_off gs gp s w h ho).mono ?_
    rintro x w' ⟨rfl, rfl⟩
    exact ⟨rfl, Only.refl _ _⟩
  · rw [if_neg ho, if_neg ho]
    exact newest_on gs gp s w h hok (by simpa using ho)
end Go.Proofs.Ytfolmdcceefflaa
