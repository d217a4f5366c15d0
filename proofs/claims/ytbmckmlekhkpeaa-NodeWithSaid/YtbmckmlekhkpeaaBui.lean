/-
  The builder's Write of a slice; the flag that Encode writes.
-/
import Derived.Test.YtbmckmlekhkpeaaEmp
set_option linter.unusedVariables false
namespace Go.Proofs.Ytbmckmlekhkpeaa
open Go.RowKit

theorem check_exact (b : Nat) (bs : List Value) (w : World) (h : BW b bs w) :
    Calls Try.prog 42 #[.pointer (some ⟨b, 0, none⟩)] w fun e w' => e = .returned (.tuple #[]) ∧
      (Lib.BuilderAtF 68 5 b b (.pointer (some ⟨b, 0, none⟩)) bs w' ∧ Below b w w' ∧ Lib.OthersKept 5 (some b) w w' ∧ (w' = w ∨ w' = w.setCell ⟨b, 0, none⟩ (.pointer (some ⟨b, 0, none⟩)))) := by
  rcases h with h | h
  · refine (check_fresh b w h.cell0 h.shape h.frozen0).mono ?_
    rintro e w' ⟨rfl, rfl⟩
    exact ⟨rfl, h.used _, (Below.refl b w).setCell (p := ⟨b, 0, none⟩) h.1 _, (Lib.OthersKept.refl _ _ w).setCell ⟨b, 0, none⟩ rfl _, .inr rfl⟩
  · refine (check_used b w h.cell0).mono ?_
    rintro e w' ⟨rfl, rfl⟩
    exact ⟨rfl, h, Below.refl b _, Lib.OthersKept.refl _ _ _, .inl rfl⟩

theorem byteCells_one (l : List UInt8) : ∀ u ∈ Lib.byteCells l, u.oneCell' = true := by
  intro u hu
  simp only [Lib.byteCells, List.mem_map] at hu
  obtain ⟨c, _, rfl⟩ := hu
  rfl

set_option maxHeartbeats 2000000 in
set_option maxRecDepth 100000 in
theorem writeBytes (b : Nat) (bs : List Value) (l : List UInt8) (g o cap : Nat) (w : World) (h : BW b bs w) (hlen : bs.length + l.length ≤ 140737488355328) (hl : 0 < l.length) (hgb : g ≠ b)
    (hsrc : ∀ (j : Nat) u, (Lib.byteCells l)[j]? = some u → w.cell? ((⟨g, o, none⟩ : Addr).add j) = some u) :
    Calls Try.prog 31 #[.pointer (some ⟨b, 0, none⟩), .slice (some ⟨g, o, none⟩) l.length cap] w fun e w' => e = .returned (.tuple #[.int .i64 l.length, .nilIface]) ∧ Wrote b (bs ++ Lib.byteCells l) w w' := by
  obtain ⟨i0, hi, hz0, hz1, hz2⟩ := info_parts info5
  have HSRC := Lib.hid hsrc
  clear hsrc
  have HGB := Lib.hid hgb
  clear hgb
  go_enter Try.func31, Try.ntmps31
  go_wp2_with (go_at_call 42; refine (check_exact b bs _ h).mono ?_)
  rintro e w1 ⟨rfl, ⟨hB, v, hbk, hown, hne⟩, hb1, hk1, hex⟩
  have HS1 : Hid (∀ (j : Nat) u, (Lib.byteCells l)[j]? = some u → w1.cell? ((⟨g, o, none⟩ : Addr).add j) = some u) := fun j u hu => by
    have := HSRC.out j u hu
    rcases hex with rfl | rfl
    · exact this
    · rw [World.cell?_of_block (w := w) (w' := w.setCell ⟨b, 0, none⟩ (.pointer (some ⟨b, 0, none⟩))) (Below.heap_setCell _ _ _ _ (by
        have : ((⟨g, o, none⟩ : Addr).add j).block = g := by unfold Addr.add; split <;> rfl
        rw [this]
        exact HGB.out))]
      exact this
  have hlt := lt_of_heap hbk
  have c1 : w1.cell? ⟨b, 1, none⟩ = some v := by rw [Lib.cell_of_heap hbk]; rfl
  clear hex
  have hbl : (Lib.byteCells l).length = l.length := Lib.byteCells_length l
  have HBL := Lib.hid hbl
  clear hbl
  go_wp2_with (at_builtin; refine wpList_append_ownF _ rfl _ _ 66 rfl b 5 i0 (.int .u8 0) 1 1 Try.underlying66 hi hz0 hz1 hz2 rfl (by decide) _ _ _ rfl hown ⟨g, o, none⟩ l.length cap (Lib.byteCells l) rfl (by rw [HBL.out, Nat.mul_one]) ?c1 ?c2 ?c3 ?c4 ?c5 ?_)
  case c1 => exact HS1.out
  case c2 => exact byteCells_one l
  case c3 => unfold maxLen; omega
  case c4 => omega
  case c5 => omega
  intro v' w2 hown' hgrow _
  have hb2 : w2.heap[b]? = some (.cells #[.pointer (some ⟨b, 0, none⟩), v] 68 (0, 0)) := by
    rw [hgrow.block b hlt (neOwn hne)]
    exact hbk
  have d0 : w2.cell? ⟨b, 0, none⟩ = some (.pointer (some ⟨b, 0, none⟩)) := by rw [Lib.cell_of_heap hb2]; rfl
  have d1 : w2.cell? ⟨b, 1, none⟩ = some v := by rw [Lib.cell_of_heap hb2]; rfl
  have f1 : w2.frozen? ⟨b, 1, none⟩ = false := Lib.frozen_of_heap hb2 1
  obtain ⟨ao, n', cap', rfl⟩ : ∃ ao n' cap, v' = .slice ao n' cap := by
    rcases hown'.2 with ⟨hv, _⟩ | ⟨g, cap, cur, fz, hv, _⟩
    · exact ⟨_, _, _, hv⟩
    · exact ⟨_, _, _, hv⟩
  go_wp2
  go_ret2
  refine ⟨rfl, .inr (Lib.BuilderAtF.put (T := 68) (e := 5) hB hb2 (bs' := bs ++ Lib.byteCells l) (by simpa [HBL.out] using hown') (by decide)), ?_, (hk1.grown hgrow (Lib.ownsRowF_kind hown)).setCell ⟨b, 1, none⟩ rfl _⟩
  exact (hb1.grown hgrow (by omega) (fun k hk => (hown.lt k hk).1)).setCell (p := ⟨b, 1, none⟩) hB _

def flagB (x : Bool) : List UInt8 := [if x = true then 1 else 0]
theorem flag_any (x : Bool) (b : Nat) (bs : List Value) (w : World) (h : BW b bs w) (hlen : bs.length + 1 ≤ 140737488355328) :
    Calls Try.prog 29 #[.bool x, .pointer (some ⟨b, 0, none⟩)] w fun e w' => e = .returned (.bool x) ∧ Wrote b (bs ++ Lib.byteCells (flagB x)) w w' := by
  cases x
  · go_enter Try.func29, Try.ntmps29
    go_wp2_with fail
    refine (writeByte b bs 0 _ h hlen).mono ?_
    rintro e w1 ⟨rfl, h1⟩
    have H1 := Lib.hid h1
    clear h1
    go_wp2_with fail
    go_ret
    exact ⟨rfl, H1.out⟩
  · go_enter Try.func29, Try.ntmps29
    go_wp2_with fail
    refine (writeByte b bs 1 _ h hlen).mono ?_
    rintro e w1 ⟨rfl, h1⟩
    have H1 := Lib.hid h1
    clear h1
    go_wp2_with fail
    go_ret
    exact ⟨rfl, H1.out⟩
end Go.Proofs.Ytbmckmlekhkpeaa
