/-
  The reference: digits. (Printed by mkrdi.py out of rdi.head.)
-/
import Derived.Test.YtnppjkekbdapkaaDoorWri
set_option linter.unusedVariables false
namespace Go.Proofs.YtnppjkekbdapkaaDoor
open Go.RowKit

theorem dig_one : ∀ k : Fin 10, (⟨#[48, 49, 50, 51, 52, 53, 54, 55, 56, 57]⟩ : ByteArray).extract k.val (k.val + 1) = ⟨#[UInt8.ofNat (48 + k.val)]⟩ := by decide +kernel
/-- What digits hands back: the string s of the digits. -/
def DigS (n : Nat) (s : ByteArray) : Prop := s = ⟨(Lib.decDigits n).toArray⟩
set_option maxHeartbeats 4000000 in
theorem digits_any (n : Nat) : n ≤ 1000000 → ∀ w : World, Calls Tryd.prog 32 #[.int .i64 (n : Int)] w fun e w' => ∃ v, e = .returned v ∧ ∃ s : ByteArray, v = .string s ∧ s = ⟨(Lib.decDigits n).toArray⟩ ∧ Only (fun _ => False) w w' := by
  induction n using Nat.strongRecOn with
  | ind n ih =>
    intro hn w
    by_cases h : n < 10
    · have h1 := dig_one ⟨n, h⟩
      dsimp only at h1
      have h' : (n : Int) < 10 := by omega
      have hc1 : (n : Int) + 1 ≤ 10 := by omega
      have HD : Hid (Lib.decDigits n = [UInt8.ofNat (48 + n)]) := Lib.decDigits_one h
      obtain ⟨s1, hs1⟩ : ∃ s, (⟨#[48, 49, 50, 51, 52, 53, 54, 55, 56, 57]⟩ : ByteArray).extract n (n + 1) = s := ⟨_, rfl⟩
      have HS1 : Hid (s1 = ⟨#[UInt8.ofNat (48 + n)]⟩) := show _ = _ by rw [← hs1, h1]
      clear h1
      go_enter Tryd.func32, Tryd.ntmps32
      go_wp2_with fail
      go_ret
      exact ⟨_, rfl, _, rfl, by rw [HD.out]; exact HS1.out, Only.refl _ _⟩
    · have h' : ¬ (n : Int) < 10 := by omega
      have h1 := dig_one ⟨n % 10, Nat.mod_lt _ (by omega)⟩
      dsimp only at h1
      have HIH0 := Lib.hid (ih (n / 10) (by omega) (by omega))
      have hl : (Lib.decDigits (n / 10)).length ≤ 7 := (dec_len (k := 6) (by omega)).2
      have hde : Lib.decDigits n = Lib.decDigits (n / 10) ++ [UInt8.ofNat (48 + n % 10)] := by rw [Lib.decDigits, dif_neg h]
      have hqq : (n : Int) / 10 = ((n / 10 : Nat) : Int) := by omega
      have hrr : (n : Int) % 10 = ((n % 10 : Nat) : Int) := by omega
      have hrt : (n : Int).tmod 10 = ((n % 10 : Nat) : Int) := rfl
      have hrb : n % 10 < 10 := Nat.mod_lt _ (by omega)
      have hqb : n / 10 ≤ 1000000 := by omega
      generalize n / 10 = q at *
      generalize n % 10 = r at *
      have HIH : Hid (∀ w : World, Calls Tryd.prog 32 #[.int .i64 (q : Int)] w fun e w' => ∃ v, e = .returned v ∧ ∃ s : ByteArray, v = .string s ∧ s = ⟨(Lib.decDigits q).toArray⟩ ∧ Only (fun _ => False) w w') := HIH0.out
      obtain ⟨s1, hs1⟩ : ∃ s, (⟨#[48, 49, 50, 51, 52, 53, 54, 55, 56, 57]⟩ : ByteArray).extract r (r + 1) = s := ⟨_, rfl⟩
      have hw1 : IntKind.i64.wrap (q : Int) = (q : Int) := by rw [IntKind.wrap_i64]; omega
      have hw2 : IntKind.i64.wrap ((r : Int) + 1) = (r : Int) + 1 := by rw [IntKind.wrap_i64]; omega
      have hr1 : (r : Int) + 1 ≤ 10 := by omega
      have hr2 : (0 : Int) ≤ (r : Int) + 1 := by omega
      have hr3 : (r : Int) ≤ (r : Int) + 1 := by omega
      have HZ1 : Hid ((⟨(Lib.decDigits q).toArray⟩ : ByteArray).size + s1.size ≤ 100) := by
        show (Lib.decDigits q).toArray.size + s1.size ≤ 100
        rw [← hs1, h1, List.size_toArray]
        show _ + 1 ≤ 100
        omega
      have HFIN : Hid (∀ s0 : ByteArray, s0 = ⟨(Lib.decDigits q).toArray⟩ → s0 ++ s1 = ⟨(Lib.decDigits n).toArray⟩) := fun s0 h0 => by
        rw [h0, ← hs1, h1, hde]
        apply ByteArray.ext
        simp
      clear h1 ih hl hde HIH0
      go_enter Tryd.func32, Tryd.ntmps32
      go_upto_region 3 with fail
      refine wp_region_held (S := fun W => Only (fun _ => False) w W) (by kernel_rfl) ?_
      change wpAnyH _ _ _ _ _ _ _ _ (World.drew _)
      have HS0 : Only (fun _ => False) w (World.drew w) := (Only.refl _ _).drew
      refine held_pure (i := 0) (v := (.int .i64 (n : Int))) rfl rfl (by kernel_rfl) (by kernel_rfl) (by kernel_rfl) (fun _ _ _ h => h) (Or.inl ⟨by rfl, fun w => by go_simp⟩) HS0 ?_
      simp only [List.setIfInBounds_toArray, List.set]
      refine held_pure (i := 1) (v := (.int .i64 (q : Int))) rfl rfl (by kernel_rfl) (by kernel_rfl) (by kernel_rfl) (fun _ _ _ h => h) (Or.inl ⟨by rfl, fun w => by go_simp⟩) HS0 ?_
      simp only [List.setIfInBounds_toArray, List.set]
      refine held_pure (i := 3) (v := (.int .i64 (n : Int))) rfl rfl (by kernel_rfl) (by kernel_rfl) (by kernel_rfl) (fun _ _ _ h => h) (Or.inl ⟨by rfl, fun w => by go_simp⟩) HS0 ?_
      simp only [List.setIfInBounds_toArray, List.set]
      refine held_pure (i := 4) (v := (.int .i64 (r : Int))) rfl rfl (by kernel_rfl) (by kernel_rfl) (by kernel_rfl) (fun _ _ _ h => h) (Or.inl ⟨by rfl, fun w => by go_simp⟩) HS0 ?_
      simp only [List.setIfInBounds_toArray, List.set]
      refine held_pure (i := 5) (v := (.int .i64 (n : Int))) rfl rfl (by kernel_rfl) (by kernel_rfl) (by kernel_rfl) (fun _ _ _ h => h) (Or.inl ⟨by rfl, fun w => by go_simp⟩) HS0 ?_
      simp only [List.setIfInBounds_toArray, List.set]
      refine held_pure (i := 6) (v := (.int .i64 (r : Int))) rfl rfl (by kernel_rfl) (by kernel_rfl) (by kernel_rfl) (fun _ _ _ h => h) (Or.inl ⟨by rfl, fun w => by go_simp⟩) HS0 ?_
      simp only [List.setIfInBounds_toArray, List.set]
      refine held_pure (i := 7) (v := (.int .i64 ((r : Int) + 1))) rfl rfl (by kernel_rfl) (by kernel_rfl) (by kernel_rfl) (fun _ _ _ h => h) (Or.inl ⟨by rfl, fun w => by go_simp⟩) HS0 ?_
      simp only [List.setIfInBounds_toArray, List.set]
      refine held_take (i := 8) (v := (.string s1)) rfl rfl (by kernel_rfl) (by kernel_rfl) (by kernel_rfl) (fun _ _ _ h => h) (Or.inl ⟨by rfl, fun w _ => by go_simp⟩) HS0 ?_
      simp only [List.setIfInBounds_toArray, List.set]
      refine held_callx (j := 2) (by kernel_rfl) rfl rfl (by rfl) Tryd.func32 (by kernel_rfl) rfl rfl [.int .i64 (q : Int)] rfl (HIH.out (World.drew w)) ?_
      rintro cv wc ⟨s0, rfl, hs0, j2⟩
      have hsz : s0.size + s1.size ≤ 9223372036854775807 := by have := HZ1.out; rw [hs0]; omega
      have HS00 := Lib.hid hs0
      clear hs0
      have HS1 := HS0.trans j2
      refine ⟨HS1, ?_⟩
      simp only [List.setIfInBounds_toArray, List.set]
      refine held_take (i := 9) (v := .string (s0 ++ s1)) rfl rfl (by kernel_rfl) (by kernel_rfl) (by kernel_rfl) (fun _ _ _ h => h) (Or.inl ⟨by rfl, fun w _ => by go_simp⟩) HS1 ?_
      simp only [List.setIfInBounds_toArray, List.set]
      refine held_pure (i := 10) (v := (.string (s0 ++ s1))) rfl rfl (by kernel_rfl) (by kernel_rfl) (by kernel_rfl) (fun _ _ _ h => h) (Or.inl ⟨by rfl, fun w => by go_simp⟩) HS1 ?_
      simp only [List.setIfInBounds_toArray, List.set]
      refine wpAnyH_done (by kernel_rfl) ?_ _
      clear HS0
      go_wp2_with fail
      go_ret
      exact ⟨_, rfl, _, rfl, HFIN.out s0 HS00.out, HS1⟩
end Go.Proofs.YtnppjkekbdapkaaDoor
