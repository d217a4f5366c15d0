/-
  A term is longer than each of its parts; atoms and keys have as many bytes as their digits, and one: for every input.
-/
import Derived.Test.YtnppjkekbdapkaaDoorTxt
set_option linter.unusedVariables false
namespace Go.Proofs.YtnppjkekbdapkaaDoor
open Go.RowKit

theorem dec_ge {n k : Nat} (h : 10 ^ k ≤ n) : k + 1 ≤ (Lib.decDigits n).length := by
  induction k generalizing n with
  | zero =>
    rw [Lib.decDigits]
    split <;> simp
  | succ k ih =>
    rw [Nat.pow_succ] at h
    have h1 : 1 ≤ 10 ^ k := Nat.one_le_pow _ _ (by omega)
    have := ih (n := n / 10) (by omega)
    rw [Lib.decDigits, dif_neg (by omega)]
    simp
    omega
theorem size_made {l : List Nd} (hm : mayB l = true) {g : Nat} {x : Nd} (h : l[g]? = some x) (ho : x.op = 2 ∨ x.op = 3) : szN l g = 1000000000 ∨ szN l x.a.toNat < szN l g ∧ szN l x.b.toNat < szN l g := by
  have hg := (List.getElem?_eq_some_iff.1 h).1
  obtain ⟨⟨a0, a1⟩, b0, b1⟩ := may_made hm h ho
  have ra := sz_range hm (show x.a.toNat < l.length by omega)
  have rb := sz_range hm (show x.b.toNat < l.length by omega)
  have e : szN l g = min 1000000000 (szN l x.a.toNat + szN l x.b.toNat + 2 + (if x.op = 2 then 1 else 0)) := by
    unfold szN
    rw [valN_made gsz 0 l hm h ho]
    exact if_pos ho
  rw [e]
  split <;> omega
theorem size_at {l : List Nd} (hm : mayB l = true) {i : Int} (h0 : 0 ≤ i) (h1 : i < (l.length : Int)) : sizeB l i = szN l i.toNat := by
  refine sizeB_yes ?_
  unfold placeB
  rw [decide_eq_true ⟨h0, h1⟩, hm]
  rfl
set_option maxHeartbeats 8000000 in
theorem termSizes_walk (w : World) (a0 : Option Addr) (len0 cap0 : Nat) (l : List Nd) (hl : NdRow w a0 len0 cap0 l) (n : Int) (hn : (Lit.int .u8 n).wf = true) (htab : Pow10 w) :
    Calls Tryd.prog 3 #[.slice a0 len0 cap0, .int .u8 n] w fun e w' => e = .returned (.bool true) ∧ Below w.heap.size w w' := by
  obtain ⟨hl1, rfl, hwf⟩ := hl
  have h1 : 0 ≤ n ∧ n ≤ 255 := by
    simp [Lit.wf, IntKind.min, IntKind.max, IntKind.signed, IntKind.bits] at hn
    omega
  clear hn
  have HL := Lib.hid hl1
  have HT := Lib.hid htab
  clear hl1 hwf htab
  have HSH : Hid (∀ W, Only (fun _ => False) w W → Calls Tryd.prog 8 #[] W fun e w' => e = .returned (.bool true) ∧ Only (fun _ => False) W w') := fun W o => shown_any W (HT.out.keep o)
  have HS0 := Lib.hid (HSH.out w (Only.refl _ w))
  have e1 : IntKind.i64.wrap n = n := IntWalk.i64_in _ (by omega)
  by_cases g1 : 60 < l.length
  · have g1' : (60 : Int) < (l.length : Int) := by omega
    go_enter Tryd.func3, Tryd.ntmps3
    go_wp2_with (go_at_call 8; refine HS0.out.mono ?_; rintro e w1 ⟨rfl, h1⟩)
    go_ret
    exact ⟨rfl, h1.below (fun _ h => h.elim)⟩
  have g1' : ¬ (60 : Int) < (l.length : Int) := by omega
  have HM0 := Lib.hid (may_any l _ w HL.out (by omega))
  cases hm : mayB l
  · rw [hm] at HM0
    clear hm
    go_enter Tryd.func3, Tryd.ntmps3
    go_wp2_with (first | (go_at_call 7; (with_reducible refine HM0.out.mono ?_); rintro e w1 ⟨rfl, h1⟩; have HS1 := Lib.hid (HSH.out w1 (Only.of_below h1))) | (go_at_call 8; (with_reducible refine HS1.out.mono ?_); rintro e w2 ⟨rfl, h2⟩))
    go_ret
    exact ⟨rfl, ((Only.of_below (S := fun _ => False) h1).trans h2).below (fun _ h => h.elim)⟩
  have HMB := Lib.hid hm
  rw [hm] at HM0
  clear hm
  by_cases g3 : l.length = 0
  · have g3' : ((l.length : Int) == 0) = true := by simp [g3]
    clear g3
    go_enter Tryd.func3, Tryd.ntmps3
    go_wp2_with (first | (go_at_call 7; (with_reducible refine HM0.out.mono ?_); rintro e w1 ⟨rfl, h1⟩; have HS1 := Lib.hid (HSH.out w1 (Only.of_below h1))) | (go_at_call 8; (with_reducible refine HS1.out.mono ?_); rintro e w2 ⟨rfl, h2⟩))
    go_ret
    exact ⟨rfl, ((Only.of_below (S := fun _ => False) h1).trans h2).below (fun _ h => h.elim)⟩
  have g3' : ((l.length : Int) == 0) = false := by rw [beq_eq_false_iff_ne]; omega
  have g4 : ¬ (l.length : Int) = 0 := by omega
  obtain ⟨g, hgd⟩ : ∃ g : Nat, (g : Int) = n % (l.length : Int) := by
    obtain ⟨N, rfl⟩ := Int.eq_ofNat_of_zero_le h1.1
    exact ⟨N % l.length, by simp⟩
  have hg1 : g < l.length := by
    have := Int.emod_lt_of_pos n (show (0 : Int) < (l.length : Int) by omega)
    omega
  have hg1' : (g : Int) < (l.length : Int) := by omega
  have HGD := Lib.hid hgd
  clear hgd
  obtain ⟨hz, hsz⟩ : ∃ z, szN l g = z := ⟨_, rfl⟩
  have HSZ := Lib.hid hsz
  have HSV : Hid (sizeB l (g : Int) = hz) := by
    show sizeB l (g : Int) = hz
    rw [size_at HMB.out (by omega) hg1']
    exact hsz
  clear hsz
  go_enter Tryd.func3, Tryd.ntmps3
  go_upto_region 4 with (first | (go_at_call 7; (with_reducible refine HM0.out.mono ?_); rintro e w1 ⟨rfl, h1⟩; have HS1 := Lib.hid (HSH.out w1 (Only.of_below h1))) | (go_at_call 8; (with_reducible refine HS1.out.mono ?_); rintro e w2 ⟨rfl, h2⟩))
  have HO2 := Lib.hid ((Only.of_below (S := fun _ => False) h1).trans h2)
  clear h1 h2 HM0 HS1 HS0
  rw [← HGD.out]
  have HC4 : Hid (Calls Tryd.prog 9 #[.slice a0 l.length cap0, .int .i64 (g : Int)] w2 fun e w' => e = .returned (.int .i64 hz) ∧ Only (fun _ => False) w2 w') := by
    have := size_any l (g : Int) _ w2 (HL.out.keep HO2.out) (by omega) (by rw [wf64_iff]; omega) (HT.out.keep HO2.out)
    rw [HSV.out] at this
    exact this
  go_upto_region 5 with (go_at_call 9; (with_reducible refine HC4.out.mono ?_); rintro e w3 ⟨rfl, h3⟩)
  have HO3 := Lib.hid (HO2.out.trans h3)
  obtain ⟨gb, go, gc, he, hgc, _, _, _, _, hld⟩ := (HL.out.keep HO3.out).at hg1
  cases he
  have HX : Hid (l[g]? = some l[g]) := List.getElem?_eq_getElem hg1
  generalize l[g] = x at *
  obtain ⟨op, a, b⟩ := x
  have HLD : Hid ((loadVar 27 ⟨gb, go + g * 3, none⟩).run Tryd.prog w3 = .ok (.agg #[.int .i64 op, .int .i64 a, .int .i64 b]) w3) := hld
  clear hld h3 HC4
  have hos := (op_small HMB.out HX.out).1
  dsimp only at hos
  go_upto_region 6 with (((with_reducible refine wpList_load_at ?_ 27 (.tmp 38) ?_ _ ?_ _ HLD.out ?_); rfl; rfl; rfl))
  obtain ⟨X, hX⟩ : ∃ X, X = w3.alloc (.cells #[.int .i64 op, .int .i64 a, .int .i64 b] 27) := ⟨_, rfl⟩
  have hO1 : Only (fun _ => False) w3 X := by rw [hX]; exact (Only.refl _ _).alloc _
  have hgx : X.heap[w3.heap.size]? = some (.cells #[.int .i64 op, .int .i64 a, .int .i64 b] 27 (0, 0)) := by rw [hX]; exact heap_alloc_new _ _
  have HOX := Lib.hid (HO3.out.trans hO1)
  rw [← hX]
  have q0 : X.cell? ⟨w3.heap.size, 0, none⟩ = some (.int .i64 op) := cell_of_row _ _ _ _ _ _ hgx
  have q1 : X.cell? ⟨w3.heap.size, 1, none⟩ = some (.int .i64 a) := cell_of_row _ _ _ _ _ _ hgx
  have q2 : X.cell? ⟨w3.heap.size, 2, none⟩ = some (.int .i64 b) := cell_of_row _ _ _ _ _ _ hgx
  have HGX := Lib.hid hgx
  clear hX hO1 hgx
  by_cases ho : op = 2 ∨ op = 3
  · obtain ⟨⟨xa0, xa1⟩, xb0, xb1⟩ := may_made HMB.out HX.out ho
    dsimp only at xa0 xa1 xb0 xb1
    obtain ⟨A, rfl⟩ := Int.eq_ofNat_of_zero_le xa0
    obtain ⟨B, rfl⟩ := Int.eq_ofNat_of_zero_le xb0
    have hmd := size_made HMB.out HX.out ho
    rw [HSZ.out] at hmd
    obtain ⟨sA, hsA⟩ : ∃ z, szN l A = z := ⟨_, rfl⟩
    obtain ⟨sB, hsB⟩ : ∃ z, szN l B = z := ⟨_, rfl⟩
    have hmd' : hz = 1000000000 ∨ sA < hz ∧ sB < hz := by rw [← hsA, ← hsB]; exact hmd
    have HCA : Hid (∀ W, Only (fun _ => False) w W → Calls Tryd.prog 9 #[.slice (some ⟨gb, go, none⟩) l.length cap0, .int .i64 (A : Int)] W fun e w' => e = .returned (.int .i64 sA) ∧ Only (fun _ => False) W w') := fun W o => by
      have := size_any l (A : Int) _ W (HL.out.keep o) (by omega) (by rw [wf64_iff]; omega) (HT.out.keep o)
      rw [size_at HMB.out (by omega) (by omega), Int.toNat_natCast, hsA] at this
      exact this
    have HCB : Hid (∀ W, Only (fun _ => False) w W → Calls Tryd.prog 9 #[.slice (some ⟨gb, go, none⟩) l.length cap0, .int .i64 (B : Int)] W fun e w' => e = .returned (.int .i64 sB) ∧ Only (fun _ => False) W w') := fun W o => by
      have := size_any l (B : Int) _ W (HL.out.keep o) (by omega) (by rw [wf64_iff]; omega) (HT.out.keep o)
      rw [size_at HMB.out (by omega) (by omega), Int.toNat_natCast, hsB] at this
      exact this
    have HCA' := Lib.hid (HCA.out X HOX.out)
    clear hmd hsA hsB HCA
    have ho2 : ¬ op < 2 := by omega
    by_cases c1 : sA < hz
    · by_cases c2 : sB < hz
      · go_wp2_with (first | (go_at_call 9; (with_reducible refine HCA'.out.mono ?_); rintro e w4 ⟨rfl, k4⟩; have HCB' := Lib.hid (HCB.out w4 (HOX.out.trans k4)); have q2' := cell_of_row _ _ 2 _ _ _ (keepRow k4 HGX.out (fun x => x)); simp at q2') | (go_at_call 9; (with_reducible refine HCB'.out.mono ?_); rintro e w5 ⟨rfl, k5⟩))
        go_ret
        exact ⟨rfl, ((HOX.out.trans k4).trans k5).below (fun _ h => h.elim)⟩
      · obtain rfl : hz = 1000000000 := by omega
        go_wp2_with (first | (go_at_call 9; (with_reducible refine HCA'.out.mono ?_); rintro e w4 ⟨rfl, k4⟩; have HCB' := Lib.hid (HCB.out w4 (HOX.out.trans k4)); have q2' := cell_of_row _ _ 2 _ _ _ (keepRow k4 HGX.out (fun x => x)); simp at q2') | (go_at_call 9; (with_reducible refine HCB'.out.mono ?_); rintro e w5 ⟨rfl, k5⟩))
        go_ret
        exact ⟨rfl, ((HOX.out.trans k4).trans k5).below (fun _ h => h.elim)⟩
    · obtain rfl : hz = 1000000000 := by omega
      go_wp2_with (first | (go_at_call 9; (with_reducible refine HCA'.out.mono ?_); rintro e w4 ⟨rfl, k4⟩))
      go_ret
      exact ⟨rfl, (HOX.out.trans k4).below (fun _ h => h.elim)⟩
  · have ho2 : op < 2 := by omega
    obtain ⟨h01, n0, n1, _⟩ := leaf_num HMB.out HX.out ho
    dsimp only at n0 n1 h01
    obtain ⟨A, rfl⟩ := Int.eq_ofNat_of_zero_le n0
    have hval : hz = 1 + ((Lib.decDigits A).length : Int) := by
      rw [← HSZ.out]
      unfold szN
      rw [valN_at _ _ l HX.out]
      unfold gsz
      rw [if_neg ho]
      show 1 + ((Lib.itoa (A : Int)).length : Int) = _
      rw [itoa_dec n0, Int.toNat_natCast]
    have HV := Lib.hid hval
    have HO0 := Lib.hid (Only.refl (fun _ => False) X)
    clear hval ho h01 hos
    go_wp2_with fail
    go_loopg [8, 9] 8 (fun gg dv kv wr => ∃ (t p : Nat), t ≤ 6 ∧ gg = 8 - t ∧ dv = .int .i64 ((t : Int) + 2) ∧ kv = .int .i64 (p : Int) ∧ p ≤ 10000000 ∧ 1 ≤ p ∧ Hid (p = 10 ^ (t + 1)) ∧ Hid (t = 0 ∨ 10 ^ t ≤ A) ∧ wr = X)
    case atStart => exact ⟨0, 10, by omega, by omega, rfl, rfl, by omega, by omega, rfl, .inl rfl, rfl⟩
    case round =>
      revert wr
      intro wa hrel
      obtain ⟨t, p, ht, hgk, rfl, rfl, hp, hp1, hpt, hta, rfl⟩ := hrel
      by_cases hc : (p : Int) ≤ (A : Int)
      · have hw1 : IntKind.i64.wrap ((p : Int) * 10) = ((p * 10 : Nat) : Int) := by rw [IntKind.wrap_i64]; omega
        have HP2 : Hid (p * 10 = 10 ^ (t + 1 + 1)) := show _ = _ by rw [Nat.pow_succ, ← hpt.out]
        have HTA2 : Hid (t + 1 = 0 ∨ 10 ^ (t + 1) ≤ A) := by refine .inr ?_; rw [← hpt.out]; omega
        have ht6 : t + 1 ≤ 6 := by
          rcases Nat.lt_or_ge t 6 with h | h
          · omega
          · exfalso
            have h7 : (10 : Nat) ^ 7 ≤ 10 ^ (t + 1) := Nat.pow_le_pow_right (by omega) (by omega)
            have := hpt.out
            omega
        have hw2 : IntKind.i64.wrap ((t : Int) + 2 + 1) = (t : Int) + 2 + 1 := by rw [IntKind.wrap_i64]; omega
        go_wp2_with fail
        go_roundg (8 - (t + 1))
        case measure => omega
        case rel => exact ⟨t + 1, p * 10, by omega, by omega, by go_num, by first | rfl | go_num, by omega, by omega, HP2.out, HTA2.out, rfl⟩
      · have hlt : A < p := by omega
        have h2 := dec_len (n := A) (k := t) (by rw [← hpt.out]; exact hlt)
        have h3 : t + 1 ≤ (Lib.decDigits A).length := by
          rcases hta.out with rfl | h
          · exact h2.1
          · exact dec_ge h
        have hv2 : (t : Int) + 2 = hz := by rw [HV.out]; omega
        obtain rfl := hv2
        clear h2 h3
        go_wp2_with fail
        go_ret
        exact ⟨rfl, HOX.out.below (fun _ h => h.elim)⟩
end Go.Proofs.YtnppjkekbdapkaaDoor
