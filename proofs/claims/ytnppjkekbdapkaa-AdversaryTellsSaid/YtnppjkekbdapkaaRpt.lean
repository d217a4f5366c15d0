/-
  The reference: put.
-/
import Derived.Test.YtnppjkekbdapkaaApp
set_option linter.unusedVariables false
namespace Go.Proofs.Ytnppjkekbdapkaa
open Go.RowKit

def plF (n : Int) (s : List Int × Bool) (x : Int) : List Int × Bool := if s.2 = false ∧ ¬ x = n ∧ n < x then (s.1 ++ [n] ++ [x], true) else (s.1 ++ [x], s.2 || decide (x = n))
def plS (n : Int) (ls : List Int) : List Int × Bool := ls.foldl (plF n) ([], false)
def putL (ls : List Int) (n : Int) : List Int := if (plS n ls).2 = true then (plS n ls).1 else (plS n ls).1 ++ [n]
theorem plS_snoc (n : Int) (ls : List Int) (x : Int) : plS n (ls ++ [x]) = plF n (plS n ls) x := by simp [plS]
theorem plS_len (n : Int) (ls : List Int) : (plS n ls).1.length ≤ ls.length + (if (plS n ls).2 = true then 1 else 0) := by
  induction ls using snoc_ind with
  | h0 => simp [plS]
  | h1 ls x ih =>
    rw [plS_snoc, plF]
    split
    · rename_i h
      rw [h.1] at ih
      simp at ih ⊢
      omega
    · cases hd : (plS n ls).2
      · rw [hd] at ih
        simp at ih ⊢
        omega
      · rw [hd] at ih
        simp at ih ⊢
        omega
structure PL (n : Int) (p : List Int) (s : List Int × Bool) : Prop where
  no : s.2 = false → s.1 = p ∧ ∀ x ∈ p, x < n
  yes : s.2 = true → s.1.Pairwise (· < ·) ∧ (∀ x, x ∈ s.1 ↔ x ∈ p ∨ x = n) ∧ ∃ y ∈ p, n ≤ y
theorem pl_all {n : Int} {p : List Int} (hp : p.Pairwise (· < ·)) : PL n p (plS n p) := by
  induction p using snoc_ind with
  | h0 => exact ⟨fun _ => ⟨rfl, by simp⟩, fun h => by simp [plS] at h⟩
  | h1 p x ih =>
    obtain ⟨hp1, _, hp2⟩ := List.pairwise_append.1 hp
    have ih' := ih hp1
    have hx : ∀ y ∈ p, y < x := fun y hy => hp2 y hy x (by simp)
    rw [plS_snoc, plF]
    cases hd : (plS n p).2
    · obtain ⟨e, hl⟩ := ih'.no hd
      by_cases hn : n < x
      · rw [if_pos ⟨rfl, by omega, hn⟩]
        refine ⟨(fun h => by cases h), fun _ => ⟨?_, ?_, x, by simp, by omega⟩⟩
        · dsimp only
          rw [e]
          refine List.pairwise_append.2 ⟨List.pairwise_append.2 ⟨hp1, by simp, fun a ha b hb => ?_⟩, by simp, fun a ha b hb => ?_⟩
          · simp at hb
            rw [hb]
            exact hl a ha
          · simp at hb ha
            rw [hb]
            rcases ha with ha | rfl
            · exact hx a ha
            · exact hn
        · intro z
          dsimp only
          rw [e]
          simp
          constructor
          · rintro (h | h | h)
            · exact .inl (.inl h)
            · exact .inr h
            · exact .inl (.inr h)
          · rintro ((h | h) | h)
            · exact .inl h
            · exact .inr (.inr h)
            · exact .inr (.inl h)
      · rw [if_neg (by omega)]
        by_cases hxn : x = n
        · subst hxn
          refine ⟨fun h => by simp at h, fun _ => ⟨?_, ?_, x, by simp, Int.le_refl _⟩⟩
          · dsimp only
            rw [e]
            exact hp
          · intro z
            dsimp only
            rw [e]
            simp
        · refine ⟨fun _ => ⟨by rw [e], ?_⟩, fun h => by simp [hxn] at h⟩
          intro z hz
          simp at hz
          rcases hz with hz | rfl
          · exact hl z hz
          · omega
    · obtain ⟨h1, h2, y, hy, hny⟩ := ih'.yes hd
      have hyx := hx y hy
      rw [if_neg (by simp)]
      refine ⟨fun h => by simp at h, fun _ => ⟨?_, ?_, y, by simp [hy], hny⟩⟩
      · dsimp only
        refine List.pairwise_append.2 ⟨h1, by simp, fun a ha b hb => ?_⟩
        simp at hb
        rw [hb]
        rcases (h2 a).1 ha with ha | rfl
        · exact hx a ha
        · omega
      · intro z
        dsimp only
        rw [List.mem_append, h2 z]
        simp
        constructor
        · rintro ((h | h) | h)
          · exact .inl (.inl h)
          · exact .inr h
          · exact .inl (.inr h)
        · rintro ((h | h) | h)
          · exact .inl (.inl h)
          · exact .inr h
          · exact .inl (.inr h)
theorem put_rise (zs : List Int) (a : Int) : putL (rise zs) a = rise (zs ++ [a]) := by
  have hr := rise_props zs
  have hs := rise_props (zs ++ [a])
  have hp := pl_all (n := a) hr.2
  have key : (putL (rise zs) a).Pairwise (· < ·) ∧ ∀ x, x ∈ putL (rise zs) a ↔ x ∈ rise zs ∨ x = a := by
    unfold putL
    cases hd : (plS a (rise zs)).2
    · obtain ⟨e, hl⟩ := hp.no hd
      rw [if_neg (by simp), e]
      refine ⟨List.pairwise_append.2 ⟨hr.2, by simp, fun x hx y hy => ?_⟩, fun x => by simp⟩
      simp at hy
      rw [hy]
      exact hl x hx
    · obtain ⟨h1, h2, _⟩ := hp.yes hd
      rw [if_pos rfl]
      exact ⟨h1, h2⟩
  refine lt_ext key.1 hs.2 fun x => ?_
  rw [key.2 x, hs.1 x, hr.1 x, List.mem_append, List.mem_singleton]

set_option maxHeartbeats 8000000 in
theorem put_any (ls : List Int) (n : Int) (v : Value) (w : World) (hl : IL w v ls) (hn : ls.length ≤ 10000) : Calls Try.prog 32 #[v, .int .i64 n] w fun e w' => ∃ v', e = .returned v' ∧ FL w' w.heap.size v' (putL ls n) ∧ Only (fun _ => False) w w' := by
  have HL := Lib.hid hl
  obtain ⟨ad, cap, rfl, hc1, hc2⟩ := hl.val
  clear hl
  have hb0 := build_0 w
  have HF0 := Lib.hid (FL.new w w.heap.size (Nat.le_refl _))
  have HV0 : Hid (Only (fun _ => False) w (w.alloc (.cells #[] 3))) := (Only.refl _ _).alloc _
  generalize w.alloc (.cells #[] 3) = V0 at *
  have HB0 := Lib.hid hb0
  clear hb0
  go_enter Try.func32, Try.ntmps32
  go_wp2_with ((with_reducible refine wpList_bs_g ?_ 23 0 #[] ?_ [] ?_ _ HB0.out ?_); rfl; rfl; rfl)
  go_loopg [5, 6, 7] ls.length (fun gg ov dv i wr => ∃ (k : Nat) (d : Bool), k ≤ ls.length ∧ gg = ls.length - k ∧ i = .int .i64 k ∧ dv = .bool d ∧ Hid ((plS n (ls.take k)).2 = d) ∧ Hid (FL wr w.heap.size ov (plS n (ls.take k)).1) ∧ Hid (Only (fun _ => False) w wr))
  case atStart => exact ⟨0, false, by omega, by omega, rfl, rfl, rfl, HF0.out, HV0.out⟩
  case round =>
    clear HF0 HV0 HB0
    revert wr
    intro wa hrel
    obtain ⟨k, d, hk, hgk, rfl, rfl, hD, hS, hO⟩ := hrel
    have hsl := plS_len n (ls.take k)
    rw [List.length_take] at hsl
    have hsl2 : (plS n (ls.take k)).1.length ≤ 20000 := by split at hsl <;> omega
    clear hsl
    by_cases hlt : k < ls.length
    · have hlt' : (k : Int) < (ls.length : Int) := by omega
      obtain ⟨gb, go, gc, he, _, _, hc⟩ := (HL.out.keep hO.out).at hlt
      cases he
      have HX : Hid (ls[k]? = some ls[k]) := List.getElem?_eq_getElem hlt
      generalize ls[k] = x at *
      have HN : Hid (plS n (ls.take (k + 1)) = plF n (plS n (ls.take k)) x) := by
        rw [List.take_add_one, HX.out]
        exact plS_snoc _ _ _
      obtain ⟨o, ho⟩ : ∃ o, (plS n (ls.take k)).1 = o := ⟨_, rfl⟩
      rw [ho] at hS hsl2
      have HP : Hid (plS n (ls.take k) = (o, d)) := by rw [← ho, ← hD.out]; exact rfl
      clear ho
      by_cases hins : d = false ∧ ¬ x = n ∧ n < x
      · obtain ⟨rfl, hxn, hnx⟩ := hins
        have hxn' : ((x : Int) == n) = false := by rw [beq_eq_false_iff_ne]; exact hxn
        have HE : Hid (plS n (ls.take (k + 1)) = (o ++ [n] ++ [x], true)) := by
          rw [HN.out, HP.out, plF, if_pos ⟨rfl, hxn, hnx⟩]
          exact rfl
        obtain ⟨v2, W2, V2, hb2, hr2, hf2, ho2⟩ := snoc_int hS.out hO.out.size n (by omega)
        have ho2' := fresh_only hO.out ho2 (fun q hq => hq)
        obtain ⟨v4, W4, V4, hb4, hr4, hf4, ho4⟩ := snoc_int hf2 ho2'.size x (by simp; omega)
        have HO4 := Lib.hid (fresh_only ho2' ho4 (fun q hq => hq))
        have HI2 := HL.out.keep ho2'
        obtain ⟨gb2, go2, gc2, he2, _, _, hc2'⟩ := HI2.at hlt
        cases he2
        have hxx : ls[k] = x := by
          have := HX.out
          rw [List.getElem?_eq_getElem hlt] at this
          exact Option.some.inj this
        rw [hxx] at hc2'
        have HF4 : Hid (FL V4 w.heap.size v4 (plS n (ls.take (k + 1))).1) := by rw [HE.out]; exact hf4
        have HD4 : Hid ((plS n (ls.take (k + 1))).2 = true) := by rw [HE.out]; rfl
        have HB2 := Lib.hid hb2
        have HR2 := Lib.hid hr2
        have HB4 := Lib.hid hb4
        have HR4 := Lib.hid hr4
        clear hb2 hr2 hf2 ho2 ho2' hb4 hr4 hf4 ho4 HI2 hxx hxn
        go_wp2_with (first | ((with_reducible refine wpList_bs_g ?_ 23 1 #[(0, .tmp 32)] ?_ [(0, .int .i64 n)] ?_ _ HB2.out ?_); rfl; rfl; rfl) | (at_builtin; ((with_reducible refine wpList_app_g ?_ (.tmp 31) (.tmp 33) 23 ?_ _ _ _ ?_ ?_ HR2.out ?_); rfl; rfl; rfl; rfl)) | ((with_reducible refine wpList_bs_g ?_ 23 1 #[(0, .tmp 39)] ?_ [(0, .int .i64 x)] ?_ _ HB4.out ?_); rfl; rfl; rfl) | (at_builtin; ((with_reducible refine wpList_app_g ?_ (.tmp 35) (.tmp 40) 23 ?_ _ _ _ ?_ ?_ HR4.out ?_); rfl; rfl; rfl; rfl)))
        go_roundg (ls.length - (k + 1))
        case measure => omega
        case rel => exact ⟨k + 1, true, by omega, by omega, by go_num, rfl, HD4.out, HF4.out, HO4.out⟩
      · have HE : Hid (plS n (ls.take (k + 1)) = (o ++ [x], d || decide (x = n))) := by
          rw [HN.out, HP.out, plF, if_neg hins]
          exact rfl
        obtain ⟨v4, W4, V4, hb4, hr4, hf4, ho4⟩ := snoc_int hS.out hO.out.size x (by omega)
        have HO4 := Lib.hid (fresh_only hO.out ho4 (fun q hq => hq))
        have HF4 : Hid (FL V4 w.heap.size v4 (plS n (ls.take (k + 1))).1) := by rw [HE.out]; exact hf4
        have HB4 := Lib.hid hb4
        have HR4 := Lib.hid hr4
        clear hb4 hr4 hf4 ho4
        by_cases hxn : x = n
        · subst hxn
          have HD4 : Hid ((plS x (ls.take (k + 1))).2 = true) := show _ = _ by rw [HE.out]; simp
          clear hins
          go_wp2_with (first | ((with_reducible refine wpList_bs_g ?_ 23 1 #[(0, .tmp 39)] ?_ [(0, .int .i64 x)] ?_ _ HB4.out ?_); rfl; rfl; rfl) | (at_builtin; ((with_reducible refine wpList_app_g ?_ (.tmp 35) (.tmp 40) 23 ?_ _ _ _ ?_ ?_ HR4.out ?_); rfl; rfl; rfl; rfl)))
          go_roundg (ls.length - (k + 1))
          case measure => omega
          case rel => exact ⟨k + 1, true, by omega, by omega, by go_num, rfl, HD4.out, HF4.out, HO4.out⟩
        · have hxn' : ((x : Int) == n) = false := by rw [beq_eq_false_iff_ne]; exact hxn
          have HD4 : Hid ((plS n (ls.take (k + 1))).2 = d) := show _ = _ by rw [HE.out]; simp [hxn]
          cases d
          · have hnx : ¬ n < x := fun h => hins ⟨rfl, hxn, h⟩
            clear hins hxn
            go_wp2_with (first | ((with_reducible refine wpList_bs_g ?_ 23 1 #[(0, .tmp 39)] ?_ [(0, .int .i64 x)] ?_ _ HB4.out ?_); rfl; rfl; rfl) | (at_builtin; ((with_reducible refine wpList_app_g ?_ (.tmp 35) (.tmp 40) 23 ?_ _ _ _ ?_ ?_ HR4.out ?_); rfl; rfl; rfl; rfl)))
            go_roundg (ls.length - (k + 1))
            case measure => omega
            case rel => exact ⟨k + 1, false, by omega, by omega, by go_num, rfl, HD4.out, HF4.out, HO4.out⟩
          · clear hins hxn
            go_wp2_with (first | ((with_reducible refine wpList_bs_g ?_ 23 1 #[(0, .tmp 39)] ?_ [(0, .int .i64 x)] ?_ _ HB4.out ?_); rfl; rfl; rfl) | (at_builtin; ((with_reducible refine wpList_app_g ?_ (.tmp 35) (.tmp 40) 23 ?_ _ _ _ ?_ ?_ HR4.out ?_); rfl; rfl; rfl; rfl)))
            go_roundg (ls.length - (k + 1))
            case measure => omega
            case rel => exact ⟨k + 1, true, by omega, by omega, by go_num, rfl, HD4.out, HF4.out, HO4.out⟩
    · obtain rfl : k = ls.length := by omega
      rw [List.take_length] at hS hD hsl2
      cases d
      · have HPU : Hid (putL ls n = (plS n ls).1 ++ [n]) := by unfold putL; rw [if_neg (by rw [hD.out]; simp)]; rfl
        obtain ⟨v4, W4, V4, hb4, hr4, hf4, ho4⟩ := snoc_int hS.out hO.out.size n (by omega)
        have HO4 := Lib.hid (fresh_only hO.out ho4 (fun q hq => hq))
        have HF4 : Hid (FL V4 w.heap.size v4 (putL ls n)) := by rw [HPU.out]; exact hf4
        have HB4 := Lib.hid hb4
        have HR4 := Lib.hid hr4
        clear hb4 hr4 hf4 ho4
        go_wp2_with (first | ((with_reducible refine wpList_bs_g ?_ 23 1 #[(0, .tmp 45)] ?_ [(0, .int .i64 n)] ?_ _ HB4.out ?_); rfl; rfl; rfl) | (at_builtin; ((with_reducible refine wpList_app_g ?_ (.tmp 44) (.tmp 46) 23 ?_ _ _ _ ?_ ?_ HR4.out ?_); rfl; rfl; rfl; rfl)))
        go_ret
        exact ⟨_, rfl, HF4.out, HO4.out⟩
      · have HPU : Hid (putL ls n = (plS n ls).1) := by unfold putL; rw [if_pos hD.out]; rfl
        go_wp2_with fail
        go_ret
        exact ⟨_, rfl, by rw [HPU.out]; exact hS.out, hO.out⟩
end Go.Proofs.Ytnppjkekbdapkaa
