/-
  TakeList, the program's and the reference's: the same answers, told by a plain function.
-/
import Derived.Test.YtkflodclakngfaaLst
set_option linter.unusedVariables false
namespace Go.Proofs.Ytkflodclakngfaa
open Go.RowKit

structure TL where
  l : List ByteArray
  r : ByteArray
  e : Int

/-- So many texts, that stand at a text's beginning, behind those that are taken. -/
def tlGo : Nat → ByteArray → List ByteArray → TL
  | 0, r, acc => ⟨acc, r, 0⟩
  | n + 1, r, acc => if ttE r = 0 then tlGo n (ttR r) (acc ++ [ttX r]) else ⟨[], ⟨#[]⟩, ttE r⟩
def tl (s : ByteArray) : TL := if s.size < 1 then ⟨[], ⟨#[]⟩, 10⟩ else tlGo (leNum (s.data.toList.take 1)) (s.extract 1 s.size) []

theorem info9 : (Try.prog.info? 9).map (fun i => (i.zero, i.size, i.bytes)) = some (some (.string ⟨#[]⟩), 1, 16) := by kernel_rfl

theorem SRow_of_own {w : World} {B n : Nat} {v : Value} {l : List ByteArray} (h : w.ownsRow B 9 1 v n (l.map Value.string)) (hs : ∀ s ∈ l, s.size ≤ 9223372036854775807) : SRow w v l := by
  have hn : l.length = n := by have := h.1; simpa using this
  rcases h.2 with ⟨rfl, rfl⟩ | ⟨g, cap, cur, rfl, hg, hh, _⟩
  · obtain rfl : l = [] := List.eq_nil_of_length_eq_zero hn
    exact ⟨none, 0, rfl, hs, by simp⟩
  · refine ⟨_, cap, by rw [hn], hs, fun i s hi => ⟨g, 0, rfl, lt_of_heap hh, ?_⟩⟩
    have := h.cells (g := g) rfl i (.string s) (by simp [hi])
    have ea : (⟨g, 0, none⟩ : Addr).add i = ⟨g, 0 + i, none⟩ := by unfold Addr.add; split <;> simp_all
    rwa [ea] at this

theorem ttE_vals (s : ByteArray) : ttE s = 0 ∨ ttE s = 10 ∨ ttE s = 11 := by
  unfold ttE tcE
  repeat' split
  all_goals simp

theorem ttX_size (s : ByteArray) : (ttX s).size ≤ 1000 := by
  unfold ttX tcX
  split
  · exact Nat.zero_le _
  · split
    · rename_i h1 h2
      have : ¬ 1000 < ttN s := fun h => by rw [tcE, if_pos h] at h2; omega
      rw [ByteArray.size_extract]; omega
    · exact Nat.zero_le _

theorem ttR_size (s : ByteArray) : (ttR s).size ≤ s.size := by
  unfold ttR tcR
  split
  · exact Nat.zero_le _
  · split
    · rw [ByteArray.size_extract, ByteArray.size_extract]; omega
    · exact Nat.zero_le _

/-- What a call hands back: a list, the rest, an error. -/
def GivesTL (x : TL) (w : World) (e : Ending) (w' : World) : Prop :=
  ∃ v, e = .returned (.tuple #[v, .string x.r, .int .i64 x.e]) ∧ SRow w' v x.l ∧ Below w.heap.size w w'

theorem tlGo_err {n : Nat} {r : ByteArray} {acc : List ByteArray} (h : 0 < n) (he : ttE r ≠ 0) : tlGo n r acc = ⟨[], ⟨#[]⟩, ttE r⟩ := by
  obtain ⟨m, rfl⟩ : ∃ m, n = m + 1 := ⟨n - 1, by omega⟩
  rw [tlGo, if_neg he]
theorem tlGo_next {n : Nat} {r : ByteArray} {acc : List ByteArray} (h : 0 < n) (he : ttE r = 0) : tlGo n r acc = tlGo (n - 1) (ttR r) (acc ++ [ttX r]) := by
  obtain ⟨m, rfl⟩ : ∃ m, n = m + 1 := ⟨n - 1, by omega⟩
  rw [tlGo, if_pos he]; rfl

theorem taketext_ok (s : ByteArray) (w : World) (hs : s.size ≤ 140737488351232) (h : ttE s = 0) :
    Calls Try.prog 18 #[.string s] w fun e w' => e = .returned (.tuple #[.string (ttX s), .string (ttR s), .int .i64 0]) ∧ Below w.heap.size w w' :=
  (taketext_any s w hs).mono fun e w' ⟨he, hb⟩ => ⟨by rw [he, v3, h], hb⟩
theorem rtaketext_ok (s : ByteArray) (w : World) (hs : s.size ≤ 140737488351232) (h : ttE s = 0) :
    Calls Try.prog 19 #[.string s] w fun e w' => e = .returned (.tuple #[.string (ttX s), .string (ttR s), .int .i64 0]) ∧ Below w.heap.size w w' :=
  (rtaketext_any s w hs).mono fun e w' ⟨he, hb⟩ => ⟨by rw [he, v3, h], hb⟩

theorem one_cellS {s : ByteArray} : ∀ u ∈ [Value.string s], u.oneCell' = true := by
  intro u hu; simp at hu; subst hu; rfl

theorem own_low {B n : Nat} {e : TypeId} {sz : Nat} {v : Value} {xs : List Value} {w w' : World} (h : w.ownsRow B e sz v n xs) (hb : Below w.heap.size w w') : w'.ownsRow B e sz v n xs := by
  refine ⟨h.1, ?_⟩
  rcases h.2 with h0 | ⟨g, cap, cur, hv, hg, hh, r⟩
  · exact .inl h0
  · exact .inr ⟨g, cap, cur, hv, hg, (hb.block g (lt_of_heap hh)).trans hh, r⟩

set_option maxHeartbeats 1000000 in
theorem tlclo_any (n : Nat) (r0 : ByteArray) (w : World) (hn : n ≤ 255) (hs : r0.size ≤ 140737488351232) :
    Calls Try.prog 33 #[.int .i64 n, .string r0] w (GivesTL (tlGo n r0 []) w) := by
  obtain ⟨i0, hi, hz0, hz1, hz2⟩ := info_parts info9
  go_enter Try.func33, Try.ntmps33
  go_wp2_with fail
  go_loopw [1, 4, 6, 9] (fun r v e i wr => ∃ (k : Nat) (acc : List ByteArray) (q : ByteArray), k ≤ n ∧ i = .int .i64 k ∧ r = .string q ∧ e = .int .i64 0 ∧ Hid (tlGo n r0 [] = tlGo (n - k) q acc) ∧ q.size ≤ 140737488351232 ∧ Hid (∀ s ∈ acc, s.size ≤ 9223372036854775807) ∧ wr.ownsRow w.heap.size 9 1 v k (acc.map Value.string) ∧ Below w.heap.size w wr) (fun _ _ _ i _ => n - (intOf i).toNat)
  case atStart => exact ⟨0, [], r0, Nat.zero_le _, rfl, rfl, rfl, rfl, hs, (fun s h => by simp at h), World.ownsRow_nil _ _ _ _, Below.refl _ _⟩
  case round =>
    obtain ⟨k, acc, q, hk, rfl, rfl, rfl, hgo, hq, hacc, hown, hbel⟩ := hrel
    by_cases hlt : k < n
    · by_cases he : ttE q = 0
      · have HG := Lib.hid (hgo.out.trans (tlGo_next (acc := acc) (by omega) he))
        have HE := Lib.hid he
        clear he
        go_wp2_with fail
        refine (taketext_ok q _ hq HE.out).mono ?_
        rintro e w3 ⟨rfl, h3⟩
        have hown3 := own_low hown h3
        have hb3 := hbel.trans (h3.mono hbel.size)
        go_wp2_with (at_builtin; refine wpList_append_own _ rfl _ _ 33 rfl w.heap.size 9 i0 (.string ⟨#[]⟩) 1 16 Try.underlying33 hi hz0 hz1 hz2 rfl (by decide) _ _ _ rfl (hown3.alloc _) ⟨w3.heap.size, 0, none⟩ 1 1 [.string (ttX q)] rfl rfl ?c1 ?c2 ?c3 ?c4 ?c5 ?_)
        case c1 => exact one_new
        case c2 => exact one_cellS
        case c3 => unfold maxLen; omega
        case c4 => omega
        case c5 => have := hb3.size; simp; omega
        intro v' w4 hown4 hgrow _
        have hb4 := below_grown_own (below_alloc hb3 (Nat.le_refl _) _) (Nat.le_refl _) (hown3.alloc _) hgrow
        go_wp2_with fail
        go_roundw
        case rel =>
          refine ⟨k + 1, acc ++ [ttX q], ttR q, by omega, by go_num, rfl, rfl, ?_, Nat.le_trans (ttR_size q) hq, ?_, ?_, hb4⟩
          · have e : n - (k + 1) = n - k - 1 := by omega
            rw [e]; exact HG
          · intro s hs
            rcases List.mem_append.1 hs with hs | hs
            · exact hacc.out s hs
            · rw [List.mem_singleton.1 hs]; exact Nat.le_trans (ttX_size q) (by omega)
          · rw [List.map_append]; exact hown4
        case measure => simp [intOf]; omega
      · have HG := Lib.hid (hgo.out.trans (tlGo_err (acc := acc) (by omega) he))
        have hne : (ttE q == 0) = false := by simpa using he
        have hne' : (ttE q != 0) = true := by simpa using he
        go_wp2_with fail
        refine (taketext_any q _ hq).mono ?_
        rintro e w3 ⟨rfl, h3⟩
        unfold v3
        go_wp2_with fail
        go_ret3
        exact ⟨.slice none 0 0, by rw [HG.out]; rfl, by rw [HG.out]; exact ⟨none, 0, rfl, by simp, by simp⟩, hbel.trans (h3.mono hbel.size)⟩
    · obtain rfl : k = n := by omega
      go_wp2_with fail
      go_ret3
      have HG := hgo.out
      rw [Nat.sub_self] at HG
      exact ⟨_, by rw [HG]; rfl, by rw [HG]; exact SRow_of_own hown hacc.out, hbel⟩

theorem tl_short {s : ByteArray} (h : s.size < 1) : tl s = ⟨[], ⟨#[]⟩, 10⟩ := if_pos h
theorem tl_more {s : ByteArray} (h : ¬ s.size < 1) : tl s = tlGo (leNum (s.data.toList.take 1)) (s.extract 1 s.size) [] := if_neg h

set_option maxHeartbeats 1000000 in
theorem taken_list (s : ByteArray) (w : World) (hs : s.size ≤ 140737488351232) :
    Calls Try.prog 32 #[.string s, .int .i64 1, .func (.func 33) #[] #[]] w (GivesTL (tl s) w) := by
  have htk := take_any s 1
  by_cases h : s.size < 1
  · rw [tl_short h]
    have e1 : tkV s 1 = .tuple #[.int .u64 0, .string ⟨#[]⟩, .int .i64 10] := tkV_short (by omega) (by omega)
    have H : Hid (∀ w, Calls Try.prog 13 #[.string s, .int .i64 1] w fun e w' => e = .returned (.tuple #[.int .u64 0, .string ⟨#[]⟩, .int .i64 10]) ∧ Below w.heap.size w w') := by
      rw [← e1]; exact fun w => htk w hs
    clear e1 htk
    go_enter Try.func32, Try.ntmps32
    go_wp2_with fail
    refine (H.out _).mono ?_
    rintro e w1 ⟨rfl, h1⟩
    go_wp2_with fail
    go_ret3
    exact ⟨.slice none 0 0, rfl, ⟨none, 0, rfl, by simp, by simp⟩, h1⟩
  · rw [tl_more h]
    have hn : leNum (s.data.toList.take 1) ≤ 255 := by have := leNum_lt_take s.data.toList 1 0; omega
    have e1 : tkV s 1 = .tuple #[.int .u64 (leNum (s.data.toList.take 1)), .string (s.extract 1 s.size), .int .i64 0] := tkV_ok (width := 1) (by omega) (by omega)
    generalize leNum (s.data.toList.take 1) = n at hn e1 ⊢
    have H : Hid (∀ w, Calls Try.prog 13 #[.string s, .int .i64 1] w fun e w' => e = .returned (.tuple #[.int .u64 n, .string (s.extract 1 s.size), .int .i64 0]) ∧ Below w.heap.size w w') := by
      rw [← e1]; exact fun w => htk w hs
    clear e1 htk
    go_enter Try.func32, Try.ntmps32
    go_wp2_with fail
    refine (H.out _).mono ?_
    rintro e w1 ⟨rfl, h1⟩
    go_wp2_with fail
    refine (tlclo_any n _ _ hn (by rw [ByteArray.size_extract]; omega)).mono ?_
    rintro e w2 ⟨v, rfl, hv, h2⟩
    go_wp2_with fail
    go_ret3
    exact ⟨v, rfl, hv, below2 h1 h2⟩

set_option maxHeartbeats 1000000 in
theorem takelist_any (s : ByteArray) (w : World) (hs : s.size ≤ 140737488351232) :
    Calls Try.prog 23 #[.string s] w (GivesTL (tl s) w) := by
  go_enter Try.func23, Try.ntmps23
  go_wp2_with fail
  refine (taken_list s _ hs).mono ?_
  rintro e w2 ⟨v, rfl, hv, h2⟩
  go_wp2_with fail
  go_ret3
  exact ⟨v, rfl, hv, h2⟩

theorem leNum1 (s : ByteArray) (h : 0 < s.size) : leNum (s.data.toList.take 1) = s[0].toNat := by
  obtain ⟨⟨l⟩⟩ := s
  match l, h with
  | a :: l, h => simp [leNum, ByteArray.getElem_eq_getElem_data]

set_option maxHeartbeats 1000000 in
theorem rtakelist_any (s : ByteArray) (w : World) (hs : s.size ≤ 140737488351232) :
    Calls Try.prog 24 #[.string s] w (GivesTL (tl s) w) := by
  by_cases h : s.size < 1
  · rw [tl_short h]
    have h0 : (s.size : Int) = 0 := by omega
    have hq : ((s.size : Int) == 0) = true := by simpa using h0
    clear h0
    go_enter Try.func24, Try.ntmps24
    go_wp2_with fail
    go_ret3
    exact ⟨.slice none 0 0, rfl, ⟨none, 0, rfl, by simp, by simp⟩, Below.refl _ _⟩
  · rw [tl_more h]
    have hp : 0 < s.size := by omega
    have hp' : (0 : Int) < (s.size : Int) := by omega
    have hq : ((s.size : Int) == 0) = false := by rw [beq_eq_false_iff_ne]; omega
    have hp1 : (1 : Int) ≤ (s.size : Int) := by omega
    rw [leNum1 s hp]
    have hn : s[0].toNat ≤ 255 := by have := UInt8.toNat_lt s[0]; omega
    have hr0 : (s.extract 1 s.size).size ≤ 140737488351232 := by rw [ByteArray.size_extract]; omega
    obtain ⟨i0, hi, hz0, hz1, hz2⟩ := info_parts info9
    go_enter Try.func24, Try.ntmps24
    go_wp2_with fail
    go_loopw [0, 6, 7, 8, 9, 10] (fun r v i x y e wr => ∃ (k : Nat) (acc : List ByteArray) (q : ByteArray), k ≤ s[0].toNat ∧ i = .int .i64 k ∧ r = .string q ∧ Hid (tlGo s[0].toNat (s.extract 1 s.size) [] = tlGo (s[0].toNat - k) q acc) ∧ q.size ≤ 140737488351232 ∧ Hid (∀ s ∈ acc, s.size ≤ 9223372036854775807) ∧ wr.ownsRow w.heap.size 9 1 v k (acc.map Value.string) ∧ Below w.heap.size w wr) (fun _ _ i _ _ _ _ => s[0].toNat - (intOf i).toNat)
    case atStart => exact ⟨0, [], _, Nat.zero_le _, rfl, rfl, rfl, hr0, (fun s h => by simp at h), World.ownsRow_made w #[] 0 (Nat.le_refl _) (by simp [maxLen]) rfl, below_alloc (Below.refl _ _) (Nat.le_refl _) _⟩
    case round =>
      obtain ⟨k, acc, q, hk, rfl, rfl, hgo, hq2, hacc, hown, hbel⟩ := hrel
      by_cases hlt : k < s[0].toNat
      · by_cases he : ttE q = 0
        · have HG := Lib.hid (hgo.out.trans (tlGo_next (acc := acc) (by omega) he))
          have HE := Lib.hid he
          clear he
          go_wp2_with fail
          refine (rtaketext_ok q _ hq2 HE.out).mono ?_
          rintro e w3 ⟨rfl, h3⟩
          have hown3 := own_low hown h3
          have hb3 := hbel.trans (h3.mono hbel.size)
          go_wp2_with (at_builtin; refine wpList_append_own _ rfl _ _ 33 rfl w.heap.size 9 i0 (.string ⟨#[]⟩) 1 16 Try.underlying33 hi hz0 hz1 hz2 rfl (by decide) _ _ _ rfl (hown3.alloc _) ⟨w3.heap.size, 0, none⟩ 1 1 [.string (ttX q)] rfl rfl ?c1 ?c2 ?c3 ?c4 ?c5 ?_)
          case c1 => exact one_new
          case c2 => exact one_cellS
          case c3 => unfold maxLen; omega
          case c4 => omega
          case c5 => have := hb3.size; simp; omega
          intro v' w4 hown4 hgrow _
          have hb4 := below_grown_own (below_alloc hb3 (Nat.le_refl _) _) (Nat.le_refl _) (hown3.alloc _) hgrow
          go_wp2_with fail
          go_roundw
          case rel =>
            refine ⟨k + 1, acc ++ [ttX q], ttR q, by omega, by go_num, rfl, ?_, Nat.le_trans (ttR_size q) hq2, ?_, ?_, hb4⟩
            · have e : s[0].toNat - (k + 1) = s[0].toNat - k - 1 := by omega
              rw [e]; exact HG
            · intro s hs
              rcases List.mem_append.1 hs with hs | hs
              · exact hacc.out s hs
              · rw [List.mem_singleton.1 hs]; exact Nat.le_trans (ttX_size q) (by omega)
            · rw [List.map_append]; exact hown4
          case measure => simp [intOf]; omega
        · have HG := Lib.hid (hgo.out.trans (tlGo_err (acc := acc) (by omega) he))
          have hne : (ttE q == 0) = false := by simpa using he
          have hne' : (ttE q != 0) = true := by simpa using he
          go_wp2_with fail
          refine (rtaketext_any q _ hq2).mono ?_
          rintro e w3 ⟨rfl, h3⟩
          unfold v3
          go_wp2_with fail
          go_ret3
          exact ⟨.slice none 0 0, by rw [HG.out]; rfl, by rw [HG.out]; exact ⟨none, 0, rfl, by simp, by simp⟩, hbel.trans (h3.mono hbel.size)⟩
      · have hkn : k = s[0].toNat := by omega
        have HG := hgo.out
        rw [← hkn, Nat.sub_self] at HG
        have HK := Lib.hid hkn
        have HG' := Lib.hid HG
        clear hkn HG
        go_wp2_with fail
        go_ret3
        exact ⟨u6, by rw [← HK.out, HG'.out]; rfl, by rw [← HK.out, HG'.out]; exact SRow_of_own hown hacc.out, hbel⟩
end Go.Proofs.Ytkflodclakngfaa
