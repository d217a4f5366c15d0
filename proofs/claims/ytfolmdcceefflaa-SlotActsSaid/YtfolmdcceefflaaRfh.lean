/-
  The reference's slot: Newest, Holds; two lists of keys compared. (Printed by mkrfh.py.)
-/
import Derived.Test.YtfolmdcceefflaaRfs
import Derived.Test.YtfolmdcceefflaaLawSlotGone
set_option linter.unusedVariables false
namespace Go.Proofs.Ytfolmdcceefflaa
open Go.RowKit


set_option maxHeartbeats 1000000 in
theorem rnewest_off (s : St) (w : World) (h : s.Ok) (ho : s.p.off = true) :
    Calls Try.prog 23 #[.agg (raA s)] w fun x w' => x = .returned (.tuple #[.int .i64 0, .int .i64 4]) ∧ Below w.heap.size w w' := by
  have T0 := Tab.box1 w (raA s) 51
  have c0 := T0.c 0 rfl 0 (ra_off s)
  have c1 := T0.c 0 rfl 4 (ra_cis s)
  have c2 := T0.c 0 rfl 22 (ra_dis h)
  have c3 := T0.c 0 rfl 21 (ra_cep h)
  have c4 := T0.c 0 rfl 39 (ra_dep h)
  have HT := Lib.hid T0
  rw [ho] at c0
  clear ho
  clear T0 h
  generalize raA s = A at *
  generalize s.c.epoch = x1 at *
  generalize s.d.epoch = x2 at *
  go_enter Try.func23, Try.ntmps23
  go_wp2_with fail
  go_ret2
  exact ⟨rfl, HT.out.below⟩


set_option maxHeartbeats 1000000 in
theorem rnewest_none (s : St) (w : World) (h : s.Ok) (ho : s.p.off = false) (h1 : s.c.is = false) (h2 : s.d.is = false) :
    Calls Try.prog 23 #[.agg (raA s)] w fun x w' => x = .returned (.tuple #[.int .i64 0, .int .i64 110]) ∧ Below w.heap.size w w' := by
  have T0 := Tab.box1 w (raA s) 51
  have c0 := T0.c 0 rfl 0 (ra_off s)
  have c1 := T0.c 0 rfl 4 (ra_cis s)
  have c2 := T0.c 0 rfl 22 (ra_dis h)
  have c3 := T0.c 0 rfl 21 (ra_cep h)
  have c4 := T0.c 0 rfl 39 (ra_dep h)
  have HT := Lib.hid T0
  rw [ho] at c0
  rw [h1] at c1
  rw [h2] at c2
  clear ho h1 h2
  clear T0 h
  generalize raA s = A at *
  generalize s.c.epoch = x1 at *
  generalize s.d.epoch = x2 at *
  go_enter Try.func23, Try.ntmps23
  go_wp2_with fail
  go_ret2
  exact ⟨rfl, HT.out.below⟩


set_option maxHeartbeats 1000000 in
theorem rnewest_d (s : St) (w : World) (h : s.Ok) (ho : s.p.off = false) (h1 : s.c.is = false) (h2 : s.d.is = true) :
    Calls Try.prog 23 #[.agg (raA s)] w fun x w' => x = .returned (.tuple #[.int .i64 1, .int .i64 0]) ∧ Below w.heap.size w w' := by
  have T0 := Tab.box1 w (raA s) 51
  have c0 := T0.c 0 rfl 0 (ra_off s)
  have c1 := T0.c 0 rfl 4 (ra_cis s)
  have c2 := T0.c 0 rfl 22 (ra_dis h)
  have c3 := T0.c 0 rfl 21 (ra_cep h)
  have c4 := T0.c 0 rfl 39 (ra_dep h)
  have HT := Lib.hid T0
  rw [ho] at c0
  rw [h1] at c1
  rw [h2] at c2
  clear ho h1 h2
  clear T0 h
  generalize raA s = A at *
  generalize s.c.epoch = x1 at *
  generalize s.d.epoch = x2 at *
  go_enter Try.func23, Try.ntmps23
  go_wp2_with fail
  go_ret2
  exact ⟨rfl, HT.out.below⟩


set_option maxHeartbeats 1000000 in
theorem rnewest_c (s : St) (w : World) (h : s.Ok) (ho : s.p.off = false) (h1 : s.c.is = true) (h2 : s.d.is = false) :
    Calls Try.prog 23 #[.agg (raA s)] w fun x w' => x = .returned (.tuple #[.int .i64 0, .int .i64 0]) ∧ Below w.heap.size w w' := by
  have T0 := Tab.box1 w (raA s) 51
  have c0 := T0.c 0 rfl 0 (ra_off s)
  have c1 := T0.c 0 rfl 4 (ra_cis s)
  have c2 := T0.c 0 rfl 22 (ra_dis h)
  have c3 := T0.c 0 rfl 21 (ra_cep h)
  have c4 := T0.c 0 rfl 39 (ra_dep h)
  have HT := Lib.hid T0
  rw [ho] at c0
  rw [h1] at c1
  rw [h2] at c2
  clear ho h1 h2
  clear T0 h
  generalize raA s = A at *
  generalize s.c.epoch = x1 at *
  generalize s.d.epoch = x2 at *
  go_enter Try.func23, Try.ntmps23
  go_wp2_with fail
  go_ret2
  exact ⟨rfl, HT.out.below⟩


set_option maxHeartbeats 1000000 in
theorem rnewest_cd (s : St) (w : World) (h : s.Ok) (ho : s.p.off = false) (h1 : s.c.is = true) (h2 : s.d.is = true) (hl : s.c.epoch < s.d.epoch) :
    Calls Try.prog 23 #[.agg (raA s)] w fun x w' => x = .returned (.tuple #[.int .i64 1, .int .i64 0]) ∧ Below w.heap.size w w' := by
  have T0 := Tab.box1 w (raA s) 51
  have c0 := T0.c 0 rfl 0 (ra_off s)
  have c1 := T0.c 0 rfl 4 (ra_cis s)
  have c2 := T0.c 0 rfl 22 (ra_dis h)
  have c3 := T0.c 0 rfl 21 (ra_cep h)
  have c4 := T0.c 0 rfl 39 (ra_dep h)
  have HT := Lib.hid T0
  rw [ho] at c0
  rw [h1] at c1
  rw [h2] at c2
  have hb : decide (s.c.epoch < s.d.epoch) = true := decide_eq_true hl
  clear ho h1 h2
  clear T0 h
  generalize raA s = A at *
  generalize s.c.epoch = x1 at *
  generalize s.d.epoch = x2 at *
  go_enter Try.func23, Try.ntmps23
  go_wp2_with fail
  go_ret2
  exact ⟨rfl, HT.out.below⟩


set_option maxHeartbeats 1000000 in
theorem rnewest_dc (s : St) (w : World) (h : s.Ok) (ho : s.p.off = false) (h1 : s.c.is = true) (h2 : s.d.is = true) (hl : ¬ s.c.epoch < s.d.epoch) :
    Calls Try.prog 23 #[.agg (raA s)] w fun x w' => x = .returned (.tuple #[.int .i64 0, .int .i64 0]) ∧ Below w.heap.size w w' := by
  have T0 := Tab.box1 w (raA s) 51
  have c0 := T0.c 0 rfl 0 (ra_off s)
  have c1 := T0.c 0 rfl 4 (ra_cis s)
  have c2 := T0.c 0 rfl 22 (ra_dis h)
  have c3 := T0.c 0 rfl 21 (ra_cep h)
  have c4 := T0.c 0 rfl 39 (ra_dep h)
  have HT := Lib.hid T0
  rw [ho] at c0
  rw [h1] at c1
  rw [h2] at c2
  have hb : decide (s.c.epoch < s.d.epoch) = false := decide_eq_false hl
  clear ho h1 h2
  clear T0 h
  generalize raA s = A at *
  generalize s.c.epoch = x1 at *
  generalize s.d.epoch = x2 at *
  go_enter Try.func23, Try.ntmps23
  go_wp2_with fail
  go_ret2
  exact ⟨rfl, HT.out.below⟩


theorem rnewest_any (s : St) (w : World) (h : s.Ok) :
    Calls Try.prog 23 #[.agg (raA s)] w fun x w' => x = .returned (.tuple #[.int .i64 s.newI, .int .i64 s.newE]) ∧ Below w.heap.size w w' := by
  unfold St.newI St.newE
  by_cases ho : s.p.off = true
  · rw [if_pos ho, if_pos ho]
    exact rnewest_off s w h ho
  · have ho' : s.p.off = false := by simpa using ho
    rw [if_neg ho, if_neg ho]
    unfold St.onI St.onE
    cases h1 : s.c.is <;> cases h2 : s.d.is
    · have := rnewest_none s w h ho' h1 h2
      simpa using this
    · have := rnewest_d s w h ho' h1 h2
      simpa using this
    · have := rnewest_c s w h ho' h1 h2
      simpa using this
    · by_cases hl : s.c.epoch < s.d.epoch
      · have := rnewest_cd s w h ho' h1 h2 hl
        simpa [hl] using this
      · have := rnewest_dc s w h ho' h1 h2 hl
        simpa [hl] using this

theorem build_k0 (w : World) : (Instr.buildSlice 33 0 #[]).run Try.prog w = .ok (.slice (some ⟨w.heap.size, 0, none⟩) 0 0) (w.alloc (.cells #[] 23)) := by
  obtain ⟨ie, hie, hz, hs, hb⟩ := info_parts info23
  simp [Instr.buildSlice, run_underlying Try.underlying33, sizeOf, typeInfo, hie, Instr.fill, newRow]
  congr 2
  exact Array.eq_empty_of_size_eq_zero (by simp)
theorem own_base {w : World} {b b' n size : Nat} {e : TypeId} {v : Value} {xs : List Value} (h : w.ownsRow b e size v n xs) (hb : b' ≤ b) : w.ownsRow b' e size v n xs := by
  obtain ⟨h1, h | ⟨g, cap, cur, r, hg, rest⟩⟩ := h
  · exact ⟨h1, .inl h⟩
  · exact ⟨h1, .inr ⟨g, cap, cur, r, Nat.le_trans hb hg, rest⟩⟩
theorem ra_nis {s : St} (h : s.Ok) {k : Nat} (hk : k < 2) : (raA s)[4 + k * 18]? = some (.bool (s.nth k).is) := by
  have : k = 0 ∨ k = 1 := by omega
  rcases this with rfl | rfl
  · exact ra_cis s
  · exact ra_dis h
theorem ra_nk {s : St} (h : s.Ok) {k : Nat} (hk : k < 2) : (raA s).extract (4 + k * 18 + 1) (4 + k * 18 + 1 + 16) = kyA (s.nth k).key := by
  have : k = 0 ∨ k = 1 := by omega
  rcases this with rfl | rfl
  · exact ra_ck h
  · exact ra_dk h
theorem Tab.grown {T : List (Nat × Array Value × TypeId)} {a w w' : World} (h : Tab T a w) {b n size : Nat} {e : TypeId} {v : Value} {xs : List Value} (hown : w.ownsRow b e size v n xs) (hg : w.grownBy w' v.ownBlock) (hT : ∀ p ∈ T, p.1 < b) (hb : a.heap.size ≤ b) : Tab T a w' :=
  h.move (S := fun k => some k = v.ownBlock) ⟨hg.os, hg.tape, hg.output, hg.size, fun k hk hs => hg.block k hk hs⟩ (fun p hp hs => by have := (hown.lt _ hs.symm).1; have := hT p hp; omega) (fun k hs => by have := (hown.lt _ hs.symm).1; omega)

set_option maxHeartbeats 2000000 in
theorem rholds_any (s : St) (w : World) (hok : s.Ok) :
    Calls Try.prog 25 #[.agg (raA s)] w fun x w' => ∃ v, x = .returned v ∧ w'.ownsRow w.heap.size 23 16 v s.holds.length (flatK s.holds) ∧ Only (fun _ => False) w w' := by
  obtain ⟨i0, hi, hz0, hz1, hz2⟩ := info_parts info23
  have T0 := Tab.box1 w (raA s) 51
  have HB0 := Lib.hid (build_k0 (w.alloc (.cells (raA s) 51)))
  have hown0 := World.ownsRow_made (base := w.heap.size + 1) (size := 16) (e := 23) (w.alloc (.cells (raA s) 51)) #[] 0 (by simp) (by decide) rfl
  rw [show (w.alloc (.cells (raA s) 51)).heap.size = w.heap.size + 1 by simp] at HB0 hown0
  have HO0 := Lib.hid hown0
  have HT0 : Hid (Tab [(w.heap.size, raA s, 51)] w ((w.alloc (.cells (raA s) 51)).alloc (.cells #[] 23))) := T0.on ((Only.refl _ _).alloc _)
  have HRS := Lib.hid (raA_size hok)
  clear T0 hown0
  go_enter Try.func25, Try.ntmps25
  go_wp2_with (first | ((with_reducible refine wpList_bs_at ?_ 33 0 #[] ?_ [] ?_ _ HB0.out ?_); rfl; rfl; rfl))
  go_loopw [3, 4] (fun v i wr => ∃ k : Nat, k ≤ 2 ∧ i = .int .i64 k ∧ wr.ownsRow (w.heap.size + 1) 23 16 v (s.keys k).length (flatK (s.keys k)) ∧ Hid (Tab [(w.heap.size, raA s, 51)] w wr)) (fun _ i _ => 2 - (intOf i).toNat)
  case atStart => exact ⟨0, by omega, rfl, HO0.out, HT0.out⟩
  case round =>
    obtain ⟨k, hk, rfl, hown, hT⟩ := hrel
    by_cases hlt : k < 2
    · have he := St.nth_ok hok k
      have ci := hT.out.c 0 rfl (4 + k * 18) (ra_nis hok hlt)
      have hl := hT.out.load 0 rfl 23 _ Try.underlying23 rfl (4 + k * 18 + 1) info23s (by rw [HRS.out]; omega)
      rw [ra_nk hok hlt] at hl
      have HL := Lib.hid hl
      have HBS := Lib.hid (build_ks (s.nth k).key he.len wr)
      have HLE := keys_len s k
      have hkey : s.keys (k + 1) = s.keys k ++ (if (s.nth k).is = true then [(s.nth k).key] else []) := rfl
      have HSZ : Hid (w.heap.size + 1 ≤ wr.heap.size) := by
        show w.heap.size < wr.heap.size
        have := hT.out.lt (p := (w.heap.size, raA s, 51)) (by simp)
        exact this
      have HLN := Lib.hid (kyL_len he.len)
      have HNE := Lib.hid (kyL_one (s.nth k).key)
      have HKN := Lib.hid (key_new (w := wr) (l := (s.nth k).key))
      have hlt' : (k : Int) < 2 := by omega
      clear hl
      cases hbis : (s.nth k).is
      · rw [hbis] at ci hkey
        rw [if_neg (by simp), List.append_nil] at hkey
        go_wp2_with fail
        go_roundw
        case rel => exact ⟨k + 1, by omega, by go_num, by rw [hkey]; exact hown, hT.out⟩
        case measure => simp [intOf]; omega
      · rw [hbis] at ci hkey
        rw [if_pos rfl] at hkey
        go_wp2_with (first | ((with_reducible refine wpList_load_at ?_ 23 (.tmp 19) ?_ _ ?_ _ HL.out ?_); rfl; rfl; rfl) | ((with_reducible refine wpList_bs_at ?_ 33 1 #[(0, .tmp 20)] ?_ [(0, .agg (kyA (s.nth k).key))] ?_ _ HBS.out ?_); rfl; rfl; rfl) | (at_builtin; refine wpList_append_own _ rfl _ _ 33 rfl (w.heap.size + 1) 23 i0 (.agg (kyA ky0)) 16 16 Try.underlying33 hi hz0 hz1 hz2 rfl (by decide) _ _ _ rfl (hown.alloc _) ⟨wr.heap.size, 0, none⟩ 1 1 (kyL (s.nth k).key) rfl HLN.out ?c1 ?c2 ?c3 ?c4 ?c5 ?_))
        case c1 => exact HKN.out
        case c2 => exact HNE.out
        case c3 => unfold maxLen; omega
        case c4 => omega
        case c5 => exact Nat.le_trans HSZ.out (by simp)
        intro v' w3 hown3 hgrow _
        have hT3 := (hT.out.on ((Only.refl _ _).alloc (.cells (kyA (s.nth k).key) 23))).grown (hown.alloc _) hgrow (by intro p hp; simp at hp; subst hp; exact Nat.lt_succ_self _) (Nat.le_succ _)
        go_wp2_with fail
        go_roundw
        case rel => exact ⟨k + 1, by omega, by go_num, by rw [hkey, flatK_app, flatK_one, List.length_append]; exact hown3, hT3⟩
        case measure => simp [intOf]; omega
    · obtain rfl : k = 2 := by omega
      go_wp2_with fail
      go_ret
      exact ⟨_, rfl, own_base hown (Nat.le_succ _), hT.out.only⟩

theorem same_nil (a b : Option Addr) (c d : Nat) (w : World) : Calls Try.prog 24 #[.slice a 0 c, .slice b 0 d] w fun x w' => x = .returned (.bool true) ∧ Only (fun _ => False) w w' := by
  go_enter Try.func24, Try.ntmps24
  go_wp2_with fail
  go_loopw [5] (fun i wr => i = .int .i64 0 ∧ Hid (Only (fun _ => False) w wr)) (fun _ _ => 0)
  case atStart => exact ⟨rfl, Only.refl _ _⟩
  case round =>
    obtain ⟨rfl, ho⟩ := hrel
    go_wp2_with fail
    go_ret
    exact ⟨rfl, ho.out⟩

set_option maxHeartbeats 2000000 in
theorem same_some (g e c d n : Nat) (ks : List (List UInt8)) (w : World) (hn : ks.length = n) (hk : ∀ k ∈ ks, k.length = 16) (h63 : n ≤ maxLen)
    (h1 : ∀ (W : World), Only (fun _ => False) w W → ∀ (i : Nat) (k : List UInt8), ks[i]? = some k → (loadVar 23 ⟨g, i * 16, none⟩).run Try.prog W = .ok (.agg (kyA k)) W)
    (h2 : ∀ (W : World), Only (fun _ => False) w W → ∀ (i : Nat) (k : List UInt8), ks[i]? = some k → (loadVar 23 ⟨e, i * 16, none⟩).run Try.prog W = .ok (.agg (kyA k)) W) :
    Calls Try.prog 24 #[.slice (some ⟨g, 0, none⟩) n c, .slice (some ⟨e, 0, none⟩) n d] w fun x w' => x = .returned (.bool true) ∧ Only (fun _ => False) w w' := by
  unfold maxLen at h63
  have H1 := Lib.hid h1
  have H2 := Lib.hid h2
  have HN := Lib.hid hn
  have HK := Lib.hid hk
  clear h1 h2 hn hk
  go_enter Try.func24, Try.ntmps24
  go_wp2_with fail
  go_loopw [5] (fun i wr => ∃ k : Nat, k ≤ n ∧ i = .int .i64 k ∧ Hid (Only (fun _ => False) w wr)) (fun i _ => n - (intOf i).toNat)
  case atStart => exact ⟨0, by omega, rfl, Only.refl _ _⟩
  case round =>
    obtain ⟨k, hk, rfl, ho⟩ := hrel
    by_cases hlt : k < n
    · have hkl : k < ks.length := by rw [HN.out]; exact hlt
      have HX := Lib.hid (List.getElem?_eq_getElem hkl)
      have hlen := HK.out ks[k] (List.getElem_mem hkl)
      have Q1 := Lib.hid (fun (W : World) (hW : ∃ m, W = wr.drewN m) => show (loadVar 23 ⟨g, k * 16, none⟩).run Try.prog W = .ok (.agg (kyA ks[k])) W by obtain ⟨m, rfl⟩ := hW; exact H1.out _ (ho.out.drewN m) k _ HX.out)
      have Q2 := Lib.hid (fun (W : World) (hW : ∃ m, W = wr.drewN m) => show (loadVar 23 ⟨e, k * 16, none⟩).run Try.prog W = .ok (.agg (kyA ks[k])) W by obtain ⟨m, rfl⟩ := hW; exact H2.out _ (ho.out.drewN m) k _ HX.out)
      have Q3 := Lib.hid (fun (W : World) (_ : ∃ m, W = wr.drewN m) => key_eq 9998 ks[k] ks[k] hlen hlen W)
      rw [beq_self_eq_true] at Q3
      have hlt' : (k : Int) < n := by omega
      generalize kyA ks[k] = A at *
      clear hlen
      go_wp2_with fail
      refine wp_region_quiet_lit (by kernel_rfl) (by kernel_rfl) ?_
      repeat (first | ((with_reducible refine quiet_load_w ?_ 23 (.tmp 19) ?_ _ ?_ _ Q1.out ?_); rfl; rfl; rfl) | ((with_reducible refine quiet_load_w ?_ 23 (.tmp 23) ?_ _ ?_ _ Q2.out ?_); rfl; rfl; rfl) | ((with_reducible refine quiet_neq_w ?_ 23 (.tmp 20) (.tmp 24) 23 _ _ _ ?_ ?_ ?_ ?_ Q3.out ?_); rfl; rfl; rfl; rfl; kernel_rfl) | quiet_step (fail))
      refine wpQuiet_nil ?_
      rintro _ ⟨nq, rfl⟩
      go_wp2_with fail
      go_roundw
      case rel => exact ⟨k + 1, by omega, by go_num, ho.out.drewN nq⟩
      case measure => simp [intOf]; omega
    · obtain rfl : k = n := by omega
      go_wp2_with fail
      go_ret
      exact ⟨rfl, ho.out⟩
theorem own_keep {w w' : World} {b n size : Nat} {e : TypeId} {v : Value} {xs : List Value} (h : w.ownsRow b e size v n xs) (o : Only (fun _ => False) w w') : w'.ownsRow b e size v n xs := by
  obtain ⟨h1, h | ⟨g, cap, cur, r, hg, hb, rest⟩⟩ := h
  · exact ⟨h1, .inl h⟩
  · exact ⟨h1, .inr ⟨g, cap, cur, r, hg, (o.block g (Array.getElem?_eq_some_iff.1 hb).1 (fun x => x)).trans hb, rest⟩⟩
theorem same_any (v u : Value) (b b' : Nat) (ks : List (List UInt8)) (w : World) (hk : ∀ k ∈ ks, k.length = 16) (h1 : w.ownsRow b 23 16 v ks.length (flatK ks)) (h2 : w.ownsRow b' 23 16 u ks.length (flatK ks)) :
    Calls Try.prog 24 #[v, u] w fun x w' => x = .returned (.bool true) ∧ Only (fun _ => False) w w' := by
  have k1 := h1
  have k2 := h2
  obtain ⟨_, ⟨rfl, hn⟩ | ⟨g, cap, cur, rfl, hg, hb, hc, hm, _⟩⟩ := h1
  · obtain ⟨_, ⟨rfl, hn'⟩ | ⟨g', cap', cur', rfl, _⟩⟩ := h2
    · exact same_nil none none 0 0 w
    · rw [hn]
      exact same_nil _ _ _ _ w
  · obtain ⟨_, ⟨rfl, hn'⟩ | ⟨g', cap', cur', rfl, hg', hb', hc', hm', _⟩⟩ := h2
    · rw [hn']
      exact same_nil _ _ _ _ w
    · exact same_some g g' cap cap' ks.length ks w rfl hk (Nat.le_trans hc hm) (fun W o i k hi => by have := own_load (own_keep k1 o) hk hi; simpa using this) (fun W o i k hi => by have := own_load (own_keep k2 o) hk hi; simpa using this)
theorem holds_ok {s : St} (h : s.Ok) : ∀ k ∈ s.holds, k.length = 16 := by
  have : ∀ n, ∀ k ∈ s.keys n, k.length = 16 := by
    intro n
    induction n with
    | zero => intro k hk; simp [St.keys] at hk
    | succ n ih =>
      intro k hk
      rw [St.keys, List.mem_append] at hk
      rcases hk with hk | hk
      · exact ih k hk
      · split at hk
        · simp at hk
          rw [hk]
          exact (St.nth_ok h n).len
        · simp at hk
  exact this 2
end Go.Proofs.Ytfolmdcceefflaa
