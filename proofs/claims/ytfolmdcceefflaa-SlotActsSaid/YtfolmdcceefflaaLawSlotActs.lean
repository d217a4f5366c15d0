/-
  SlotActs: the walk. (Printed by mkacts.py.)
-/
import Derived.Test.YtfolmdcceefflaaAcs
import Derived.Deep.CutRange
import Derived.Deep.CutBlock
set_option linter.unusedVariables false
namespace Go.Proofs.Ytfolmdcceefflaa
open Go.RowKit

section
variable {P : Program} {ops : Array Oper} {S : World → Prop} {md : Region.Mode} {Q : Exit → Act → World → Prop}
theorem held_callE {j : Nat} {oj : Oper} {t : Tmp} {fuel : Nat} {listed : Array Bool} {a : Act} {w : World} (hr : Region.ready md ops listed = [j]) (hj : ops[j]? = some oj) (hd : oj.dst = some t)
    (hw : Region.wanted oj (yielded ops a.tmps) = true) {f : FuncId} {fn : Func} (hf : P.funcs[f]? = some fn) (hn : (fn.name == "runtime.NumGoroutine") = false) (hb : fn.body.isSome = true)
    {xs : Array Operand} {ts : Array TypeId} (hop : oj.op = .call { callee := .value (.func f), args := xs, argTypes := ts }) (al : List Value) (hargs : xs.toList.map a.eval = al) {R : Value → World → Prop}
    (hc : Calls P f al.toArray w fun e w' => ∃ v, e = .returned v ∧ R v w') (h : ∀ v w', R v w' → S w' ∧ wpAnyH P md ops Q S fuel (listed.setIfInBounds j true) ⟨a.tmps.setIfInBounds t v, a.defers⟩ w') : wpAnyH P md ops Q S (fuel + 1) listed a w := by
  refine wpAnyH_all hr (by simp) fun i hi => ?_
  obtain rfl : i = j := by simpa using hi
  unfold Go.wpOp
  simp only [hj]
  rw [if_pos hw]
  refine .inl ?_
  have h1 : fn.name ≠ "runtime.NumGoroutine" := by simpa using hn
  obtain ⟨c, hcb⟩ := Option.isSome_iff_exists.1 hb
  have hargs' : xs.map a.eval = al.toArray := by rw [← hargs]; apply Array.toList_inj.1; simp
  have he : (callFunc f al.toArray).run P w = .ok (.enter f al.toArray) w := by simp [callFunc, hf, h1, hcb]
  have hrun : (execOp a.eval oj).run P w = .ok (.enter f al.toArray) w := by
    unfold execOp
    simp [hop, resolve, Deferred.ofValue, invoke, Act.eval, hargs', he]
  unfold Oper.wp
  rw [hrun, Oper.upon_enter]
  refine hc.mono fun e w'' hh => ?_
  obtain ⟨v, rfl, hk⟩ := hh
  have := h v w'' hk
  rw [← put_some (a := a), ← hd] at this
  exact this
end

theorem new_nil (w : World) : Calls Try.prog 8 #[.pointer none] w fun e w' => e = .returned (.pointer none) ∧ w = w' := by
  go_enter Try.func8, Try.ntmps8
  go_wp2_with fail
  go_ret
  exact ⟨rfl, rfl⟩
theorem readK_len {s : St} (h : s.Ok) (i : Int) : (s.readK i).length = 16 := by
  unfold St.readK
  split
  · rfl
  · unfold St.at
    split
    · exact h.c.len
    · exact h.d.len

/-- What a round keeps: the slot as it is, and the reference's. -/
structure Both (w : World) (gs gp gr : Nat) (s : St) (wr : World) : Prop where
  is : Is gs gp s wr
  ok : s.Ok
  tab : Tab [(gr, raA s, 51)] w wr
theorem Both.on {w wr x : World} {gs gp gr : Nat} {s : St} (h : Both w gs gp gr s wr) (o : Only (fun _ => False) wr x) : Both w gs gp gr s x := ⟨h.is.keep o (fun x => x) (fun x => x), h.ok, h.tab.on o⟩
theorem fuse_s (gs gp : Nat) (s : St) (n keep junk : Int) (w : World) (h : Is gs gp s w) (hok : s.Ok) (hne : gs ≠ gp) (hn : n ≤ 9223372036854775807) :
    Calls Try.prog 15 #[.pointer (some ⟨gp, 0, none⟩), .int .i64 n, .int .i64 keep, .int .u8 junk] w fun e w' => e = .returned (.tuple #[]) ∧ Is gs gp ⟨{ s.p with left := max n 0, keep := max keep 0, junk := junk }, s.c, s.d⟩ w' ∧ Only (Two gs gp) w w' := by
  refine (fuse_any gp s.p w n keep junk h.pw).mono ?_
  rintro e w' ⟨rfl, h1, h2⟩
  exact ⟨rfl, ⟨h.sl.keep h2 hne, h1⟩, h2.mono fun k hk => .inl hk⟩
theorem cut_s (gs gp : Nat) (s : St) (w : World) (h : Is gs gp s w) (hne : gs ≠ gp) :
    Calls Try.prog 18 #[.pointer (some ⟨gp, 0, none⟩)] w fun e w' => e = .returned (.tuple #[]) ∧ Is gs gp ⟨{ s.p with off := true }, s.c, s.d⟩ w' ∧ Only (Two gs gp) w w' := by
  refine (cut_any gp s.p w h.pw).mono ?_
  rintro e w' ⟨rfl, h1, h2⟩
  exact ⟨rfl, ⟨h.sl.keep h2 hne, h1⟩, h2.mono fun k hk => .inl hk⟩
theorem on_s (gs gp : Nat) (s : St) (w : World) (h : Is gs gp s w) (hne : gs ≠ gp) :
    Calls Try.prog 17 #[.pointer (some ⟨gp, 0, none⟩)] w fun e w' => e = .returned (.tuple #[]) ∧ Is gs gp ⟨{ s.p with off := false, left := 0 }, s.c, s.d⟩ w' ∧ Only (Two gs gp) w w' := by
  refine (on_any gp s.p w h.pw).mono ?_
  rintro e w' ⟨rfl, h1, h2⟩
  exact ⟨rfl, ⟨h.sl.keep h2 hne, h1⟩, h2.mono fun k hk => .inl hk⟩
theorem Tab.two {T : List (Nat × Array Value × TypeId)} {a w w' : World} {gs gp : Nat} (h : Tab T a w) (o : Only (Two gs gp) w w') (hT : ∀ p ∈ T, p.1 ≠ gs ∧ p.1 ≠ gp) (hs : a.heap.size ≤ gs) (hp : a.heap.size ≤ gp) : Tab T a w' :=
  h.move o (fun p hp' hk => by have := hT p hp'; rcases hk with hk | hk <;> omega) (fun k hk => by rcases hk with rfl | rfl <;> assumption)

set_option maxRecDepth 100000 in
theorem acts_long (w : World) (sa : Option Addr) (len cap : Nat) (h : 150 < len) :
    Calls Try.prog 7 #[.slice sa len cap] w fun e w' => e = .returned (.bool true) ∧ Below w.heap.size w w' := by
  have hlen : decide ((150 : Int) < (len : Int)) = true := by simp; omega
  have hl : (150 : Int) < (len : Int) := by omega
  clear h
  go_enter Try.func7, Try.ntmps7
  go_wp2_with fail
  refine (shown_any w).mono ?_
  rintro e x1 ⟨rfl, o1⟩
  go_wp2_with fail
  go_ret
  exact ⟨rfl, o1.below (fun _ x => x.elim)⟩


set_option maxRecDepth 100000 in
set_option maxHeartbeats 64000000 in
theorem acts_short (w : World) (sa : Option Addr) (len cap : Nat) (l : List Ac) (hl : ActRow w sa len cap l) (h150 : len ≤ 150) :
    Calls Try.prog 7 #[.slice sa len cap] w fun e w' => e = .returned (.bool true) ∧ Below w.heap.size w w' := by
  have hlen : decide ((150 : Int) < (len : Int)) = false := by simp; omega
  have hz51 := zero51
  have hz53 := zero53
  have hz23 := zero23
  have HLL := Lib.hid hl
  have HB51 := Lib.hid build51
  clear hl
  go_enter Try.func7, Try.ntmps7
  go_wp2_with fail
  refine (shown_any w).mono ?_
  rintro e x1 ⟨rfl, o1⟩
  have hpw := Lib.hid (newPower_any x1)
  have hnw := Lib.hid (new_there x1)
  have hi0 := w0_is x1
  have T0 := (Tab.nil w).on (o1.trans (w0_only x1))
  obtain ⟨W1, hs1, T1, -, q1⟩ := T0.fresh (raA st0) 51 info51s (raA_size st0_ok) (raA_size st0_ok) (raA_one st0)
  have hX : (W0 x1).heap.size = x1.heap.size + 1 + 1 := by simp [W0]
  rw [hX] at hs1 T1
  have HS1 := Lib.hid hs1
  have HI := Lib.hid (hi0.keep q1 (fun x => x) (fun x => x))
  have HT := Lib.hid T1
  have hge : w.heap.size ≤ x1.heap.size := o1.size
  generalize W0 x1 = X at *
  obtain ⟨gp, hgp⟩ : ∃ g, g = x1.heap.size := ⟨_, rfl⟩
  rw [← hgp] at HS1 HI HT hge
  have HGP := Lib.hid hgp
  have hXs := Lib.hid hX
  clear o1 hi0 T0 hs1 T1 q1 hX hgp
  go_wp2_with fail
  refine hpw.out.mono ?_
  rintro e w1 ⟨rfl, rfl⟩
  go_wp2_with fail
  refine hnw.out.mono ?_
  rintro e w1 ⟨rfl, rfl⟩
  rw [← HGP.out] at hXs ⊢
  clear hpw hnw
  have hX2 := hXs.out
  clear hXs
  go_wp2_with (first | ((with_reducible refine wpList_build_at ?_ 51 #[] ?_ [] ?_ _ (HB51.out _) ?_); rfl; rfl; rfl) | ((with_reducible refine wpList_store_at ?_ 51 (.tmp 5) (.tmp 32) ?_ _ ?_ _ ?_ HS1.out ?_); rfl; rfl; rfl; rfl))
  obtain ⟨gs, hgs⟩ : ∃ g, g = gp + 1 := ⟨_, rfl⟩
  obtain ⟨gr, hgr⟩ : ∃ g, g = gp + 1 + 1 := ⟨_, rfl⟩
  have HNE : Hid (gs ≠ gp ∧ gs ≠ gr ∧ gp ≠ gr) := ⟨by omega, by omega, by omega⟩
  have HGE : Hid (w.heap.size ≤ gs ∧ w.heap.size ≤ gp) := ⟨by omega, by omega⟩
  rw [← hgr, ← hgs]
  have HB00 : Hid (Both w gs gp gr st0 W1) := ⟨by rw [hgs]; exact HI.out, st0_ok, by rw [hgr]; exact HT.out⟩
  clear hgs hgr hX2 hge HI HT HGP HS1
  go_loopg [6] len (fun g i wr => ∃ (k : Nat) (s : St), k ≤ len ∧ g = len - k ∧ i = .int .i64 k ∧ Hid (Both w gs gp gr s wr))
  case atStart => exact ⟨0, st0, by omega, by omega, rfl, HB00.out⟩
  case round =>
    obtain ⟨k, s, hk, hgk, rfl, hB⟩ := hrel
    clear HB00
    by_cases hlt : k < len
    · have hll : (l.map acL).length = len := HLL.out.1.len
      have hkl : k < l.length := by simpa using (by omega : k < (l.map acL).length)
      obtain ⟨b, o, rfl, -, hcap⟩ := HLL.out.1.at (by decide) (i := k) (by omega)
      obtain ⟨x, hx⟩ : ∃ x, l[k]? = some x := ⟨_, List.getElem?_eq_getElem hkl⟩
      have hxo := Lib.hid (HLL.out.2 x (List.mem_of_getElem? hx))
      have hld := (HLL.out.1.keep hB.out.tab.only).load (i := k) (k := acL x) (by rw [List.getElem?_map, hx]; rfl) 53 _ Try.underlying53 rfl info53s
      have HLD := Lib.hid hld
      obtain ⟨W2, hs2, T2, -, o2⟩ := hB.out.tab.fresh (acA acZ) 53 info53s (acA_size hxo.out) (acA_size acZ_ok) (acA_one x)
      have HS2 := Lib.hid hs2
      have HT1 := Lib.hid T2
      have hg7 : gs < wr.heap.size ∧ gp < wr.heap.size := ⟨(Array.getElem?_eq_some_iff.1 hB.out.is.sl).1, (Array.getElem?_eq_some_iff.1 hB.out.is.pw).1⟩
      have HTN : Hid (∀ p ∈ [(wr.heap.size, acA x, (53 : TypeId)), (gr, raA s, 51)], p.1 ≠ gs ∧ p.1 ≠ gp) := by
        intro p hp
        have := HNE.out
        simp at hp
        rcases hp with rfl | rfl
        · exact ⟨by simp only; omega, by simp only; omega⟩
        · exact ⟨by simp only; omega, by simp only; omega⟩
      have HI1 := Lib.hid (hB.out.is.keep o2 (fun x => x) (fun x => x))
      have hok := Lib.hid hB.out.ok
      have HB0 : Hid (Both w gs gp gr s W2) := ⟨HI1.out, hok.out, Tab.tail T2⟩
      have hlt' : (k : Int) < len := by omega
      have HKK : Hid (k < len ∧ gk = len - k) := ⟨hlt, hgk⟩
      have hik : (0 : Int) ≤ (k : Int) := by omega
      have hlc : len ≤ 9223372036854775807 := by omega
      clear hll hkl hx hld hs2 T2 o2 hg7 hk hgk
      have d0 := HT1.out.c 0 rfl 0 (ac_0 x)
      go_upto_block 2 with (first | ((with_reducible refine wpList_load_at ?_ 53 (.tmp 43) ?_ _ ?_ _ HLD.out ?_); rfl; rfl; rfl) | ((with_reducible refine wpList_store_at ?_ 53 (.tmp 7) (.tmp 44) ?_ _ ?_ _ ?_ HS2.out ?_); rfl; rfl; rfl; rfl))
      go_cut [8, 9] from 35 to 184 (fun e f wx => ∃ (E : Int) (t : St), e = .int .i64 E ∧ f = .int .i64 E ∧ Hid (Both w gs gp gr t wx))
      case first =>
        by_cases hk0 : x.kind = 0
        · rw [hk0] at d0
          have d1 := HT1.out.c 0 rfl 1 (ac_1 x)
          have d2 := HT1.out.c 0 rfl 20 (ac_ep hxo.out)
          have hlk := HT1.out.load 0 rfl 23 _ Try.underlying23 rfl 4 info23s (by rw [acA_size hxo.out]; omega)
          rw [ac_k hxo.out] at hlk
          have HLK := Lib.hid hlk
          clear hlk
          go_wp2_with (((with_reducible refine wpList_load_at ?_ 23 (.tmp 54) ?_ _ ?_ _ HLK.out ?_); rfl; rfl; rfl))
          refine (write_any gs gp s x.i x.ep x.k _ HI1.out hok.out HNE.out.1 hxo.out.len).mono ?_
          rintro e w2 ⟨rfl, i2, o2⟩
          have T2 := HT1.out.two o2 HTN.out HGE.out.1 HGE.out.2
          have d3 := T2.c 0 rfl 1 (ac_1 x)
          have d4 := T2.c 0 rfl 20 (ac_ep hxo.out)
          have hlk := T2.load 0 rfl 23 _ Try.underlying23 rfl 4 info23s (by rw [acA_size hxo.out]; omega)
          rw [ac_k hxo.out] at hlk
          have HLK2 := Lib.hid hlk
          clear hlk
          have HL5 := Lib.hid (T2.loadAll 1 rfl 51 _ Try.underlying51 rfl info51s (raA_size hok.out))
          have HT2 := Lib.hid T2
          have HI2 := Lib.hid i2
          clear T2 i2 o2
          go_wp2_with (first | ((with_reducible refine wpList_load_at ?_ 51 (.tmp 5) ?_ _ ?_ _ HL5.out ?_); rfl; rfl; rfl) | ((with_reducible refine wpList_load_at ?_ 23 (.tmp 63) ?_ _ ?_ _ HLK2.out ?_); rfl; rfl; rfl))
          refine (rwrite_any s x.i x.k x.ep _ hok.out hxo.out.len).mono ?_
          rintro e w3 ⟨rfl, k3⟩
          have ok3 := St.write_ok hok.out x.i hxo.out.len x.ep
          have i3 := HI2.out.keep (Only.of_below (S := fun _ => False) k3) (fun x => x) (fun x => x)
          obtain ⟨W4, hs4, T4, -, o4⟩ := (HT2.out.call k3).whole 1 rfl 51 info51s (raA_size ok3) (raA_size hok.out) (raA_one _)
          have HS4 := Lib.hid hs4
          have HB : Hid (Both w gs gp gr (s.write x.i x.k x.ep) W4) := ⟨i3.keep o4 HNE.out.2.1 HNE.out.2.2, ok3, Tab.tail T4⟩
          clear k3 ok3 i3 hs4 T4 o4
          go_wp2_with (((with_reducible refine wpList_store_at ?_ 51 (.tmp 5) (.tmp 68) ?_ _ ?_ _ ?_ HS4.out ?_); rfl; rfl; rfl; rfl))
          go_meet
          case rel => exact ⟨_, _, rfl, rfl, HB.out⟩
        · have q0 : (x.kind == 0) = false := by rw [beq_eq_false_iff_ne]; exact hk0
          by_cases hk1 : x.kind = 1
          · rw [hk1] at d0
            have d1 := HT1.out.c 0 rfl 1 (ac_1 x)
            have d2 := HT1.out.c 0 rfl 20 (ac_ep hxo.out)
            have hlk := HT1.out.load 0 rfl 23 _ Try.underlying23 rfl 4 info23s (by rw [acA_size hxo.out]; omega)
            rw [ac_k hxo.out] at hlk
            have HLK := Lib.hid hlk
            clear hlk
            go_wp2_with (((with_reducible refine wpList_load_at ?_ 23 (.tmp 54) ?_ _ ?_ _ HLK.out ?_); rfl; rfl; rfl))
            refine (write_any gs gp s x.i x.ep x.k _ HI1.out hok.out HNE.out.1 hxo.out.len).mono ?_
            rintro e w2 ⟨rfl, i2, o2⟩
            have T2 := HT1.out.two o2 HTN.out HGE.out.1 HGE.out.2
            have d3 := T2.c 0 rfl 1 (ac_1 x)
            have d4 := T2.c 0 rfl 20 (ac_ep hxo.out)
            have hlk := T2.load 0 rfl 23 _ Try.underlying23 rfl 4 info23s (by rw [acA_size hxo.out]; omega)
            rw [ac_k hxo.out] at hlk
            have HLK2 := Lib.hid hlk
            clear hlk
            have HL5 := Lib.hid (T2.loadAll 1 rfl 51 _ Try.underlying51 rfl info51s (raA_size hok.out))
            have HT2 := Lib.hid T2
            have HI2 := Lib.hid i2
            clear T2 i2 o2
            go_wp2_with (first | ((with_reducible refine wpList_load_at ?_ 51 (.tmp 5) ?_ _ ?_ _ HL5.out ?_); rfl; rfl; rfl) | ((with_reducible refine wpList_load_at ?_ 23 (.tmp 63) ?_ _ ?_ _ HLK2.out ?_); rfl; rfl; rfl))
            refine (rwrite_any s x.i x.k x.ep _ hok.out hxo.out.len).mono ?_
            rintro e w3 ⟨rfl, k3⟩
            have ok3 := St.write_ok hok.out x.i hxo.out.len x.ep
            have i3 := HI2.out.keep (Only.of_below (S := fun _ => False) k3) (fun x => x) (fun x => x)
            obtain ⟨W4, hs4, T4, -, o4⟩ := (HT2.out.call k3).whole 1 rfl 51 info51s (raA_size ok3) (raA_size hok.out) (raA_one _)
            have HS4 := Lib.hid hs4
            have HB : Hid (Both w gs gp gr (s.write x.i x.k x.ep) W4) := ⟨i3.keep o4 HNE.out.2.1 HNE.out.2.2, ok3, Tab.tail T4⟩
            clear k3 ok3 i3 hs4 T4 o4
            go_wp2_with (((with_reducible refine wpList_store_at ?_ 51 (.tmp 5) (.tmp 68) ?_ _ ?_ _ ?_ HS4.out ?_); rfl; rfl; rfl; rfl))
            go_meet
            case rel => exact ⟨_, _, rfl, rfl, HB.out⟩
          · have q1 : (x.kind == 1) = false := by rw [beq_eq_false_iff_ne]; exact hk1
            by_cases hk2 : x.kind = 2
            · rw [hk2] at d0
              have d1 := HT1.out.c 0 rfl 1 (ac_1 x)
              have d2 := HT1.out.c 0 rfl 20 (ac_ep hxo.out)
              have hlk := HT1.out.load 0 rfl 23 _ Try.underlying23 rfl 4 info23s (by rw [acA_size hxo.out]; omega)
              rw [ac_k hxo.out] at hlk
              have HLK := Lib.hid hlk
              clear hlk
              go_wp2_with (((with_reducible refine wpList_load_at ?_ 23 (.tmp 54) ?_ _ ?_ _ HLK.out ?_); rfl; rfl; rfl))
              refine (write_any gs gp s x.i x.ep x.k _ HI1.out hok.out HNE.out.1 hxo.out.len).mono ?_
              rintro e w2 ⟨rfl, i2, o2⟩
              have T2 := HT1.out.two o2 HTN.out HGE.out.1 HGE.out.2
              have d3 := T2.c 0 rfl 1 (ac_1 x)
              have d4 := T2.c 0 rfl 20 (ac_ep hxo.out)
              have hlk := T2.load 0 rfl 23 _ Try.underlying23 rfl 4 info23s (by rw [acA_size hxo.out]; omega)
              rw [ac_k hxo.out] at hlk
              have HLK2 := Lib.hid hlk
              clear hlk
              have HL5 := Lib.hid (T2.loadAll 1 rfl 51 _ Try.underlying51 rfl info51s (raA_size hok.out))
              have HT2 := Lib.hid T2
              have HI2 := Lib.hid i2
              clear T2 i2 o2
              go_wp2_with (first | ((with_reducible refine wpList_load_at ?_ 51 (.tmp 5) ?_ _ ?_ _ HL5.out ?_); rfl; rfl; rfl) | ((with_reducible refine wpList_load_at ?_ 23 (.tmp 63) ?_ _ ?_ _ HLK2.out ?_); rfl; rfl; rfl))
              refine (rwrite_any s x.i x.k x.ep _ hok.out hxo.out.len).mono ?_
              rintro e w3 ⟨rfl, k3⟩
              have ok3 := St.write_ok hok.out x.i hxo.out.len x.ep
              have i3 := HI2.out.keep (Only.of_below (S := fun _ => False) k3) (fun x => x) (fun x => x)
              obtain ⟨W4, hs4, T4, -, o4⟩ := (HT2.out.call k3).whole 1 rfl 51 info51s (raA_size ok3) (raA_size hok.out) (raA_one _)
              have HS4 := Lib.hid hs4
              have HB : Hid (Both w gs gp gr (s.write x.i x.k x.ep) W4) := ⟨i3.keep o4 HNE.out.2.1 HNE.out.2.2, ok3, Tab.tail T4⟩
              clear k3 ok3 i3 hs4 T4 o4
              go_wp2_with (((with_reducible refine wpList_store_at ?_ 51 (.tmp 5) (.tmp 68) ?_ _ ?_ _ ?_ HS4.out ?_); rfl; rfl; rfl; rfl))
              go_meet
              case rel => exact ⟨_, _, rfl, rfl, HB.out⟩
            · have q2 : (x.kind == 2) = false := by rw [beq_eq_false_iff_ne]; exact hk2
              by_cases hk3 : x.kind = 3
              · rw [hk3] at d0
                have d1 := HT1.out.c 0 rfl 1 (ac_1 x)
                go_wp2_with fail
                refine (erase_any gs gp s x.i _ HI1.out hok.out HNE.out.1).mono ?_
                rintro e w2 ⟨rfl, i2, o2⟩
                have T2 := HT1.out.two o2 HTN.out HGE.out.1 HGE.out.2
                have d3 := T2.c 0 rfl 1 (ac_1 x)
                have HL5 := Lib.hid (T2.loadAll 1 rfl 51 _ Try.underlying51 rfl info51s (raA_size hok.out))
                have HT2 := Lib.hid T2
                have HI2 := Lib.hid i2
                clear T2 i2 o2
                go_wp2_with (((with_reducible refine wpList_load_at ?_ 51 (.tmp 5) ?_ _ ?_ _ HL5.out ?_); rfl; rfl; rfl))
                refine (rerase_any s x.i _ hok.out).mono ?_
                rintro e w3 ⟨rfl, k3⟩
                have ok3 := St.erase_ok hok.out x.i
                have i3 := HI2.out.keep (Only.of_below (S := fun _ => False) k3) (fun x => x) (fun x => x)
                obtain ⟨W4, hs4, T4, -, o4⟩ := (HT2.out.call k3).whole 1 rfl 51 info51s (raA_size ok3) (raA_size hok.out) (raA_one _)
                have HS4 := Lib.hid hs4
                have HB : Hid (Both w gs gp gr (s.erase x.i) W4) := ⟨i3.keep o4 HNE.out.2.1 HNE.out.2.2, ok3, Tab.tail T4⟩
                clear k3 ok3 i3 hs4 T4 o4
                go_wp2_with (((with_reducible refine wpList_store_at ?_ 51 (.tmp 5) (.tmp 82) ?_ _ ?_ _ ?_ HS4.out ?_); rfl; rfl; rfl; rfl))
                go_meet
                case rel => exact ⟨_, _, rfl, rfl, HB.out⟩
              · have q3 : (x.kind == 3) = false := by rw [beq_eq_false_iff_ne]; exact hk3
                by_cases hk4 : x.kind = 4
                · rw [hk4] at d0
                  have d1 := HT1.out.c 0 rfl 1 (ac_1 x)
                  go_wp2_with fail
                  refine (erase_any gs gp s x.i _ HI1.out hok.out HNE.out.1).mono ?_
                  rintro e w2 ⟨rfl, i2, o2⟩
                  have T2 := HT1.out.two o2 HTN.out HGE.out.1 HGE.out.2
                  have d3 := T2.c 0 rfl 1 (ac_1 x)
                  have HL5 := Lib.hid (T2.loadAll 1 rfl 51 _ Try.underlying51 rfl info51s (raA_size hok.out))
                  have HT2 := Lib.hid T2
                  have HI2 := Lib.hid i2
                  clear T2 i2 o2
                  go_wp2_with (((with_reducible refine wpList_load_at ?_ 51 (.tmp 5) ?_ _ ?_ _ HL5.out ?_); rfl; rfl; rfl))
                  refine (rerase_any s x.i _ hok.out).mono ?_
                  rintro e w3 ⟨rfl, k3⟩
                  have ok3 := St.erase_ok hok.out x.i
                  have i3 := HI2.out.keep (Only.of_below (S := fun _ => False) k3) (fun x => x) (fun x => x)
                  obtain ⟨W4, hs4, T4, -, o4⟩ := (HT2.out.call k3).whole 1 rfl 51 info51s (raA_size ok3) (raA_size hok.out) (raA_one _)
                  have HS4 := Lib.hid hs4
                  have HB : Hid (Both w gs gp gr (s.erase x.i) W4) := ⟨i3.keep o4 HNE.out.2.1 HNE.out.2.2, ok3, Tab.tail T4⟩
                  clear k3 ok3 i3 hs4 T4 o4
                  go_wp2_with (((with_reducible refine wpList_store_at ?_ 51 (.tmp 5) (.tmp 82) ?_ _ ?_ _ ?_ HS4.out ?_); rfl; rfl; rfl; rfl))
                  go_meet
                  case rel => exact ⟨_, _, rfl, rfl, HB.out⟩
                · have q4 : (x.kind == 4) = false := by rw [beq_eq_false_iff_ne]; exact hk4
                  by_cases hk5 : x.kind = 5
                  · rw [hk5] at d0
                    have d1 := HT1.out.c 0 rfl 2 (ac_2 x)
                    have d2 := HT1.out.c 0 rfl 3 (ac_3 x)
                    go_wp2_with fail
                    refine (fuse_s gs gp s x.n x.keep 0 _ HI1.out hok.out HNE.out.1 hxo.out.n).mono ?_
                    rintro e w2 ⟨rfl, i2, o2⟩
                    have T2 := HT1.out.two o2 HTN.out HGE.out.1 HGE.out.2
                    have d3 := T2.c 0 rfl 2 (ac_2 x)
                    have d4 := T2.c 0 rfl 3 (ac_3 x)
                    have hlp := T2.load 1 rfl 46 _ Try.underlying46 rfl 0 info46s (by rw [raA_size hok.out]; omega)
                    rw [ra_pw] at hlp
                    have HLP := Lib.hid hlp
                    clear hlp
                    have HT2 := Lib.hid T2
                    have HI2 := Lib.hid i2
                    clear T2 i2 o2
                    go_wp2_with (((with_reducible refine wpList_load_at ?_ 46 (.tmp 92) ?_ _ ?_ _ HLP.out ?_); rfl; rfl; rfl))
                    refine (rfuse_any s.p _ x.n x.keep 0).mono ?_
                    rintro e w3 ⟨rfl, k3⟩
                    have ok3 := (⟨⟨by show 0 ≤ max x.n 0; omega, by have := hxo.out.n; show max x.n 0 ≤ _; omega⟩, hok.out.c, hok.out.d⟩ : St.Ok ⟨{ s.p with left := max x.n 0, keep := max x.keep 0, junk := 0 }, s.c, s.d⟩)
                    have i3 := HI2.out.keep (Only.of_below (S := fun _ => False) k3) (fun x => x) (fun x => x)
                    obtain ⟨W4, hs4, T4, -, o4⟩ := (HT2.out.call k3).part 1 rfl 46 0 info46s (pw_size _) (by rw [raA_size hok.out]; omega) (pw_one _)
                    rw [ra_putp] at T4
                    have HS4 := Lib.hid hs4
                    have HB : Hid (Both w gs gp gr (⟨{ s.p with left := max x.n 0, keep := max x.keep 0, junk := 0 }, s.c, s.d⟩) W4) := ⟨i3.keep o4 HNE.out.2.1 HNE.out.2.2, ok3, Tab.tail T4⟩
                    clear k3 ok3 i3 hs4 T4 o4
                    go_wp2_with (((with_reducible refine wpList_store_at ?_ 46 (.tmp 99) (.tmp 98) ?_ _ ?_ _ ?_ HS4.out ?_); rfl; rfl; rfl; rfl))
                    go_meet
                    case rel => exact ⟨_, _, rfl, rfl, HB.out⟩
                  · have q5 : (x.kind == 5) = false := by rw [beq_eq_false_iff_ne]; exact hk5
                    by_cases hk6 : x.kind = 6
                    · rw [hk6] at d0
                      go_wp2_with fail
                      refine (cut_s gs gp s _ HI1.out HNE.out.1).mono ?_
                      rintro e w2 ⟨rfl, i2, o2⟩
                      have T2 := HT1.out.two o2 HTN.out HGE.out.1 HGE.out.2
                      have ok3 := (⟨hok.out.p, hok.out.c, hok.out.d⟩ : St.Ok ⟨{ s.p with off := true }, s.c, s.d⟩)
                      obtain ⟨W4, hs4, T4, -, o4⟩ := T2.one 1 rfl 4 0 (.bool true) info4s rfl (by rw [raA_size hok.out]; omega)
                      rw [ra_set0] at T4
                      have HS4 := Lib.hid hs4
                      have HB : Hid (Both w gs gp gr ⟨{ s.p with off := true }, s.c, s.d⟩ W4) := ⟨i2.keep o4 HNE.out.2.1 HNE.out.2.2, ok3, Tab.tail T4⟩
                      clear i2 o2 T2 ok3 hs4 T4 o4
                      go_wp2_with (((with_reducible refine wpList_store_at ?_ 4 (.tmp 105) (.const (.bool true)) ?_ _ ?_ _ ?_ HS4.out ?_); rfl; rfl; rfl; rfl))
                      go_meet
                      case rel => exact ⟨_, _, rfl, rfl, HB.out⟩
                    · have q6 : (x.kind == 6) = false := by rw [beq_eq_false_iff_ne]; exact hk6
                      by_cases hk7 : x.kind = 7
                      · rw [hk7] at d0
                        go_wp2_with fail
                        refine (on_s gs gp s _ HI1.out HNE.out.1).mono ?_
                        rintro e w2 ⟨rfl, i2, o2⟩
                        have T2 := HT1.out.two o2 HTN.out HGE.out.1 HGE.out.2
                        have ok3 := (⟨⟨by show (0 : Int) ≤ 0; omega, by show (0 : Int) ≤ 9223372036854775807; omega⟩, hok.out.c, hok.out.d⟩ : St.Ok ⟨{ s.p with off := false, left := 0 }, s.c, s.d⟩)
                        obtain ⟨W3, hs3, T3, -, o3⟩ := T2.one 1 rfl 4 0 (.bool false) info4s rfl (by rw [raA_size hok.out]; omega)
                        rw [ra_set0] at T3
                        have HS3 := Lib.hid hs3
                        have okm : St.Ok ⟨{ s.p with off := false }, s.c, s.d⟩ := ⟨hok.out.p, hok.out.c, hok.out.d⟩
                        obtain ⟨W4, hs4, T4, -, o4⟩ := T3.one 1 rfl 3 1 (.int .i64 0) info3s rfl (by show 1 < (raA ⟨{ s.p with off := false }, s.c, s.d⟩).size; rw [raA_size okm]; omega)
                        rw [ra_set1] at T4
                        have HS4 := Lib.hid hs4
                        have HB : Hid (Both w gs gp gr ⟨{ s.p with off := false, left := 0 }, s.c, s.d⟩ W4) := ⟨(i2.keep o3 HNE.out.2.1 HNE.out.2.2).keep o4 HNE.out.2.1 HNE.out.2.2, ok3, Tab.tail T4⟩
                        clear i2 o2 T2 ok3 hs3 T3 o3 hs4 T4 o4 okm
                        go_wp2_with (first | ((with_reducible refine wpList_store_at ?_ 4 (.tmp 112) (.const (.bool false)) ?_ _ ?_ _ ?_ HS3.out ?_); rfl; rfl; rfl; rfl) | ((with_reducible refine wpList_store_at ?_ 3 (.tmp 114) (.const (.int .i64 0)) ?_ _ ?_ _ ?_ HS4.out ?_); rfl; rfl; rfl; rfl))
                        go_meet
                        case rel => exact ⟨_, _, rfl, rfl, HB.out⟩
                      · have q7 : (x.kind == 7) = false := by rw [beq_eq_false_iff_ne]; exact hk7
                        by_cases hk8 : x.kind = 8
                        · rw [hk8] at d0
                          go_wp2_with fail
                          refine (on_s gs gp s _ HI1.out HNE.out.1).mono ?_
                          rintro e w2 ⟨rfl, i2, o2⟩
                          have T2 := HT1.out.two o2 HTN.out HGE.out.1 HGE.out.2
                          have ok3 := (⟨⟨by show (0 : Int) ≤ 0; omega, by show (0 : Int) ≤ 9223372036854775807; omega⟩, hok.out.c, hok.out.d⟩ : St.Ok ⟨{ s.p with off := false, left := 0 }, s.c, s.d⟩)
                          obtain ⟨W3, hs3, T3, -, o3⟩ := T2.one 1 rfl 4 0 (.bool false) info4s rfl (by rw [raA_size hok.out]; omega)
                          rw [ra_set0] at T3
                          have HS3 := Lib.hid hs3
                          have okm : St.Ok ⟨{ s.p with off := false }, s.c, s.d⟩ := ⟨hok.out.p, hok.out.c, hok.out.d⟩
                          obtain ⟨W4, hs4, T4, -, o4⟩ := T3.one 1 rfl 3 1 (.int .i64 0) info3s rfl (by show 1 < (raA ⟨{ s.p with off := false }, s.c, s.d⟩).size; rw [raA_size okm]; omega)
                          rw [ra_set1] at T4
                          have HS4 := Lib.hid hs4
                          have HB : Hid (Both w gs gp gr ⟨{ s.p with off := false, left := 0 }, s.c, s.d⟩ W4) := ⟨(i2.keep o3 HNE.out.2.1 HNE.out.2.2).keep o4 HNE.out.2.1 HNE.out.2.2, ok3, Tab.tail T4⟩
                          clear i2 o2 T2 ok3 hs3 T3 o3 hs4 T4 o4 okm
                          go_wp2_with (first | ((with_reducible refine wpList_store_at ?_ 4 (.tmp 112) (.const (.bool false)) ?_ _ ?_ _ ?_ HS3.out ?_); rfl; rfl; rfl; rfl) | ((with_reducible refine wpList_store_at ?_ 3 (.tmp 114) (.const (.int .i64 0)) ?_ _ ?_ _ ?_ HS4.out ?_); rfl; rfl; rfl; rfl))
                          go_meet
                          case rel => exact ⟨_, _, rfl, rfl, HB.out⟩
                        · have q8 : (x.kind == 8) = false := by rw [beq_eq_false_iff_ne]; exact hk8
                          generalize x.kind = kd at *
                          go_wp2_with fail
                          go_meet
                          case rel => exact ⟨0, s, rfl, rfl, HB0.out⟩
      case rest =>
        clear HTN HT1 HI1 HB0 HS2 HLD d0 hB hok
        obtain ⟨E, t, rfl, rfl, hB⟩ := hcut
        have hok := Lib.hid hB.out.ok
        go_wp2_with fail
        refine (newest_any gs gp t _ hB.out.is hB.out.ok).mono ?_
        rintro e y1 ⟨rfl, oo⟩
        have hB1 := Lib.hid (hB.out.on oo)
        have HL := Lib.hid (hB1.out.tab.loadAll 0 rfl 51 _ Try.underlying51 rfl info51s (raA_size hok.out))
        clear oo
        go_wp2_with (((with_reducible refine wpList_load_at ?_ 51 (.tmp 5) ?_ _ ?_ _ HL.out ?_); rfl; rfl; rfl))
        refine (rnewest_any t _ hok.out).mono ?_
        rintro e y2 ⟨rfl, k2⟩
        have hB2 := Lib.hid (hB1.out.on (Only.of_below k2))
        clear k2
        go_wp2_with fail
        have HL51 := Lib.hid (fun (W : World) (hW : (fun W => Is gs gp t W ∧ W.heap[gr]? = some (.cells (raA t) 51 (0, 0))) W) => show (loadVar 51 ⟨gr, 0, none⟩).run Try.prog W = .ok (.agg (raA t)) W from run_loadVar_row (P := Try.prog) _ gr 51 51 _ (0, 0) _ hW.2 Try.underlying51 rfl (by rw [info51s, raA_size hok.out]))
        have HC0 := Lib.hid (fun (W : World) (hW : (fun W => Is gs gp t W ∧ W.heap[gr]? = some (.cells (raA t) 51 (0, 0))) W) => (cell_of_row W gr 0 _ _ _ hW.2).trans (ra_off t))
        refine wp_region_held (S := (fun W => Is gs gp t W ∧ W.heap[gr]? = some (.cells (raA t) 51 (0, 0)))) (by kernel_rfl) ?_
        change wpAnyH _ _ _ _ _ _ _ _ (World.drew _)
        have hS0 : (fun W => Is gs gp t W ∧ W.heap[gr]? = some (.cells (raA t) 51 (0, 0))) (World.drew y2) := ⟨hB2.out.is.keep (Only.refl (fun _ => False) y2).drew (fun x => x) (fun x => x), hB2.out.tab.drew.get 0 rfl⟩
        refine held_pure (i := 0) (v := (.int .i64 E)) rfl rfl (by kernel_rfl) (by kernel_rfl) (by kernel_rfl) (fun _ _ _ h => h) (Or.inl ⟨by rfl, fun w => by go_simp⟩) hS0 ?_
        simp only [List.setIfInBounds_toArray, List.set]
        refine held_pure (i := 1) (v := (.int .i64 E)) rfl rfl (by kernel_rfl) (by kernel_rfl) (by kernel_rfl) (fun _ _ _ h => h) (Or.inl ⟨by rfl, fun w => by go_simp⟩) hS0 ?_
        simp only [List.setIfInBounds_toArray, List.set]
        refine held_pure (i := 2) (v := (.bool false)) rfl rfl (by kernel_rfl) (by kernel_rfl) (by kernel_rfl) (fun _ _ _ h => h) (Or.inl ⟨by rfl, fun w => by go_simp⟩) hS0 ?_
        simp only [List.setIfInBounds_toArray, List.set]
        refine held_pure (i := 3) (v := (.bool false)) rfl rfl (by kernel_rfl) (by kernel_rfl) (by kernel_rfl) (fun _ _ _ h => h) (Or.inl ⟨by rfl, fun w => by go_simp⟩) hS0 ?_
        simp only [List.setIfInBounds_toArray, List.set]
        refine held_pure (i := 4) (v := (.pointer (some ⟨gp, 0, none⟩))) rfl rfl (by kernel_rfl) (by kernel_rfl) (by kernel_rfl) (fun _ _ _ h => h) (Or.inl ⟨by rfl, fun w => by go_simp⟩) hS0 ?_
        simp only [List.setIfInBounds_toArray, List.set]
        refine held_pure (i := 6) (v := (.pointer (some ⟨gr, 0, none⟩))) rfl rfl (by kernel_rfl) (by kernel_rfl) (by kernel_rfl) (fun _ _ _ h => h) (Or.inl ⟨by rfl, fun w => by go_simp⟩) hS0 ?_
        simp only [List.setIfInBounds_toArray, List.set]
        refine held_pure (i := 7) (v := (.pointer (some ⟨gr, 0, none⟩))) rfl rfl (by kernel_rfl) (by kernel_rfl) (by kernel_rfl) (fun _ _ _ h => h) (Or.inl ⟨by rfl, fun w => by go_simp⟩) hS0 ?_
        simp only [List.setIfInBounds_toArray, List.set]
        refine held_take (i := 8) (v := (.bool t.p.off)) rfl rfl (by kernel_rfl) (by kernel_rfl) (by kernel_rfl) (fun _ _ _ h => h) (Or.inl ⟨by rfl, fun w hS => by have hc := HC0.out w hS; go_simp⟩) hS0 ?_
        simp only [List.setIfInBounds_toArray, List.set]
        refine held_call (j := 5) (by kernel_rfl) rfl rfl (by rfl) Try.func16 (by kernel_rfl) rfl rfl [.pointer (some ⟨gp, 0, none⟩)] rfl (up_any gp t.p _ hS0.1.pw) ?_
        rintro _ rfl
        refine ⟨hS0, ?_⟩
        simp only [List.setIfInBounds_toArray, List.set]
        refine held_take (i := 9) (v := (.bool false)) rfl rfl (by kernel_rfl) (by kernel_rfl) (by kernel_rfl) (fun _ _ _ h => h) (Or.inl ⟨by rfl, fun w _ => by generalize t.p.off = ob; cases ob <;> go_simp⟩) hS0 ?_
        simp only [List.setIfInBounds_toArray, List.set]
        refine held_pure (i := 10) (v := (.bool false)) rfl rfl (by kernel_rfl) (by kernel_rfl) (by kernel_rfl) (fun _ _ _ h => h) (Or.inl ⟨by rfl, fun w => by go_simp⟩) hS0 ?_
        simp only [List.setIfInBounds_toArray, List.set]
        refine held_pure (i := 11) (v := (.bool false)) rfl rfl (by kernel_rfl) (by kernel_rfl) (by kernel_rfl) (fun _ _ _ h => h) (Or.inl ⟨by rfl, fun w => by go_simp⟩) hS0 ?_
        simp only [List.setIfInBounds_toArray, List.set]
        refine held_pure (i := 12) (v := (.int .i64 t.newI)) rfl rfl (by kernel_rfl) (by kernel_rfl) (by kernel_rfl) (fun _ _ _ h => h) (Or.inl ⟨by rfl, fun w => by go_simp⟩) hS0 ?_
        simp only [List.setIfInBounds_toArray, List.set]
        refine held_pure (i := 13) (v := (.int .i64 t.newI)) rfl rfl (by kernel_rfl) (by kernel_rfl) (by kernel_rfl) (fun _ _ _ h => h) (Or.inl ⟨by rfl, fun w => by go_simp⟩) hS0 ?_
        simp only [List.setIfInBounds_toArray, List.set]
        refine held_pure (i := 14) (v := (.bool false)) rfl rfl (by kernel_rfl) (by kernel_rfl) (by kernel_rfl) (fun _ _ _ h => h) (Or.inl ⟨by rfl, fun w => by go_simp⟩) hS0 ?_
        simp only [List.setIfInBounds_toArray, List.set]
        refine held_pure (i := 15) (v := (.bool false)) rfl rfl (by kernel_rfl) (by kernel_rfl) (by kernel_rfl) (fun _ _ _ h => h) (Or.inl ⟨by rfl, fun w => by go_simp⟩) hS0 ?_
        simp only [List.setIfInBounds_toArray, List.set]
        refine held_pure (i := 16) (v := (.bool false)) rfl rfl (by kernel_rfl) (by kernel_rfl) (by kernel_rfl) (fun _ _ _ h => h) (Or.inl ⟨by rfl, fun w => by go_simp⟩) hS0 ?_
        simp only [List.setIfInBounds_toArray, List.set]
        refine held_pure (i := 17) (v := (.int .i64 t.newE)) rfl rfl (by kernel_rfl) (by kernel_rfl) (by kernel_rfl) (fun _ _ _ h => h) (Or.inl ⟨by rfl, fun w => by go_simp⟩) hS0 ?_
        simp only [List.setIfInBounds_toArray, List.set]
        refine held_pure (i := 18) (v := (.int .i64 t.newE)) rfl rfl (by kernel_rfl) (by kernel_rfl) (by kernel_rfl) (fun _ _ _ h => h) (Or.inl ⟨by rfl, fun w => by go_simp⟩) hS0 ?_
        simp only [List.setIfInBounds_toArray, List.set]
        refine held_pure (i := 19) (v := (.bool false)) rfl rfl (by kernel_rfl) (by kernel_rfl) (by kernel_rfl) (fun _ _ _ h => h) (Or.inl ⟨by rfl, fun w => by go_simp⟩) hS0 ?_
        simp only [List.setIfInBounds_toArray, List.set]
        refine held_pure (i := 20) (v := (.bool false)) rfl rfl (by kernel_rfl) (by kernel_rfl) (by kernel_rfl) (fun _ _ _ h => h) (Or.inl ⟨by rfl, fun w => by go_simp⟩) hS0 ?_
        simp only [List.setIfInBounds_toArray, List.set]
        refine held_pure (i := 21) (v := (.bool false)) rfl rfl (by kernel_rfl) (by kernel_rfl) (by kernel_rfl) (fun _ _ _ h => h) (Or.inl ⟨by rfl, fun w => by go_simp⟩) hS0 ?_
        simp only [List.setIfInBounds_toArray, List.set]
        refine held_pure (i := 22) (v := (.pointer (some ⟨gs, 0, none⟩))) rfl rfl (by kernel_rfl) (by kernel_rfl) (by kernel_rfl) (fun _ _ _ h => h) (Or.inl ⟨by rfl, fun w => by go_simp⟩) hS0 ?_
        simp only [List.setIfInBounds_toArray, List.set]
        refine held_take (i := 24) (v := (.agg (raA t))) rfl rfl (by kernel_rfl) (by kernel_rfl) (by kernel_rfl) (fun _ _ _ h => h) (yields_load_w (by rfl) 51 (.tmp 5) rfl _ rfl _ HL51.out) hS0 ?_
        simp only [List.setIfInBounds_toArray, List.set]
        refine held_callE (j := 23) (by kernel_rfl) rfl rfl (by rfl) Try.func13 (by kernel_rfl) rfl rfl [.pointer (some ⟨gs, 0, none⟩)] rfl (holds_any gs gp t _ hS0.1 hok.out) ?_
        rintro v1 y1 ⟨own1, oo1⟩
        have hS1 := And.intro (hS0.1.keep oo1 (fun x => x) (fun x => x)) (oo1.block _ (Array.getElem?_eq_some_iff.1 hS0.2).1 (fun x => x) |>.trans hS0.2)
        refine ⟨hS1, ?_⟩
        simp only [List.setIfInBounds_toArray, List.set]
        refine held_callE (j := 25) (by kernel_rfl) rfl rfl (by rfl) Try.func25 (by kernel_rfl) rfl rfl [.agg (raA t)] rfl (rholds_any t _ hok.out) ?_
        rintro v2 y2 ⟨own2, oo2⟩
        have hS2 := And.intro (hS1.1.keep oo2 (fun x => x) (fun x => x)) (oo2.block _ (Array.getElem?_eq_some_iff.1 hS1.2).1 (fun x => x) |>.trans hS1.2)
        have own3 := own_keep own1 oo2
        refine ⟨hS2, ?_⟩
        simp only [List.setIfInBounds_toArray, List.set]
        refine held_call (j := 26) (by kernel_rfl) rfl rfl (by rfl) Try.func24 (by kernel_rfl) rfl rfl [v1, v2] rfl (same_any v1 v2 _ _ t.holds _ (holds_ok hok.out) own3 own2) ?_
        rintro y3 oo3
        have hS3 := And.intro (hS2.1.keep oo3 (fun x => x) (fun x => x)) (oo3.block _ (Array.getElem?_eq_some_iff.1 hS2.2).1 (fun x => x) |>.trans hS2.2)
        refine ⟨hS3, ?_⟩
        simp only [List.setIfInBounds_toArray, List.set]
        refine held_pure (i := 27) (v := (.bool false)) rfl rfl (by kernel_rfl) (by kernel_rfl) (by kernel_rfl) (fun _ _ _ h => h) (Or.inl ⟨by rfl, fun w => by go_simp⟩) hS3 ?_
        simp only [List.setIfInBounds_toArray, List.set]
        refine held_pure (i := 28) (v := (.bool false)) rfl rfl (by kernel_rfl) (by kernel_rfl) (by kernel_rfl) (fun _ _ _ h => h) (Or.inl ⟨by rfl, fun w => by go_simp⟩) hS3 ?_
        simp only [List.setIfInBounds_toArray, List.set]
        refine wpAnyH_done (by kernel_rfl) ?_ _
        have HB3 : Hid (Both w gs gp gr t y3) := ⟨hS3.1, hok.out, ((hB2.out.tab.drew.on oo1).on oo2).on oo3⟩
        clear oo1 oo2 oo3 own1 own2 own3 hS0 hS1 hS2 hS3 HL51 HC0
        go_wp2_with fail
        go_loopg [14] 4 (fun g j wi => ∃ z : Int, -1 ≤ z ∧ z ≤ 3 ∧ g = (3 - z).toNat ∧ j = .int .i64 z ∧ Hid (Both w gs gp gr t wi))
        case atStart => exact ⟨-1, by omega, by omega, by omega, rfl, HB3.out⟩
        case round =>
          obtain ⟨z, hz1, hz2, hgz, rfl, hBi⟩ := hrel
          clear hB hB1 hB2 HB3 HL
          by_cases hz : z < 3
          · have hkl := readK_len hok.out z
            have HKL := Lib.hid hkl
            have HGZ := Lib.hid hgz
            clear hgz hkl
            go_wp2_with fail
            refine (read_any gs gp t z _ hBi.out.is hok.out).mono ?_
            rintro e y4 ⟨rfl, oo4⟩
            have hB4 := hBi.out.on oo4
            obtain ⟨W5, hs5, T5, -, o5⟩ := hB4.tab.fresh (kyA ky0) 23 info23s (kyA_size HKL.out) (kyA_size (l := ky0) rfl) (kyL_one _)
            have HS5 := Lib.hid hs5
            have HT5 := Lib.hid T5
            have HI5 := Lib.hid (hB4.is.keep o5 (fun x => x) (fun x => x))
            have HL5 := Lib.hid (T5.loadAll 1 rfl 51 _ Try.underlying51 rfl info51s (raA_size hok.out))
            clear oo4 hB4 hs5 T5 o5
            go_wp2_with (first | ((with_reducible refine wpList_store_at ?_ 23 (.tmp 15) (.tmp 162) ?_ _ ?_ _ ?_ HS5.out ?_); rfl; rfl; rfl; rfl) | ((with_reducible refine wpList_load_at ?_ 51 (.tmp 5) ?_ _ ?_ _ HL5.out ?_); rfl; rfl; rfl))
            refine (rread_any t z _ hok.out).mono ?_
            rintro e y6 ⟨rfl, k6⟩
            have HI6 := Lib.hid (HI5.out.keep (Only.of_below (S := fun _ => False) k6) (fun x => x) (fun x => x))
            obtain ⟨W7, hs7, T7, -, o7⟩ := (HT5.out.call k6).fresh (kyA ky0) 23 info23s (kyA_size HKL.out) (kyA_size (l := ky0) rfl) (kyL_one _)
            have HS7 := Lib.hid hs7
            have HLA := Lib.hid (T7.loadAll 1 rfl 23 _ Try.underlying23 rfl info23s (kyA_size HKL.out))
            have HLB := Lib.hid (T7.loadAll 0 rfl 23 _ Try.underlying23 rfl info23s (kyA_size HKL.out))
            have HB7 : Hid (Both w gs gp gr t W7) := ⟨HI6.out.keep o7 (fun x => x) (fun x => x), hok.out, Tab.tail (Tab.tail T7)⟩
            have hq := key_eq 9998 (t.readK z) (t.readK z) HKL.out HKL.out W7
            rw [beq_self_eq_true] at hq
            have HQ := Lib.hid hq
            clear k6 hs7 T7 o7 hq
            go_wp2_with (first | ((with_reducible refine wpList_store_at ?_ 23 (.tmp 18) (.tmp 169) ?_ _ ?_ _ ?_ HS7.out ?_); rfl; rfl; rfl; rfl) | ((with_reducible refine wpList_load_at ?_ 23 (.tmp 15) ?_ _ ?_ _ HLA.out ?_); rfl; rfl; rfl) | ((with_reducible refine wpList_load_at ?_ 23 (.tmp 18) ?_ _ ?_ _ HLB.out ?_); rfl; rfl; rfl) | ((with_reducible refine wpList_neq_at ?_ 23 (.tmp 172) (.tmp 173) 23 _ _ _ ?_ ?_ ?_ ?_ HQ.out ?_); rfl; rfl; rfl; rfl; kernel_rfl))
            go_roundg (3 - (z + 1)).toNat
            case measure => have := HGZ.out; omega
            case rel => exact ⟨z + 1, by omega, by omega, rfl, rfl, HB7.out⟩
          · obtain rfl : z = 3 := by omega
            clear hgz
            go_wp2_with fail
            go_roundg (len - (k + 1))
            case measure => have := HKK.out; omega
            case rel => exact ⟨k + 1, t, by have := HKK.out; omega, rfl, by go_num, hBi.out⟩
    · have hlt' : ¬ (k : Int) < len := by omega
      clear hgk hk
      go_wp2_with fail
      refine (new_nil _).mono ?_
      rintro e y9 ⟨rfl, rfl⟩
      go_wp2_with fail
      go_ret
      exact ⟨rfl, hB.out.tab.below⟩

theorem slotActs_walk (w : World) (sa : Option Addr) (len cap : Nat) (l : List Ac) (hl : ActRow w sa len cap l) :
    Calls Try.prog 7 #[.slice sa len cap] w fun e w' => e = .returned (.bool true) ∧ Below w.heap.size w w' := by
  by_cases h : 150 < len
  · exact acts_long w sa len cap h
  · exact acts_short w sa len cap l hl (by omega)

end Go.Proofs.Ytfolmdcceefflaa
