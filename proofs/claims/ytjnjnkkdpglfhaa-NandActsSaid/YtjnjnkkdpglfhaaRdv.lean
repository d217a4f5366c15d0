/-
  NandActs: each act on both.
-/
import Derived.Test.YtjnjnkkdpglfhaaRdu
set_option linter.unusedVariables false
namespace Go.Proofs.Ytjnjnkkdpglfhaa
open Go.RowKit

section
variable {P : Program} {ops : Array Oper} {S : World → Prop} {md : Region.Mode} {Q : Exit → Act → World → Prop}
/-- A call that may come up alone; what it returns is told by what it does. -/
theorem held_callx {j : Nat} {oj : Oper} {t : Tmp} {fuel : Nat} {listed : Array Bool} {a : Act} {w : World} (hr : Region.ready md ops listed = [j]) (hj : ops[j]? = some oj) (hd : oj.dst = some t)
    (hw : Region.wanted oj (yielded ops a.tmps) = true) {f : FuncId} {fn : Func} (hf : P.funcs[f]? = some fn) (hn : (fn.name == "runtime.NumGoroutine") = false) (hb : fn.body.isSome = true)
    {xs : Array Operand} {ts : Array TypeId} (hop : oj.op = .call { callee := .value (.func f), args := xs, argTypes := ts }) (al : List Value) (hargs : xs.toList.map a.eval = al) {R : Value → World → Prop}
    (hc : Calls P f al.toArray w fun e w' => ∃ v, e = .returned v ∧ R v w') (h : ∀ v w', R v w' → S w' ∧ wpAnyH P md ops Q S fuel (listed.setIfInBounds j true) ⟨a.tmps.setIfInBounds t v, a.defers⟩ w') : wpAnyH P md ops Q S (fuel + 1) listed a w := by
  refine wpAnyH_all hr (by simp) fun i hi => ?_
  obtain rfl : i = j := by simpa using hi
  unfold Go.wpOp
  simp only [hj]
  rw [if_pos hw]
  refine .inl ?_
  have h1 : fn.name ≠ "runtime.NumGoroutine" := by simpa using hn
  obtain ⟨c, hcb⟩ := Option.isSome_iff_exists.1 hb
  have hargs' : xs.map a.eval = al.toArray := by rw [← hargs]; apply Array.toList_inj.1; simp
  have he : (callFunc f al.toArray).run P w = .ok (.enter f al.toArray) w := by simp [callFunc, hf, h1, hcb]
  have hrun : (execOp a.eval oj).run P w = .ok (.enter f al.toArray) w := by
    unfold execOp
    simp [hop, resolve, Deferred.ofValue, invoke, Act.eval, hargs', he]
  unfold Oper.wp
  rw [hrun, Oper.upon_enter]
  refine hc.mono fun e w'' hh => ?_
  obtain ⟨v, rfl, hk⟩ := hh
  have := h v w'' hk
  rw [← put_some (a := a), ← hd] at this
  exact this
end
section
variable {B gc gl gp g br : Nat} {pg : Nat → Nat} {st sr s2 : Cp} {p pr p2 : Pw} {a w w' : World} {R T : Rws} {A A' X : Array Value} {ty : TypeId}
theorem program_du (h : Du R br a B gc gl gp pg st p sr pr A w) (i j : Int) (s : ByteArray) (hpi : p.In) (hN : st.past.length ≤ 100000) (hP : 0 ≤ st.programs ∧ st.programs ≤ 100000) :
    Calls Try.prog 15 #[.pointer (some ⟨gc, 0, none⟩), .int .i64 i, .int .i64 j, .string s] w fun e w' => e = .returned (.int .i64 (st.prE p i j s)) ∧ Du R br a B gc gl gp pg (st.prS p i j s) (st.prP p i j s) sr pr A w' := by
  obtain ⟨T, lv, pv, k1, k2⟩ := h
  refine (program_on k1 i j s hpi hN hP).mono ?_
  rintro e w' ⟨rfl, k3⟩
  exact ⟨rfl, T, lv, pv, k3, k2⟩
theorem erase_du (h : Du R br a B gc gl gp pg st p sr pr A w) (i : Int) (hpi : p.In) (hE : 0 ≤ st.erases ∧ st.erases ≤ 100000000) (hW : ∀ i, 0 ≤ st.wear i) (hrt : st.rated ≤ 9223372036854775807) :
    Calls Try.prog 11 #[.pointer (some ⟨gc, 0, none⟩), .int .i64 i] w fun e w' => e = .returned (.int .i64 (st.erE p i)) ∧ Du R br a B gc gl gp pg (st.erS p i) (st.erP p i) sr pr A w' := by
  obtain ⟨T, lv, pv, k1, k2⟩ := h
  refine (erase_on k1 i hpi hE hW hrt).mono ?_
  rintro e w' ⟨rfl, k3⟩
  exact ⟨rfl, T, lv, pv, k3, k2⟩
theorem read_du (h : Du R br a B gc gl gp pg st p sr pr A w) (i j : Int) :
    Calls Try.prog 19 #[.pointer (some ⟨gc, 0, none⟩), .int .i64 i, .int .i64 j] w fun e w' => e = .returned (.tuple #[.string ((st.rdO p i j).getD ByteArray.empty), .bool (st.rdO p i j).isSome, .int .i64 (st.rdE p i j)]) ∧ Du R br a B gc gl gp pg st p sr pr A w' := by
  obtain ⟨T, lv, pv, k1, k2⟩ := h
  refine (read_on k1 i j).mono ?_
  rintro e w' ⟨rfl, k3⟩
  exact ⟨rfl, T, lv, pv, k3, k2⟩
theorem wear_du (h : Du R br a B gc gl gp pg st p sr pr A w) (i : Int) : Calls Try.prog 13 #[.pointer (some ⟨gc, 0, none⟩), .int .i64 i] w fun e w' => e = .returned (.int .i64 (st.wearI i)) ∧ Du R br a B gc gl gp pg st p sr pr A w' := by
  obtain ⟨T, lv, pv, k1, k2⟩ := h
  refine (wear_on k1 i).mono ?_
  rintro e w' ⟨rfl, k3⟩
  exact ⟨rfl, T, lv, pv, k3, k2⟩
theorem counts_du (h : Du R br a B gc gl gp pg st p sr pr A w) : Calls Try.prog 12 #[.pointer (some ⟨gc, 0, none⟩)] w fun e w' => e = .returned (.tuple #[.int .i64 st.programs, .int .i64 st.erases]) ∧ Du R br a B gc gl gp pg st p sr pr A w' := by
  obtain ⟨T, lv, pv, k1, k2⟩ := h
  refine (counts_on k1).mono ?_
  rintro e w' ⟨rfl, k3⟩
  exact ⟨rfl, T, lv, pv, k3, k2⟩
theorem history_du (h : Du R br a B gc gl gp pg st p sr pr A w) (hN : st.past.length ≤ 1000000) :
    Calls Try.prog 21 #[.pointer (some ⟨gc, 0, none⟩)] w fun e w' => ∃ v, e = .returned v ∧ SL w' v st.past ∧ Du R br a B gc gl gp pg st p sr pr A w' := by
  obtain ⟨T, lv, pv, k1, k2⟩ := h
  refine (history_on k1 hN).mono ?_
  rintro e w' ⟨v, rfl, k4, k3⟩
  exact ⟨v, rfl, OS.sl (base := w.heap.size) k4 hN, T, lv, pv, k3, k2⟩
theorem up_du (h : Du R br a B gc gl gp pg st p sr pr A w) : Calls Try.prog 17 #[.pointer (some ⟨gp, 0, none⟩)] w fun e w' => e = .returned (.bool (!p.off)) ∧ w' = w := by
  obtain ⟨T, lv, pv, k1, k2⟩ := h
  refine (up_any gp p w k1.pw).mono ?_
  rintro e w' ⟨rfl, rfl⟩
  exact ⟨rfl, rfl⟩
theorem cut_du (h : Du R br a B gc gl gp pg st p sr pr A w) : Calls Try.prog 14 #[.pointer (some ⟨gp, 0, none⟩)] w fun e w' => e = .returned (.tuple #[]) ∧ Du R br a B gc gl gp pg st { p with off := true } sr pr A w' := by
  obtain ⟨T, lv, pv, k1, k2⟩ := h
  refine (cut_on k1).mono ?_
  rintro e w' ⟨rfl, k3⟩
  exact ⟨rfl, T, lv, pv, k3, k2⟩
theorem on_du (h : Du R br a B gc gl gp pg st p sr pr A w) : Calls Try.prog 20 #[.pointer (some ⟨gp, 0, none⟩)] w fun e w' => e = .returned (.tuple #[]) ∧ Du R br a B gc gl gp pg st { p with off := false, left := 0 } sr pr A w' := by
  obtain ⟨T, lv, pv, k1, k2⟩ := h
  refine (on_on k1).mono ?_
  rintro e w' ⟨rfl, k3⟩
  exact ⟨rfl, T, lv, pv, k3, k2⟩
theorem fuse_du (h : Du R br a B gc gl gp pg st p sr pr A w) (n keep junk : Int) :
    Calls Try.prog 18 #[.pointer (some ⟨gp, 0, none⟩), .int .i64 n, .int .i64 keep, .int .u8 junk] w fun e w' => e = .returned (.tuple #[]) ∧ Du R br a B gc gl gp pg st { p with left := max n 0, keep := max keep 0, junk := junk } sr pr A w' := by
  obtain ⟨T, lv, pv, k1, k2⟩ := h
  refine (fuse_on k1 n keep junk).mono ?_
  rintro e w' ⟨rfl, k3⟩
  exact ⟨rfl, T, lv, pv, k3, k2⟩
theorem kept_du (h : Du R br a B gc gl gp pg st p sr pr A w) :
    Calls Try.prog 27 #[.pointer (some ⟨gp, 0, none⟩)] w fun e w' => e = .returned (.tuple #[.int .i64 p.keep, .int .u8 p.junk]) ∧ Du R br a B gc gl gp pg st p sr pr A w' := by
  obtain ⟨T, lv, pv, k1, k2⟩ := h
  refine (kept_any gp p w k1.pw).mono ?_
  rintro e w' ⟨rfl, n, rfl⟩
  exact ⟨rfl, T, lv, pv, k1.on ((Only.refl _ _).drewN n), k2⟩
theorem act_du (h : Du R br a B gc gl gp pg st p sr pr A w) (hok : p.Ok) :
    Calls Try.prog 28 #[.pointer (some ⟨gp, 0, none⟩)] w fun e w' => e = .returned (.tuple #[.bool p.may, .bool p.whole]) ∧ Du R br a B gc gl gp pg st p.next sr pr A w' := by
  obtain ⟨T, lv, pv, k1, k2⟩ := h
  refine (act_any gp p w k1.pw hok).mono ?_
  rintro e w' ⟨rfl, h1, h2⟩
  exact ⟨rfl, T, lv, pv, k1.power h1 h2, k2⟩
theorem size_du (h : Du R br a B gc gl gp pg st p sr pr A w) : (loadVar 72 ⟨gc, 0, none⟩).run Try.prog w = .ok (.agg (szA st.segs st.pages)) w := by
  obtain ⟨T, lv, pv, ⟨pv1, k1, _⟩, k2⟩ := h
  exact k1.size
theorem rprog_du (h : Du R br a B gc gl gp pg s2 p2 st p A w) (i j : Int) (s : ByteArray) (hpi : p.In) (hN : st.past.length ≤ 100000) (hP : 0 ≤ st.programs ∧ st.programs ≤ 100000) :
    Calls Try.prog 23 #[.agg A, .int .i64 i, .int .i64 j, .string s] w fun e w' => ∃ A' W, e = .returned (.tuple #[.agg A', .int .i64 (st.prE p i j s)]) ∧ (storeVar 53 ⟨br, 0, none⟩ (.agg A')).run Try.prog w' = .ok () W ∧ Du R br a B gc gl gp pg s2 p2 (st.prS p i j s) (st.prP p i j s) A' W := by
  obtain ⟨lv, pv, k1, k2, k3⟩ := h.ra
  refine (rpr_any k1 k2 k3 i j s hpi hN hP).mono ?_
  rintro e w' ⟨A', rfl, k4, k5⟩
  obtain ⟨W, hs, hd⟩ := h.store k5 k1 k4
  exact ⟨A', W, rfl, hs, hd⟩
theorem rerase_du (h : Du R br a B gc gl gp pg s2 p2 st p A w) (i : Int) (hpi : p.In) (hE : 0 ≤ st.erases ∧ st.erases ≤ 100000000) (hW : ∀ i, 0 ≤ st.wear i) (hrt : st.rated ≤ 9223372036854775807) :
    Calls Try.prog 24 #[.agg A, .int .i64 i] w fun e w' => ∃ A' W, e = .returned (.tuple #[.agg A', .int .i64 (st.erE p i)]) ∧ (storeVar 53 ⟨br, 0, none⟩ (.agg A')).run Try.prog w' = .ok () W ∧ Du R br a B gc gl gp pg s2 p2 (st.erS p i) (st.erP p i) A' W := by
  obtain ⟨lv, pv, k1, k2, k3⟩ := h.ra
  refine (rer_any k1 k2 i hpi hE hW hrt).mono ?_
  rintro e w' ⟨A', rfl, k4, k5⟩
  obtain ⟨W, hs, hd⟩ := h.store k5 k1 k4
  exact ⟨A', W, rfl, hs, hd⟩
theorem rread_du (h : Du R br a B gc gl gp pg s2 p2 st p A w) (i j : Int) :
    Calls Try.prog 25 #[.agg A, .int .i64 i, .int .i64 j] w fun e w' => e = .returned (.tuple #[.string ((st.rdO p i j).getD ByteArray.empty), .bool (st.rdO p i j).isSome, .int .i64 (st.rdE p i j)]) ∧ Du R br a B gc gl gp pg s2 p2 st p A w' := by
  obtain ⟨lv, pv, k1, k2, k3⟩ := h.ra
  refine (rread_any k1 i j w k2).mono ?_
  rintro e w' ⟨rfl, k5⟩
  exact ⟨rfl, h.on k5⟩
theorem rfuse_du (h : Du R br a B gc gl gp pg s2 p2 st p A w) (n keep junk : Int) :
    Calls Try.prog 26 #[.agg p.cells, .int .i64 n, .int .i64 keep, .int .u8 junk] w fun e w' => ∃ W, e = .returned (.agg ({ p with left := max n 0, keep := max keep 0, junk := junk } : Pw).cells) ∧ (storeVar 48 ⟨br, 0, none⟩ (.agg ({ p with left := max n 0, keep := max keep 0, junk := junk } : Pw).cells)).run Try.prog w' = .ok () W ∧ ∃ A', Du R br a B gc gl gp pg s2 p2 st { p with left := max n 0, keep := max keep 0, junk := junk } A' W := by
  refine (rfuse_any p n keep junk w).mono ?_
  rintro e w' ⟨rfl, k5⟩
  obtain ⟨W, hs, hd⟩ := (h.on k5).power { p with left := max n 0, keep := max keep 0, junk := junk }
  exact ⟨W, rfl, hs, hd⟩
theorem ract_du (h : Du R br a B gc gl gp pg s2 p2 st p A w) (hok : p.Ok) :
    Calls Try.prog 29 #[.agg p.cells] w fun e w' => e = .returned (.tuple #[.agg p.next.cells, .bool p.may, .bool p.whole]) ∧ Du R br a B gc gl gp pg s2 p2 st p A w' := by
  refine (ract_any p w hok).mono ?_
  rintro e w' ⟨rfl, k5⟩
  exact ⟨rfl, h.on k5⟩
/-- Two chips at first. -/
theorem du_new (h : On [] a B gc gl gp pg st p w) (o : Only (fun _ => False) w w') {lv : Value} (hra : RA A lv (.slice none 0 0) sr pr) (hl : LNew w w' lv sr) (hp : sr.past = []) :
    ∃ W, (storeVar 53 ⟨w'.heap.size, 0, none⟩ (.agg A)).run Try.prog (w'.alloc (.cells Z53 53)) = .ok () W ∧ Du [] w'.heap.size a B gc gl gp pg st p sr pr A W := by
  obtain ⟨b, cap, cur, rfl, n1, n2, n3, n4, n5⟩ := hl
  have k1 := h.cons o n3 n4
  obtain ⟨W, hs, k2⟩ := k1.fresh (A := A) Z53 53 info53s hra.size Z53_size hra.one
  exact ⟨W, hs, [(b, cur, 97)], _, _, k2, hra, ⟨b, cap, cur, rfl, n1, n2, by simp, n5⟩, .inl ⟨rfl, hp⟩⟩
end
/-- What k acts keep. -/
structure Nv (sg pz : Nat) (rt : Int) (k : Nat) (st : Cp) (p : Pw) : Prop where
  segs : st.segs = sg
  pages : st.pages = pz
  rated : st.rated = rt
  past : st.past.length ≤ k
  prog : 0 ≤ st.programs ∧ st.programs ≤ k
  er : 0 ≤ st.erases ∧ st.erases ≤ k
  wear : ∀ i, 0 ≤ st.wear i
  pin : p.In
section
variable {sg pz k : Nat} {rt : Int} {st : Cp} {p : Pw}
theorem Nv.pr (h : Nv sg pz rt k st p) (i j : Int) (s : ByteArray) : Nv sg pz rt (k + 1) (st.prS p i j s) (st.prP p i j s) := by
  obtain ⟨h1, h2, h3, h4, h5, h6, h7, h8⟩ := h
  unfold Cp.prS Cp.prP
  split
  · exact ⟨h1, h2, h3, by show (st.past ++ [_]).length ≤ _; simp; omega, by show 0 ≤ st.programs + 1 ∧ st.programs + 1 ≤ _; omega, by show 0 ≤ st.erases ∧ st.erases ≤ _; omega, h7, next_in h8⟩
  · exact ⟨h1, h2, h3, by omega, by omega, by omega, h7, h8⟩
theorem Nv.ers (h : Nv sg pz rt k st p) (i : Int) : Nv sg pz rt (k + 1) (st.erS p i) (st.erP p i) := by
  obtain ⟨h1, h2, h3, h4, h5, h6, h7, h8⟩ := h
  unfold Cp.erS Cp.erP
  split
  · refine ⟨h1, h2, h3, by show st.past.length ≤ _; omega, by show 0 ≤ st.programs ∧ st.programs ≤ _; omega, by show 0 ≤ st.erases + 1 ∧ st.erases + 1 ≤ _; omega, fun x => ?_, next_in h8⟩
    show 0 ≤ (if x = i.toNat then st.wear i.toNat + 1 else st.wear x)
    have := h7 x
    have := h7 i.toNat
    split <;> omega
  · exact ⟨h1, h2, h3, by omega, by omega, by omega, h7, h8⟩
theorem Nv.up (h : Nv sg pz rt k st p) {q : Pw} (hq : q.In) : Nv sg pz rt (k + 1) st q :=
  ⟨h.segs, h.pages, h.rated, by have := h.past; omega, by have := h.prog; omega, by have := h.er; omega, h.wear, hq⟩
theorem Nv.fuse (h : p.In) {n keep junk : Int} (hn : wf64 n) (hk : wf64 keep) (hj : wf8 junk) : ({ p with left := max n 0, keep := max keep 0, junk := junk } : Pw).In := by
  rw [wf64_iff] at hn hk
  rw [wf8_iff] at hj
  refine ⟨⟨?_, ?_⟩, ?_, ?_, ?_, ?_⟩
  all_goals (dsimp only; omega)
theorem Nv.cut (h : p.In) (b : Bool) : ({ p with off := b } : Pw).In := h
theorem Nv.on (h : p.In) (b : Bool) : ({ p with off := b, left := 0 } : Pw).In := ⟨⟨by show (0 : Int) ≤ 0; omega, by show (0 : Int) ≤ _; omega⟩, h.2⟩
end
end Go.Proofs.Ytjnjnkkdpglfhaa
