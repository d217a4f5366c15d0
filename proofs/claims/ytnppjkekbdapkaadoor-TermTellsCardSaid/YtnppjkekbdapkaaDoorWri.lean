/-
  written. (Printed by mkwri.py out of wri.head.)
-/
import Derived.Test.YtnppjkekbdapkaaDoorSiz
import Derived.Test.YtnppjkekbdapkaaDoorInj
import Derived.Lib.AppendIntMem
set_option linter.unusedVariables false
namespace Go.Proofs.YtnppjkekbdapkaaDoor
open Go.RowKit

section
variable {P : Program} {ops : Array Oper} {S : World → Prop} {md : Region.Mode} {Q : Exit → Act → World → Prop}
theorem exec_app {o : Oper} {a : Act} {w w' : World} (s x : Operand) (t : TypeId) (ho : o.op = .call { callee := .builtin .append, args := #[s, x], argTypes := #[t, t] }) (v u v' : Value) (hs : a.eval s = v) (hx : a.eval x = u)
    (hrun : ∀ ty, (Builtin.append_ #[t, t] ty #[v, u]).run P w = .ok v' w') : (execOp a.eval o).run P w = .ok (.value v') w' := by
  unfold execOp
  simp only [ho, resolve, invoke, builtin, Sem.run_bind, Sem.run_pure, Result.andThen_ok, List.map_toArray, List.map_cons, List.map_nil, hs, hx, hrun]
/-- A call that may come up alone; what it returns is told by what it does. -/
theorem held_callx {j : Nat} {oj : Oper} {t : Tmp} {fuel : Nat} {listed : Array Bool} {a : Act} {w : World} (hr : Region.ready md ops listed = [j]) (hj : ops[j]? = some oj) (hd : oj.dst = some t)
    (hw : Region.wanted oj (yielded ops a.tmps) = true) {f : FuncId} {fn : Func} (hf : P.funcs[f]? = some fn) (hn : (fn.name == "runtime.NumGoroutine") = false) (hb : fn.body.isSome = true)
    {xs : Array Operand} {ts : Array TypeId} (hop : oj.op = .call { callee := .value (.func f), args := xs, argTypes := ts }) (al : List Value) (hargs : xs.toList.map a.eval = al) {R : Value → World → Prop}
    (hc : Calls P f al.toArray w fun e w' => ∃ v, e = .returned v ∧ R v w') (h : ∀ v w', R v w' → S w' ∧ wpAnyH P md ops Q S fuel (listed.setIfInBounds j true) ⟨a.tmps.setIfInBounds t v, a.defers⟩ w') : wpAnyH P md ops Q S (fuel + 1) listed a w := by
  refine wpAnyH_all hr (by simp) fun i hi => ?_
  obtain rfl : i = j := by simpa using hi
  unfold Go.wpOp
  simp only [hj]
  rw [if_pos hw]
  refine .inl ?_
  have h1 : fn.name ≠ "runtime.NumGoroutine" := by simpa using hn
  obtain ⟨c, hcb⟩ := Option.isSome_iff_exists.1 hb
  have hargs' : xs.map a.eval = al.toArray := by rw [← hargs]; apply Array.toList_inj.1; simp
  have he : (callFunc f al.toArray).run P w = .ok (.enter f al.toArray) w := by simp [callFunc, hf, h1, hcb]
  have hrun : (execOp a.eval oj).run P w = .ok (.enter f al.toArray) w := by
    unfold execOp
    simp [hop, resolve, Deferred.ofValue, invoke, Act.eval, hargs', he]
  unfold Oper.wp
  rw [hrun, Oper.upon_enter]
  refine hc.mono fun e w'' hh => ?_
  obtain ⟨v, rfl, hk⟩ := hh
  have := h v w'' hk
  rw [← put_some (a := a), ← hd] at this
  exact this
end
/-- A row of bytes that the call owns. -/
def OB (w : World) (B : Nat) (v : Value) (xs : List UInt8) : Prop := w.ownsRow B 5 1 v xs.length (Lib.byteCells xs)
theorem build_b (c : Int) (w : World) : (Instr.buildSlice 46 1 #[(0, .int .u8 c)]).run Tryd.prog w = .ok (.slice (some ⟨w.heap.size, 0, none⟩) 1 1) (w.alloc (.cells #[.int .u8 c] 5)) := by
  obtain ⟨ie, hie, hz, hs, hb⟩ := info_parts (show (Tryd.prog.info? 5).map (fun i => (i.zero, i.size, i.bytes)) = some (some (.int .u8 0), 1, 1) by kernel_rfl)
  refine run_buildSlice w 46 5 1 _ _ ie _ Tryd.underlying46 hie hz (by omega) (by omega) ?_
  rw [hs]
  kernel_rfl
theorem OB.keep {w w' : World} {B : Nat} {v : Value} {xs : List UInt8} {S : Nat → Prop} (h : OB w B v xs) (o : Only S w w') (hs : ∀ k, v.ownBlock = some k → ¬ S k) : OB w' B v xs := by
  obtain ⟨h1, h | ⟨g, cap, cur, rfl, hg, hb, rest⟩⟩ := h
  · exact ⟨h1, .inl h⟩
  · exact ⟨h1, .inr ⟨g, cap, cur, rfl, hg, keepRow o hb (hs g rfl), rest⟩⟩
theorem OB.base_le {w : World} {B : Nat} {v : Value} {xs : List UInt8} (h : OB w B v xs) {k : Nat} (hk : v.ownBlock = some k) : B ≤ k ∧ ∃ c fz, w.heap[k]? = some (.cells c 5 fz) := by
  obtain ⟨_, ⟨rfl, _⟩ | ⟨g, cap, cur, rfl, hg, hb, _⟩⟩ := h
  · cases hk
  · cases hk
    exact ⟨hg, _, _, hb⟩
theorem byte_end (xs : List UInt8) (c : UInt8) : Lib.byteCells (xs ++ [c]) = Lib.byteCells xs ++ [.int .u8 (c.toNat : Int)] := by simp [Lib.byteCells]
/-- append(b, c). -/
theorem snoc_byte {w : World} {B : Nat} {v : Value} {xs : List UInt8} (h : OB w B v xs) (hb : B ≤ w.heap.size) (c : UInt8) (hn : xs.length ≤ 100000) :
    ∃ v' w1 w', (Instr.buildSlice 46 1 #[(0, .int .u8 (c.toNat : Int))]).run Tryd.prog w = .ok (.slice (some ⟨w.heap.size, 0, none⟩) 1 1) w1 ∧ (∀ ty, (Builtin.append_ #[46, 46] ty #[v, .slice (some ⟨w.heap.size, 0, none⟩) 1 1]).run Tryd.prog w1 = .ok v' w') ∧ OB w' B v' (xs ++ [c]) ∧ Only (fun _ => False) w w1 ∧ Only (fun k => B ≤ k) w w' ∧ Lib.OthersKept 5 none w w' ∧ w1 = w.alloc (.cells #[.int .u8 (c.toNat : Int)] 5) := by
  obtain ⟨ie, hie, hz, hs, hby⟩ := info_parts (show (Tryd.prog.info? 5).map (fun i => (i.zero, i.size, i.bytes)) = some (some (.int .u8 0), 1, 1) by kernel_rfl)
  have o7 : Only (fun _ => False) w (w.alloc (.cells #[.int .u8 (c.toNat : Int)] 5)) := (Only.refl _ _).alloc _
  have h7 := h.keep o7 (fun _ _ x => x)
  have hnews : ∀ (j : Nat) (u : Value), ([.int .u8 (c.toNat : Int)] : List Value)[j]? = some u → (w.alloc (.cells #[.int .u8 (c.toNat : Int)] 5)).cell? ((⟨w.heap.size, 0, none⟩ : Addr).add j) = some u := by exact World.news_of_block (heap_alloc_new _ _)
  obtain ⟨v', w', hr, ho, hg, _, hat⟩ := run_append_own_at (P := Tryd.prog) (w.alloc (.cells #[.int .u8 (c.toNat : Int)] 5)) B 46 46 5 ie (.int .u8 0) 1 1 Tryd.underlying46 hie hz hs hby rfl (by decide) v xs.length (Lib.byteCells xs) h7 ⟨w.heap.size, 0, none⟩ 1 1 [.int .u8 (c.toNat : Int)] rfl hnews (by intro u hu; simp at hu; subst hu; rfl) (by unfold maxLen; omega) (by omega) (Nat.le_trans hb o7.size)
  refine ⟨v', _, w', build_b _ w, fun ty => hr, ?_, o7, (o7.mono (fun _ x => x.elim)).trans ((grown_only hg).mono (fun k hk => (h7.base_le hk).1)), ((Lib.OthersKept.refl 5 none w).alloc _).grown hg (fun g hgg => (h7.base_le hgg).2), rfl⟩
  show w'.ownsRow B 5 1 v' (xs ++ [c]).length (Lib.byteCells (xs ++ [c]))
  rw [List.length_append, byte_end]
  exact ho
/-- written under way: the bytes so far; the node's box; what was there. -/
structure Wr (w : World) (B bx : Nat) (row : Array Value) (v : Value) (xs : List UInt8) (wc : World) : Prop where
  ob : OB wc B v xs
  box : wc.heap[bx]? = some (.cells row 27 (0, 0))
  bel : Below B w wc
  oth : Lib.OthersKept 5 none w wc
  sz : B ≤ wc.heap.size
theorem Wr.drew {w wc : World} {B bx : Nat} {row : Array Value} {v : Value} {xs : List UInt8} (h : Wr w B bx row v xs wc) : Wr w B bx row v xs (World.drew wc) :=
  ⟨h.ob.keep (Only.refl (fun _ => False) wc).drew (fun _ _ x => x), h.box, h.bel.trans (((Only.refl (fun _ => False) wc).drew.below (fun _ x => x.elim)).mono h.sz), h.oth.drew, h.sz⟩
theorem only_ge {B : Nat} {w w' : World} (o : Only (fun k => B ≤ k) w w') (hb : B ≤ w.heap.size) : Below B w w' := ⟨o.os, o.tape, o.output, o.size, fun k hk => o.block k (by omega) (by omega)⟩
theorem Wr.snoc {w wc : World} {B bx : Nat} {row : Array Value} {v : Value} {xs : List UInt8} (h : Wr w B bx row v xs wc) (c : UInt8) (hn : xs.length ≤ 100000) :
    ∃ v' w1 w', (Instr.buildSlice 46 1 #[(0, .int .u8 (c.toNat : Int))]).run Tryd.prog wc = .ok (.slice (some ⟨wc.heap.size, 0, none⟩) 1 1) w1 ∧ (∀ ty, (Builtin.append_ #[46, 46] ty #[v, .slice (some ⟨wc.heap.size, 0, none⟩) 1 1]).run Tryd.prog w1 = .ok v' w') ∧ w1.heap[bx]? = some (.cells row 27 (0, 0)) ∧ Wr w B bx row v' (xs ++ [c]) w' ∧ w1 = wc.alloc (.cells #[.int .u8 (c.toNat : Int)] 5) := by
  obtain ⟨v', w1, w', h1, h2, h3, h4, h5, h6, h7⟩ := snoc_byte h.ob h.sz c hn
  refine ⟨v', w1, w', h1, h2, keepRow h4 h.box (fun x => x), ⟨h3, h6 _ _ h.box (by simp) (fun c fz e => by injection e with _ e _; cases e), h.bel.trans (only_ge h5 h.sz), h.oth.trans h6, Nat.le_trans h.sz h5.size⟩, h7⟩
theorem Wr.call {w wc w' : World} {B bx : Nat} {row : Array Value} {v v' : Value} {xs ys : List UInt8} (h : Wr w B bx row v xs wc) (ho : OB w' B v' ys) (hb : Below B wc w') (hk : Lib.OthersKept 5 none wc w') : Wr w B bx row v' ys w' :=
  ⟨ho, hk _ _ h.box (by simp) (fun c fz e => by injection e with _ e _; cases e), h.bel.trans hb, h.oth.trans hk, Nat.le_trans h.sz hb.size⟩
def WrP (W0 : World) (lv : Value) (l : List Nd) (i : Nat) : Prop := ∀ (w : World) (b : Value) (xs : List UInt8), Below W0.heap.size W0 w → OB w W0.heap.size b xs → xs.length + (txN l i).length ≤ 100000 →
  Calls Tryd.prog 25 #[b, lv, .int .i64 (i : Int)] w fun e w' => ∃ v', e = .returned v' ∧ (OB w' W0.heap.size v' (xs ++ txN l i) ∧ Below W0.heap.size w w' ∧ Lib.OthersKept 5 none w w')

set_option maxHeartbeats 8000000 in
theorem written_any (l : List Nd) (lv : Value) (W0 : World) (hl : NL W0 lv l) (hm : mayB l = true) (htab : Pow10 W0) (i : Nat) (hi : i < l.length) : WrP W0 lv l i := by
  have HL := Lib.hid hl
  have HMB := Lib.hid hm
  have HT := Lib.hid (Lib.tabBelow_of_tabIs htab)
  obtain ⟨ad, cap, rfl, hrow⟩ := hl
  clear hrow hm htab
  have hlen : l.length ≤ 200 := by
    have := HMB.out
    simp [mayB] at this
    exact this.2
  induction i using Nat.strongRecOn with
  | ind i ih =>
    intro w b xs hb hob hbd
    have HBW := Lib.hid hb
    have hbs := hb.size
    have HOB := Lib.hid hob
    have hi' : (i : Int) < (l.length : Int) := by omega
    obtain ⟨b0, o0, cap0, he, hc0, hc1, _, _, _, hld⟩ := (HL.out.keep (Only.of_below hb)).at hi
    cases he
    have HX : Hid (l[i]? = some l[i]) := List.getElem?_eq_getElem hi
    generalize l[i] = x at *
    obtain ⟨op, x1, x2⟩ := x
    have HLD : Hid ((loadVar 27 ⟨b0, o0 + i * 3, none⟩).run Tryd.prog w = .ok (.agg #[.int .i64 op, .int .i64 x1, .int .i64 x2]) w) := hld
    have HW0 : Hid (Wr w W0.heap.size w.heap.size #[.int .i64 op, .int .i64 x1, .int .i64 x2] b xs (w.alloc (.cells #[.int .i64 op, .int .i64 x1, .int .i64 x2] 27))) :=
      ⟨hob.keep ((Only.refl (fun _ => False) w).alloc _) (fun _ _ x => x), heap_alloc_new _ _, (((Only.refl (fun _ => False) w).alloc _).below (fun _ x => x.elim)).mono hbs, (Lib.OthersKept.refl 5 none w).alloc _, by simp; omega⟩
    clear hld hb hob
    by_cases ho : op = 2 ∨ op = 3
    · obtain ⟨⟨a0, ak⟩, b0', bk⟩ := may_made HMB.out HX.out ho
      dsimp only at a0 ak b0' bk
      obtain ⟨A, rfl⟩ := Int.eq_ofNat_of_zero_le a0
      obtain ⟨C, rfl⟩ := Int.eq_ofNat_of_zero_le b0'
      have HIA := Lib.hid (ih A (by omega) (by omega))
      have HIC := Lib.hid (ih C (by omega) (by omega))
      obtain ⟨tA, htA⟩ : ∃ z, txN l A = z := ⟨_, rfl⟩
      obtain ⟨tC, htC⟩ : ∃ z, txN l C = z := ⟨_, rfl⟩
      have htx : txN l i = gtx tA tC ⟨op, (A : Int), (C : Int)⟩ := by
        unfold txN at htA htC ⊢
        rw [valN_made gtx [] l HMB.out HX.out ho]
        show gtx (valN gtx [] l A) (valN gtx [] l C) _ = _
        rw [htA, htC]
      have htAH := Lib.hid htA
      have htCH := Lib.hid htC
      clear ih htA htC
      rcases ho with rfl | rfl
      · rw [gtx_pair rfl] at htx
        have HTX := Lib.hid htx
        rw [htx] at hbd
        simp only [List.length_cons, List.length_append, List.length_nil] at hbd
        clear htx
        go_enter Tryd.func25, Tryd.ntmps25
        go_upto_region 5 with (((with_reducible refine wpList_load_at ?_ 27 (.tmp 10) ?_ _ ?_ _ HLD.out ?_); rfl; rfl; rfl))
        refine wp_region_held (S := fun W => W.heap[w.heap.size]? = some (.cells #[.int .i64 2, .int .i64 (A : Int), .int .i64 (C : Int)] 27 (0, 0))) (by kernel_rfl) ?_
        change wpAnyH _ _ _ _ _ _ _ _ (World.drew _)
        have wd1 := HW0.out.drew
        clear HW0
        generalize World.drew _ = D1 at *
        have WD1 := Lib.hid wd1
        have HS1 : D1.heap[w.heap.size]? = some (.cells #[.int .i64 2, .int .i64 (A : Int), .int .i64 (C : Int)] 27 (0, 0)) := wd1.box
        clear wd1
        have HC1_1 : Hid (∀ W : World, W.heap[w.heap.size]? = some (.cells #[.int .i64 2, .int .i64 (A : Int), .int .i64 (C : Int)] 27 (0, 0)) → W.cell? ⟨w.heap.size, 1, none⟩ = some (.int .i64 (A : Int))) := fun W h => cell_of_row _ _ _ _ _ _ h
        obtain ⟨sv1, sa1, sb1, h1, h2, h3, h4, _⟩ := WD1.out.snoc 40 (by first | (simp; omega) | omega)
        have HB1 := Lib.hid h1
        have HA1 := Lib.hid h2
        have HSA1 := h3
        have HWS1 := Lib.hid h4
        have HSB1 := h4.box
        clear h1 h2 h3 h4
        refine held_pure (i := 0) (v := b) rfl rfl (by kernel_rfl) (by kernel_rfl) (by kernel_rfl) (fun _ _ _ h => h) (Or.inl ⟨by rfl, fun w => by go_simp⟩) HS1 ?_
        simp only [List.setIfInBounds_toArray, List.set]
        refine held_pure (i := 3) (v := (.slice (some ⟨b0, o0, none⟩) l.length cap)) rfl rfl (by kernel_rfl) (by kernel_rfl) (by kernel_rfl) (fun _ _ _ h => h) (Or.inl ⟨by rfl, fun w => by go_simp⟩) HS1 ?_
        simp only [List.setIfInBounds_toArray, List.set]
        refine held_pure (i := 4) (v := (.pointer (some ⟨w.heap.size, 1, none⟩))) rfl rfl (by kernel_rfl) (by kernel_rfl) (by kernel_rfl) (fun _ _ _ h => h) (Or.inl ⟨by rfl, fun w => by go_simp⟩) HS1 ?_
        simp only [List.setIfInBounds_toArray, List.set]
        refine held_take (i := 5) (v := (.int .i64 (A : Int))) rfl rfl (by kernel_rfl) (by kernel_rfl) (by kernel_rfl) (fun _ _ _ h => h) (Or.inl ⟨by rfl, fun w hS => by have hc := HC1_1.out w hS; go_simp⟩) HS1 ?_
        simp only [List.setIfInBounds_toArray, List.set]
        refine held_bs (j := 1) (by kernel_rfl) rfl rfl rfl 46 1 _ rfl [(0, .int .u8 40)] rfl _ HB1.out HSA1 ?_
        simp only [List.setIfInBounds_toArray, List.set]
        refine held_execd (j := 2) (by kernel_rfl) rfl rfl (by rfl) _ (exec_app (.tmp 25) (.tmp 26) 46 rfl _ _ _ rfl rfl HA1.out) HSB1 ?_
        simp only [List.setIfInBounds_toArray, List.set]
        refine held_callx (j := 6) (by kernel_rfl) rfl rfl (by rfl) Tryd.func25 (by kernel_rfl) rfl rfl [sv1, (.slice (some ⟨b0, o0, none⟩) l.length cap), .int .i64 (A : Int)] rfl (HIA.out _ _ _ (HBW.out.trans HWS1.out.bel) HWS1.out.ob (by rw [htAH.out]; first | (simp; omega) | omega)) ?_
        rintro cv1 wc1 ⟨j1, j2, j3⟩
        rw [htAH.out] at j1
        have HWC1 := Lib.hid (HWS1.out.call j1 j2 j3)
        have HSC1 := HWC1.out.box
        clear j1 j2 j3
        refine ⟨HSC1, ?_⟩
        simp only [List.setIfInBounds_toArray, List.set]
        refine held_pure (i := 7) (v := cv1) rfl rfl (by kernel_rfl) (by kernel_rfl) (by kernel_rfl) (fun _ _ _ h => h) (Or.inl ⟨by rfl, fun w => by go_simp⟩) HSC1 ?_
        simp only [List.setIfInBounds_toArray, List.set]
        refine wpAnyH_done (by kernel_rfl) ?_ _
        clear HS1 HSA1 HSB1 HSC1 HB1 HA1 HWS1 WD1 HC1_1
        go_upto_region 6 with fail
        refine wp_region_held (S := fun W => W.heap[w.heap.size]? = some (.cells #[.int .i64 2, .int .i64 (A : Int), .int .i64 (C : Int)] 27 (0, 0))) (by kernel_rfl) ?_
        change wpAnyH _ _ _ _ _ _ _ _ (World.drew _)
        have wd2 := HWC1.out.drew
        clear HWC1
        generalize World.drew _ = D2 at *
        have WD2 := Lib.hid wd2
        have HS2 : D2.heap[w.heap.size]? = some (.cells #[.int .i64 2, .int .i64 (A : Int), .int .i64 (C : Int)] 27 (0, 0)) := wd2.box
        clear wd2
        have HC2_2 : Hid (∀ W : World, W.heap[w.heap.size]? = some (.cells #[.int .i64 2, .int .i64 (A : Int), .int .i64 (C : Int)] 27 (0, 0)) → W.cell? ⟨w.heap.size, 2, none⟩ = some (.int .i64 (C : Int))) := fun W h => cell_of_row _ _ _ _ _ _ h
        obtain ⟨sv2, sa2, sb2, h1, h2, h3, h4, _⟩ := WD2.out.snoc 44 (by first | (simp; omega) | omega)
        have HB2 := Lib.hid h1
        have HA2 := Lib.hid h2
        have HSA2 := h3
        have HWS2 := Lib.hid h4
        have HSB2 := h4.box
        clear h1 h2 h3 h4
        refine held_pure (i := 0) (v := cv1) rfl rfl (by kernel_rfl) (by kernel_rfl) (by kernel_rfl) (fun _ _ _ h => h) (Or.inl ⟨by rfl, fun w => by go_simp⟩) HS2 ?_
        simp only [List.setIfInBounds_toArray, List.set]
        refine held_pure (i := 3) (v := (.slice (some ⟨b0, o0, none⟩) l.length cap)) rfl rfl (by kernel_rfl) (by kernel_rfl) (by kernel_rfl) (fun _ _ _ h => h) (Or.inl ⟨by rfl, fun w => by go_simp⟩) HS2 ?_
        simp only [List.setIfInBounds_toArray, List.set]
        refine held_pure (i := 4) (v := (.pointer (some ⟨w.heap.size, 2, none⟩))) rfl rfl (by kernel_rfl) (by kernel_rfl) (by kernel_rfl) (fun _ _ _ h => h) (Or.inl ⟨by rfl, fun w => by go_simp⟩) HS2 ?_
        simp only [List.setIfInBounds_toArray, List.set]
        refine held_take (i := 5) (v := (.int .i64 (C : Int))) rfl rfl (by kernel_rfl) (by kernel_rfl) (by kernel_rfl) (fun _ _ _ h => h) (Or.inl ⟨by rfl, fun w hS => by have hc := HC2_2.out w hS; go_simp⟩) HS2 ?_
        simp only [List.setIfInBounds_toArray, List.set]
        refine held_bs (j := 1) (by kernel_rfl) rfl rfl rfl 46 1 _ rfl [(0, .int .u8 44)] rfl _ HB2.out HSA2 ?_
        simp only [List.setIfInBounds_toArray, List.set]
        refine held_execd (j := 2) (by kernel_rfl) rfl rfl (by rfl) _ (exec_app (.tmp 32) (.tmp 33) 46 rfl _ _ _ rfl rfl HA2.out) HSB2 ?_
        simp only [List.setIfInBounds_toArray, List.set]
        refine held_callx (j := 6) (by kernel_rfl) rfl rfl (by rfl) Tryd.func25 (by kernel_rfl) rfl rfl [sv2, (.slice (some ⟨b0, o0, none⟩) l.length cap), .int .i64 (C : Int)] rfl (HIC.out _ _ _ (HBW.out.trans HWS2.out.bel) HWS2.out.ob (by rw [htCH.out]; first | (simp; omega) | omega)) ?_
        rintro cv2 wc2 ⟨j1, j2, j3⟩
        rw [htCH.out] at j1
        have HWC2 := Lib.hid (HWS2.out.call j1 j2 j3)
        have HSC2 := HWC2.out.box
        clear j1 j2 j3
        refine ⟨HSC2, ?_⟩
        simp only [List.setIfInBounds_toArray, List.set]
        refine held_pure (i := 7) (v := cv2) rfl rfl (by kernel_rfl) (by kernel_rfl) (by kernel_rfl) (fun _ _ _ h => h) (Or.inl ⟨by rfl, fun w => by go_simp⟩) HSC2 ?_
        simp only [List.setIfInBounds_toArray, List.set]
        refine wpAnyH_done (by kernel_rfl) ?_ _
        clear HS2 HSA2 HSB2 HSC2 HB2 HA2 HWS2 WD2 HC2_2
        obtain ⟨sv3, sa3, sb3, h1, h2, _, h4, rfl⟩ := HWC2.out.snoc 41 (by first | (simp; omega) | omega)
        have HA3 : Hid (∀ ty, (Builtin.append_ #[46, 46] ty #[cv2, .slice (some ⟨wc2.heap.size, 0, none⟩) 1 1]).run Tryd.prog (wc2.alloc (.cells #[.int .u8 41] 5)) = .ok sv3 sb3) := h2
        have HW3 := Lib.hid h4
        clear h1 h2 h4
        go_wp2_with (at_builtin; ((with_reducible refine wpList_app_g ?_ (.tmp 39) (.tmp 40) 46 ?_ _ _ _ ?_ ?_ HA3.out ?_); rfl; rfl; rfl; rfl))
        go_ret
        exact ⟨_, rfl, by rw [HTX.out]; have := HW3.out.ob; simpa using this, HW3.out.bel, HW3.out.oth⟩
      · rw [gtx_lock rfl] at htx
        have HTX := Lib.hid htx
        rw [htx] at hbd
        simp only [List.length_cons, List.length_append] at hbd
        clear htx
        go_enter Tryd.func25, Tryd.ntmps25
        go_upto_region 9 with (((with_reducible refine wpList_load_at ?_ 27 (.tmp 10) ?_ _ ?_ _ HLD.out ?_); rfl; rfl; rfl))
        refine wp_region_held (S := fun W => W.heap[w.heap.size]? = some (.cells #[.int .i64 3, .int .i64 (A : Int), .int .i64 (C : Int)] 27 (0, 0))) (by kernel_rfl) ?_
        change wpAnyH _ _ _ _ _ _ _ _ (World.drew _)
        have wd1 := HW0.out.drew
        clear HW0
        generalize World.drew _ = D1 at *
        have WD1 := Lib.hid wd1
        have HS1 : D1.heap[w.heap.size]? = some (.cells #[.int .i64 3, .int .i64 (A : Int), .int .i64 (C : Int)] 27 (0, 0)) := wd1.box
        clear wd1
        have HC2_1 : Hid (∀ W : World, W.heap[w.heap.size]? = some (.cells #[.int .i64 3, .int .i64 (A : Int), .int .i64 (C : Int)] 27 (0, 0)) → W.cell? ⟨w.heap.size, 2, none⟩ = some (.int .i64 (C : Int))) := fun W h => cell_of_row _ _ _ _ _ _ h
        obtain ⟨sv1, sa1, sb1, h1, h2, h3, h4, _⟩ := WD1.out.snoc 123 (by first | (simp; omega) | omega)
        have HB1 := Lib.hid h1
        have HA1 := Lib.hid h2
        have HSA1 := h3
        have HWS1 := Lib.hid h4
        have HSB1 := h4.box
        clear h1 h2 h3 h4
        refine held_pure (i := 0) (v := b) rfl rfl (by kernel_rfl) (by kernel_rfl) (by kernel_rfl) (fun _ _ _ h => h) (Or.inl ⟨by rfl, fun w => by go_simp⟩) HS1 ?_
        simp only [List.setIfInBounds_toArray, List.set]
        refine held_pure (i := 3) (v := (.slice (some ⟨b0, o0, none⟩) l.length cap)) rfl rfl (by kernel_rfl) (by kernel_rfl) (by kernel_rfl) (fun _ _ _ h => h) (Or.inl ⟨by rfl, fun w => by go_simp⟩) HS1 ?_
        simp only [List.setIfInBounds_toArray, List.set]
        refine held_pure (i := 4) (v := (.pointer (some ⟨w.heap.size, 2, none⟩))) rfl rfl (by kernel_rfl) (by kernel_rfl) (by kernel_rfl) (fun _ _ _ h => h) (Or.inl ⟨by rfl, fun w => by go_simp⟩) HS1 ?_
        simp only [List.setIfInBounds_toArray, List.set]
        refine held_take (i := 5) (v := (.int .i64 (C : Int))) rfl rfl (by kernel_rfl) (by kernel_rfl) (by kernel_rfl) (fun _ _ _ h => h) (Or.inl ⟨by rfl, fun w hS => by have hc := HC2_1.out w hS; go_simp⟩) HS1 ?_
        simp only [List.setIfInBounds_toArray, List.set]
        refine held_bs (j := 1) (by kernel_rfl) rfl rfl rfl 46 1 _ rfl [(0, .int .u8 123)] rfl _ HB1.out HSA1 ?_
        simp only [List.setIfInBounds_toArray, List.set]
        refine held_execd (j := 2) (by kernel_rfl) rfl rfl (by rfl) _ (exec_app (.tmp 44) (.tmp 45) 46 rfl _ _ _ rfl rfl HA1.out) HSB1 ?_
        simp only [List.setIfInBounds_toArray, List.set]
        refine held_callx (j := 6) (by kernel_rfl) rfl rfl (by rfl) Tryd.func25 (by kernel_rfl) rfl rfl [sv1, (.slice (some ⟨b0, o0, none⟩) l.length cap), .int .i64 (C : Int)] rfl (HIC.out _ _ _ (HBW.out.trans HWS1.out.bel) HWS1.out.ob (by rw [htCH.out]; first | (simp; omega) | omega)) ?_
        rintro cv1 wc1 ⟨j1, j2, j3⟩
        rw [htCH.out] at j1
        have HWC1 := Lib.hid (HWS1.out.call j1 j2 j3)
        have HSC1 := HWC1.out.box
        clear j1 j2 j3
        refine ⟨HSC1, ?_⟩
        simp only [List.setIfInBounds_toArray, List.set]
        refine held_pure (i := 7) (v := cv1) rfl rfl (by kernel_rfl) (by kernel_rfl) (by kernel_rfl) (fun _ _ _ h => h) (Or.inl ⟨by rfl, fun w => by go_simp⟩) HSC1 ?_
        simp only [List.setIfInBounds_toArray, List.set]
        refine wpAnyH_done (by kernel_rfl) ?_ _
        clear HS1 HSA1 HSB1 HSC1 HB1 HA1 HWS1 WD1 HC2_1
        go_upto_region 10 with fail
        refine wp_region_held (S := fun W => W.heap[w.heap.size]? = some (.cells #[.int .i64 3, .int .i64 (A : Int), .int .i64 (C : Int)] 27 (0, 0))) (by kernel_rfl) ?_
        change wpAnyH _ _ _ _ _ _ _ _ (World.drew _)
        have wd2 := HWC1.out.drew
        clear HWC1
        generalize World.drew _ = D2 at *
        have WD2 := Lib.hid wd2
        have HS2 : D2.heap[w.heap.size]? = some (.cells #[.int .i64 3, .int .i64 (A : Int), .int .i64 (C : Int)] 27 (0, 0)) := wd2.box
        clear wd2
        have HC1_2 : Hid (∀ W : World, W.heap[w.heap.size]? = some (.cells #[.int .i64 3, .int .i64 (A : Int), .int .i64 (C : Int)] 27 (0, 0)) → W.cell? ⟨w.heap.size, 1, none⟩ = some (.int .i64 (A : Int))) := fun W h => cell_of_row _ _ _ _ _ _ h
        obtain ⟨sv2, sa2, sb2, h1, h2, h3, h4, _⟩ := WD2.out.snoc 125 (by first | (simp; omega) | omega)
        have HB2 := Lib.hid h1
        have HA2 := Lib.hid h2
        have HSA2 := h3
        have HWS2 := Lib.hid h4
        have HSB2 := h4.box
        clear h1 h2 h3 h4
        refine held_pure (i := 0) (v := cv1) rfl rfl (by kernel_rfl) (by kernel_rfl) (by kernel_rfl) (fun _ _ _ h => h) (Or.inl ⟨by rfl, fun w => by go_simp⟩) HS2 ?_
        simp only [List.setIfInBounds_toArray, List.set]
        refine held_pure (i := 3) (v := (.slice (some ⟨b0, o0, none⟩) l.length cap)) rfl rfl (by kernel_rfl) (by kernel_rfl) (by kernel_rfl) (fun _ _ _ h => h) (Or.inl ⟨by rfl, fun w => by go_simp⟩) HS2 ?_
        simp only [List.setIfInBounds_toArray, List.set]
        refine held_pure (i := 4) (v := (.pointer (some ⟨w.heap.size, 1, none⟩))) rfl rfl (by kernel_rfl) (by kernel_rfl) (by kernel_rfl) (fun _ _ _ h => h) (Or.inl ⟨by rfl, fun w => by go_simp⟩) HS2 ?_
        simp only [List.setIfInBounds_toArray, List.set]
        refine held_take (i := 5) (v := (.int .i64 (A : Int))) rfl rfl (by kernel_rfl) (by kernel_rfl) (by kernel_rfl) (fun _ _ _ h => h) (Or.inl ⟨by rfl, fun w hS => by have hc := HC1_2.out w hS; go_simp⟩) HS2 ?_
        simp only [List.setIfInBounds_toArray, List.set]
        refine held_bs (j := 1) (by kernel_rfl) rfl rfl rfl 46 1 _ rfl [(0, .int .u8 125)] rfl _ HB2.out HSA2 ?_
        simp only [List.setIfInBounds_toArray, List.set]
        refine held_execd (j := 2) (by kernel_rfl) rfl rfl (by rfl) _ (exec_app (.tmp 51) (.tmp 52) 46 rfl _ _ _ rfl rfl HA2.out) HSB2 ?_
        simp only [List.setIfInBounds_toArray, List.set]
        refine held_callx (j := 6) (by kernel_rfl) rfl rfl (by rfl) Tryd.func25 (by kernel_rfl) rfl rfl [sv2, (.slice (some ⟨b0, o0, none⟩) l.length cap), .int .i64 (A : Int)] rfl (HIA.out _ _ _ (HBW.out.trans HWS2.out.bel) HWS2.out.ob (by rw [htAH.out]; first | (simp; omega) | omega)) ?_
        rintro cv2 wc2 ⟨j1, j2, j3⟩
        rw [htAH.out] at j1
        have HWC2 := Lib.hid (HWS2.out.call j1 j2 j3)
        have HSC2 := HWC2.out.box
        clear j1 j2 j3
        refine ⟨HSC2, ?_⟩
        simp only [List.setIfInBounds_toArray, List.set]
        refine held_pure (i := 7) (v := cv2) rfl rfl (by kernel_rfl) (by kernel_rfl) (by kernel_rfl) (fun _ _ _ h => h) (Or.inl ⟨by rfl, fun w => by go_simp⟩) HSC2 ?_
        simp only [List.setIfInBounds_toArray, List.set]
        refine wpAnyH_done (by kernel_rfl) ?_ _
        clear HS2 HSA2 HSB2 HSC2 HB2 HA2 HWS2 WD2 HC1_2
        go_wp2_with fail
        go_ret
        exact ⟨_, rfl, by rw [HTX.out]; have := HWC2.out.ob; simpa using this, HWC2.out.bel, HWC2.out.oth⟩
    · obtain ⟨h01, n0, n1, _⟩ := leaf_num HMB.out HX.out ho
      dsimp only at n0 n1 h01
      have htx : txN l i = (if op = 0 then 97 else 107) :: Lib.itoa x1 := by
        unfold txN
        rw [valN_at gtx [] l HX.out, gtx_leaf ho]
      clear ih ho
      rcases h01 with rfl | rfl
      · rw [if_pos rfl] at htx
        have HTX := Lib.hid htx
        rw [htx] at hbd
        simp only [List.length_cons] at hbd
        clear htx
        go_enter Tryd.func25, Tryd.ntmps25
        go_upto_region 3 with (((with_reducible refine wpList_load_at ?_ 27 (.tmp 10) ?_ _ ?_ _ HLD.out ?_); rfl; rfl; rfl))
        refine wp_region_held (S := fun W => W.heap[w.heap.size]? = some (.cells #[.int .i64 0, .int .i64 x1, .int .i64 x2] 27 (0, 0))) (by kernel_rfl) ?_
        change wpAnyH _ _ _ _ _ _ _ _ (World.drew _)
        have wd1 := HW0.out.drew
        clear HW0
        generalize World.drew _ = D1 at *
        have WD1 := Lib.hid wd1
        have HS1 : D1.heap[w.heap.size]? = some (.cells #[.int .i64 0, .int .i64 x1, .int .i64 x2] 27 (0, 0)) := wd1.box
        clear wd1
        have HC0_1 : Hid (∀ W : World, W.heap[w.heap.size]? = some (.cells #[.int .i64 0, .int .i64 x1, .int .i64 x2] 27 (0, 0)) → W.cell? ⟨w.heap.size, 0, none⟩ = some (.int .i64 0)) := fun W h => cell_of_row _ _ _ _ _ _ h
        have HC1_1 : Hid (∀ W : World, W.heap[w.heap.size]? = some (.cells #[.int .i64 0, .int .i64 x1, .int .i64 x2] 27 (0, 0)) → W.cell? ⟨w.heap.size, 1, none⟩ = some (.int .i64 x1)) := fun W h => cell_of_row _ _ _ _ _ _ h
        obtain ⟨sv1, sa1, sb1, h1, h2, h3, h4, _⟩ := WD1.out.snoc 97 (by first | (simp; omega) | omega)
        have HB1 := Lib.hid h1
        have HA1 := Lib.hid h2
        have HSA1 := h3
        have HWS1 := Lib.hid h4
        have HSB1 := h4.box
        clear h1 h2 h3 h4
        refine held_pure (i := 0) (v := b) rfl rfl (by kernel_rfl) (by kernel_rfl) (by kernel_rfl) (fun _ _ _ h => h) (Or.inl ⟨by rfl, fun w => by go_simp⟩) HS1 ?_
        simp only [List.setIfInBounds_toArray, List.set]
        refine held_pure (i := 1) (v := (.pointer (some ⟨w.heap.size, 0, none⟩))) rfl rfl (by kernel_rfl) (by kernel_rfl) (by kernel_rfl) (fun _ _ _ h => h) (Or.inl ⟨by rfl, fun w => by go_simp⟩) HS1 ?_
        simp only [List.setIfInBounds_toArray, List.set]
        refine held_take (i := 2) (v := (.int .i64 0)) rfl rfl (by kernel_rfl) (by kernel_rfl) (by kernel_rfl) (fun _ _ _ h => h) (Or.inl ⟨by rfl, fun w hS => by have hc := HC0_1.out w hS; go_simp⟩) HS1 ?_
        simp only [List.setIfInBounds_toArray, List.set]
        refine held_take (i := 3) (v := (.int .u8 97)) rfl rfl (by kernel_rfl) (by kernel_rfl) (by kernel_rfl) (fun _ _ _ h => h) (Or.inl ⟨by rfl, fun w _ => by go_simp; rfl⟩) HS1 ?_
        simp only [List.setIfInBounds_toArray, List.set]
        refine held_pure (i := 6) (v := (.pointer (some ⟨w.heap.size, 1, none⟩))) rfl rfl (by kernel_rfl) (by kernel_rfl) (by kernel_rfl) (fun _ _ _ h => h) (Or.inl ⟨by rfl, fun w => by go_simp⟩) HS1 ?_
        simp only [List.setIfInBounds_toArray, List.set]
        refine held_take (i := 7) (v := (.int .i64 x1)) rfl rfl (by kernel_rfl) (by kernel_rfl) (by kernel_rfl) (fun _ _ _ h => h) (Or.inl ⟨by rfl, fun w hS => by have hc := HC1_1.out w hS; go_simp⟩) HS1 ?_
        simp only [List.setIfInBounds_toArray, List.set]
        refine held_bs (j := 4) (by kernel_rfl) rfl rfl rfl 46 1 _ rfl [(0, .int .u8 97)] rfl _ HB1.out HSA1 ?_
        simp only [List.setIfInBounds_toArray, List.set]
        refine held_execd (j := 5) (by kernel_rfl) rfl rfl (by rfl) _ (exec_app (.tmp 14) (.tmp 18) 46 rfl _ _ _ rfl rfl HA1.out) HSB1 ?_
        simp only [List.setIfInBounds_toArray, List.set]
        refine held_callx (j := 8) (by kernel_rfl) rfl rfl (by rfl) Tryd.func35 (by kernel_rfl) rfl rfl [sv1, .int .i64 x1, .int .i64 10] rfl (Tryd.strconv_AppendInt_10 W0.heap.size _ x1 (by omega) (by omega) sv1 _ sb1 HWS1.out.ob HWS1.out.sz (by simp; omega) (HT.out.on (HBW.out.trans HWS1.out.bel))) ?_
        rintro cv1 wc1 ⟨j1, j2, j3⟩
        have j4 : OB wc1 W0.heap.size cv1 (xs ++ [97] ++ Lib.itoa x1) := by
          have e1 : (xs ++ [97] ++ Lib.itoa x1).length = (xs ++ [97]).length + (Lib.itoa x1).length := List.length_append
          have e2 : Lib.byteCells (xs ++ [97] ++ Lib.itoa x1) = Lib.byteCells (xs ++ [97]) ++ Lib.byteCells (Lib.itoa x1) := by simp [Lib.byteCells]
          unfold OB
          rw [e1, e2]
          exact j1
        have HWC1 := Lib.hid (HWS1.out.call j4 j2 j3)
        have HSC1 := HWC1.out.box
        clear j1 j2 j3 j4
        refine ⟨HSC1, ?_⟩
        simp only [List.setIfInBounds_toArray, List.set]
        refine held_pure (i := 9) (v := cv1) rfl rfl (by kernel_rfl) (by kernel_rfl) (by kernel_rfl) (fun _ _ _ h => h) (Or.inl ⟨by rfl, fun w => by go_simp⟩) HSC1 ?_
        simp only [List.setIfInBounds_toArray, List.set]
        refine wpAnyH_done (by kernel_rfl) ?_ _
        clear HS1 HSA1 HSB1 HSC1 HB1 HA1 HWS1 WD1
        go_wp2_with fail
        go_ret
        exact ⟨_, rfl, by rw [HTX.out]; have := HWC1.out.ob; simpa using this, HWC1.out.bel, HWC1.out.oth⟩
      · rw [if_neg (by decide)] at htx
        have HTX := Lib.hid htx
        rw [htx] at hbd
        simp only [List.length_cons] at hbd
        clear htx
        go_enter Tryd.func25, Tryd.ntmps25
        go_upto_region 3 with (((with_reducible refine wpList_load_at ?_ 27 (.tmp 10) ?_ _ ?_ _ HLD.out ?_); rfl; rfl; rfl))
        refine wp_region_held (S := fun W => W.heap[w.heap.size]? = some (.cells #[.int .i64 1, .int .i64 x1, .int .i64 x2] 27 (0, 0))) (by kernel_rfl) ?_
        change wpAnyH _ _ _ _ _ _ _ _ (World.drew _)
        have wd1 := HW0.out.drew
        clear HW0
        generalize World.drew _ = D1 at *
        have WD1 := Lib.hid wd1
        have HS1 : D1.heap[w.heap.size]? = some (.cells #[.int .i64 1, .int .i64 x1, .int .i64 x2] 27 (0, 0)) := wd1.box
        clear wd1
        have HC0_1 : Hid (∀ W : World, W.heap[w.heap.size]? = some (.cells #[.int .i64 1, .int .i64 x1, .int .i64 x2] 27 (0, 0)) → W.cell? ⟨w.heap.size, 0, none⟩ = some (.int .i64 1)) := fun W h => cell_of_row _ _ _ _ _ _ h
        have HC1_1 : Hid (∀ W : World, W.heap[w.heap.size]? = some (.cells #[.int .i64 1, .int .i64 x1, .int .i64 x2] 27 (0, 0)) → W.cell? ⟨w.heap.size, 1, none⟩ = some (.int .i64 x1)) := fun W h => cell_of_row _ _ _ _ _ _ h
        obtain ⟨sv1, sa1, sb1, h1, h2, h3, h4, _⟩ := WD1.out.snoc 107 (by first | (simp; omega) | omega)
        have HB1 := Lib.hid h1
        have HA1 := Lib.hid h2
        have HSA1 := h3
        have HWS1 := Lib.hid h4
        have HSB1 := h4.box
        clear h1 h2 h3 h4
        refine held_pure (i := 0) (v := b) rfl rfl (by kernel_rfl) (by kernel_rfl) (by kernel_rfl) (fun _ _ _ h => h) (Or.inl ⟨by rfl, fun w => by go_simp⟩) HS1 ?_
        simp only [List.setIfInBounds_toArray, List.set]
        refine held_pure (i := 1) (v := (.pointer (some ⟨w.heap.size, 0, none⟩))) rfl rfl (by kernel_rfl) (by kernel_rfl) (by kernel_rfl) (fun _ _ _ h => h) (Or.inl ⟨by rfl, fun w => by go_simp⟩) HS1 ?_
        simp only [List.setIfInBounds_toArray, List.set]
        refine held_take (i := 2) (v := (.int .i64 1)) rfl rfl (by kernel_rfl) (by kernel_rfl) (by kernel_rfl) (fun _ _ _ h => h) (Or.inl ⟨by rfl, fun w hS => by have hc := HC0_1.out w hS; go_simp⟩) HS1 ?_
        simp only [List.setIfInBounds_toArray, List.set]
        refine held_take (i := 3) (v := (.int .u8 107)) rfl rfl (by kernel_rfl) (by kernel_rfl) (by kernel_rfl) (fun _ _ _ h => h) (Or.inl ⟨by rfl, fun w _ => by go_simp; rfl⟩) HS1 ?_
        simp only [List.setIfInBounds_toArray, List.set]
        refine held_pure (i := 6) (v := (.pointer (some ⟨w.heap.size, 1, none⟩))) rfl rfl (by kernel_rfl) (by kernel_rfl) (by kernel_rfl) (fun _ _ _ h => h) (Or.inl ⟨by rfl, fun w => by go_simp⟩) HS1 ?_
        simp only [List.setIfInBounds_toArray, List.set]
        refine held_take (i := 7) (v := (.int .i64 x1)) rfl rfl (by kernel_rfl) (by kernel_rfl) (by kernel_rfl) (fun _ _ _ h => h) (Or.inl ⟨by rfl, fun w hS => by have hc := HC1_1.out w hS; go_simp⟩) HS1 ?_
        simp only [List.setIfInBounds_toArray, List.set]
        refine held_bs (j := 4) (by kernel_rfl) rfl rfl rfl 46 1 _ rfl [(0, .int .u8 107)] rfl _ HB1.out HSA1 ?_
        simp only [List.setIfInBounds_toArray, List.set]
        refine held_execd (j := 5) (by kernel_rfl) rfl rfl (by rfl) _ (exec_app (.tmp 14) (.tmp 18) 46 rfl _ _ _ rfl rfl HA1.out) HSB1 ?_
        simp only [List.setIfInBounds_toArray, List.set]
        refine held_callx (j := 8) (by kernel_rfl) rfl rfl (by rfl) Tryd.func35 (by kernel_rfl) rfl rfl [sv1, .int .i64 x1, .int .i64 10] rfl (Tryd.strconv_AppendInt_10 W0.heap.size _ x1 (by omega) (by omega) sv1 _ sb1 HWS1.out.ob HWS1.out.sz (by simp; omega) (HT.out.on (HBW.out.trans HWS1.out.bel))) ?_
        rintro cv1 wc1 ⟨j1, j2, j3⟩
        have j4 : OB wc1 W0.heap.size cv1 (xs ++ [107] ++ Lib.itoa x1) := by
          have e1 : (xs ++ [107] ++ Lib.itoa x1).length = (xs ++ [107]).length + (Lib.itoa x1).length := List.length_append
          have e2 : Lib.byteCells (xs ++ [107] ++ Lib.itoa x1) = Lib.byteCells (xs ++ [107]) ++ Lib.byteCells (Lib.itoa x1) := by simp [Lib.byteCells]
          unfold OB
          rw [e1, e2]
          exact j1
        have HWC1 := Lib.hid (HWS1.out.call j4 j2 j3)
        have HSC1 := HWC1.out.box
        clear j1 j2 j3 j4
        refine ⟨HSC1, ?_⟩
        simp only [List.setIfInBounds_toArray, List.set]
        refine held_pure (i := 9) (v := cv1) rfl rfl (by kernel_rfl) (by kernel_rfl) (by kernel_rfl) (fun _ _ _ h => h) (Or.inl ⟨by rfl, fun w => by go_simp⟩) HSC1 ?_
        simp only [List.setIfInBounds_toArray, List.set]
        refine wpAnyH_done (by kernel_rfl) ?_ _
        clear HS1 HSA1 HSB1 HSC1 HB1 HA1 HWS1 WD1
        go_wp2_with fail
        go_ret
        exact ⟨_, rfl, by rw [HTX.out]; have := HWC1.out.ob; simpa using this, HWC1.out.bel, HWC1.out.oth⟩
end Go.Proofs.YtnppjkekbdapkaaDoor
