/-
  NodePaths: the walk.
-/
import Derived.Test.YtbmckmlekhkpeaaLawNodeDigits
import Derived.Test.YtbmckmlekhkpeaaOpn
import Derived.Test.YtbmckmlekhkpeaaWit
import Derived.Test.YtbmckmlekhkpeaaShn
import Derived.Test.YtbmckmlekhkpeaaHlc
set_option linter.unusedVariables false
namespace Go.Proofs.Ytbmckmlekhkpeaa
open Go.RowKit

section
variable {P : Program} {ops : Array Oper} {S : World → Prop} {md : Region.Mode} {Q : Exit → Act → World → Prop}
theorem held_two {j k : Nat} {fuel : Nat} {listed : Array Bool} {a : Act} {w : World} (hr : Region.ready md ops listed = [j, k])
    (h1 : wpOp P ops Q j (fun a' w' => S w' ∧ wpAnyH P md ops Q S fuel (listed.setIfInBounds j true) a' w') a w)
    (h2 : wpOp P ops Q k (fun a' w' => S w' ∧ wpAnyH P md ops Q S fuel (listed.setIfInBounds k true) a' w') a w) : wpAnyH P md ops Q S (fuel + 1) listed a w := by
  refine wpAnyH_all hr (by simp) fun i hi => ?_
  have : i = j ∨ i = k := by simpa using hi
  rcases this with rfl | rfl
  · exact h1
  · exact h2
theorem held_one {j : Nat} {fuel : Nat} {listed : Array Bool} {a : Act} {w : World} (hr : Region.ready md ops listed = [j])
    (h1 : wpOp P ops Q j (fun a' w' => S w' ∧ wpAnyH P md ops Q S fuel (listed.setIfInBounds j true) a' w') a w) : wpAnyH P md ops Q S (fuel + 1) listed a w := by
  refine wpAnyH_all hr (by simp) fun i hi => ?_
  obtain rfl : i = j := by simpa using hi
  exact h1
theorem op_alloc {K : Act → World → Prop} {j : Nat} {oj : Oper} {t : Tmp} {a : Act} {w : World} (hj : ops[j]? = some oj) (hgd : oj.guard = none) (hd : oj.dst = some t) (ty : TypeId) (ho : oj.op = .alloc ty) (Z : Array Value)
    (hz : (zeroValue ty).run P w = .ok (.agg Z) w) (h : K ⟨a.tmps.setIfInBounds t (.pointer (some ⟨w.heap.size, 0, none⟩)), a.defers⟩ (w.alloc (.cells Z ty))) : wpOp P ops Q j K a w := by
  unfold Go.wpOp
  simp only [hj]
  have hw : Region.wanted oj (yielded ops a.tmps) = true := by simp [Region.wanted, hgd]
  rw [if_pos hw]
  refine .inl ?_
  have hrun : (execOp a.eval oj).run P w = .ok (.value (.pointer (some ⟨w.heap.size, 0, none⟩))) (w.alloc (.cells Z ty)) := by
    unfold execOp
    simp only [ho, Instr.alloc, Sem.run_bind, Sem.run_pure, hz, Result.andThen_ok]
    rfl
  unfold Oper.wp
  rw [hrun, Oper.upon_value, hd, put_some]
  exact h
theorem op_call {K : Act → World → Prop} {j : Nat} {oj : Oper} {t : Tmp} {a : Act} {w : World} (hj : ops[j]? = some oj) (hd : oj.dst = some t)
    (hw : Region.wanted oj (yielded ops a.tmps) = true) {f : FuncId} {fn : Func} (hf : P.funcs[f]? = some fn) (hn : (fn.name == "runtime.NumGoroutine") = false) (hb : fn.body.isSome = true)
    {xs : Array Operand} {ts : Array TypeId} (hop : oj.op = .call { callee := .value (.func f), args := xs, argTypes := ts }) (al : List Value) (hargs : xs.toList.map a.eval = al) {v : Value} {R : World → Prop}
    (hc : Calls P f al.toArray w fun e w' => e = .returned v ∧ R w') (h : ∀ w', R w' → K ⟨a.tmps.setIfInBounds t v, a.defers⟩ w') : wpOp P ops Q j K a w := by
  unfold Go.wpOp
  simp only [hj]
  rw [if_pos hw]
  refine .inl ?_
  have h1 : fn.name ≠ "runtime.NumGoroutine" := by simpa using hn
  obtain ⟨c, hcb⟩ := Option.isSome_iff_exists.1 hb
  have hargs' : xs.map a.eval = al.toArray := by rw [← hargs]; apply Array.toList_inj.1; simp
  have he : (callFunc f al.toArray).run P w = .ok (.enter f al.toArray) w := by simp [callFunc, hf, h1, hcb]
  have hrun : (execOp a.eval oj).run P w = .ok (.enter f al.toArray) w := by
    unfold execOp
    simp [hop, resolve, Deferred.ofValue, invoke, Act.eval, hargs', he]
  unfold Oper.wp
  rw [hrun, Oper.upon_enter]
  refine hc.mono fun e w'' hh => ?_
  obtain ⟨rfl, hk⟩ := hh
  have := h w'' hk
  rw [← put_some (a := a), ← hd] at this
  exact this
end
/-- Two rows that a region reads. -/
def Two (a b : Nat) (A B : Array Value) (s t : TypeId) (W : World) : Prop := W.heap[a]? = some (.cells A s (0, 0)) ∧ W.heap[b]? = some (.cells B t (0, 0))
theorem Two.keep {a b : Nat} {A B : Array Value} {s t : TypeId} {W X : World} (h : Two a b A B s t W) (o : Only (fun _ => False) W X) : Two a b A B s t X := ⟨o.row h.1 (fun x => x), o.row h.2 (fun x => x)⟩
/-- The rows of p, q, x and y. -/
def Five (p q x y : Nat) (PV WN : Array Value) (W : World) : Prop := W.heap[p]? = some (.cells PV 48 (0, 0)) ∧ W.heap[q]? = some (.cells PV 48 (0, 0)) ∧ W.heap[x]? = some (.cells WN 30 (0, 0)) ∧ W.heap[y]? = some (.cells WN 37 (0, 0))
theorem Five.keep {p q x y : Nat} {PV WN : Array Value} {W X : World} (h : Five p q x y PV WN W) (o : Only (fun _ => False) W X) : Five p q x y PV WN X :=
  ⟨o.row h.1 (fun x => x), o.row h.2.1 (fun x => x), o.row h.2.2.1 (fun x => x), o.row h.2.2.2 (fun x => x)⟩
theorem puty_at (X W0 : World) (g : Nat) (Z A : Array Value) (hz : Z.size = 85) (hA : A.size = 85) (h1 : ∀ v ∈ A.toList, v.oneCell' = true) (hX : X.heap[g]? = some (.cells Z 37 (0, 0)))
    (o : Only (fun _ => False) W0 X) (hg : W0.heap.size ≤ g) : ∃ X', (storeVar 37 ⟨g, 0, none⟩ (.agg A)).run Try.prog X = .ok () X' ∧ X'.heap[g]? = some (.cells A 37 (0, 0)) ∧ Only (fun _ => False) W0 X' := by
  have := storeVar_at (P := Try.prog) X g 0 37 37 Z A 85 hX info37s hA (by omega) h1
  rw [splice_all (by rw [hA, hz])] at this
  exact ⟨_, this, setRow_heap _ _ _ _ _ _ hX, o.fresh ((Only.refl (fun k => k = g) X).setRow rfl A) (by rintro k rfl; exact hg)⟩
/-- The path that Path answers. -/
def paV (id : Int) : Array Value := if 0 ≤ id ∧ id ≤ 255 then paA id else paZ
def paE (id : Int) : Int := if 0 ≤ id ∧ id ≤ 255 then 0 else 1
theorem paV_size (id : Int) : (paV id).size = 4 := by unfold paV; split <;> rfl
theorem paV_one (id : Int) : ∀ v ∈ (paV id).toList, v.oneCell' = true := by
  unfold paV
  split
  · exact pa_one _ _ _ _
  · exact pa_one _ _ _ _
theorem path_any (id : Int) (w : World) : Calls Try.prog 20 #[.int .i64 id] w fun e w' => e = .returned (.tuple #[.agg (paV id), .int .i64 (paE id)]) ∧ Below w.heap.size w w' := by
  unfold paV paE
  by_cases h : 0 ≤ id ∧ id ≤ 255
  · rw [if_pos h, if_pos h]; exact path_ok id w h.1 h.2
  · rw [if_neg h, if_neg h]; exact path_bad id w (by omega)
theorem rpath_any (id : Int) (w : World) : Calls Try.prog 22 #[.int .i64 id] w fun e w' => e = .returned (.tuple #[.agg (paV id), .int .i64 (paE id)]) ∧ Below w.heap.size w w' := by
  unfold paV paE
  by_cases h : 0 ≤ id ∧ id ≤ 255
  · rw [if_pos h, if_pos h]; exact rpath_ok id w h.1 h.2
  · rw [if_neg h, if_neg h]; exact rpath_bad id w (by omega)
theorem paV_eq (id : Int) (w : World) : (Op.equalIn 10000 48 (.agg (paV id)) (.agg (paV id))).run Try.prog w = .ok true w := by
  unfold paV
  by_cases h : 0 ≤ id ∧ id ≤ 255
  · rw [if_pos h]
    have := pa_eq id id h.1 h.2 h.1 h.2 w
    rw [beq_self_eq_true] at this
    exact this
  · rw [if_neg h]
    have := pa_eq 0 0 (by omega) (by omega) (by omega) (by omega) w
    exact this

set_option maxRecDepth 100000 in
set_option maxHeartbeats 16000000 in
theorem nodePaths_walk (w : World) (id : Int) (hid : (Lit.int .i64 id).wf = true) (n : Nd) (h : n.Ok) (i : Int) (hi : (Lit.int .i64 i).wf = true) (c : Ch) (hc : c.Ok) :
    Calls Try.prog 9 #[.int .i64 id, .agg (ndA n), .int .i64 i, .agg (chA c)] w fun e w' => e = .returned (.bool true) ∧ Below w.heap.size w w' := by
  have hz30 := zero30
  have hz37 := zero37
  have hz48 := zero48
  have hgn := heap_alloc_new w (.cells (ndA n) 30)
  have hgc := heap_alloc_new (w.alloc (.cells (ndA n) 30)) (.cells (chA c) 27)
  rw [show (w.alloc (.cells (ndA n) 30)).heap.size = w.heap.size + 1 by simp] at hgc
  have HSZ := Lib.hid (ndA_size ndZ_ok)
  have HWO := Lib.hid (ndA_one (wiN n i c))
  have HT0 : Hid (Two w.heap.size (w.heap.size + 1) (ndA n) (chA c) 30 27 ((w.alloc (.cells (ndA n) 30)).alloc (.cells (chA c) 27))) := ⟨((Only.refl (fun _ => False) _).alloc _).row hgn (fun x => x), hgc⟩
  have HB : Hid (Only (fun _ => False) w ((w.alloc (.cells (ndA n) 30)).alloc (.cells (chA c) 27))) := ((Only.refl _ w).alloc _).alloc _
  have HSN := Lib.hid (ndA_size h)
  have HSC := Lib.hid (chA_size hc)
  have hwk := wiN_ok h i hc
  have HSW := Lib.hid (ndA_size hwk)
  have HPA := Lib.hid (fun W => path_any id W)
  have HPR := Lib.hid (fun W => rpath_any id W)
  have HPQ := Lib.hid (fun W => paV_eq id W)
  have HPS := Lib.hid (paV_size id)
  have HFP := Lib.hid (fun W => fresh_at W 48 4 paZ (paV id) info48s rfl (paV_size id) (paV_one id))
  have HW := Lib.hid (fun W => with_any n i c W h hc)
  have HRW := Lib.hid (fun W => rwith_any n i c W h hc)
  have HITN := Lib.hid (fun W => its_any n W h)
  have HITW := Lib.hid (fun W => its_any (wiN n i c) W hwk)
  have HQW := Lib.hid (fun W => nd_eq37 hwk hwk W)
  rw [(Nd.eqv_iff hwk hwk).2 rfl] at HQW
  have HF30 := Lib.hid (fun W => fresh_at W 30 85 (ndA ndZ) (ndA (wiN n i c)) info30s (ndA_size ndZ_ok) (ndA_size hwk) (ndA_one _))
  have HF37 := Lib.hid (fun W => fresh_at W 37 85 (ndA ndZ) (ndA (wiN n i c)) info37s (ndA_size ndZ_ok) (ndA_size hwk) (ndA_one _))
  clear hgn hgc h hc hwk hid hi
  generalize ndA ndZ = Z at *
  generalize paZ = PZ at *
  generalize paV id = PV at *
  generalize paE id = pe at *
  generalize ndA (wiN n i c) = WN at *
  generalize wiE n i c = we at *
  generalize ndA n = A at *
  generalize chA c = C at *
  go_enter Try.func9, Try.ntmps9
  go_wp2_with fail
  refine (HPA.out _).mono ?_
  rintro e w1 ⟨rfl, h1⟩
  obtain ⟨W2, hst2, g2, o2, -⟩ := HFP.out w1
  have HST2 := Lib.hid hst2
  have q2 : Only (fun _ => False) ((w.alloc (.cells A 30)).alloc (.cells C 27)) W2 := (Only.of_below (S := fun _ => False) h1).trans o2
  have HT2 := Lib.hid (HT0.out.keep q2)
  have O2 := Lib.hid (HB.out.trans q2)
  have GP := Lib.hid g2
  clear h1 hst2 g2 o2 q2
  go_wp2_with (((with_reducible refine wpList_store_at ?_ 48 (.tmp 9) (.tmp 20) ?_ _ ?_ _ ?_ HST2.out ?_); rfl; rfl; rfl; rfl))
  refine (HPR.out _).mono ?_
  rintro e w3 ⟨rfl, h3⟩
  obtain ⟨W4, hst4, g4, o4, -⟩ := HFP.out w3
  have HST4 := Lib.hid hst4
  have q4 : Only (fun _ => False) W2 W4 := (Only.of_below (S := fun _ => False) h3).trans o4
  have HT4 := Lib.hid (HT2.out.keep q4)
  have O4 := Lib.hid (O2.out.trans q4)
  have GP4 := Lib.hid (q4.row GP.out (fun x => x))
  have GR4 := Lib.hid g4
  have HLN := Lib.hid (load30 HSN.out HT4.out.1)
  have HLC := Lib.hid (load27 HSC.out HT4.out.2)
  clear h3 hst4 g4 o4 q4
  go_wp2_with (first | ((with_reducible refine wpList_store_at ?_ 48 (.tmp 11) (.tmp 25) ?_ _ ?_ _ ?_ HST4.out ?_); rfl; rfl; rfl; rfl) | ((with_reducible refine wpList_load_at ?_ 30 (.tmp 5) ?_ _ ?_ _ HLN.out ?_); rfl; rfl; rfl) | ((with_reducible refine wpList_load_at ?_ 27 (.tmp 7) ?_ _ ?_ _ HLC.out ?_); rfl; rfl; rfl))
  refine (HW.out _).mono ?_
  rintro e w5 ⟨rfl, h5⟩
  obtain ⟨W6, hst6, g6, o6, -⟩ := HF30.out w5
  have HST6 := Lib.hid hst6
  have q6 : Only (fun _ => False) W4 W6 := (Only.of_below (S := fun _ => False) h5).trans o6
  have HT6 := Lib.hid (HT4.out.keep q6)
  have O6 := Lib.hid (O4.out.trans q6)
  have GP6 := Lib.hid (q6.row GP4.out (fun x => x))
  have GR6 := Lib.hid (q6.row GR4.out (fun x => x))
  have GX6 := Lib.hid g6
  clear h5 hst6 g6 o6 q6
  go_wp2_with (((with_reducible refine wpList_store_at ?_ 30 (.tmp 13) (.tmp 32) ?_ _ ?_ _ ?_ HST6.out ?_); rfl; rfl; rfl; rfl))
  have HPT := Lib.hid (fun X g h W0 o hg => puty_at X W0 g Z WN HSZ.out HSW.out HWO.out h o hg)
  have HLN6 : Hid (∀ W : World, Two w.heap.size (w.heap.size + 1) A C 30 27 W → (loadVar 30 ⟨w.heap.size, 0, none⟩).run Try.prog W = .ok (.agg A) W) := fun W h => load30 HSN.out h.1
  have HLC6 : Hid (∀ W : World, Two w.heap.size (w.heap.size + 1) A C 30 27 W → (loadVar 27 ⟨w.heap.size + 1, 0, none⟩).run Try.prog W = .ok (.agg C) W) := fun W h => load27 HSC.out h.2
  have HSP := Lib.hid (And.intro GP6.out (And.intro GR6.out GX6.out))
  refine wp_region_held (S := Two w.heap.size (w.heap.size + 1) A C 30 27) (by kernel_rfl) ?_
  change wpAnyH _ _ _ _ _ _ _ _ (World.drew _)
  have HSD : Two w.heap.size (w.heap.size + 1) A C 30 27 (World.drew W6) := HT6.out
  have oD : Only (fun _ => False) (World.drew W6) (World.drew W6) := Only.refl _ _
  have HO7 : Hid (Only (fun _ => False) w (World.drew W6)) := O6.out.drew
  refine held_take (i := 0) (v := .agg A) rfl rfl (by kernel_rfl) (by kernel_rfl) (by kernel_rfl) (fun _ _ _ h => h) (yields_load_w (by rfl) 30 (.tmp 5) rfl _ rfl _ HLN6.out) HSD ?_
  simp only [List.setIfInBounds_toArray, List.set]
  refine held_take (i := 3) (v := .agg C) rfl rfl (by kernel_rfl) (by kernel_rfl) (by kernel_rfl) (fun _ _ _ h => h) (yields_load_w (by rfl) 27 (.tmp 7) rfl _ rfl _ HLC6.out) HSD ?_
  simp only [List.setIfInBounds_toArray, List.set]
  refine held_pure (i := 2) (v := .int .i64 i) rfl rfl (by kernel_rfl) (by kernel_rfl) (by kernel_rfl) (fun _ _ _ h => h) (Or.inl ⟨by rfl, fun w => by go_simp⟩) HSD ?_
  simp only [List.setIfInBounds_toArray, List.set]
  refine held_two (j := 1) (k := 8) (by kernel_rfl) ?_ ?_
  · refine op_call (j := 1) rfl rfl (by rfl) Try.func13 (by kernel_rfl) rfl rfl [.agg A] rfl (HITN.out _) ?_
    intro x1 k1
    have o1 : Only (fun _ => False) (World.drew W6) x1 := oD.trans (Only.of_below k1)
    refine ⟨HSD.keep o1, ?_⟩
    simp only [List.setIfInBounds_toArray, List.set]
    refine held_two (j := 4) (k := 8) (by kernel_rfl) ?_ ?_
    · refine op_call (j := 4) rfl rfl (by rfl) Try.func23 (by kernel_rfl) rfl rfl [.agg A, .int .i64 i, .agg C] rfl (HRW.out _) ?_
      intro x2 k2
      have o2 : Only (fun _ => False) (World.drew W6) x2 := o1.trans (Only.of_below k2)
      refine ⟨HSD.keep o2, ?_⟩
      simp only [List.setIfInBounds_toArray, List.set]
      have hS9 := HSD.keep o2
      refine held_pure (i := 5) (v := .tuple #[.agg WN, .int .i64 we]) rfl rfl (by kernel_rfl) (by kernel_rfl) (by kernel_rfl) (fun _ _ _ h => h) (Or.inl ⟨by rfl, fun w => by go_simp⟩) hS9 ?_
      simp only [List.setIfInBounds_toArray, List.set]
      refine held_pure (i := 6) (v := .agg WN) rfl rfl (by kernel_rfl) (by kernel_rfl) (by kernel_rfl) (fun _ _ _ h => h) (Or.inl ⟨by rfl, fun w => by go_simp⟩) hS9 ?_
      simp only [List.setIfInBounds_toArray, List.set]
      refine held_pure (i := 7) (v := .int .i64 we) rfl rfl (by kernel_rfl) (by kernel_rfl) (by kernel_rfl) (fun _ _ _ h => h) (Or.inl ⟨by rfl, fun w => by go_simp⟩) hS9 ?_
      simp only [List.setIfInBounds_toArray, List.set]
      refine held_one (j := 8) (by kernel_rfl) ?_
      refine op_alloc (j := 8) rfl rfl rfl 37 rfl Z (hz37 _) ?_
      have gY : (x2.alloc (.cells Z 37)).heap[x2.heap.size]? = some (.cells Z 37 (0, 0)) := heap_alloc_new _ _
      have oY : Only (fun _ => False) (World.drew W6) (x2.alloc (.cells Z 37)) := o2.alloc _
      have lY : (World.drew W6).heap.size ≤ x2.heap.size := o2.size
      refine ⟨HSD.keep oY, ?_⟩
      simp only [List.setIfInBounds_toArray, List.set]
      obtain ⟨X, hst, gX, oX⟩ := HPT.out _ _ gY _ oY lY
      refine held_store (j := 9) (by kernel_rfl) rfl rfl rfl 37 (.tmp 15) (.tmp 40) rfl _ rfl _ rfl hst (HSD.keep oX) ?_
      refine held_pure (i := 10) (v := .int .i64 we) rfl rfl (by kernel_rfl) (by kernel_rfl) (by kernel_rfl) (fun _ _ _ h => h) (Or.inl ⟨by rfl, fun w => by go_simp⟩) (HSD.keep oX) ?_
      simp only [List.setIfInBounds_toArray, List.set]
      refine wpAnyH_done (by kernel_rfl) ?_ _
      have HR5 : Hid (Five w1.heap.size w3.heap.size w5.heap.size x2.heap.size PV WN X) := ⟨oX.row HSP.out.1 (fun x => x), oX.row HSP.out.2.1 (fun x => x), oX.row HSP.out.2.2 (fun x => x), gX⟩
      have O8 := Lib.hid (HO7.out.trans oX)
      clear hst gX oX hS9 gY lY
      go_wp2_with fail
      refine wp_region_held (S := Five w1.heap.size w3.heap.size w5.heap.size x2.heap.size PV WN) (by kernel_rfl) ?_
      change wpAnyH _ _ _ _ _ _ _ _ (World.drew _)
      have HS5 : Five w1.heap.size w3.heap.size w5.heap.size x2.heap.size PV WN (World.drew X) := HR5.out
      refine held_take (i := 0) (v := .agg PV) rfl rfl (by kernel_rfl) (by kernel_rfl) (by kernel_rfl) (fun _ _ _ h => h) (yields_load_w (by rfl) 48 (.tmp 9) rfl _ rfl _ (fun W h => load48 HPS.out h.1)) HS5 ?_
      simp only [List.setIfInBounds_toArray, List.set]
      refine held_take (i := 1) (v := .agg PV) rfl rfl (by kernel_rfl) (by kernel_rfl) (by kernel_rfl) (fun _ _ _ h => h) (yields_load_w (by rfl) 48 (.tmp 11) rfl _ rfl _ (fun W h => load48 HPS.out h.2.1)) HS5 ?_
      simp only [List.setIfInBounds_toArray, List.set]
      refine held_take (i := 2) (v := .bool true) rfl rfl (by kernel_rfl) (by kernel_rfl) (by kernel_rfl) (fun _ _ _ h => h) (yields_eql (by rfl) 48 (.tmp 42) (.tmp 43) 48 _ _ _ rfl rfl rfl (by kernel_rfl) HPQ.out) HS5 ?_
      simp only [List.setIfInBounds_toArray, List.set]
      refine held_pure (i := 3) (v := .bool true) rfl rfl (by kernel_rfl) (by kernel_rfl) (by kernel_rfl) (fun _ _ _ h => h) (Or.inl ⟨by rfl, fun w => by go_simp⟩) HS5 ?_
      simp only [List.setIfInBounds_toArray, List.set]
      refine held_pure (i := 4) (v := .int .i64 pe) rfl rfl (by kernel_rfl) (by kernel_rfl) (by kernel_rfl) (fun _ _ _ h => h) (Or.inl ⟨by rfl, fun w => by go_simp⟩) HS5 ?_
      simp only [List.setIfInBounds_toArray, List.set]
      refine held_pure (i := 5) (v := .int .i64 pe) rfl rfl (by kernel_rfl) (by kernel_rfl) (by kernel_rfl) (fun _ _ _ h => h) (Or.inl ⟨by rfl, fun w => by go_simp⟩) HS5 ?_
      simp only [List.setIfInBounds_toArray, List.set]
      refine held_pure (i := 6) (v := .bool true) rfl rfl (by kernel_rfl) (by kernel_rfl) (by kernel_rfl) (fun _ _ _ h => h) (Or.inl ⟨by rfl, fun w => by go_simp⟩) HS5 ?_
      simp only [List.setIfInBounds_toArray, List.set]
      refine held_pure (i := 7) (v := .bool true) rfl rfl (by kernel_rfl) (by kernel_rfl) (by kernel_rfl) (fun _ _ _ h => h) (Or.inl ⟨by rfl, fun w => by go_simp⟩) HS5 ?_
      simp only [List.setIfInBounds_toArray, List.set]
      refine held_pure (i := 8) (v := .bool true) rfl rfl (by kernel_rfl) (by kernel_rfl) (by kernel_rfl) (fun _ _ _ h => h) (Or.inl ⟨by rfl, fun w => by go_simp⟩) HS5 ?_
      simp only [List.setIfInBounds_toArray, List.set]
      refine held_take (i := 9) (v := .agg WN) rfl rfl (by kernel_rfl) (by kernel_rfl) (by kernel_rfl) (fun _ _ _ h => h) (yields_load_w (by rfl) 30 (.tmp 13) rfl _ rfl _ (fun W h => load30 HSW.out h.2.2.1)) HS5 ?_
      simp only [List.setIfInBounds_toArray, List.set]
      refine held_take (i := 11) (v := .agg WN) rfl rfl (by kernel_rfl) (by kernel_rfl) (by kernel_rfl) (fun _ _ _ h => h) (yields_load_w (by rfl) 37 (.tmp 15) rfl _ rfl _ (fun W h => load37 HSW.out h.2.2.2)) HS5 ?_
      simp only [List.setIfInBounds_toArray, List.set]
      refine held_call (j := 10) (by kernel_rfl) rfl rfl (by rfl) Try.func13 (by kernel_rfl) rfl rfl [.agg WN] rfl (HITW.out _) ?_
      intro y1 k1
      have p1 : Only (fun _ => False) X.drew y1 := Only.of_below k1
      have HS6 := HS5.keep p1
      have P1 := Lib.hid (O8.out.drew.trans p1)
      refine ⟨HS6, ?_⟩
      simp only [List.setIfInBounds_toArray, List.set]
      refine held_take (i := 12) (v := .bool true) rfl rfl (by kernel_rfl) (by kernel_rfl) (by kernel_rfl) (fun _ _ _ h => h) (yields_eql (by rfl) 37 (.tmp 52) (.tmp 53) 37 _ _ _ rfl rfl rfl (by kernel_rfl) HQW.out) HS6 ?_
      simp only [List.setIfInBounds_toArray, List.set]
      refine held_pure (i := 13) (v := .bool true) rfl rfl (by kernel_rfl) (by kernel_rfl) (by kernel_rfl) (fun _ _ _ h => h) (Or.inl ⟨by rfl, fun w => by go_simp⟩) HS6 ?_
      simp only [List.setIfInBounds_toArray, List.set]
      refine held_pure (i := 14) (v := .bool true) rfl rfl (by kernel_rfl) (by kernel_rfl) (by kernel_rfl) (fun _ _ _ h => h) (Or.inl ⟨by rfl, fun w => by go_simp⟩) HS6 ?_
      simp only [List.setIfInBounds_toArray, List.set]
      refine held_pure (i := 15) (v := .int .i64 we) rfl rfl (by kernel_rfl) (by kernel_rfl) (by kernel_rfl) (fun _ _ _ h => h) (Or.inl ⟨by rfl, fun w => by go_simp⟩) HS6 ?_
      simp only [List.setIfInBounds_toArray, List.set]
      refine held_pure (i := 16) (v := .int .i64 we) rfl rfl (by kernel_rfl) (by kernel_rfl) (by kernel_rfl) (fun _ _ _ h => h) (Or.inl ⟨by rfl, fun w => by go_simp⟩) HS6 ?_
      simp only [List.setIfInBounds_toArray, List.set]
      refine held_pure (i := 17) (v := .bool true) rfl rfl (by kernel_rfl) (by kernel_rfl) (by kernel_rfl) (fun _ _ _ h => h) (Or.inl ⟨by rfl, fun w => by go_simp⟩) HS6 ?_
      simp only [List.setIfInBounds_toArray, List.set]
      refine held_pure (i := 18) (v := .bool true) rfl rfl (by kernel_rfl) (by kernel_rfl) (by kernel_rfl) (fun _ _ _ h => h) (Or.inl ⟨by rfl, fun w => by go_simp⟩) HS6 ?_
      simp only [List.setIfInBounds_toArray, List.set]
      refine held_pure (i := 19) (v := .bool true) rfl rfl (by kernel_rfl) (by kernel_rfl) (by kernel_rfl) (fun _ _ _ h => h) (Or.inl ⟨by rfl, fun w => by go_simp⟩) HS6 ?_
      simp only [List.setIfInBounds_toArray, List.set]
      refine held_call (j := 20) (by kernel_rfl) rfl rfl (by rfl) Try.func10 (by kernel_rfl) rfl rfl [] rfl (shown_any _) ?_
      intro y2 k2
      have p2 : Only (fun _ => False) y1 y2 := Only.of_below k2
      have HS7 := HS6.keep p2
      have P2 := Lib.hid (P1.out.trans p2)
      refine ⟨HS7, ?_⟩
      simp only [List.setIfInBounds_toArray, List.set]
      refine held_pure (i := 21) (v := .bool true) rfl rfl (by kernel_rfl) (by kernel_rfl) (by kernel_rfl) (fun _ _ _ h => h) (Or.inl ⟨by rfl, fun w => by go_simp⟩) HS7 ?_
      simp only [List.setIfInBounds_toArray, List.set]
      refine held_pure (i := 22) (v := .bool true) rfl rfl (by kernel_rfl) (by kernel_rfl) (by kernel_rfl) (fun _ _ _ h => h) (Or.inl ⟨by rfl, fun w => by go_simp⟩) HS7 ?_
      simp only [List.setIfInBounds_toArray, List.set]
      refine wpAnyH_done (by kernel_rfl) ?_ _
      go_wp2_with fail
      go_ret
      exact ⟨rfl, P2.out.below0⟩
    · refine op_alloc (j := 8) rfl rfl rfl 37 rfl Z (hz37 _) ?_
      have gY : (x1.alloc (.cells Z 37)).heap[x1.heap.size]? = some (.cells Z 37 (0, 0)) := heap_alloc_new _ _
      have oY : Only (fun _ => False) (World.drew W6) (x1.alloc (.cells Z 37)) := o1.alloc _
      have lY : (World.drew W6).heap.size ≤ x1.heap.size := o1.size
      refine ⟨HSD.keep oY, ?_⟩
      simp only [List.setIfInBounds_toArray, List.set]
      refine held_one (j := 4) (by kernel_rfl) ?_
      refine op_call (j := 4) rfl rfl (by rfl) Try.func23 (by kernel_rfl) rfl rfl [.agg A, .int .i64 i, .agg C] rfl (HRW.out _) ?_
      intro x2 k2
      have o2 : Only (fun _ => False) (World.drew W6) x2 := oY.trans (Only.of_below k2)
      replace gY := (Only.of_below (S := fun _ => False) k2).row gY (fun x => x)
      refine ⟨HSD.keep o2, ?_⟩
      simp only [List.setIfInBounds_toArray, List.set]
      have hS9 := HSD.keep o2
      refine held_pure (i := 5) (v := .tuple #[.agg WN, .int .i64 we]) rfl rfl (by kernel_rfl) (by kernel_rfl) (by kernel_rfl) (fun _ _ _ h => h) (Or.inl ⟨by rfl, fun w => by go_simp⟩) hS9 ?_
      simp only [List.setIfInBounds_toArray, List.set]
      refine held_pure (i := 6) (v := .agg WN) rfl rfl (by kernel_rfl) (by kernel_rfl) (by kernel_rfl) (fun _ _ _ h => h) (Or.inl ⟨by rfl, fun w => by go_simp⟩) hS9 ?_
      simp only [List.setIfInBounds_toArray, List.set]
      refine held_pure (i := 7) (v := .int .i64 we) rfl rfl (by kernel_rfl) (by kernel_rfl) (by kernel_rfl) (fun _ _ _ h => h) (Or.inl ⟨by rfl, fun w => by go_simp⟩) hS9 ?_
      simp only [List.setIfInBounds_toArray, List.set]
      obtain ⟨X, hst, gX, oX⟩ := HPT.out _ _ gY _ o2 lY
      refine held_store (j := 9) (by kernel_rfl) rfl rfl rfl 37 (.tmp 15) (.tmp 40) rfl _ rfl _ rfl hst (HSD.keep oX) ?_
      refine held_pure (i := 10) (v := .int .i64 we) rfl rfl (by kernel_rfl) (by kernel_rfl) (by kernel_rfl) (fun _ _ _ h => h) (Or.inl ⟨by rfl, fun w => by go_simp⟩) (HSD.keep oX) ?_
      simp only [List.setIfInBounds_toArray, List.set]
      refine wpAnyH_done (by kernel_rfl) ?_ _
      have HR5 : Hid (Five w1.heap.size w3.heap.size w5.heap.size x1.heap.size PV WN X) := ⟨oX.row HSP.out.1 (fun x => x), oX.row HSP.out.2.1 (fun x => x), oX.row HSP.out.2.2 (fun x => x), gX⟩
      have O8 := Lib.hid (HO7.out.trans oX)
      clear hst gX oX hS9 gY lY
      go_wp2_with fail
      refine wp_region_held (S := Five w1.heap.size w3.heap.size w5.heap.size x1.heap.size PV WN) (by kernel_rfl) ?_
      change wpAnyH _ _ _ _ _ _ _ _ (World.drew _)
      have HS5 : Five w1.heap.size w3.heap.size w5.heap.size x1.heap.size PV WN (World.drew X) := HR5.out
      refine held_take (i := 0) (v := .agg PV) rfl rfl (by kernel_rfl) (by kernel_rfl) (by kernel_rfl) (fun _ _ _ h => h) (yields_load_w (by rfl) 48 (.tmp 9) rfl _ rfl _ (fun W h => load48 HPS.out h.1)) HS5 ?_
      simp only [List.setIfInBounds_toArray, List.set]
      refine held_take (i := 1) (v := .agg PV) rfl rfl (by kernel_rfl) (by kernel_rfl) (by kernel_rfl) (fun _ _ _ h => h) (yields_load_w (by rfl) 48 (.tmp 11) rfl _ rfl _ (fun W h => load48 HPS.out h.2.1)) HS5 ?_
      simp only [List.setIfInBounds_toArray, List.set]
      refine held_take (i := 2) (v := .bool true) rfl rfl (by kernel_rfl) (by kernel_rfl) (by kernel_rfl) (fun _ _ _ h => h) (yields_eql (by rfl) 48 (.tmp 42) (.tmp 43) 48 _ _ _ rfl rfl rfl (by kernel_rfl) HPQ.out) HS5 ?_
      simp only [List.setIfInBounds_toArray, List.set]
      refine held_pure (i := 3) (v := .bool true) rfl rfl (by kernel_rfl) (by kernel_rfl) (by kernel_rfl) (fun _ _ _ h => h) (Or.inl ⟨by rfl, fun w => by go_simp⟩) HS5 ?_
      simp only [List.setIfInBounds_toArray, List.set]
      refine held_pure (i := 4) (v := .int .i64 pe) rfl rfl (by kernel_rfl) (by kernel_rfl) (by kernel_rfl) (fun _ _ _ h => h) (Or.inl ⟨by rfl, fun w => by go_simp⟩) HS5 ?_
      simp only [List.setIfInBounds_toArray, List.set]
      refine held_pure (i := 5) (v := .int .i64 pe) rfl rfl (by kernel_rfl) (by kernel_rfl) (by kernel_rfl) (fun _ _ _ h => h) (Or.inl ⟨by rfl, fun w => by go_simp⟩) HS5 ?_
      simp only [List.setIfInBounds_toArray, List.set]
      refine held_pure (i := 6) (v := .bool true) rfl rfl (by kernel_rfl) (by kernel_rfl) (by kernel_rfl) (fun _ _ _ h => h) (Or.inl ⟨by rfl, fun w => by go_simp⟩) HS5 ?_
      simp only [List.setIfInBounds_toArray, List.set]
      refine held_pure (i := 7) (v := .bool true) rfl rfl (by kernel_rfl) (by kernel_rfl) (by kernel_rfl) (fun _ _ _ h => h) (Or.inl ⟨by rfl, fun w => by go_simp⟩) HS5 ?_
      simp only [List.setIfInBounds_toArray, List.set]
      refine held_pure (i := 8) (v := .bool true) rfl rfl (by kernel_rfl) (by kernel_rfl) (by kernel_rfl) (fun _ _ _ h => h) (Or.inl ⟨by rfl, fun w => by go_simp⟩) HS5 ?_
      simp only [List.setIfInBounds_toArray, List.set]
      refine held_take (i := 9) (v := .agg WN) rfl rfl (by kernel_rfl) (by kernel_rfl) (by kernel_rfl) (fun _ _ _ h => h) (yields_load_w (by rfl) 30 (.tmp 13) rfl _ rfl _ (fun W h => load30 HSW.out h.2.2.1)) HS5 ?_
      simp only [List.setIfInBounds_toArray, List.set]
      refine held_take (i := 11) (v := .agg WN) rfl rfl (by kernel_rfl) (by kernel_rfl) (by kernel_rfl) (fun _ _ _ h => h) (yields_load_w (by rfl) 37 (.tmp 15) rfl _ rfl _ (fun W h => load37 HSW.out h.2.2.2)) HS5 ?_
      simp only [List.setIfInBounds_toArray, List.set]
      refine held_call (j := 10) (by kernel_rfl) rfl rfl (by rfl) Try.func13 (by kernel_rfl) rfl rfl [.agg WN] rfl (HITW.out _) ?_
      intro y1 k1
      have p1 : Only (fun _ => False) X.drew y1 := Only.of_below k1
      have HS6 := HS5.keep p1
      have P1 := Lib.hid (O8.out.drew.trans p1)
      refine ⟨HS6, ?_⟩
      simp only [List.setIfInBounds_toArray, List.set]
      refine held_take (i := 12) (v := .bool true) rfl rfl (by kernel_rfl) (by kernel_rfl) (by kernel_rfl) (fun _ _ _ h => h) (yields_eql (by rfl) 37 (.tmp 52) (.tmp 53) 37 _ _ _ rfl rfl rfl (by kernel_rfl) HQW.out) HS6 ?_
      simp only [List.setIfInBounds_toArray, List.set]
      refine held_pure (i := 13) (v := .bool true) rfl rfl (by kernel_rfl) (by kernel_rfl) (by kernel_rfl) (fun _ _ _ h => h) (Or.inl ⟨by rfl, fun w => by go_simp⟩) HS6 ?_
      simp only [List.setIfInBounds_toArray, List.set]
      refine held_pure (i := 14) (v := .bool true) rfl rfl (by kernel_rfl) (by kernel_rfl) (by kernel_rfl) (fun _ _ _ h => h) (Or.inl ⟨by rfl, fun w => by go_simp⟩) HS6 ?_
      simp only [List.setIfInBounds_toArray, List.set]
      refine held_pure (i := 15) (v := .int .i64 we) rfl rfl (by kernel_rfl) (by kernel_rfl) (by kernel_rfl) (fun _ _ _ h => h) (Or.inl ⟨by rfl, fun w => by go_simp⟩) HS6 ?_
      simp only [List.setIfInBounds_toArray, List.set]
      refine held_pure (i := 16) (v := .int .i64 we) rfl rfl (by kernel_rfl) (by kernel_rfl) (by kernel_rfl) (fun _ _ _ h => h) (Or.inl ⟨by rfl, fun w => by go_simp⟩) HS6 ?_
      simp only [List.setIfInBounds_toArray, List.set]
      refine held_pure (i := 17) (v := .bool true) rfl rfl (by kernel_rfl) (by kernel_rfl) (by kernel_rfl) (fun _ _ _ h => h) (Or.inl ⟨by rfl, fun w => by go_simp⟩) HS6 ?_
      simp only [List.setIfInBounds_toArray, List.set]
      refine held_pure (i := 18) (v := .bool true) rfl rfl (by kernel_rfl) (by kernel_rfl) (by kernel_rfl) (fun _ _ _ h => h) (Or.inl ⟨by rfl, fun w => by go_simp⟩) HS6 ?_
      simp only [List.setIfInBounds_toArray, List.set]
      refine held_pure (i := 19) (v := .bool true) rfl rfl (by kernel_rfl) (by kernel_rfl) (by kernel_rfl) (fun _ _ _ h => h) (Or.inl ⟨by rfl, fun w => by go_simp⟩) HS6 ?_
      simp only [List.setIfInBounds_toArray, List.set]
      refine held_call (j := 20) (by kernel_rfl) rfl rfl (by rfl) Try.func10 (by kernel_rfl) rfl rfl [] rfl (shown_any _) ?_
      intro y2 k2
      have p2 : Only (fun _ => False) y1 y2 := Only.of_below k2
      have HS7 := HS6.keep p2
      have P2 := Lib.hid (P1.out.trans p2)
      refine ⟨HS7, ?_⟩
      simp only [List.setIfInBounds_toArray, List.set]
      refine held_pure (i := 21) (v := .bool true) rfl rfl (by kernel_rfl) (by kernel_rfl) (by kernel_rfl) (fun _ _ _ h => h) (Or.inl ⟨by rfl, fun w => by go_simp⟩) HS7 ?_
      simp only [List.setIfInBounds_toArray, List.set]
      refine held_pure (i := 22) (v := .bool true) rfl rfl (by kernel_rfl) (by kernel_rfl) (by kernel_rfl) (fun _ _ _ h => h) (Or.inl ⟨by rfl, fun w => by go_simp⟩) HS7 ?_
      simp only [List.setIfInBounds_toArray, List.set]
      refine wpAnyH_done (by kernel_rfl) ?_ _
      go_wp2_with fail
      go_ret
      exact ⟨rfl, P2.out.below0⟩
  · refine op_alloc (j := 8) rfl rfl rfl 37 rfl Z (hz37 _) ?_
    have gY : ((World.drew W6).alloc (.cells Z 37)).heap[(World.drew W6).heap.size]? = some (.cells Z 37 (0, 0)) := heap_alloc_new _ _
    have oY : Only (fun _ => False) (World.drew W6) ((World.drew W6).alloc (.cells Z 37)) := oD.alloc _
    have lY : (World.drew W6).heap.size ≤ (World.drew W6).heap.size := oD.size
    refine ⟨HSD.keep oY, ?_⟩
    simp only [List.setIfInBounds_toArray, List.set]
    refine held_one (j := 1) (by kernel_rfl) ?_
    refine op_call (j := 1) rfl rfl (by rfl) Try.func13 (by kernel_rfl) rfl rfl [.agg A] rfl (HITN.out _) ?_
    intro x1 k1
    have o1 : Only (fun _ => False) (World.drew W6) x1 := oY.trans (Only.of_below k1)
    replace gY := (Only.of_below (S := fun _ => False) k1).row gY (fun x => x)
    refine ⟨HSD.keep o1, ?_⟩
    simp only [List.setIfInBounds_toArray, List.set]
    refine held_one (j := 4) (by kernel_rfl) ?_
    refine op_call (j := 4) rfl rfl (by rfl) Try.func23 (by kernel_rfl) rfl rfl [.agg A, .int .i64 i, .agg C] rfl (HRW.out _) ?_
    intro x2 k2
    have o2 : Only (fun _ => False) (World.drew W6) x2 := o1.trans (Only.of_below k2)
    replace gY := (Only.of_below (S := fun _ => False) k2).row gY (fun x => x)
    refine ⟨HSD.keep o2, ?_⟩
    simp only [List.setIfInBounds_toArray, List.set]
    have hS9 := HSD.keep o2
    refine held_pure (i := 5) (v := .tuple #[.agg WN, .int .i64 we]) rfl rfl (by kernel_rfl) (by kernel_rfl) (by kernel_rfl) (fun _ _ _ h => h) (Or.inl ⟨by rfl, fun w => by go_simp⟩) hS9 ?_
    simp only [List.setIfInBounds_toArray, List.set]
    refine held_pure (i := 6) (v := .agg WN) rfl rfl (by kernel_rfl) (by kernel_rfl) (by kernel_rfl) (fun _ _ _ h => h) (Or.inl ⟨by rfl, fun w => by go_simp⟩) hS9 ?_
    simp only [List.setIfInBounds_toArray, List.set]
    refine held_pure (i := 7) (v := .int .i64 we) rfl rfl (by kernel_rfl) (by kernel_rfl) (by kernel_rfl) (fun _ _ _ h => h) (Or.inl ⟨by rfl, fun w => by go_simp⟩) hS9 ?_
    simp only [List.setIfInBounds_toArray, List.set]
    obtain ⟨X, hst, gX, oX⟩ := HPT.out _ _ gY _ o2 lY
    refine held_store (j := 9) (by kernel_rfl) rfl rfl rfl 37 (.tmp 15) (.tmp 40) rfl _ rfl _ rfl hst (HSD.keep oX) ?_
    refine held_pure (i := 10) (v := .int .i64 we) rfl rfl (by kernel_rfl) (by kernel_rfl) (by kernel_rfl) (fun _ _ _ h => h) (Or.inl ⟨by rfl, fun w => by go_simp⟩) (HSD.keep oX) ?_
    simp only [List.setIfInBounds_toArray, List.set]
    refine wpAnyH_done (by kernel_rfl) ?_ _
    have HR5 : Hid (Five w1.heap.size w3.heap.size w5.heap.size W6.heap.size PV WN X) := ⟨oX.row HSP.out.1 (fun x => x), oX.row HSP.out.2.1 (fun x => x), oX.row HSP.out.2.2 (fun x => x), gX⟩
    have O8 := Lib.hid (HO7.out.trans oX)
    clear hst gX oX hS9 gY lY
    go_wp2_with fail
    refine wp_region_held (S := Five w1.heap.size w3.heap.size w5.heap.size W6.heap.size PV WN) (by kernel_rfl) ?_
    change wpAnyH _ _ _ _ _ _ _ _ (World.drew _)
    have HS5 : Five w1.heap.size w3.heap.size w5.heap.size W6.heap.size PV WN (World.drew X) := HR5.out
    refine held_take (i := 0) (v := .agg PV) rfl rfl (by kernel_rfl) (by kernel_rfl) (by kernel_rfl) (fun _ _ _ h => h) (yields_load_w (by rfl) 48 (.tmp 9) rfl _ rfl _ (fun W h => load48 HPS.out h.1)) HS5 ?_
    simp only [List.setIfInBounds_toArray, List.set]
    refine held_take (i := 1) (v := .agg PV) rfl rfl (by kernel_rfl) (by kernel_rfl) (by kernel_rfl) (fun _ _ _ h => h) (yields_load_w (by rfl) 48 (.tmp 11) rfl _ rfl _ (fun W h => load48 HPS.out h.2.1)) HS5 ?_
    simp only [List.setIfInBounds_toArray, List.set]
    refine held_take (i := 2) (v := .bool true) rfl rfl (by kernel_rfl) (by kernel_rfl) (by kernel_rfl) (fun _ _ _ h => h) (yields_eql (by rfl) 48 (.tmp 42) (.tmp 43) 48 _ _ _ rfl rfl rfl (by kernel_rfl) HPQ.out) HS5 ?_
    simp only [List.setIfInBounds_toArray, List.set]
    refine held_pure (i := 3) (v := .bool true) rfl rfl (by kernel_rfl) (by kernel_rfl) (by kernel_rfl) (fun _ _ _ h => h) (Or.inl ⟨by rfl, fun w => by go_simp⟩) HS5 ?_
    simp only [List.setIfInBounds_toArray, List.set]
    refine held_pure (i := 4) (v := .int .i64 pe) rfl rfl (by kernel_rfl) (by kernel_rfl) (by kernel_rfl) (fun _ _ _ h => h) (Or.inl ⟨by rfl, fun w => by go_simp⟩) HS5 ?_
    simp only [List.setIfInBounds_toArray, List.set]
    refine held_pure (i := 5) (v := .int .i64 pe) rfl rfl (by kernel_rfl) (by kernel_rfl) (by kernel_rfl) (fun _ _ _ h => h) (Or.inl ⟨by rfl, fun w => by go_simp⟩) HS5 ?_
    simp only [List.setIfInBounds_toArray, List.set]
    refine held_pure (i := 6) (v := .bool true) rfl rfl (by kernel_rfl) (by kernel_rfl) (by kernel_rfl) (fun _ _ _ h => h) (Or.inl ⟨by rfl, fun w => by go_simp⟩) HS5 ?_
    simp only [List.setIfInBounds_toArray, List.set]
    refine held_pure (i := 7) (v := .bool true) rfl rfl (by kernel_rfl) (by kernel_rfl) (by kernel_rfl) (fun _ _ _ h => h) (Or.inl ⟨by rfl, fun w => by go_simp⟩) HS5 ?_
    simp only [List.setIfInBounds_toArray, List.set]
    refine held_pure (i := 8) (v := .bool true) rfl rfl (by kernel_rfl) (by kernel_rfl) (by kernel_rfl) (fun _ _ _ h => h) (Or.inl ⟨by rfl, fun w => by go_simp⟩) HS5 ?_
    simp only [List.setIfInBounds_toArray, List.set]
    refine held_take (i := 9) (v := .agg WN) rfl rfl (by kernel_rfl) (by kernel_rfl) (by kernel_rfl) (fun _ _ _ h => h) (yields_load_w (by rfl) 30 (.tmp 13) rfl _ rfl _ (fun W h => load30 HSW.out h.2.2.1)) HS5 ?_
    simp only [List.setIfInBounds_toArray, List.set]
    refine held_take (i := 11) (v := .agg WN) rfl rfl (by kernel_rfl) (by kernel_rfl) (by kernel_rfl) (fun _ _ _ h => h) (yields_load_w (by rfl) 37 (.tmp 15) rfl _ rfl _ (fun W h => load37 HSW.out h.2.2.2)) HS5 ?_
    simp only [List.setIfInBounds_toArray, List.set]
    refine held_call (j := 10) (by kernel_rfl) rfl rfl (by rfl) Try.func13 (by kernel_rfl) rfl rfl [.agg WN] rfl (HITW.out _) ?_
    intro y1 k1
    have p1 : Only (fun _ => False) X.drew y1 := Only.of_below k1
    have HS6 := HS5.keep p1
    have P1 := Lib.hid (O8.out.drew.trans p1)
    refine ⟨HS6, ?_⟩
    simp only [List.setIfInBounds_toArray, List.set]
    refine held_take (i := 12) (v := .bool true) rfl rfl (by kernel_rfl) (by kernel_rfl) (by kernel_rfl) (fun _ _ _ h => h) (yields_eql (by rfl) 37 (.tmp 52) (.tmp 53) 37 _ _ _ rfl rfl rfl (by kernel_rfl) HQW.out) HS6 ?_
    simp only [List.setIfInBounds_toArray, List.set]
    refine held_pure (i := 13) (v := .bool true) rfl rfl (by kernel_rfl) (by kernel_rfl) (by kernel_rfl) (fun _ _ _ h => h) (Or.inl ⟨by rfl, fun w => by go_simp⟩) HS6 ?_
    simp only [List.setIfInBounds_toArray, List.set]
    refine held_pure (i := 14) (v := .bool true) rfl rfl (by kernel_rfl) (by kernel_rfl) (by kernel_rfl) (fun _ _ _ h => h) (Or.inl ⟨by rfl, fun w => by go_simp⟩) HS6 ?_
    simp only [List.setIfInBounds_toArray, List.set]
    refine held_pure (i := 15) (v := .int .i64 we) rfl rfl (by kernel_rfl) (by kernel_rfl) (by kernel_rfl) (fun _ _ _ h => h) (Or.inl ⟨by rfl, fun w => by go_simp⟩) HS6 ?_
    simp only [List.setIfInBounds_toArray, List.set]
    refine held_pure (i := 16) (v := .int .i64 we) rfl rfl (by kernel_rfl) (by kernel_rfl) (by kernel_rfl) (fun _ _ _ h => h) (Or.inl ⟨by rfl, fun w => by go_simp⟩) HS6 ?_
    simp only [List.setIfInBounds_toArray, List.set]
    refine held_pure (i := 17) (v := .bool true) rfl rfl (by kernel_rfl) (by kernel_rfl) (by kernel_rfl) (fun _ _ _ h => h) (Or.inl ⟨by rfl, fun w => by go_simp⟩) HS6 ?_
    simp only [List.setIfInBounds_toArray, List.set]
    refine held_pure (i := 18) (v := .bool true) rfl rfl (by kernel_rfl) (by kernel_rfl) (by kernel_rfl) (fun _ _ _ h => h) (Or.inl ⟨by rfl, fun w => by go_simp⟩) HS6 ?_
    simp only [List.setIfInBounds_toArray, List.set]
    refine held_pure (i := 19) (v := .bool true) rfl rfl (by kernel_rfl) (by kernel_rfl) (by kernel_rfl) (fun _ _ _ h => h) (Or.inl ⟨by rfl, fun w => by go_simp⟩) HS6 ?_
    simp only [List.setIfInBounds_toArray, List.set]
    refine held_call (j := 20) (by kernel_rfl) rfl rfl (by rfl) Try.func10 (by kernel_rfl) rfl rfl [] rfl (shown_any _) ?_
    intro y2 k2
    have p2 : Only (fun _ => False) y1 y2 := Only.of_below k2
    have HS7 := HS6.keep p2
    have P2 := Lib.hid (P1.out.trans p2)
    refine ⟨HS7, ?_⟩
    simp only [List.setIfInBounds_toArray, List.set]
    refine held_pure (i := 21) (v := .bool true) rfl rfl (by kernel_rfl) (by kernel_rfl) (by kernel_rfl) (fun _ _ _ h => h) (Or.inl ⟨by rfl, fun w => by go_simp⟩) HS7 ?_
    simp only [List.setIfInBounds_toArray, List.set]
    refine held_pure (i := 22) (v := .bool true) rfl rfl (by kernel_rfl) (by kernel_rfl) (by kernel_rfl) (fun _ _ _ h => h) (Or.inl ⟨by rfl, fun w => by go_simp⟩) HS7 ?_
    simp only [List.setIfInBounds_toArray, List.set]
    refine wpAnyH_done (by kernel_rfl) ?_ _
    go_wp2_with fail
    go_ret
    exact ⟨rfl, P2.out.below0⟩
end Go.Proofs.Ytbmckmlekhkpeaa
