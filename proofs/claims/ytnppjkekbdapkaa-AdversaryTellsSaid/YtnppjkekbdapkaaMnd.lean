/-
  The mind: has, learn. (Printed by mkmnd.py.)
-/
import Derived.Test.YtnppjkekbdapkaaMpn
import Derived.Test.YtnppjkekbdapkaaHle
set_option linter.unusedVariables false
namespace Go.Proofs.Ytnppjkekbdapkaa
open Go.RowKit

section
variable {P : Program} {ops : Array Oper}
theorem wp_mapUpdate_at {o : Oper} {a : Act} {w w' : World} {K : Act → World → Prop} {Q : Exit → Act → World → Prop} (ty : TypeId) (m x y : Operand) (ho : o.op = .mapUpdate ty m x y) (mv kv vv : Value) (hm : a.eval m = mv) (hx : a.eval x = kv) (hy : a.eval y = vv)
    (hrun : (Instr.mapUpdate ty mv kv vv).run P w = .ok () w') (h : K (a.put o.dst undef) w') : o.wp P a w K Q := by
  unfold Oper.wp execOp
  simp only [ho, hm, hx, hy, Sem.run_bind, Sem.run_pure, Result.andThen_ok, hrun]
  exact h
theorem exec_lookup {o : Oper} {a : Act} {w : World} (ty : TypeId) (m x : Operand) (ok : Bool) (ho : o.op = .lookup ty m x ok) (mv kv : Value) (hm : a.eval m = mv) (hx : a.eval x = kv) (v : Value) (hrun : (Instr.lookup ty mv kv ok).run P w = .ok v w) : (execOp a.eval o).run P w = .ok (.value v) w := by
  unfold execOp
  simp only [ho, hm, hx, Sem.run_bind, Sem.run_pure, Result.andThen_ok, hrun]
theorem held_mapUpdate {S : World → Prop} {md : Region.Mode} {Q : Exit → Act → World → Prop} {j : Nat} {oj : Oper} {fuel : Nat} {listed : Array Bool} {a : Act} {w w' : World} (hr : Region.ready md ops listed = [j]) (hj : ops[j]? = some oj)
    (hgd : oj.guard = none) (hd : oj.dst = none) (ty : TypeId) (m x y : Operand) (ho : oj.op = .mapUpdate ty m x y) (mv kv vv : Value) (hm : a.eval m = mv) (hx : a.eval x = kv) (hy : a.eval y = vv)
    (hrun : (Instr.mapUpdate ty mv kv vv).run P w = .ok () w') (hS : S w') (h : wpAnyH P md ops Q S fuel (listed.setIfInBounds j true) a w') : wpAnyH P md ops Q S (fuel + 1) listed a w := by
  refine wpAnyH_all hr (by simp) fun i hi => ?_
  obtain rfl : i = j := by simpa using hi
  unfold Go.wpOp
  simp only [hj]
  have hw : Region.wanted oj (yielded ops a.tmps) = true := by simp [Region.wanted, hgd]
  rw [if_pos hw]
  exact .inl (wp_mapUpdate_at ty m x y ho mv kv vv hm hx hy hrun ⟨hS, by rw [hd]; exact h⟩)
end

/-- The slice of numbers, the mind's own. -/
def FL (w : World) (base : Nat) (v : Value) (fs : List Int) : Prop := w.ownsRow base 3 1 v fs.length (fs.map (Value.int .i64))
theorem FL.keep {w w' : World} {base : Nat} {v : Value} {fs : List Int} {S : Nat → Prop} (h : FL w base v fs) (o : Only S w w') (hs : ∀ k, v.ownBlock = some k → ¬ S k) : FL w' base v fs := by
  obtain ⟨h1, h | ⟨g, cap, cur, rfl, hg, hb, rest⟩⟩ := h
  · exact ⟨h1, .inl h⟩
  · exact ⟨h1, .inr ⟨g, cap, cur, rfl, hg, keepRow o hb (hs g rfl), rest⟩⟩
theorem FL.at {w : World} {base : Nat} {v : Value} {fs : List Int} (h : FL w base v fs) {i : Nat} (hi : i < fs.length) : ∃ g cap cur, v = .slice (some ⟨g, 0, none⟩) fs.length cap ∧ fs.length ≤ cap ∧ base ≤ g ∧ w.heap[g]? = some (.cells cur 3 (0, 0)) ∧ w.cell? ⟨g, i, none⟩ = some (.int .i64 fs[i]) := by
  obtain ⟨h1, ⟨rfl, h0⟩ | ⟨g, cap, cur, rfl, hg, hb, h2, h3, h4, h5⟩⟩ := h
  · omega
  · refine ⟨g, cap, cur, rfl, by omega, hg, hb, ?_⟩
    rw [cell_of_row w g i _ _ _ hb]
    have e1 : (fs.map (Value.int .i64))[i]? = some (.int .i64 fs[i]) := by simp [hi]
    rw [← h5, List.getElem?_take] at e1
    split at e1
    · simpa using e1
    · cases e1
/-- The mind in block g: nodes, the first places, the map. -/
structure Mi (w : World) (base g gm : Nat) (lv fv : Value) (fs : List Int) (n : Nat) (f : Int → Int) : Prop where
  row : w.heap[g]? = some (.cells #[lv, fv, .map (some gm)] 60 (0, 0))
  fst : FL w base fv fs
  mp : IM w gm n f
theorem Mi.keep {w w' : World} {base g gm n : Nat} {lv fv : Value} {fs : List Int} {f : Int → Int} (h : Mi w base g gm lv fv fs n f) (o : Only (fun _ => False) w w') : Mi w' base g gm lv fv fs n f :=
  ⟨keepRow o h.row (fun x => x), h.fst.keep o (fun _ _ x => x), h.mp.keep o (fun x => x)⟩
theorem Mi.ne {w : World} {base g gm n : Nat} {lv fv : Value} {fs : List Int} {f : Int → Int} (h : Mi w base g gm lv fv fs n f) : ¬ g = gm := by
  obtain ⟨es, clock, hb⟩ := h.mp.row
  rintro rfl
  rw [h.row] at hb
  cases hb
theorem Mi.put {w w' : World} {base g gm n n' : Nat} {lv fv : Value} {fs : List Int} {f f' : Int → Int} (h : Mi w base g gm lv fv fs n f) (o : Only (fun k => k = gm) w w') (hm : IM w' gm n' f') : Mi w' base g gm lv fv fs n' f' := by
  obtain ⟨es, clock, hb⟩ := h.mp.row
  refine ⟨keepRow o h.row ?_, h.fst.keep o ?_, hm⟩
  · rintro rfl
    rw [h.row] at hb
    cases hb
  · rintro k hk rfl
    obtain ⟨_, ⟨rfl, _⟩ | ⟨g', cap, cur, rfl, hg, hb', rest⟩⟩ := h.fst
    · cases hk
    · cases hk
      rw [hb'] at hb
      cases hb

section
variable {w : World} {base g gm n : Nat} {lv fv : Value} {fs : List Int} {f : Int → Int}
set_option maxHeartbeats 2000000 in
theorem has_any (h : Mi w base g gm lv fv fs n f) {i : Nat} (hi : i < fs.length) (hw : wf64 fs[i]) : Calls Try.prog 26 #[.pointer (some ⟨g, 0, none⟩), .int .i64 i] w fun e w' => e = .returned (.bool (decide (0 < f fs[i]))) ∧ Only (fun _ => False) w w' := by
  obtain ⟨gf, cap, cur, rfl, hcap, _, hgf, hcf⟩ := h.fst.at hi
  obtain ⟨c, hc⟩ : ∃ c, fs[i] = c := ⟨_, rfl⟩
  rw [hc] at hcf hw ⊢
  have HC2 : Hid (∀ W, Only (fun _ => False) w W → W.cell? ⟨g, 2, none⟩ = some (.map (some gm))) := fun W o => cell_of_row _ _ _ _ _ _ (h.keep o).row
  have HC1 : Hid (∀ W, Only (fun _ => False) w W → W.cell? ⟨g, 1, none⟩ = some (.slice (some ⟨gf, 0, none⟩) fs.length cap)) := fun W o => cell_of_row _ _ _ _ _ _ (h.keep o).row
  have HC3 : Hid (∀ W, Only (fun _ => False) w W → W.cell? ⟨gf, i, none⟩ = some (.int .i64 c)) := fun W o => by
    rw [cell_of_row _ _ _ _ _ _ (keepRow o hgf (fun x => x)), ← cell_of_row w gf i _ _ _ hgf]
    exact hcf
  have HLK : Hid (∀ W, Only (fun _ => False) w W → (Instr.lookup 31 (.map (some gm)) (.int .i64 c) false).run Try.prog W = .ok (.int .i64 (f c)) W) := fun W o => ((h.keep o).mp.look hw).1
  have hi0 : (0 : Int) ≤ (i : Int) ∧ (i : Int) < (fs.length : Int) := by omega
  clear h hgf hcf hc
  go_enter Try.func26, Try.ntmps26
  go_wp2_with fail
  refine wp_region_held (S := fun W => Only (fun _ => False) w W) (by kernel_rfl) ?_
  change wpAnyH _ _ _ _ _ _ _ _ (World.drew _)
  have HS0 : Only (fun _ => False) w (World.drew w) := (Only.refl _ w).drew
  refine held_pure (i := 0) (v := (.pointer (some ⟨g, 0, none⟩))) rfl rfl (by kernel_rfl) (by kernel_rfl) (by kernel_rfl) (fun _ _ _ h => h) (Or.inl ⟨by rfl, fun w => by go_simp⟩) HS0 ?_
  simp only [List.setIfInBounds_toArray, List.set]
  refine held_pure (i := 1) (v := (.pointer (some ⟨g, 0, none⟩))) rfl rfl (by kernel_rfl) (by kernel_rfl) (by kernel_rfl) (fun _ _ _ h => h) (Or.inl ⟨by rfl, fun w => by go_simp⟩) HS0 ?_
  simp only [List.setIfInBounds_toArray, List.set]
  refine held_pure (i := 2) (v := (.pointer (some ⟨g, 2, none⟩))) rfl rfl (by kernel_rfl) (by kernel_rfl) (by kernel_rfl) (fun _ _ _ h => h) (Or.inl ⟨by rfl, fun w => by go_simp⟩) HS0 ?_
  simp only [List.setIfInBounds_toArray, List.set]
  refine held_take (i := 3) (v := (.map (some gm))) rfl rfl (by kernel_rfl) (by kernel_rfl) (by kernel_rfl) (fun _ _ _ h => h) (Or.inl ⟨by rfl, fun w hS => by have hc := HC2.out w hS; go_simp⟩) HS0 ?_
  simp only [List.setIfInBounds_toArray, List.set]
  refine held_pure (i := 4) (v := (.pointer (some ⟨g, 0, none⟩))) rfl rfl (by kernel_rfl) (by kernel_rfl) (by kernel_rfl) (fun _ _ _ h => h) (Or.inl ⟨by rfl, fun w => by go_simp⟩) HS0 ?_
  simp only [List.setIfInBounds_toArray, List.set]
  refine held_pure (i := 5) (v := (.pointer (some ⟨g, 0, none⟩))) rfl rfl (by kernel_rfl) (by kernel_rfl) (by kernel_rfl) (fun _ _ _ h => h) (Or.inl ⟨by rfl, fun w => by go_simp⟩) HS0 ?_
  simp only [List.setIfInBounds_toArray, List.set]
  refine held_pure (i := 6) (v := (.pointer (some ⟨g, 1, none⟩))) rfl rfl (by kernel_rfl) (by kernel_rfl) (by kernel_rfl) (fun _ _ _ h => h) (Or.inl ⟨by rfl, fun w => by go_simp⟩) HS0 ?_
  simp only [List.setIfInBounds_toArray, List.set]
  refine held_take (i := 7) (v := (.slice (some ⟨gf, 0, none⟩) fs.length cap)) rfl rfl (by kernel_rfl) (by kernel_rfl) (by kernel_rfl) (fun _ _ _ h => h) (Or.inl ⟨by rfl, fun w hS => by have hc := HC1.out w hS; go_simp⟩) HS0 ?_
  simp only [List.setIfInBounds_toArray, List.set]
  refine held_pure (i := 8) (v := (.int .i64 (i : Int))) rfl rfl (by kernel_rfl) (by kernel_rfl) (by kernel_rfl) (fun _ _ _ h => h) (Or.inl ⟨by rfl, fun w => by go_simp⟩) HS0 ?_
  simp only [List.setIfInBounds_toArray, List.set]
  refine held_pure (i := 9) (v := (.pointer (some ⟨gf, i, none⟩))) rfl rfl (by kernel_rfl) (by kernel_rfl) (by kernel_rfl) (fun _ _ _ h => h) (Or.inl ⟨by rfl, fun w => by go_simp⟩) HS0 ?_
  simp only [List.setIfInBounds_toArray, List.set]
  refine held_take (i := 10) (v := (.int .i64 c)) rfl rfl (by kernel_rfl) (by kernel_rfl) (by kernel_rfl) (fun _ _ _ h => h) (Or.inl ⟨by rfl, fun w hS => by have hc := HC3.out w hS; go_simp⟩) HS0 ?_
  simp only [List.setIfInBounds_toArray, List.set]
  refine held_take (i := 11) (v := (.int .i64 (f c))) rfl rfl (by kernel_rfl) (by kernel_rfl) (by kernel_rfl) (fun _ _ _ h => h) (Or.inl ⟨by rfl, fun w hS => by have hc := HLK.out w hS; go_simp⟩) HS0 ?_
  simp only [List.setIfInBounds_toArray, List.set]
  refine held_pure (i := 12) (v := (.bool (decide (0 < f c)))) rfl rfl (by kernel_rfl) (by kernel_rfl) (by kernel_rfl) (fun _ _ _ h => h) (Or.inl ⟨by rfl, fun w => by go_simp⟩) HS0 ?_
  simp only [List.setIfInBounds_toArray, List.set]
  refine held_pure (i := 13) (v := (.bool (decide (0 < f c)))) rfl rfl (by kernel_rfl) (by kernel_rfl) (by kernel_rfl) (fun _ _ _ h => h) (Or.inl ⟨by rfl, fun w => by go_simp⟩) HS0 ?_
  simp only [List.setIfInBounds_toArray, List.set]
  refine wpAnyH_done (by kernel_rfl) ?_ _
  have HSS := Lib.hid HS0
  clear HS0
  go_wp2_with fail
  go_ret
  exact ⟨rfl, HSS.out⟩
set_option maxHeartbeats 2000000 in
theorem learn_any (h : Mi w base g gm lv fv fs n f) {i : Nat} (hi : i < fs.length) (hw : wf64 fs[i]) (hn : n < maxLen) (hf : 0 ≤ f fs[i] ∧ f fs[i] ≤ 1000000) : Calls Try.prog 24 #[.pointer (some ⟨g, 0, none⟩), .int .i64 i] w fun e w' => e = .returned (.tuple #[]) ∧ Mi w' base g gm lv fv fs (n + 1) (fun j => if j = fs[i] then f fs[i] + 1 else f j) ∧ Only (fun k => k = gm) w w' := by
  obtain ⟨gf, cap, cur, rfl, hcap, _, hgf, hcf⟩ := h.fst.at hi
  obtain ⟨c, hc⟩ : ∃ c, fs[i] = c := ⟨_, rfl⟩
  rw [hc] at hcf hw hf ⊢
  have hn1 : ¬ g = gm := h.ne
  have hn2 : ¬ gf = gm := by
    obtain ⟨es, clock, hb⟩ := h.mp.row
    rintro rfl
    rw [hgf] at hb
    cases hb
  have HC2 : Hid (∀ W, Only (fun k => k = gm) w W → W.cell? ⟨g, 2, none⟩ = some (.map (some gm))) := fun W o => cell_of_row _ _ _ _ _ _ (keepRow o h.row hn1)
  have HC1 : Hid (∀ W, Only (fun k => k = gm) w W → W.cell? ⟨g, 1, none⟩ = some (.slice (some ⟨gf, 0, none⟩) fs.length cap)) := fun W o => cell_of_row _ _ _ _ _ _ (keepRow o h.row hn1)
  have HC3 : Hid (∀ W, Only (fun k => k = gm) w W → W.cell? ⟨gf, i, none⟩ = some (.int .i64 c)) := fun W o => by
    rw [cell_of_row _ _ _ _ _ _ (keepRow o hgf hn2), ← cell_of_row w gf i _ _ _ hgf]
    exact hcf
  have hi0 : (0 : Int) ≤ (i : Int) ∧ (i : Int) < (fs.length : Int) := by omega
  have hd : Only (fun _ => False) w (World.drew w) := (Only.refl _ w).drew
  have HLK := Lib.hid ((h.keep hd).mp.look hw).1
  obtain ⟨w', hrun, hm, ho⟩ := (h.keep hd).mp.put hn hw (v := f c + 1) (by rw [wf64_iff]; omega)
  have HP := Lib.hid ((h.keep hd).put ho hm)
  have HO := Lib.hid ((hd.mono (fun _ x => x.elim)).trans ho)
  have HRUN := Lib.hid hrun
  have HSUM : Hid (IntKind.i64.wrap (f c + 1) = f c + 1) := show IntKind.i64.wrap (f c + 1) = f c + 1 from IntWalk.i64_in _ (by omega)
  clear h hgf hcf hc hd hrun hm ho
  go_enter Try.func24, Try.ntmps24
  refine wp_region_held (S := fun W => Only (fun k => k = gm) w W) (by kernel_rfl) ?_
  change wpAnyH _ _ _ _ _ _ _ _ (World.drew _)
  have HS0 : Only (fun k => k = gm) w (World.drew w) := (Only.refl _ w).drew
  refine held_pure (i := 0) (v := (.pointer (some ⟨g, 0, none⟩))) rfl rfl (by kernel_rfl) (by kernel_rfl) (by kernel_rfl) (fun _ _ _ h => h) (Or.inl ⟨by rfl, fun w => by go_simp⟩) HS0 ?_
  simp only [List.setIfInBounds_toArray, List.set]
  refine held_pure (i := 1) (v := (.pointer (some ⟨g, 0, none⟩))) rfl rfl (by kernel_rfl) (by kernel_rfl) (by kernel_rfl) (fun _ _ _ h => h) (Or.inl ⟨by rfl, fun w => by go_simp⟩) HS0 ?_
  simp only [List.setIfInBounds_toArray, List.set]
  refine held_pure (i := 2) (v := (.pointer (some ⟨g, 2, none⟩))) rfl rfl (by kernel_rfl) (by kernel_rfl) (by kernel_rfl) (fun _ _ _ h => h) (Or.inl ⟨by rfl, fun w => by go_simp⟩) HS0 ?_
  simp only [List.setIfInBounds_toArray, List.set]
  refine held_take (i := 3) (v := (.map (some gm))) rfl rfl (by kernel_rfl) (by kernel_rfl) (by kernel_rfl) (fun _ _ _ h => h) (Or.inl ⟨by rfl, fun w hS => by have hc := HC2.out w hS; go_simp⟩) HS0 ?_
  simp only [List.setIfInBounds_toArray, List.set]
  refine held_pure (i := 4) (v := (.pointer (some ⟨g, 0, none⟩))) rfl rfl (by kernel_rfl) (by kernel_rfl) (by kernel_rfl) (fun _ _ _ h => h) (Or.inl ⟨by rfl, fun w => by go_simp⟩) HS0 ?_
  simp only [List.setIfInBounds_toArray, List.set]
  refine held_pure (i := 5) (v := (.pointer (some ⟨g, 0, none⟩))) rfl rfl (by kernel_rfl) (by kernel_rfl) (by kernel_rfl) (fun _ _ _ h => h) (Or.inl ⟨by rfl, fun w => by go_simp⟩) HS0 ?_
  simp only [List.setIfInBounds_toArray, List.set]
  refine held_pure (i := 6) (v := (.pointer (some ⟨g, 1, none⟩))) rfl rfl (by kernel_rfl) (by kernel_rfl) (by kernel_rfl) (fun _ _ _ h => h) (Or.inl ⟨by rfl, fun w => by go_simp⟩) HS0 ?_
  simp only [List.setIfInBounds_toArray, List.set]
  refine held_take (i := 7) (v := (.slice (some ⟨gf, 0, none⟩) fs.length cap)) rfl rfl (by kernel_rfl) (by kernel_rfl) (by kernel_rfl) (fun _ _ _ h => h) (Or.inl ⟨by rfl, fun w hS => by have hc := HC1.out w hS; go_simp⟩) HS0 ?_
  simp only [List.setIfInBounds_toArray, List.set]
  refine held_pure (i := 8) (v := (.int .i64 (i : Int))) rfl rfl (by kernel_rfl) (by kernel_rfl) (by kernel_rfl) (fun _ _ _ h => h) (Or.inl ⟨by rfl, fun w => by go_simp⟩) HS0 ?_
  simp only [List.setIfInBounds_toArray, List.set]
  refine held_pure (i := 9) (v := (.pointer (some ⟨gf, i, none⟩))) rfl rfl (by kernel_rfl) (by kernel_rfl) (by kernel_rfl) (fun _ _ _ h => h) (Or.inl ⟨by rfl, fun w => by go_simp⟩) HS0 ?_
  simp only [List.setIfInBounds_toArray, List.set]
  refine held_take (i := 10) (v := (.int .i64 c)) rfl rfl (by kernel_rfl) (by kernel_rfl) (by kernel_rfl) (fun _ _ _ h => h) (Or.inl ⟨by rfl, fun w hS => by have hc := HC3.out w hS; go_simp⟩) HS0 ?_
  simp only [List.setIfInBounds_toArray, List.set]
  refine held_execd (j := 11) (by kernel_rfl) rfl rfl (by rfl) (.int .i64 (f c)) (exec_lookup 31 (.tmp 7) (.tmp 14) false rfl _ _ rfl rfl _ HLK.out) HS0 ?_
  simp only [List.setIfInBounds_toArray, List.set]
  refine held_pure (i := 12) (v := .int .i64 (f c + 1)) rfl rfl (by kernel_rfl) (by kernel_rfl) (by kernel_rfl) (fun _ _ _ h => h) (Or.inl ⟨by rfl, fun w => by have hsum := HSUM.out; go_simp⟩) HS0 ?_
  simp only [List.setIfInBounds_toArray, List.set]
  refine held_mapUpdate (j := 13) (by kernel_rfl) rfl rfl rfl 31 (.tmp 7) (.tmp 14) (.tmp 16) rfl _ _ _ rfl rfl rfl HRUN.out HO.out ?_
  refine wpAnyH_done (by kernel_rfl) ?_ _
  clear HS0
  go_end0
  exact ⟨rfl, HP.out, HO.out⟩
end
end Go.Proofs.Ytnppjkekbdapkaa
