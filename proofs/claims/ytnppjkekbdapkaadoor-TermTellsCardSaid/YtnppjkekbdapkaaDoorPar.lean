/-
  Parts.
-/
import Derived.Test.YtnppjkekbdapkaaDoorFal
import Derived.Test.YtnppjkekbdapkaaDoorShelf
set_option linter.unusedVariables false
namespace Go.Proofs.YtnppjkekbdapkaaDoor
open Go.RowKit

attribute [local go_sem] Oper.semAt_some

theorem only_fresh {S T : Nat → Prop} {a b c : World} (h : Only S a b) (o : Only T b c) (ht : ∀ k, T k → a.heap.size ≤ k) : Only S a c :=
  ⟨o.os.trans h.os, o.tape.trans h.tape, o.output.trans h.output, Nat.le_trans h.size o.size, fun k hk hs => (o.block k (Nat.lt_of_lt_of_le hk h.size) (fun x => by have := ht k x; omega)).trans (h.block k hk hs)⟩
theorem only_put (W : World) (r : Nat) (o : Obj) : Only (fun k => k = r) W (W.putObj r o) := ⟨rfl, rfl, rfl, by rw [World.putObj_size]; exact Nat.le_refl _, fun k _ hn => World.putObj_heap_other hn⟩
theorem wpListIn_app {F : Fence} {n : Nat} {P : Program} {ops : Array Oper} {rest : List Oper} {o : Oper} {a : Act} {w w' : World} {Q : Exit → Act → World → Prop} (hgd : o.guard = none) (s x : Operand) (t : TypeId) (ho : o.op = .call { callee := .builtin .append, args := #[s, x], argTypes := #[t, t] }) (v u v' : Value) (hs : a.eval s = v) (hx : a.eval x = u)
    (hrun : ∀ ty, (Builtin.append_ #[t, t] ty #[v, u]).run P w = .ok v' w') (h : wpListIn F n P ops Q rest (a.put o.dst v') w') : wpListIn F n P ops Q (o :: rest) a w := by
  refine wpListIn_plain hgd fun K hK => ?_
  unfold Oper.wpIn
  refine ⟨?_, ?_⟩
  · simp [Oper.about, ho, resolve, Target.leads, Sem.run_pure]
  · rw [Oper.semAt_plain F _ _ (by rw [ho]; intro c hc'; cases hc')]
    simp [execOp, ho, resolve, invoke, builtin, hs, hx, hrun, Result.andThen]
    exact hK _ _ h
/-- Between two rounds: what has come lies in the slice of the box ob; all that the call was handed lies as it lay. -/
structure Pj (w : World) (ob : Nat) (lv iv : Value) (R : Loop) (pre : List Int) (W : World) : Prop where
  out : ∃ v, W.heap[ob]? = some (.cells #[v] 32 (0, 0)) ∧ FL W (ob + 6) v pre
  lbox : W.heap[ob + 1]? = some (.cells #[lv] 22 (0, 0))
  ibox : W.heap[ob + 2]? = some (.cells #[iv] 3 (0, 0))
  dfr : W.heap[ob + 3]? = some (.deferred (some []))
  lp : W.heap[ob + 4]? = some (.loop R)
  only : Only (fun _ => False) w W
  new : w.heap.size ≤ ob
theorem Pj.step {w A B : World} {ob : Nat} {lv iv : Value} {R : Loop} {pre : List Int} (h : Pj w ob lv iv R pre A) (o : Only (fun k => k = ob + 5) A B) : Pj w ob lv iv R pre B := by
  obtain ⟨v, h1, h2⟩ := h.out
  exact ⟨⟨v, keepRow o h1 (by omega), h2.keep o (fun k hk e => by have := h2.base_le hk; omega)⟩, keepRow o h.lbox (by omega), keepRow o h.ibox (by omega),
    (o.block _ (Array.getElem?_eq_some_iff.1 h.dfr).1 (by omega)).trans h.dfr, (o.block _ (Array.getElem?_eq_some_iff.1 h.lp).1 (by omega)).trans h.lp, only_fresh h.only o (fun k hk => by have := h.new; omega), h.new⟩
theorem Pj.turn {w A : World} {ob : Nat} {lv iv : Value} {R : Loop} {pre : List Int} (h : Pj w ob lv iv R pre A) (R' : Loop) : Pj w ob lv iv R' pre (A.putObj (ob + 4) (.loop R')) := by
  obtain ⟨v, h1, h2⟩ := h.out
  have o := only_put A (ob + 4) (.loop R')
  exact ⟨⟨v, keepRow o h1 (by omega), h2.keep o (fun k hk e => by have := h2.base_le hk; omega)⟩, keepRow o h.lbox (by omega), keepRow o h.ibox (by omega),
    (o.block _ (Array.getElem?_eq_some_iff.1 h.dfr).1 (by omega)).trans h.dfr, World.putObj_heap_same (Array.getElem?_eq_some_iff.1 h.lp).1, only_fresh h.only o (fun k hk => by have := h.new; omega), h.new⟩
/-- What a round does: the append, the store. -/
theorem Pj.round {w A : World} {ob : Nat} {lv iv : Value} {R : Loop} {pre : List Int} (h : Pj w ob lv iv R pre A) (hs : ob + 6 ≤ A.heap.size) (x : Int) (hn : pre.length ≤ 1000) :
    ∃ v g cap B, A.heap[ob]? = some (.cells #[v] 32 (0, 0)) ∧ (∀ ty, (Builtin.append_ #[32, 32] ty #[v, .slice (some ⟨A.heap.size, 0, none⟩) 1 1]).run Tryd.prog (A.alloc (.cells #[.int .i64 x] 3)) = .ok (.slice (some ⟨g, 0, none⟩) (pre.length + 1) cap) B) ∧ v.oneCell' = true ∧
      B.heap[ob]? = some (.cells #[v] 32 (0, 0)) ∧ Pj w ob lv iv R (pre ++ [x]) (B.setCell ⟨ob, 0, none⟩ (.slice (some ⟨g, 0, none⟩) (pre.length + 1) cap)) ∧ (B.setCell ⟨ob, 0, none⟩ (.slice (some ⟨g, 0, none⟩) (pre.length + 1) cap)).heap[ob + 5]? = A.heap[ob + 5]? ∧ A.heap.size ≤ (B.setCell ⟨ob, 0, none⟩ (.slice (some ⟨g, 0, none⟩) (pre.length + 1) cap)).heap.size := by
  obtain ⟨v, h1, h2⟩ := h.out
  have o7 : Only (fun _ => False) A (A.alloc (.cells #[.int .i64 x] 3)) := (Only.refl _ _).alloc _
  have hi7 : IL (A.alloc (.cells #[.int .i64 x] 3)) (.slice (some ⟨A.heap.size, 0, none⟩) 1 1) [x] := IL.of_row (l := [x]) (cap := 1) (heap_alloc_new _ _) (Nat.le_refl _) (by unfold maxLen; omega) (fun i u h => by simpa using h)
  have h7 := h2.keep o7 (fun _ _ x => x)
  obtain ⟨v', B, hr, hf, hg, _⟩ := app_ints h7 hi7 (Nat.le_trans hs o7.size) (by simp; omega)
  have hl : (pre ++ [x]).length = pre.length + 1 := by simp
  obtain ⟨g, cap, cur, rfl, hcap, hgg, hrow, _⟩ := hf.at (i := 0) (by rw [hl]; omega)
  rw [hl] at hr hf hcap
  have oB : Only (fun k => ob + 6 ≤ k) A B := (o7.mono (fun _ x => x.elim)).trans ((grown_only hg).mono (fun k hk => h7.base_le hk))
  have o2 : Only (fun k => k = ob) B (B.setCell ⟨ob, 0, none⟩ (.slice (some ⟨g, 0, none⟩) (pre.length + 1) cap)) := (Only.refl (fun k => k = ob) B).setCell rfl _
  have o3 : Only (fun k => k = ob ∨ ob + 6 ≤ k) A (B.setCell ⟨ob, 0, none⟩ (.slice (some ⟨g, 0, none⟩) (pre.length + 1) cap)) := (oB.mono (fun k hk => .inr hk)).trans (o2.mono (fun k hk => .inl hk))
  have hb := keepRow oB h1 (by omega)
  refine ⟨v, g, cap, B, h1, hr, ?_, hb, ⟨⟨_, heap_setCell_same _ _ _ _ _ _ hb, ?_⟩, keepRow o3 h.lbox (by omega), keepRow o3 h.ibox (by omega), (o3.block _ (Array.getElem?_eq_some_iff.1 h.dfr).1 (by omega)).trans h.dfr, (o3.block _ (Array.getElem?_eq_some_iff.1 h.lp).1 (by omega)).trans h.lp, only_fresh h.only o3 (fun k hk => by have := h.new; omega), h.new⟩, o3.block _ (by omega) (by omega), o3.size⟩
  · exact h2.one
  · have hf' := hf.keep o2 (fun k hk e => by have := hf.base_le hk; omega)
    exact hf'
theorem FL.cells {w : World} {base g cap : Nat} {fs : List Int} (h : FL w base (.slice (some ⟨g, 0, none⟩) fs.length cap) fs) {j : Nat} (hj : j < fs.length) : w.cell? ⟨g, j, none⟩ = some (.int .i64 fs[j]) ∧ w.frozen? ⟨g, j, none⟩ = false ∧ base ≤ g ∧ fs.length ≤ cap ∧ cap ≤ maxLen := by
  obtain ⟨h1, ⟨h, _⟩ | ⟨g', cap', cur, he, hg, hb, h2, h3, h4, h5⟩⟩ := h
  · cases h
  · cases he
    refine ⟨?_, frozen_of_row _ _ _ _ _ hb, hg, h2, h3⟩
    rw [cell_of_row w g j _ _ _ hb]
    have e1 : (fs.map (Value.int .i64))[j]? = some (.int .i64 fs[j]) := by simp [hj]
    rw [← h5, List.getElem?_take] at e1
    split at e1
    · simpa using e1
    · cases e1
theorem IL.keep_at {w w' : World} {g n cap : Nat} {fs : List Int} {S : Nat → Prop} (h : IL w (.slice (some ⟨g, 0, none⟩) n cap) fs) (o : Only S w w') (hs : ¬ S g) : IL w' (.slice (some ⟨g, 0, none⟩) n cap) fs := by
  obtain ⟨a, c, he, h1, h2, h3⟩ := h
  injection he with e1 e2 e3
  subst e1 e2 e3
  refine ⟨_, _, rfl, h1, h2, fun i u hu => ?_⟩
  obtain ⟨b, q, hb, hc⟩ := h3 i u hu
  cases hb
  refine ⟨g, 0, rfl, ?_⟩
  rw [← hc]
  exact World.cell?_of_block (o.block _ (World.block_lt_of_cell? w _ hc) hs)
theorem outD_len (l : List Nd) (i d : Nat) : (outD l i d).length ≤ d := by
  induction d with
  | zero => exact Nat.le_refl _
  | succ d ih =>
    unfold outD
    split
    · rw [List.length_append, List.length_singleton]
      omega
    · omega
theorem outD_pos {l : List Nd} (hm : mayB l = true) {i : Nat} (hi : i < l.length) : 0 < (outD l i (i + 1)).length := by
  have h := parts_eq hm hi
  have : (i : Int) ∈ partsN l i := by
    rw [h]
    exact List.mem_map.2 ⟨i, List.mem_filter.2 ⟨List.mem_range.2 (by omega), isIn_self i⟩, rfl⟩
  unfold partsN at this
  exact List.length_pos_of_mem (List.mem_reverse.1 this)
theorem put_only {w : World} {g off : Nat} (d : Array Int) : Only (fun k => k = g) w (Sort.putRow (Value.int .i64) w g off d) :=
  ⟨rfl, rfl, rfl, by rw [Sort.size_putRow]; exact Nat.le_refl _, fun k hk hn => by
    unfold Sort.putRow Sort.mapBlock
    simp only [Array.getElem?_modify]
    rw [if_neg (fun h => hn h.symm)]⟩
theorem rev_any {W : World} {base g cap : Nat} {zs : List Int} (h : FL W base (.slice (some ⟨g, 0, none⟩) zs.length cap) zs) (hn : zs.length ≤ 1000) :
    Calls Tryd.prog 28 #[.slice (some ⟨g, 0, none⟩) zs.length cap] W fun e w' => e = .returned (.tuple #[]) ∧ (IL w' (.slice (some ⟨g, 0, none⟩) zs.length cap) zs.reverse ∧ Only (fun k => k = g) W w') := by
  have hH : Sort.Holds (Value.int .i64) W g 0 zs.toArray := fun j hj => by
    have hj' : j < zs.length := by simpa using hj
    obtain ⟨h1, h2, _⟩ := h.cells hj'
    rw [Nat.zero_add]
    refine ⟨?_, h2⟩
    rw [h1, getElem!_pos _ j hj]
    simp
  refine (Tryd.slices_Reverse_int g 0 cap zs W hH (by omega)).mono ?_
  rintro e w' ⟨rfl, n, rfl⟩
  have hA : Sort.Holds (Value.int .i64) (Sort.ahead W n) g 0 zs.toArray := hH
  have hB := Sort.holds_putRow (Value.int .i64) (Sort.ahead W n) g 0 zs.toArray zs.reverse.toArray hA (by simp)
  have oA : Only (fun k => k = g) W (Sort.ahead W n) := ⟨rfl, rfl, rfl, Nat.le_refl _, fun _ _ _ => rfl⟩
  refine ⟨rfl, ?_, oA.trans (put_only _)⟩
  by_cases h0 : zs = []
  · subst h0
    obtain ⟨_, ⟨h, _⟩ | ⟨g', cap', cur, he, hg, hb, h2, h3, h4, h5⟩⟩ := h
    · cases h
    · cases he
      exact ⟨_, cap, rfl, Nat.zero_le _, h3, fun i u hu => by simp at hu⟩
  · have hpos : 0 < zs.length := List.length_pos_iff.2 h0
    obtain ⟨_, _, _, hc1, hc2⟩ := h.cells hpos
    refine ⟨_, cap, by simp, by simpa using hc1, hc2, fun i u hu => ⟨g, 0, rfl, ?_⟩⟩
    rw [List.getElem?_map] at hu
    obtain ⟨z, hz, rfl⟩ := Option.map_eq_some_iff.1 hu
    obtain ⟨hil, hiz⟩ := List.getElem?_eq_some_iff.1 hz
    have := (hB i (by simpa using hil)).1
    rw [this, getElem!_pos _ i (by simpa using hil)]
    simp at hiz ⊢
    exact hiz
set_option maxRecDepth 100000 in
set_option maxHeartbeats 8000000 in
theorem parts_any (l : List Nd) (i : Int) (v : Value) (w : World) (hl : NL w v l) (hlen : l.length ≤ 1000000) (hi : wf64 i) :
    Calls Tryd.prog 12 #[v, .int .i64 i] w fun e w' => ∃ v', e = .returned v' ∧ IL w' v' (if placeB l i then partsN l i.toNat else []) ∧ Only (fun _ => False) w w' := by
  have HL := Lib.hid hl
  have HP : Hid (Calls Tryd.prog 21 #[v, .int .i64 i] w fun e w' => e = .returned (.bool (placeB l i)) ∧ Only (fun _ => False) w w') := place_any l i v w hl hlen hi
  obtain ⟨ad, cap, rfl, hrow⟩ := hl
  clear hrow
  cases hp : placeB l i
  · rw [hp] at HP
    clear hp
    go_enter Tryd.func12, Tryd.ntmps12
    go_wp2_with (go_at_call 21; refine HP.out.mono ?_; rintro e w1 ⟨rfl, k1⟩)
    go_ret
    exact ⟨_, rfl, ⟨none, 0, rfl, Nat.le_refl _, Nat.zero_le _, fun i u hu => by cases hu⟩, k1⟩
  · obtain ⟨i0, i1, hm⟩ := placeB_yes hp
    have HMB := Lib.hid hm
    obtain ⟨I, rfl⟩ := Int.eq_ofNat_of_zero_le i0
    have hI : I < l.length := by omega
    rw [if_pos rfl, Int.toNat_natCast]
    rw [hp] at HP
    clear hp hm
    refine (callsIn_wide (n := 4)).1 ?_
    refine callsIn_of_wp_marks Tryd.func12 rfl trivial ?_ rfl
    simp only [Tryd.ntmps12, List.size_toArray, List.length_cons, List.length_nil, Nat.reduceAdd, Nat.reduceSub, Array.replicate_succ, Array.replicate_zero, List.push_toArray, List.append_toArray, List.nil_append, List.cons_append]
    gi_wp2_with (first | (refine ⟨trivial, ?_⟩; gi_at_call 21; (with_reducible refine (callsIn_wide.2 HP.out).mono ?_); rintro e w1 ⟨rfl, k1⟩) | (refine ⟨trivial, ?_⟩; gi_at_call 27; (with_reducible refine (callsIn_wide.2 (falling_any _ _ _ _ _)).mono ?_); rintro e w2 ⟨rfl, rfl⟩))
    have HO1 := Lib.hid k1
    obtain ⟨ob, hob⟩ : ∃ ob, ob = w1.heap.size := ⟨_, rfl⟩
    have hs1 : (w1.alloc (.cells #[.slice none 0 0] 32)).heap.size = w1.heap.size + 1 := by simp
    have hs2 : ((w1.alloc (.cells #[.slice none 0 0] 32)).alloc (.cells #[.slice ad l.length cap] 22)).heap.size = w1.heap.size + 2 := by simp
    have b0 : (((w1.alloc (.cells #[.slice none 0 0] 32)).alloc (.cells #[.slice ad l.length cap] 22)).alloc (.cells #[.int .i64 (I : Int)] 3)).heap[ob]? = some (.cells #[.slice none 0 0] 32 (0, 0)) := by
      rw [hob]
      exact keepRow ((Only.refl (fun _ => False) _).alloc _) (keepRow ((Only.refl (fun _ => False) _).alloc _) (heap_alloc_new _ _) (fun x => x)) (fun x => x)
    have b1 : (((w1.alloc (.cells #[.slice none 0 0] 32)).alloc (.cells #[.slice ad l.length cap] 22)).alloc (.cells #[.int .i64 (I : Int)] 3)).heap[ob + 1]? = some (.cells #[.slice ad l.length cap] 22 (0, 0)) := by
      rw [hob, ← hs1]
      exact keepRow ((Only.refl (fun _ => False) _).alloc _) (heap_alloc_new _ _) (fun x => x)
    have b2 : (((w1.alloc (.cells #[.slice none 0 0] 32)).alloc (.cells #[.slice ad l.length cap] 22)).alloc (.cells #[.int .i64 (I : Int)] 3)).heap[ob + 2]? = some (.cells #[.int .i64 (I : Int)] 3 (0, 0)) := by
      rw [hob, ← hs2]
      exact heap_alloc_new _ _
    have b3 : Only (fun _ => False) w (((w1.alloc (.cells #[.slice none 0 0] 32)).alloc (.cells #[.slice ad l.length cap] 22)).alloc (.cells #[.int .i64 (I : Int)] 3)) := ((k1.alloc _).alloc _).alloc _
    have b4 : (((w1.alloc (.cells #[.slice none 0 0] 32)).alloc (.cells #[.slice ad l.length cap] 22)).alloc (.cells #[.int .i64 (I : Int)] 3)).heap.size = ob + 3 := by rw [hob]; simp
    have b5 : w.heap.size ≤ ob := by rw [hob]; exact k1.size
    generalize ((w1.alloc (.cells #[.slice none 0 0] 32)).alloc (.cells #[.slice ad l.length cap] 22)).alloc (.cells #[.int .i64 (I : Int)] 3) = W0 at *
    rw [← hob, show ob + 1 + 1 = ob + 2 from rfl]
    clear hs1 hs2 hob k1 HP HO1
    refine wpIn_rangeFunc ?_
    intro fn hfn
    generalize hASS : Code.region 5 _ false = assign
    generalize hBOD : Code.block 1 _ = body
    generalize hTM : (#[_, _, _, _, _, _, _, _, _, _, _, _, _, _, _, _, _, _, _, _, _, _] : Array Value) = tmps0
    obtain ⟨R, hR⟩ : ∃ R : Loop, R = { state := .ready, pending := none, fn := fn, tmps := tmps0, params := #[14], assign := assign, body := body, defers := W0.heap.size } := ⟨_, rfl⟩
    obtain ⟨W1, hW1⟩ : ∃ W1, W1 = (W0.alloc (.deferred (some []))).alloc (.loop R) := ⟨_, rfl⟩
    have hsz0 : (W0.alloc (.deferred (some []))).heap.size = ob + 4 := by simp [b4]
    have hsz : W1.heap.size = ob + 5 := by rw [hW1]; simp [b4]
    have hPJ : Pj w ob (.slice ad l.length cap) (.int .i64 (I : Int)) R [] W1 := by
      have oA : Only (fun _ => False) W0 (W0.alloc (.deferred (some []))) := (Only.refl _ _).alloc _
      have oB : Only (fun _ => False) (W0.alloc (.deferred (some []))) W1 := by rw [hW1]; exact (Only.refl _ _).alloc _
      have o := oA.trans oB
      refine ⟨⟨_, keepRow o b0 (fun x => x), World.ownsRow_nil _ _ _ _⟩, keepRow o b1 (fun x => x), keepRow o b2 (fun x => x), ?_, ?_, b3.trans o, b5⟩
      · have h1 : (W0.alloc (.deferred (some []))).heap[ob + 3]? = some (.deferred (some [])) := by rw [← b4]; exact World.alloc_heap_new _ _
        exact (oB.block _ (by omega) (fun x => x)).trans h1
      · rw [hW1, ← hsz0]
        exact World.alloc_heap_new _ _
    have hen : (Instr.enterLoop fn tmps0 #[14] assign body Fence.wide.round).run Tryd.prog W0 = .ok (ob + 4, [{ target := .collected (ob + 3), args := #[] }]) W1 := by
      have := run_enterLoop_outer (P := Tryd.prog) (w := W0) fn tmps0 #[14] assign body
      rw [hW1, hR]
      rw [b4] at this ⊢
      exact this
    have eg : ∀ args w, (callFunc 36 args).run Tryd.prog w = .ok (.enter 36 args) w := enters_of Tryd.func36 (by kernel_rfl) rfl
    refine ⟨ob + 4, [{ target := .collected (ob + 3), args := #[] }], W1, { target := .fn (.func 36) #[.pointer (some ⟨ob + 2, 0, none⟩), .pointer (some ⟨ob + 1, 0, none⟩)], args := #[.func (.yield (ob + 4)) #[] #[]] }, W1, 36,
      #[.func (.yield (ob + 4)) #[] #[], .pointer (some ⟨ob + 2, 0, none⟩), .pointer (some ⟨ob + 1, 0, none⟩)], W1, hen, ?_, fun _ _ => trivial, ?_, fun _ => by omega, ?_⟩
    · rw [← hTM]
      simp [resolve, go_sem]
    · simp [invoke, go_sem, eg]
    · refine (fall_in l I HMB.out hI ad cap (ob + 2) (ob + 1) (ob + 5) (ob + 4) (fun pre W => Pj w ob (.slice ad l.length cap) (.int .i64 (I : Int)) R pre W) W1 hsz (fun pre W h => ⟨HL.out.keep h.only, h.ibox, h.lbox⟩) (fun pre A B h o => h.step o) ?_ hPJ).mono ?_
      · intro pre x W hj hs6 hpl hxl
        have hy := run_yield (P := Tryd.prog) (args := #[.int .i64 (x : Int)]) hj.lp (by rw [hR]; rfl)
        refine ⟨_, _, _, _, hy, roundIn_of_wpIn (by rw [hR]; exact hfn) ?_⟩
        have hbr := run_beginRound (P := Tryd.prog) hj.lp (by rw [hR])
        have hj2 := hj.turn { R with state := .busy }
        have hW5 : (W.putObj (ob + 4) (.loop { R with state := .busy })).heap[ob + 5]? = W.heap[ob + 5]? := World.putObj_heap_other (by omega)
        have hS5 : (W.putObj (ob + 4) (.loop { R with state := .busy })).heap.size = W.heap.size := World.putObj_size
        obtain ⟨v, g, cp, B, r1, r2, r3, r4, r5, r6, r7⟩ := hj2.round (by rw [hS5]; exact hs6) (x : Int) hpl
        have hfl := r5.out
        rw [hW5] at r6
        rw [hS5] at r7
        have hen2 := run_endRound (P := Tryd.prog) none r5.lp
        have hj4 := r5.turn R
        have hRR : ({ { R with state := .busy } with state := .ready, pending := none } : Loop) = R := by rw [hR]
        have h46 : ((B.setCell ⟨ob, 0, none⟩ (.slice (some ⟨g, 0, none⟩) (pre.length + 1) cp)).putObj (ob + 4) (.loop R)).heap[ob + 5]? = W.heap[ob + 5]? := (World.putObj_heap_other (by omega)).trans r6
        have h47 : W.heap.size ≤ ((B.setCell ⟨ob, 0, none⟩ (.slice (some ⟨g, 0, none⟩) (pre.length + 1) cp)).putObj (ob + 4) (.loop R)).heap.size := by rw [World.putObj_size]; exact r7
        have HEN : Hid ((Instr.endRound (ob + 4) none).run Tryd.prog (B.setCell ⟨ob, 0, none⟩ (.slice (some ⟨g, 0, none⟩) (pre.length + 1) cp)) = .ok (.bool true) ((B.setCell ⟨ob, 0, none⟩ (.slice (some ⟨g, 0, none⟩) (pre.length + 1) cp)).putObj (ob + 4) (.loop R))) := by
          have e := hen2
          rw [show (none : Option Code).isNone = true from rfl, if_pos rfl, hRR] at e
          exact e
        have HJ4 := Lib.hid hj4
        have H46 := Lib.hid h46
        have H47 := Lib.hid h47
        have HBR := Lib.hid hbr
        clear hen2 hj4 h46 h47 hfl r5 r6 r7 hbr hRR hj2
        generalize hW2 : W.putObj (ob + 4) (.loop { R with state := .busy }) = W2 at *
        have HLV : Hid ((loadVar 32 ⟨ob, 0, none⟩).run Tryd.prog W2 = .ok v W2) := load_one 32 _ Tryd.underlying32 rfl (cell_of_row _ _ _ _ _ _ r1)
        have HR2 := Lib.hid r2
        have q1 := cell_of_row _ _ 0 _ _ _ r4
        have q2 := frozen_of_row _ _ 0 _ _ r4
        clear r1 r2 r4 hy hW5 hS5 hW2
        have hRa : R.assign = assign := by rw [hR]
        have hRb : R.body = body := by rw [hR]
        have hRt : R.tmps = tmps0 := by rw [hR]
        have hRp : R.params = #[14] := by rw [hR]
        rw [hRa, hRb, hRt, hRp]
        clear hRa hRb hRt hRp hR hen
        subst hASS hBOD hTM
        gi_wp2
        refine ⟨W2, HBR.out, ?_⟩
        gi_wp2_with (first | ((with_reducible refine wpListIn_load_at ?_ 32 (.tmp 5) ?_ _ ?_ _ HLV.out ?_); rfl; rfl; rfl) | (gi_at_builtin; ((with_reducible refine wpListIn_app ?_ (.tmp 15) (.tmp 17) 32 ?_ _ _ _ ?_ ?_ HR2.out ?_); rfl; rfl; rfl; rfl)))
        refine ⟨_, _, HEN.out, ?_⟩
        exact ⟨rfl, HJ4.out, H46.out, H47.out⟩
      · rintro e W2 ⟨⟨v, rfl⟩, hjE⟩
        have hend := run_endLoop (P := Tryd.prog) hjE.lp (by rw [hR]; simp)
        have hpn : R.pending = none := by rw [hR]
        have hjF := hjE.turn { R with state := .exhausted }
        have hlen2 : l.length ≤ 200 := by
          have := HMB.out
          simp [mayB] at this
          exact this.2
        have hpos := outD_pos HMB.out hI
        have hle := outD_len l I (I + 1)
        obtain ⟨v3, o1, o2⟩ := hjF.out
        obtain ⟨g, cp, cur, rfl, hcap, hgg, hrow, q0⟩ := o2.at hpos
        have hdf := hjF.dfr
        have hon := hjF.only
        have hnew := hjF.new
        clear hjE hjF hPJ
        generalize W2.putObj (ob + 4) (.loop { R with state := .exhausted }) = W3 at *
        have HRV : Hid (Calls Tryd.prog 28 #[.slice (some ⟨g, 0, none⟩) (outD l I (I + 1)).length cp] W3 fun e w' => e = .returned (.tuple #[]) ∧ (w'.heap[ob]? = some (.cells #[.slice (some ⟨g, 0, none⟩) (outD l I (I + 1)).length cp] 32 (0, 0)) ∧ w'.heap[ob + 3]? = some (.deferred (some [])) ∧ IL w' (.slice (some ⟨g, 0, none⟩) (outD l I (I + 1)).length cp) (partsN l I) ∧ Only (fun _ => False) w w')) := by
          refine (rev_any o2 (by omega)).mono ?_
          rintro e w' ⟨rfl, z1, z2⟩
          exact ⟨rfl, keepRow z2 o1 (by omega), (z2.block _ (Array.getElem?_eq_some_iff.1 hdf).1 (by omega)).trans hdf, z1, only_fresh hon z2 (fun k hk => by omega)⟩
        have HLV : Hid ((loadVar 32 ⟨ob, 0, none⟩).run Tryd.prog W3 = .ok (.slice (some ⟨g, 0, none⟩) (outD l I (I + 1)).length cp) W3) := load_one 32 _ Tryd.underlying32 rfl (cell_of_row _ _ _ _ _ _ o1)
        clear hen hrow o1 o2 hon hdf hpos hle hcap q0
        generalize (outD l I (I + 1)).length = NL' at *
        refine ⟨R.pending, W3, hend, ?_⟩
        rw [hpn]
        clear hR hend hpn
        subst hASS hBOD hTM
        show Exit.inBlock 0 _ .normal _ W3
        gi_wp2_with (first | ((with_reducible refine wpListIn_load_at ?_ 32 (.tmp 5) ?_ _ ?_ _ HLV.out ?_); rfl; rfl; rfl) | (refine ⟨trivial, ?_⟩; gi_at_call 28; (with_reducible refine (callsIn_wide.2 HRV.out).mono ?_); rintro e w5 ⟨rfl, z1, z2, z3, z4⟩; have HL5 : Hid ((loadVar 32 ⟨ob, 0, none⟩).run Tryd.prog w5 = .ok (.slice (some ⟨g, 0, none⟩) NL' cp) w5) := load_one 32 _ Tryd.underlying32 rfl (cell_of_row _ _ _ _ _ _ z1)) | ((with_reducible refine wpListIn_load_at ?_ 32 (.tmp 5) ?_ _ ?_ _ HL5.out ?_); rfl; rfl; rfl))
        refine ⟨by simp, .inl ⟨_, _, rfl, run_takeDeferred z2, ?_⟩⟩
        have op := only_put w5 (ob + 3) (.deferred none)
        exact ⟨_, results_tmp rfl _ _ _, .slice (some ⟨g, 0, none⟩) NL' cp, rfl, z3.keep_at op (by omega), only_fresh z4 op (fun k hk => by omega)⟩
end Go.Proofs.YtnppjkekbdapkaaDoor
