/-
  Slices of numbers; appends; SameInts. (Printed by mkdoor2.py.)
-/
import Derived.Test.YtnppjkekbdapkaaDoorPla
import Derived.Test.YtnppjkekbdapkaaDoorHle
import Derived.Deep.AppendLies
import Derived.Laws.OwnMore
import Derived.Deep.LoopGhost
set_option linter.unusedVariables false
namespace Go.Proofs.YtnppjkekbdapkaaDoor
open Go.RowKit

/-- The value v is a slice of these. -/
def VL (w : World) (v : Value) (xs : List Value) : Prop := ∃ a cap, v = .slice a xs.length cap ∧ xs.length ≤ cap ∧ cap ≤ maxLen ∧ ∀ i u, xs[i]? = some u → ∃ b o, a = some ⟨b, o, none⟩ ∧ w.cell? ⟨b, o + i, none⟩ = some u
def IL (w : World) (v : Value) (l : List Int) : Prop := VL w v (l.map (Value.int .i64))
def BL (w : World) (v : Value) (l : List Bool) : Prop := VL w v (l.map Value.bool)
theorem VL.keep {w w' : World} {v : Value} {l : List Value} (h : VL w v l) (o : Only (fun _ => False) w w') : VL w' v l := by
  obtain ⟨a, cap, rfl, h1, h2, h3⟩ := h
  refine ⟨a, cap, rfl, h1, h2, fun i u hu => ?_⟩
  obtain ⟨b, q, rfl, hc⟩ := h3 i u hu
  refine ⟨b, q, rfl, ?_⟩
  rw [← hc]
  exact World.cell?_of_block (o.block _ (World.block_lt_of_cell? w _ hc) (fun h => h))
theorem IL.keep {w w' : World} {v : Value} {l : List Int} (h : IL w v l) (o : Only (fun _ => False) w w') : IL w' v l := VL.keep h o
theorem BL.keep {w w' : World} {v : Value} {l : List Bool} (h : BL w v l) (o : Only (fun _ => False) w w') : BL w' v l := VL.keep h o
theorem IL.at {w : World} {v : Value} {l : List Int} (h : IL w v l) {i : Nat} (hi : i < l.length) : ∃ b o cap, v = .slice (some ⟨b, o, none⟩) l.length cap ∧ l.length ≤ cap ∧ cap ≤ maxLen ∧ w.cell? ⟨b, o + i, none⟩ = some (.int .i64 l[i]) := by
  obtain ⟨a, cap, rfl, h1, h2, h3⟩ := h
  obtain ⟨b, o, rfl, hc⟩ := h3 i (.int .i64 l[i]) (by simp [hi])
  rw [List.length_map] at *
  exact ⟨b, o, cap, rfl, h1, h2, hc⟩
theorem BL.at {w : World} {v : Value} {l : List Bool} (h : BL w v l) {i : Nat} (hi : i < l.length) : ∃ b o cap, v = .slice (some ⟨b, o, none⟩) l.length cap ∧ l.length ≤ cap ∧ cap ≤ maxLen ∧ w.cell? ⟨b, o + i, none⟩ = some (.bool l[i]) := by
  obtain ⟨a, cap, rfl, h1, h2, h3⟩ := h
  obtain ⟨b, o, rfl, hc⟩ := h3 i (.bool l[i]) (by simp [hi])
  rw [List.length_map] at *
  exact ⟨b, o, cap, rfl, h1, h2, hc⟩
theorem IL.val {w : World} {v : Value} {l : List Int} (h : IL w v l) : ∃ a cap, v = .slice a l.length cap ∧ l.length ≤ cap ∧ cap ≤ maxLen := by
  obtain ⟨a, cap, rfl, h1, h2, h3⟩ := h
  rw [List.length_map] at *
  exact ⟨a, cap, rfl, h1, h2⟩
theorem BL.val {w : World} {v : Value} {l : List Bool} (h : BL w v l) : ∃ a cap, v = .slice a l.length cap ∧ l.length ≤ cap ∧ cap ≤ maxLen := by
  obtain ⟨a, cap, rfl, h1, h2, h3⟩ := h
  rw [List.length_map] at *
  exact ⟨a, cap, rfl, h1, h2⟩
theorem VL.of_row {w : World} {g cap : Nat} {cs : Array Value} {t : TypeId} {xs : List Value} (hg : w.heap[g]? = some (.cells cs t (0, 0))) (hl : xs.length ≤ cap) (hc : cap ≤ maxLen) (h : ∀ (i : Nat) (u : Value), xs[i]? = some u → cs[i]? = some u) : VL w (.slice (some ⟨g, 0, none⟩) xs.length cap) xs := by
  refine ⟨_, cap, rfl, hl, hc, fun i u hu => ⟨g, 0, rfl, ?_⟩⟩
  rw [Nat.zero_add, cell_of_row w g i _ _ _ hg]
  exact h i u hu

/-- The slice of numbers, the mind's own. -/
def FL (w : World) (base : Nat) (v : Value) (fs : List Int) : Prop := w.ownsRow base 3 1 v fs.length (fs.map (Value.int .i64))
theorem FL.keep {w w' : World} {base : Nat} {v : Value} {fs : List Int} {S : Nat → Prop} (h : FL w base v fs) (o : Only S w w') (hs : ∀ k, v.ownBlock = some k → ¬ S k) : FL w' base v fs := by
  obtain ⟨h1, h | ⟨g, cap, cur, rfl, hg, hb, rest⟩⟩ := h
  · exact ⟨h1, .inl h⟩
  · exact ⟨h1, .inr ⟨g, cap, cur, rfl, hg, keepRow o hb (hs g rfl), rest⟩⟩
theorem FL.at {w : World} {base : Nat} {v : Value} {fs : List Int} (h : FL w base v fs) {i : Nat} (hi : i < fs.length) : ∃ g cap cur, v = .slice (some ⟨g, 0, none⟩) fs.length cap ∧ fs.length ≤ cap ∧ base ≤ g ∧ w.heap[g]? = some (.cells cur 3 (0, 0)) ∧ w.cell? ⟨g, i, none⟩ = some (.int .i64 fs[i]) := by
  obtain ⟨h1, ⟨rfl, h0⟩ | ⟨g, cap, cur, rfl, hg, hb, h2, h3, h4, h5⟩⟩ := h
  · omega
  · refine ⟨g, cap, cur, rfl, by omega, hg, hb, ?_⟩
    rw [cell_of_row w g i _ _ _ hb]
    have e1 : (fs.map (Value.int .i64))[i]? = some (.int .i64 fs[i]) := by simp [hi]
    rw [← h5, List.getElem?_take] at e1
    split at e1
    · simpa using e1
    · cases e1
def flat (l : List Nd) : List Value := l.flatMap ndL
theorem flat_cons (x : Nd) (l : List Nd) : flat (x :: l) = ndL x ++ flat l := rfl
theorem flat_append (l m : List Nd) : flat (l ++ m) = flat l ++ flat m := by simp [flat]
theorem flat_len (l : List Nd) : (flat l).length = l.length * 3 := by
  induction l with
  | nil => rfl
  | cons x l ih => rw [flat_cons, List.length_append, ih, List.length_cons]; simp [ndL]; omega
theorem flat_at {l : List Nd} {i : Nat} {x : Nd} (h : l[i]? = some x) {j : Nat} {v : Value} (hv : (ndL x)[j]? = some v) : (flat l)[i * 3 + j]? = some v := by
  have hj : j < 3 := (List.getElem?_eq_some_iff.1 hv).1
  induction l generalizing i with
  | nil => cases h
  | cons y l ih =>
    rw [flat_cons]
    have h3 : (ndL y).length = 3 := rfl
    cases i with
    | zero =>
      obtain rfl : y = x := by simpa using h
      rw [List.getElem?_append_left (by omega)]
      simpa using hv
    | succ i =>
      rw [List.getElem?_append_right (by omega)]
      have := ih (i := i) (by simpa using h)
      rw [← this]
      congr 1
      omega
theorem NL.of_row {w : World} {g cap : Nat} {cs : Array Value} {t : TypeId} {l : List Nd} (hg : w.heap[g]? = some (.cells cs t (0, 0))) (hl : l.length ≤ cap) (hc : cap ≤ maxLen) (h : ∀ (i : Nat) (u : Value), (flat l)[i]? = some u → cs[i]? = some u) : NL w (.slice (some ⟨g, 0, none⟩) l.length cap) l := by
  refine ⟨_, cap, rfl, .inr ⟨_, rfl, hl, hc, by simp, ?_, ?_⟩⟩
  · intro r hr
    obtain ⟨y, hy, rfl⟩ := List.mem_map.1 hr
    rfl
  · intro i r hr j v hv
    rw [List.getElem?_map] at hr
    obtain ⟨x, hx, rfl⟩ := Option.map_eq_some_iff.1 hr
    have : (((⟨g, 0, none⟩ : Addr).add (i * 3)).add j) = ⟨g, i * 3 + j, none⟩ := by unfold Addr.add; split <;> split <;> simp_all
    rw [this, cell_of_row w g _ _ _ _ hg]
    exact h _ _ (flat_at hx hv)
theorem IL.of_row {w : World} {g cap : Nat} {cs : Array Value} {t : TypeId} {l : List Int} (hg : w.heap[g]? = some (.cells cs t (0, 0))) (hl : l.length ≤ cap) (hc : cap ≤ maxLen) (h : ∀ (i : Nat) (u : Value), (l.map (Value.int .i64))[i]? = some u → cs[i]? = some u) : IL w (.slice (some ⟨g, 0, none⟩) l.length cap) l := by
  have := VL.of_row (xs := l.map (Value.int .i64)) (cap := cap) hg (by simpa using hl) hc h
  rw [List.length_map] at this
  exact this

theorem build_f (x : Int) (w : World) : (Instr.buildSlice 32 1 #[(0, .int .i64 x)]).run Tryd.prog w = .ok (.slice (some ⟨w.heap.size, 0, none⟩) 1 1) (w.alloc (.cells #[.int .i64 x] 3)) := by
  obtain ⟨ie, hie, hz, hs, hb⟩ := info_parts (show (Tryd.prog.info? 3).map (fun i => (i.zero, i.size, i.bytes)) = some (some (.int .i64 0), 1, 8) by kernel_rfl)
  refine run_buildSlice w 32 3 1 _ _ ie _ Tryd.underlying32 hie hz (by omega) (by omega) ?_
  rw [hs]
  kernel_rfl
theorem FL.base_le {w : World} {base : Nat} {v : Value} {fs : List Int} (h : FL w base v fs) {k : Nat} (hk : v.ownBlock = some k) : base ≤ k := by
  obtain ⟨_, ⟨rfl, _⟩ | ⟨g, cap, cur, rfl, hg, _⟩⟩ := h
  · cases hk
  · cases hk
    exact hg
theorem FL.il {w : World} {base : Nat} {v : Value} {fs : List Int} (h : FL w base v fs) : IL w v fs := by
  obtain ⟨hl, ⟨rfl, h0⟩ | ⟨g, cap, cur, rfl, hg, hb, h1, h2, h3, h4⟩⟩ := h
  · obtain rfl : fs = [] := List.eq_nil_of_length_eq_zero h0
    exact ⟨none, 0, rfl, Nat.le_refl _, Nat.zero_le _, fun i u hu => by simp at hu⟩
  · refine IL.of_row hb h1 h2 fun i u hu => ?_
    rw [← h4, List.getElem?_take] at hu
    split at hu
    · simpa using hu
    · cases hu
theorem FL.new (w : World) (base : Nat) (h : base ≤ w.heap.size) : FL (w.alloc (.cells #[] 3)) base (.slice (some ⟨w.heap.size, 0, none⟩) 0 0) [] :=
  World.ownsRow_lit w #[] 0 h (Nat.zero_le _) rfl
theorem build_0 (w : World) : (Instr.buildSlice 32 0 #[]).run Tryd.prog w = .ok (.slice (some ⟨w.heap.size, 0, none⟩) 0 0) (w.alloc (.cells #[] 3)) := by
  obtain ⟨ie, hie, hz, hs, hb⟩ := info_parts (show (Tryd.prog.info? 3).map (fun i => (i.zero, i.size, i.bytes)) = some (some (.int .i64 0), 1, 8) by kernel_rfl)
  simp [Instr.buildSlice, run_underlying (P := Tryd.prog) Tryd.underlying32, sizeOf, typeInfo, hie, Instr.fill, newRow]
  congr 2
  exact Array.eq_empty_of_size_eq_zero (by simp)
/-- append of numbers, onto a row of the call's own. -/
theorem app_ints {w : World} {base : Nat} {v u : Value} {xs ys : List Int} (h : FL w base v xs) (hu : IL w u ys) (hb : base ≤ w.heap.size) (hn : xs.length + ys.length ≤ 1000000) :
    ∃ v' w', (∀ ty, (Builtin.append_ #[32, 32] ty #[v, u]).run Tryd.prog w = .ok v' w') ∧ FL w' base v' (xs ++ ys) ∧ w.grownBy w' v.ownBlock ∧ (v'.ownBlock = v.ownBlock ∨ v'.ownBlock = some w.heap.size) := by
  obtain ⟨ie, hie, hz, hs, hby⟩ := info_parts (show (Tryd.prog.info? 3).map (fun i => (i.zero, i.size, i.bytes)) = some (some (.int .i64 0), 1, 8) by kernel_rfl)
  obtain ⟨a, cap, rfl, h1, h2, h3⟩ := hu
  rw [List.length_map] at *
  cases a with
  | none =>
    obtain rfl : ys = [] := by
      cases ys with
      | nil => rfl
      | cons y ys =>
        obtain ⟨b, o, he, _⟩ := h3 0 _ rfl
        cases he
    rw [List.append_nil]
    refine ⟨v, w, fun ty => ?_, h, ⟨rfl, rfl, rfl, Nat.le_refl _, fun _ _ _ => rfl⟩, .inl rfl⟩
    obtain ⟨_, ⟨rfl, h0⟩ | ⟨g, c, cur, rfl, _, _, hnc, _⟩⟩ := h
    · simp [Builtin.append_, run_underlying (P := Tryd.prog) Tryd.underlying32, sizeOf, typeInfo, hie, Builtin.lenOf, Builtin.firstCells]
    · simp [Builtin.append_, run_underlying (P := Tryd.prog) Tryd.underlying32, sizeOf, typeInfo, hie, Builtin.lenOf, Builtin.firstCells, hnc, storeCells]
  | some ad =>
    have hnews : ∀ (j : Nat) (u : Value), (ys.map (Value.int .i64))[j]? = some u → w.cell? (ad.add j) = some u := fun j u hu => by
      obtain ⟨b, o, he, hc⟩ := h3 j u hu
      cases he
      have : (⟨b, o, none⟩ : Addr).add j = ⟨b, o + j, none⟩ := by unfold Addr.add; split <;> simp_all
      rw [this]
      exact hc
    have hrun := fun ty => run_append_own_at (P := Tryd.prog) w base 32 ty 3 ie (.int .i64 0) 1 8 Tryd.underlying32 hie hz hs hby rfl (by decide) v xs.length (xs.map (Value.int .i64)) h ad ys.length cap (ys.map (Value.int .i64)) (by simp) hnews (by intro u hu; obtain ⟨z, _, rfl⟩ := List.mem_map.1 hu; rfl) (by unfold maxLen; omega) (by omega) hb
    obtain ⟨v', w', hr, ho, hg, _, hat⟩ := hrun 32
    refine ⟨v', w', fun ty => hr, ?_, hg, hat⟩
    show w'.ownsRow base 3 1 v' (xs ++ ys).length ((xs ++ ys).map (Value.int .i64))
    rw [List.length_append, List.map_append]
    exact ho
section
variable {P : Program} {ops : Array Oper} {rest : List Oper} {o : Oper} {a : Act} {w w' : World} {Q : Exit → Act → World → Prop}
theorem wpList_want (hw : Region.wanted o (yielded ops a.tmps) = true) (h : ∀ K : Act → World → Prop, (∀ a w, wpList P ops Q rest a w → K a w) → o.wp P a w K Q) : wpList P ops Q (o :: rest) a w :=
  wpList_step fun K hK => by rw [if_pos hw]; exact h K hK
/-- append, guarded or not. -/
theorem wpList_app_g (hw : Region.wanted o (yielded ops a.tmps) = true) (s x : Operand) (t : TypeId) (ho : o.op = .call { callee := .builtin .append, args := #[s, x], argTypes := #[t, t] }) (v u v' : Value) (hs : a.eval s = v) (hx : a.eval x = u)
    (hrun : ∀ ty, (Builtin.append_ #[t, t] ty #[v, u]).run P w = .ok v' w') (h : wpList P ops Q rest (a.put o.dst v') w') : wpList P ops Q (o :: rest) a w := by
  refine wpList_want hw fun K hK => ?_
  unfold Oper.wp execOp
  simp only [ho, resolve, invoke, builtin, Sem.run_bind, Sem.run_pure, Result.andThen_ok, List.map_toArray, List.map_cons, List.map_nil, hs, hx, hrun]
  exact hK _ _ h
/-- A slice literal, guarded or not. -/
theorem wpList_bs_g (hw : Region.wanted o (yielded ops a.tmps) = true) (ty : TypeId) (len : Nat) (ps : Array (Nat × Operand)) (ho : o.op = .buildSlice ty len ps) (qs : List (Nat × Value)) (hx : (ps.toList.map fun (i, x) => (i, a.eval x)) = qs) (v : Value)
    (hrun : (Instr.buildSlice ty len qs.toArray).run P w = .ok v w') (h : wpList P ops Q rest (a.put o.dst v) w') : wpList P ops Q (o :: rest) a w := by
  refine wpList_want hw fun K hK => ?_
  have e : (ps.map fun (i, x) => (i, a.eval x)) = qs.toArray := by rw [← hx]; apply Array.toList_inj.1; simp
  unfold Oper.wp execOp
  simp only [ho, e, Sem.run_bind, Sem.run_pure, Result.andThen_ok, hrun]
  exact hK _ _ h
end
/-- append(xs, x). -/
theorem snoc_int {w : World} {base : Nat} {v : Value} {xs : List Int} (h : FL w base v xs) (hb : base ≤ w.heap.size) (x : Int) (hn : xs.length ≤ 100000) :
    ∃ v' w1 w', (Instr.buildSlice 32 1 #[(0, .int .i64 x)]).run Tryd.prog w = .ok (.slice (some ⟨w.heap.size, 0, none⟩) 1 1) w1 ∧ (∀ ty, (Builtin.append_ #[32, 32] ty #[v, .slice (some ⟨w.heap.size, 0, none⟩) 1 1]).run Tryd.prog w1 = .ok v' w') ∧ FL w' base v' (xs ++ [x]) ∧ Only (fun k => base ≤ k) w w' := by
  have hi7 : IL (w.alloc (.cells #[.int .i64 x] 3)) (.slice (some ⟨w.heap.size, 0, none⟩) 1 1) [x] := IL.of_row (l := [x]) (cap := 1) (heap_alloc_new _ _) (Nat.le_refl _) (by unfold maxLen; omega) (fun i u h => by simpa using h)
  have o7 : Only (fun _ => False) w (w.alloc (.cells #[.int .i64 x] 3)) := (Only.refl _ _).alloc _
  have h7 := h.keep o7 (fun _ _ x => x)
  obtain ⟨v8, V8, hr8, hf8, hg8, _⟩ := app_ints h7 hi7 (Nat.le_trans hb o7.size) (by simp; omega)
  exact ⟨v8, _, V8, build_f x w, hr8, hf8, (o7.mono (fun _ x => x.elim)).trans ((grown_only hg8).mono (fun k hk => h7.base_le hk))⟩

theorem FL.one {w : World} {base : Nat} {v : Value} {fs : List Int} (h : FL w base v fs) : v.oneCell' = true := by
  obtain ⟨_, ⟨rfl, _⟩ | ⟨g, cap, cur, rfl, _⟩⟩ := h <;> rfl
theorem take_ext' {a b : List Int} (hl : a.length = b.length) {k : Nat} (h : ∀ j, j < k → a[j]? = b[j]?) (hk : a.length ≤ k) : a = b := by
  refine List.ext_getElem? fun i => ?_
  by_cases hi : i < k
  · exact h i hi
  · rw [List.getElem?_eq_none (by omega), List.getElem?_eq_none (by omega)]
set_option maxHeartbeats 4000000 in
theorem si_any (a b : List Int) (va vb : Value) (w : World) (ha : IL w va a) (hb : IL w vb b) :
    Calls Tryd.prog 18 #[va, vb] w fun e w' => e = .returned (.bool (decide (a = b))) ∧ Only (fun _ => False) w w' := by
  have HA := Lib.hid ha
  have HB := Lib.hid hb
  obtain ⟨xa, ca, rfl, hca, hma⟩ := ha.val
  obtain ⟨xb, cb, rfl, hcb, hmb⟩ := hb.val
  clear ha hb
  unfold maxLen at hma hmb
  have HO0 := Lib.hid (Only.refl (fun _ => False) w)
  by_cases hl : a.length = b.length
  · have HLn := Lib.hid hl
    obtain ⟨n, hn⟩ : ∃ n, a.length = n := ⟨_, rfl⟩
    have hn2 : b.length = n := by omega
    rw [hn] at hca
    rw [hn2] at hcb
    have HN := Lib.hid hn
    have HN2 := Lib.hid hn2
    rw [hn, hn2]
    clear hn hn2 hl
    go_enter Tryd.func18, Tryd.ntmps18
    go_wp2_with fail
    go_loopg [5] n (fun gg i wr => ∃ k : Nat, k ≤ n ∧ gg = n - k ∧ i = .int .i64 k ∧ Hid (∀ j, j < k → a[j]? = b[j]?) ∧ Hid (Only (fun _ => False) w wr))
    case atStart => exact ⟨0, by omega, by omega, rfl, fun j hj => absurd hj (Nat.not_lt_zero j), HO0.out⟩
    case round =>
      obtain ⟨k, hk, hgk, rfl, hS, hO⟩ := hrel
      by_cases hlt : k < n
      · have hlt' : (k : Int) < (n : Int) := by omega
        have hka : k < a.length := by have := HN.out; omega
        have hkb : k < b.length := by have := HN2.out; omega
        obtain ⟨ba, oa, c1, he1, _, _, hc1⟩ := (HA.out.keep hO.out).at hka
        obtain ⟨bb, ob, c2, he2, _, _, hc2⟩ := (HB.out.keep hO.out).at hkb
        cases he1
        cases he2
        have HX : Hid (a[k]? = some a[k]) := List.getElem?_eq_getElem hka
        have HY : Hid (b[k]? = some b[k]) := List.getElem?_eq_getElem hkb
        generalize a[k] = x at *
        generalize b[k] = y at *
        clear hka hkb
        by_cases hxy : x = y
        · subst hxy
          go_wp2_with fail
          go_quiet (fail)
          go_wp2_with fail
          have HS' : Hid (∀ j, j < k + 1 → a[j]? = b[j]?) := fun j hj => by
            by_cases hjk : j < k
            · exact hS.out j hjk
            · obtain rfl : j = k := by omega
              rw [HX.out, HY.out]
          go_roundg (n - (k + 1))
          case measure => omega
          case rel => exact ⟨k + 1, by omega, by omega, by go_num, HS'.out, hO.out.drewN _⟩
        · have HNE : Hid (¬ a = b) := by
            rintro rfl
            exact hxy (Option.some.inj (HX.out.symm.trans HY.out))
          have hq1 : (x == y) = false := by rw [beq_eq_false_iff_ne]; exact hxy
          have hq2 : (x != y) = true := by simp [bne, hq1]
          clear hxy
          go_wp2_with fail
          go_quiet (fail)
          go_wp2_with fail
          go_ret
          exact ⟨by rw [decide_eq_false HNE.out]; rfl, hO.out.drewN _⟩
      · obtain rfl : k = n := by omega
        go_wp2_with fail
        go_ret
        exact ⟨by rw [decide_eq_true (take_ext' HLn.out hS.out (by have := HN.out; omega))]; rfl, hO.out⟩
  · have hq : ((a.length : Int) != (b.length : Int)) = true := by simp; omega
    have HLn := Lib.hid hl
    clear hl
    go_enter Tryd.func18, Tryd.ntmps18
    go_wp2_with fail
    go_ret
    exact ⟨by rw [decide_eq_false (fun h => HLn.out (by rw [h]))]; rfl, HO0.out⟩
end Go.Proofs.YtnppjkekbdapkaaDoor
