/-
  Needs.
-/
import Derived.Test.YtnppjkekbdapkaaAtm
import Derived.Test.YtnppjkekbdapkaaShelf
set_option linter.unusedVariables false
namespace Go.Proofs.Ytnppjkekbdapkaa
open Go.RowKit

theorem clone_any {w : World} {kv : Value} {kn : List Int} (h : IL w kv kn) (hn : kn.length ≤ 1000000) :
    Calls Try.prog 28 #[kv] w fun e w' => ∃ v', e = .returned v' ∧ FL w' w.heap.size v' kn ∧ Only (fun _ => False) w w' := by
  have h0 := h
  obtain ⟨a, cap, rfl, h1, h2, h3⟩ := h
  rw [List.length_map] at *
  cases a with
  | none =>
    obtain rfl : kn = [] := by
      cases kn with
      | nil => rfl
      | cons y ys =>
        obtain ⟨b, o, he, _⟩ := h3 0 _ rfl
        cases he
    refine (Try.slices_Clone_int_nil 0 cap w).mono ?_
    rintro e w' ⟨rfl, rfl⟩
    exact ⟨_, rfl, World.ownsRow_nil _ _ _ _, Only.refl _ _⟩
  | some ad =>
    by_cases hz : kn = []
    · subst hz
      refine (Try.slices_Clone_int_zero ad cap w).mono ?_
      rintro e w' ⟨v', rfl, ho, _, hb⟩
      exact ⟨_, rfl, ho, Only.of_below hb⟩
    · have hpos : 0 < kn.length := List.length_pos_iff.2 hz
      obtain ⟨b, o, c, he, _, _, _⟩ := h0.at hpos
      cases he
      refine (Try.slices_Clone_int b o kn.length cap kn w (Nat.le_refl _) (by omega) ?_).mono ?_
      · intro j hj
        obtain ⟨b', o', c', he, _, _, hc⟩ := h0.at hj
        cases he
        rw [hc, List.getD_eq_getElem?_getD, List.getElem?_eq_getElem hj]
        rfl
      · rintro e w' ⟨v', rfl, ho, _, hb⟩
        rw [List.take_length] at ho
        exact ⟨_, rfl, ho, Only.of_below hb⟩

section
variable {P : Program} {ops : Array Oper} {rest : List Oper} {o : Oper} {a : Act} {w w' : World} {Q : Exit → Act → World → Prop}
theorem wpList_want (hw : Region.wanted o (yielded ops a.tmps) = true) (h : ∀ K : Act → World → Prop, (∀ a w, wpList P ops Q rest a w → K a w) → o.wp P a w K Q) : wpList P ops Q (o :: rest) a w :=
  wpList_step fun K hK => by rw [if_pos hw]; exact h K hK
/-- append, guarded or not. -/
theorem wpList_app_g (hw : Region.wanted o (yielded ops a.tmps) = true) (s x : Operand) (t : TypeId) (ho : o.op = .call { callee := .builtin .append, args := #[s, x], argTypes := #[t, t] }) (v u v' : Value) (hs : a.eval s = v) (hx : a.eval x = u)
    (hrun : ∀ ty, (Builtin.append_ #[t, t] ty #[v, u]).run P w = .ok v' w') (h : wpList P ops Q rest (a.put o.dst v') w') : wpList P ops Q (o :: rest) a w := by
  refine wpList_want hw fun K hK => ?_
  unfold Oper.wp execOp
  simp only [ho, resolve, invoke, builtin, Sem.run_bind, Sem.run_pure, Result.andThen_ok, List.map_toArray, List.map_cons, List.map_nil, hs, hx, hrun]
  exact hK _ _ h
/-- A slice literal, guarded or not. -/
theorem wpList_bs_g (hw : Region.wanted o (yielded ops a.tmps) = true) (ty : TypeId) (len : Nat) (ps : Array (Nat × Operand)) (ho : o.op = .buildSlice ty len ps) (qs : List (Nat × Value)) (hx : (ps.toList.map fun (i, x) => (i, a.eval x)) = qs) (v : Value)
    (hrun : (Instr.buildSlice ty len qs.toArray).run P w = .ok v w') (h : wpList P ops Q rest (a.put o.dst v) w') : wpList P ops Q (o :: rest) a w := by
  refine wpList_want hw fun K hK => ?_
  have e : (ps.map fun (i, x) => (i, a.eval x)) = qs.toArray := by rw [← hx]; apply Array.toList_inj.1; simp
  unfold Oper.wp execOp
  simp only [ho, e, Sem.run_bind, Sem.run_pure, Result.andThen_ok, hrun]
  exact hK _ _ h
end
/-- append(xs, x). -/
theorem snoc_int {w : World} {base : Nat} {v : Value} {xs : List Int} (h : FL w base v xs) (hb : base ≤ w.heap.size) (x : Int) (hn : xs.length ≤ 100000) :
    ∃ v' w1 w', (Instr.buildSlice 23 1 #[(0, .int .i64 x)]).run Try.prog w = .ok (.slice (some ⟨w.heap.size, 0, none⟩) 1 1) w1 ∧ (∀ ty, (Builtin.append_ #[23, 23] ty #[v, .slice (some ⟨w.heap.size, 0, none⟩) 1 1]).run Try.prog w1 = .ok v' w') ∧ FL w' base v' (xs ++ [x]) ∧ Only (fun k => base ≤ k) w w' := by
  have hi7 : IL (w.alloc (.cells #[.int .i64 x] 3)) (.slice (some ⟨w.heap.size, 0, none⟩) 1 1) [x] := IL.of_row (l := [x]) (cap := 1) (heap_alloc_new _ _) (Nat.le_refl _) (by unfold maxLen; omega) (fun i u h => by simpa using h)
  have o7 : Only (fun _ => False) w (w.alloc (.cells #[.int .i64 x] 3)) := (Only.refl _ _).alloc _
  have h7 := h.keep o7 (fun _ _ x => x)
  obtain ⟨v8, V8, hr8, hf8, hg8, _⟩ := app_ints h7 hi7 (Nat.le_trans hb o7.size) (by simp; omega)
  exact ⟨v8, _, V8, build_f x w, hr8, hf8, (o7.mono (fun _ x => x.elim)).trans ((grown_only hg8).mono (fun k hk => h7.base_le hk))⟩

/-- The numbers of the keys among the first k places that, known too, let the goal be known. -/
noncomputable def needsU (l : List Nd) (kn : List Int) (goal : Int) (k : Nat) : List Int := ((List.range k).filter fun i => decide ((l.getD i nd0).op = 1) && canB l (kn ++ [(i : Int)]) goal).map fun i => (l.getD i nd0).a
theorem needsU_next {l : List Nd} {kn : List Int} {goal : Int} {k : Nat} {x : Nd} (hx : l[k]? = some x) : needsU l kn goal (k + 1) = needsU l kn goal k ++ (if x.op = 1 ∧ canB l (kn ++ [(k : Int)]) goal = true then [x.a] else []) := by
  unfold needsU
  rw [List.range_succ, List.filter_append, List.map_append]
  congr 1
  by_cases ho : x.op = 1 <;> cases hc : canB l (kn ++ [(k : Int)]) goal <;> simp [hx, ho, hc]
theorem needsU_len (l : List Nd) (kn : List Int) (goal : Int) (k : Nat) : (needsU l kn goal k).length ≤ k := by
  unfold needsU
  rw [List.length_map]
  have := List.length_filter_le (fun i => decide ((l.getD i nd0).op = 1) && canB l (kn ++ [(i : Int)]) goal) (List.range k)
  rwa [List.length_range] at this
noncomputable def needs (l : List Nd) (kn : List Int) (goal : Int) : List Int := if goal < 0 ∨ (l.length : Int) ≤ goal ∨ mayB l = false ∨ canB l kn goal = true then [] else rise (needsU l kn goal l.length)
theorem nil_il (w : World) : IL w (.slice none 0 0) [] := ⟨none, 0, rfl, Nat.le_refl _, Nat.zero_le _, fun i u hu => by simp at hu⟩

set_option maxHeartbeats 8000000 in
theorem needs_any (l : List Nd) (kn : List Int) (goal : Int) (v kv : Value) (w : World) (hl : NL w v l) (hkn : IL w kv kn) (hwf : ∀ x ∈ l, x.Wf) (hll : l.length ≤ 100000) (hkl : kn.length ≤ 10000) (hg : wf64 goal) :
    Calls Try.prog 13 #[v, kv, .int .i64 goal] w fun e w' => ∃ v', e = .returned v' ∧ IL w' v' (needs l kn goal) ∧ Only (fun _ => False) w w' := by
  have HL := Lib.hid hl
  have HK := Lib.hid hkn
  have HWF := Lib.hid hwf
  have HG := Lib.hid hg
  have HMY := Lib.hid (fun W (o : Only (fun _ => False) w W) => may_any l v W (hl.keep o) (by omega))
  have HCN := Lib.hid (fun W (o : Only (fun _ => False) w W) => can_any l kn goal v kv W (hl.keep o) (hkn.keep o) hwf (by omega) (by omega) hg)
  obtain ⟨ad, cap, rfl, hrow⟩ := hl
  obtain ⟨ka, kcap, rfl, _, _⟩ := hkn.val
  clear hrow hkn hwf
  rw [wf64_iff] at hg
  obtain ⟨rs, hrs⟩ : ∃ rs, needs l kn goal = rs := ⟨_, rfl⟩
  rw [hrs]
  unfold needs at hrs
  by_cases g1 : goal < 0
  · rw [if_pos (.inl g1)] at hrs
    subst hrs
    have HR := Lib.hid (Only.refl (fun _ => False) w)
    go_enter Try.func13, Try.ntmps13
    go_wp2_with fail
    go_ret
    exact ⟨_, rfl, nil_il _, HR.out⟩
  by_cases g2 : (l.length : Int) ≤ goal
  · rw [if_pos (.inr (.inl g2))] at hrs
    subst hrs
    have HR := Lib.hid (Only.refl (fun _ => False) w)
    go_enter Try.func13, Try.ntmps13
    go_wp2_with fail
    go_ret
    exact ⟨_, rfl, nil_il _, HR.out⟩
  have HM0 := Lib.hid (HMY.out w (Only.refl _ _))
  cases hm : mayB l
  · rw [if_pos (.inr (.inr (.inl hm)))] at hrs
    subst hrs
    rw [hm] at HM0
    clear hm
    go_enter Try.func13, Try.ntmps13
    go_wp2_with (go_at_call 12; refine HM0.out.mono ?_; rintro e w1 ⟨rfl, h1⟩)
    go_ret
    exact ⟨_, rfl, nil_il _, Only.of_below h1⟩
  have HMB := Lib.hid hm
  rw [hm] at HM0
  cases hc : canB l kn goal
  · rw [if_neg (by rintro (h | h | h | h); exact g1 h; exact g2 h; (rw [hm] at h; cases h); (rw [hc] at h; cases h))] at hrs
    have HRS := Lib.hid hrs
    rw [hc] at HCN
    clear hc hm hrs HMY
    go_enter Try.func13, Try.ntmps13
    go_upto_region 3 with (first | (go_at_call 12; refine HM0.out.mono ?_; rintro e w1 ⟨rfl, h1⟩; have HCN' := Lib.hid (HCN.out _ (Only.of_below h1))) | (go_at_call 14; refine HCN'.out.mono ?_; rintro e w2 ⟨rfl, h2⟩))
    have HO2 := Lib.hid ((Only.of_below (S := fun _ => False) h1).trans h2)
    clear h1 h2 HCN' HCN HM0
    have HF0 : Hid (FL w2 w2.heap.size (.slice none 0 0) []) := World.ownsRow_nil _ _ _ _
    have HRF := Lib.hid (Only.refl (fun _ => False) w2)
    go_wp2_with fail
    go_loopg [6, 30] l.length (fun gg av i wr => ∃ k : Nat, k ≤ l.length ∧ gg = l.length - k ∧ i = .int .i64 k ∧ Hid (FL wr w2.heap.size av (needsU l kn goal k)) ∧ Hid (Only (fun _ => False) w2 wr))
    case atStart => exact ⟨0, by omega, by omega, rfl, HF0.out, HRF.out⟩
    case round =>
      clear HF0 HRF
      revert wr
      intro wa hrel
      obtain ⟨k, hk, hgk, rfl, hS, hO⟩ := hrel
      by_cases hlt : k < l.length
      · have hlt' : (k : Int) < (l.length : Int) := by omega
        obtain ⟨gb, go, gc, he2, _, _, _, _, _, hld⟩ := (HL.out.keep (HO2.out.trans hO.out)).at hlt
        cases he2
        have HY : Hid (l[k]? = some l[k]) := List.getElem?_eq_getElem hlt
        generalize l[k] = x at *
        obtain ⟨op, xa, xb⟩ := x
        have HLD2 : Hid ((loadVar 34 ⟨gb, go + k * 3, none⟩).run Try.prog wa = .ok (.agg #[.int .i64 op, .int .i64 xa, .int .i64 xb]) wa) := hld
        clear hld
        have oX : Only (fun _ => False) wa (wa.alloc (.cells #[.int .i64 op, .int .i64 xa, .int .i64 xb] 34)) := (Only.refl _ _).alloc _
        have gX : (wa.alloc (.cells #[.int .i64 op, .int .i64 xa, .int .i64 xb] 34)).heap[wa.heap.size]? = some (.cells #[.int .i64 op, .int .i64 xa, .int .i64 xb] 34 (0, 0)) := heap_alloc_new _ _
        have HOX := Lib.hid oX
        have HGX := Lib.hid gX
        clear oX gX
        have hk2 : k < 2 ^ 62 := by omega
        by_cases ho : op = 1
        · subst ho
          have HCL := Lib.hid (clone_any (w := wa.alloc (.cells #[.int .i64 1, .int .i64 xa, .int .i64 xb] 34)) (HK.out.keep ((HO2.out.trans hO.out).trans HOX.out)) (by omega))
          go_upto_region 6 with (((with_reducible refine wpList_load_at ?_ 34 (.tmp 34) ?_ _ ?_ _ HLD2.out ?_); rfl; rfl; rfl))
          cases hcr : canB l (kn ++ [(k : Int)]) goal
          · have HCR := Lib.hid hcr
            clear hcr
            have HF8 : Hid (∀ W, Only (fun _ => False) wa W → FL W w2.heap.size u6 (needsU l kn goal (k + 1))) := fun W o => by
              rw [needsU_next HY.out, if_neg (fun h => by rw [HCR.out] at h; cases h.2), List.append_nil]
              exact hS.out.keep o (fun _ _ x => x)
            go_wp2_with (first | (go_at_call 28; refine HCL.out.mono ?_; rintro e w3 ⟨cv, rfl, hcf, ho3⟩; obtain ⟨v5, V4, V5, hb4, hr5, hf5, ho5⟩ := snoc_int hcf ho3.size (k : Int) (by omega); have HB4 := Lib.hid hb4; have HR5 := Lib.hid hr5; have HO5 := Lib.hid (fresh_only ho3 ho5 (fun j hj => hj)); have HC6 := Lib.hid (can_any l (kn ++ [(k : Int)]) goal _ _ V5 (HL.out.keep ((HO2.out.trans hO.out).trans (HOX.out.trans HO5.out))) hf5.il HWF.out (by omega) (by simp; omega) HG.out); clear hb4 hr5 hf5 ho5 hcf ho3) | ((with_reducible refine wpList_bs_g ?_ 23 1 #[(0, .tmp 42)] ?_ [(0, .int .i64 (k : Int))] ?_ _ HB4.out ?_); rfl; rfl; rfl) | (at_builtin; (with_reducible refine wpList_app_g ?_ (.tmp 41) (.tmp 43) 23 ?_ _ _ _ ?_ ?_ HR5.out ?_); rfl; rfl; rfl; rfl) | (go_at_call 14; refine HC6.out.mono ?_; rw [HCR.out]; rintro e w6 ⟨rfl, h6⟩))
            have HO6 := Lib.hid (HOX.out.trans (HO5.out.trans h6))
            go_roundg (l.length - (k + 1))
            case measure => omega
            case rel => exact ⟨k + 1, by omega, by omega, by go_num, HF8.out _ HO6.out, hO.out.trans HO6.out⟩
          · have HCR := Lib.hid hcr
            clear hcr
            go_wp2_with (first | (go_at_call 28; refine HCL.out.mono ?_; rintro e w3 ⟨cv, rfl, hcf, ho3⟩; obtain ⟨v5, V4, V5, hb4, hr5, hf5, ho5⟩ := snoc_int hcf ho3.size (k : Int) (by omega); have HB4 := Lib.hid hb4; have HR5 := Lib.hid hr5; have HO5 := Lib.hid (fresh_only ho3 ho5 (fun j hj => hj)); have HC6 := Lib.hid (can_any l (kn ++ [(k : Int)]) goal _ _ V5 (HL.out.keep ((HO2.out.trans hO.out).trans (HOX.out.trans HO5.out))) hf5.il HWF.out (by omega) (by simp; omega) HG.out); clear hb4 hr5 hf5 ho5 hcf ho3) | ((with_reducible refine wpList_bs_g ?_ 23 1 #[(0, .tmp 42)] ?_ [(0, .int .i64 (k : Int))] ?_ _ HB4.out ?_); rfl; rfl; rfl) | (at_builtin; (with_reducible refine wpList_app_g ?_ (.tmp 41) (.tmp 43) 23 ?_ _ _ _ ?_ ?_ HR5.out ?_); rfl; rfl; rfl; rfl) | (go_at_call 14; refine HC6.out.mono ?_; rw [HCR.out]; rintro e w6 ⟨rfl, h6⟩; have HO6 := Lib.hid (HOX.out.trans (HO5.out.trans h6)); have q1 := cell_of_row w6 wa.heap.size 1 _ _ _ (keepRow (HO5.out.trans h6) HGX.out (fun x => x)); obtain ⟨v8, V7, V8, hb7, hr8, hf8, ho8⟩ := snoc_int (hS.out.keep HO6.out (fun _ _ x => x)) (hO.out.trans HO6.out).size xa (by have := needsU_len l kn goal k; omega); have HB7 := Lib.hid hb7; have HR8 := Lib.hid hr8; have HF8 := Lib.hid hf8; have HO8 := Lib.hid ho8; clear hb7 hr8 hf8 ho8) | ((with_reducible refine wpList_bs_at ?_ 23 1 #[(0, .tmp 50)] ?_ [(0, .int .i64 xa)] ?_ _ HB7.out ?_); rfl; rfl; rfl) | (at_builtin; (with_reducible refine wpList_append_run ?_ (.tmp 48) (.tmp 51) 23 ?_ _ _ _ ?_ ?_ HR8.out ?_); rfl; rfl; rfl; rfl))
            have HF9 : Hid (FL V8 w2.heap.size v8 (needsU l kn goal (k + 1))) := by
              rw [needsU_next HY.out, if_pos ⟨rfl, HCR.out⟩]
              exact HF8.out
            have HO9 := Lib.hid (fresh_only (hO.out.trans HO6.out) HO8.out (fun j hj => hj))
            go_roundg (l.length - (k + 1))
            case measure => omega
            case rel => exact ⟨k + 1, by omega, by omega, by go_num, HF9.out, HO9.out⟩
        · have ho' : ((op : Int) == 1) = false := by rw [beq_eq_false_iff_ne]; exact ho
          have HF8 : Hid (FL (wa.alloc (.cells #[.int .i64 op, .int .i64 xa, .int .i64 xb] 34)) w2.heap.size u6 (needsU l kn goal (k + 1))) := by
            rw [needsU_next HY.out, if_neg (fun h => ho h.1), List.append_nil]
            exact hS.out.keep HOX.out (fun _ _ x => x)
          have HO8 := Lib.hid (hO.out.trans HOX.out)
          clear ho
          go_wp2_with (((with_reducible refine wpList_load_at ?_ 34 (.tmp 34) ?_ _ ?_ _ HLD2.out ?_); rfl; rfl; rfl))
          go_roundg (l.length - (k + 1))
          case measure => omega
          case rel => exact ⟨k + 1, by omega, by omega, by go_num, HF8.out, HO8.out⟩
      · obtain rfl : k = l.length := by omega
        have HR := Lib.hid (rising_any hS.out (by have := needsU_len l kn goal l.length; omega))
        go_wp2_with (go_at_call 29; refine HR.out.mono ?_; rintro e w3 ⟨v', rfl, hv, ho⟩)
        go_ret
        exact ⟨v', rfl, by rw [← HRS.out]; exact hv, HO2.out.trans (fresh_only hO.out ho (fun j hj => hj))⟩
  · rw [if_pos (.inr (.inr (.inr hc)))] at hrs
    subst hrs
    rw [hc] at HCN
    clear hc hm
    go_enter Try.func13, Try.ntmps13
    go_wp2_with (first | (go_at_call 12; refine HM0.out.mono ?_; rintro e w1 ⟨rfl, h1⟩; have HCN' := Lib.hid (HCN.out _ (Only.of_below h1))) | (go_at_call 14; refine HCN'.out.mono ?_; rintro e w2 ⟨rfl, h2⟩))
    go_ret
    exact ⟨_, rfl, nil_il _, (Only.of_below h1).trans h2⟩
end Go.Proofs.Ytnppjkekbdapkaa
