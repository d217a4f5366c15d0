/-
  Appends of nodes; slices of small numbers; SameInts.
-/
import Derived.Test.YtnppjkekbdapkaaCls
set_option linter.unusedVariables false
namespace Go.Proofs.Ytnppjkekbdapkaa
open Go.RowKit

/-- The call's own slice of nodes. -/
def GL (w : World) (base : Nat) (v : Value) (l : List Nd) : Prop := w.ownsRow base 34 3 v l.length (flat l)
theorem GL.keep {w w' : World} {base : Nat} {v : Value} {l : List Nd} (h : GL w base v l) (o : Only (fun _ => False) w w') : GL w' base v l := by
  obtain ⟨h1, h | ⟨g, cap, cur, rfl, hg, hb, rest⟩⟩ := h
  · exact ⟨h1, .inl h⟩
  · exact ⟨h1, .inr ⟨g, cap, cur, rfl, hg, keepRow o hb (fun x => x), rest⟩⟩
theorem GL.keepS {w w' : World} {base : Nat} {v : Value} {l : List Nd} {S : Nat → Prop} (h : GL w base v l) (o : Only S w w') (hs : ∀ k, v.ownBlock = some k → ¬ S k) : GL w' base v l := by
  obtain ⟨h1, h | ⟨g, cap, cur, rfl, hg, hb, rest⟩⟩ := h
  · exact ⟨h1, .inl h⟩
  · exact ⟨h1, .inr ⟨g, cap, cur, rfl, hg, keepRow o hb (hs g rfl), rest⟩⟩
theorem gl_fl {w : World} {b1 b2 : Nat} {v u : Value} {l : List Nd} {xs : List Int} (h : GL w b1 v l) (h2 : FL w b2 u xs) (k : Nat) (hk : v.ownBlock = some k) : ¬ u.ownBlock = some k := by
  intro hu
  obtain ⟨_, ⟨rfl, _⟩ | ⟨g, cap, cur, rfl, _, hg, _⟩⟩ := h
  · cases hk
  · obtain ⟨_, ⟨rfl, _⟩ | ⟨g', cap', cur', rfl, _, hg', _⟩⟩ := h2
    · cases hu
    · cases hk
      cases hu
      rw [hg] at hg'
      cases hg'
theorem GL.base_le {w : World} {base : Nat} {v : Value} {l : List Nd} (h : GL w base v l) {k : Nat} (hk : v.ownBlock = some k) : base ≤ k := by
  obtain ⟨_, ⟨rfl, _⟩ | ⟨g, cap, cur, rfl, hg, _⟩⟩ := h
  · cases hk
  · cases hk
    exact hg
theorem GL.nl {w : World} {base : Nat} {v : Value} {l : List Nd} (h : GL w base v l) : NL w v l := by
  obtain ⟨hl, ⟨rfl, h0⟩ | ⟨g, cap, cur, rfl, hg, hb, h1, h2, h3, h4⟩⟩ := h
  · obtain rfl : l = [] := List.eq_nil_of_length_eq_zero h0
    exact ⟨none, 0, rfl, .inl ⟨rfl, rfl, rfl, rfl⟩⟩
  · refine NL.of_row hb h1 h2 fun i u hu => ?_
    rw [← h4, List.getElem?_take] at hu
    split at hu
    · simpa using hu
    · cases hu
theorem GL.new (w : World) (base : Nat) (hb : base ≤ w.heap.size) (l : List Nd) (hl : l.length ≤ 1000) : GL (w.alloc (.cells (flat l).toArray 34)) base (.slice (some ⟨w.heap.size, 0, none⟩) l.length l.length) l := by
  have := World.ownsRow_lit (base := base) (e := 34) (size := 3) w (flat l).toArray l.length hb (by unfold maxLen; omega) (by simp [flat_len])
  simpa [GL] using this
theorem GL.val {w : World} {base : Nat} {v : Value} {l : List Nd} (h : GL w base v l) : ∃ a cap, v = .slice a l.length cap := by
  obtain ⟨hl, ⟨rfl, h0⟩ | ⟨g, cap, cur, rfl, _⟩⟩ := h
  · exact ⟨none, 0, by rw [h0]⟩
  · exact ⟨_, cap, rfl⟩
/-- append(l, ys..) of nodes that are written out. -/
theorem snoc_nodes {w : World} {base : Nat} {v : Value} {l : List Nd} (h : GL w base v l) (hb : base ≤ w.heap.size) (ys : List Nd) (hn : l.length + ys.length ≤ 1000) :
    ∃ v' w', (∀ ty, (Builtin.append_ #[22, 22] ty #[v, .slice (some ⟨w.heap.size, 0, none⟩) ys.length ys.length]).run Try.prog (w.alloc (.cells (flat ys).toArray 34)) = .ok v' w') ∧ GL w' base v' (l ++ ys) ∧ Only (fun k => v.ownBlock = some k) w w' := by
  obtain ⟨ie, hie, hz, hs, hby⟩ := info_parts (show (Try.prog.info? 34).map (fun i => (i.zero, i.size, i.bytes)) = some (some (.agg #[.int .i64 0, .int .i64 0, .int .i64 0]), 3, 24) by kernel_rfl)
  have o1 : Only (fun _ => False) w (w.alloc (.cells (flat ys).toArray 34)) := (Only.refl _ _).alloc _
  have h1 := h.keep o1
  have hrun := fun ty => run_append_own_at (P := Try.prog) (w.alloc (.cells (flat ys).toArray 34)) base 22 ty 34 ie (.agg #[.int .i64 0, .int .i64 0, .int .i64 0]) 3 24 Try.underlying22 hie hz hs hby rfl (by decide) v l.length (flat l) h1 ⟨w.heap.size, 0, none⟩ ys.length ys.length (flat ys) (flat_len ys)
    (by intro j u hu; have := World.news_of_block (heap_alloc_new w (.cells (flat ys).toArray 34)) j u (by simpa using hu); exact this) (by intro u hu; obtain ⟨x, hx, hu⟩ := List.mem_flatMap.1 hu; simp [ndL] at hu; rcases hu with rfl | rfl | rfl <;> rfl) (by unfold maxLen; omega) (by omega) (Nat.le_trans hb o1.size)
  obtain ⟨v', w', hr, ho, hg, _, hat⟩ := hrun 22
  refine ⟨v', w', fun ty => hr, ?_, (o1.mono (fun _ x => x.elim)).trans (grown_only hg)⟩
  show w'.ownsRow base 34 3 v' (l ++ ys).length (flat (l ++ ys))
  rw [List.length_append, flat_append]
  exact ho

theorem build_f3 (x y z : Int) (w : World) : (Instr.buildSlice 23 3 #[(0, .int .i64 x), (1, .int .i64 y), (2, .int .i64 z)]).run Try.prog w = .ok (.slice (some ⟨w.heap.size, 0, none⟩) 3 3) (w.alloc (.cells #[.int .i64 x, .int .i64 y, .int .i64 z] 3)) := by
  obtain ⟨ie, hie, hz, hs, hb⟩ := info_parts (show (Try.prog.info? 3).map (fun i => (i.zero, i.size, i.bytes)) = some (some (.int .i64 0), 1, 8) by kernel_rfl)
  refine run_buildSlice w 23 3 3 _ _ ie _ Try.underlying23 hie hz (by omega) (by omega) ?_
  rw [hs]
  kernel_rfl
/-- append(xs, ys..) of numbers that are written out. -/
theorem snoc_ints {w : World} {base : Nat} {v : Value} {xs : List Int} (h : FL w base v xs) (hb : base ≤ w.heap.size) (ys : List Int) (hn : xs.length + ys.length ≤ 100000) :
    ∃ v' w', (∀ ty, (Builtin.append_ #[23, 23] ty #[v, .slice (some ⟨w.heap.size, 0, none⟩) ys.length ys.length]).run Try.prog (w.alloc (.cells (ys.map (Value.int .i64)).toArray 3)) = .ok v' w') ∧ FL w' base v' (xs ++ ys) ∧ Only (fun k => v.ownBlock = some k) w w' := by
  have o7 : Only (fun _ => False) w (w.alloc (.cells (ys.map (Value.int .i64)).toArray 3)) := (Only.refl _ _).alloc _
  have hi7 : IL (w.alloc (.cells (ys.map (Value.int .i64)).toArray 3)) (.slice (some ⟨w.heap.size, 0, none⟩) ys.length ys.length) ys := IL.of_row (l := ys) (cap := ys.length) (heap_alloc_new _ _) (Nat.le_refl _) (by unfold maxLen; omega) (fun i u h => by simpa using h)
  obtain ⟨v8, V8, hr8, hf8, hg8, _⟩ := app_ints (h.keep o7 (fun _ _ x => x)) hi7 (Nat.le_trans hb o7.size) (by omega)
  exact ⟨v8, V8, hr8, hf8, (o7.mono (fun _ x => x.elim)).trans (grown_only hg8)⟩
theorem FL.of_more {w : World} {base g cap : Nat} {xs : List Int} {x : Int} (h : FL w base (.slice (some ⟨g, 0, none⟩) (xs.length + 1) cap) (xs ++ [x])) : FL w base (.slice (some ⟨g, 0, none⟩) xs.length cap) xs := by
  obtain ⟨hl, ⟨he, _⟩ | ⟨g', cap', cur, he, hg, hb, h1, h2, h3, h4⟩⟩ := h
  · cases he
  · simp only [Value.slice.injEq, Option.some.injEq, Addr.mk.injEq, and_true] at he
    obtain ⟨rfl, _, rfl⟩ := he
    refine ⟨by simp, .inr ⟨g, cap, cur, rfl, hg, hb, by simp at h1; omega, h2, h3, ?_⟩⟩
    have := congrArg (List.take (xs.length * 1)) h4
    rw [List.take_take] at this
    rw [show min (xs.length * 1) ((xs ++ [x]).length * 1) = xs.length * 1 by simp] at this
    rw [this, List.map_append, List.take_left' (by simp)]
/-- append(xs, x), and xs is as it was. -/
theorem snoc_old {w : World} {base : Nat} {v : Value} {xs : List Int} (h : FL w base v xs) (hb : base ≤ w.heap.size) (x : Int) (hn : xs.length ≤ 100000) :
    ∃ v' w1 w', (Instr.buildSlice 23 1 #[(0, .int .i64 x)]).run Try.prog w = .ok (.slice (some ⟨w.heap.size, 0, none⟩) 1 1) w1 ∧ (∀ ty, (Builtin.append_ #[23, 23] ty #[v, .slice (some ⟨w.heap.size, 0, none⟩) 1 1]).run Try.prog w1 = .ok v' w') ∧ FL w' base v' (xs ++ [x]) ∧ FL w' base v xs ∧ Only (fun k => v.ownBlock = some k) w w' := by
  have hi7 : IL (w.alloc (.cells #[.int .i64 x] 3)) (.slice (some ⟨w.heap.size, 0, none⟩) 1 1) [x] := IL.of_row (l := [x]) (cap := 1) (heap_alloc_new _ _) (Nat.le_refl _) (by unfold maxLen; omega) (fun i u h => by simpa using h)
  have o7 : Only (fun _ => False) w (w.alloc (.cells #[.int .i64 x] 3)) := (Only.refl _ _).alloc _
  have h7 := h.keep o7 (fun _ _ x => x)
  have hc7 := World.news_of_block (heap_alloc_new w (.cells #[.int .i64 x] 3))
  have hbs := build_f x w
  generalize w.alloc (.cells #[.int .i64 x] 3) = V at *
  obtain ⟨v8, V8, hr8, hf8, hg8, _⟩ := app_ints h7 hi7 (Nat.le_trans hb o7.size) (by simp; omega)
  refine ⟨v8, V, V8, hbs, hr8, hf8, ?_, (o7.mono (fun _ x => x.elim)).trans (grown_only hg8)⟩
  obtain ⟨ie, hie, hz, hs, hby⟩ := info_parts (show (Try.prog.info? 3).map (fun i => (i.zero, i.size, i.bytes)) = some (some (.int .i64 0), 1, 8) by kernel_rfl)
  have h7' := h7
  obtain ⟨hl, ⟨rfl, h0⟩ | ⟨g, cap, cur, rfl, hg, hbk, h1, h2, h3, h4⟩⟩ := h7
  · obtain rfl : xs = [] := List.eq_nil_of_length_eq_zero h0
    exact World.ownsRow_nil _ _ _ _
  · have hnews : ∀ (j : Nat) (u : Value), [Value.int .i64 x][j]? = some u → V.cell? ((⟨w.heap.size, 0, none⟩ : Addr).add j) = some u := fun j u hu => hc7 j u (by simpa using hu)
    by_cases hroom : xs.length + 1 ≤ cap
    · have hr := run_append_room (P := Try.prog) V 23 23 3 ie Try.underlying23 hie g xs.length cap cur hbk ⟨w.heap.size, 0, none⟩ 1 1 [.int .i64 x] (by rw [hs]; rfl) hnews (by intro u hu; simp at hu; subst hu; rfl) hroom (by rw [hs]; simp; omega)
      rw [hr8 23] at hr
      injection hr with e1 e2
      subst e1
      exact FL.of_more hf8
    · have holds : ∀ (j : Nat) (u : Value), (xs.map (Value.int .i64))[j]? = some u → V.cell? ((⟨g, 0, none⟩ : Addr).add j) = some u := World.ownsRow.cells (g := g) h7' rfl
      have hr := run_append_grow (P := Try.prog) V 23 23 3 ie (.int .i64 0) Try.underlying23 hie hz ⟨g, 0, none⟩ xs.length cap (xs.map (Value.int .i64)) (by rw [hs]; simp) holds ⟨w.heap.size, 0, none⟩ 1 1 [.int .i64 x] (by rw [hs]; rfl) hnews (by omega) (by omega) (growslice_fits (by omega) (by rw [hby]; omega))
      rw [hr8 23] at hr
      injection hr with e1 e2
      have o8 : Only (fun _ => False) V V8 := by
        rw [e2]
        exact ((Only.refl _ _).drew).alloc _
      exact h7'.keep o8 (fun _ _ x => x)
/-- A slice of numbers of 16 bits. -/
def U16Row (w : World) (a : Option Addr) (len cap : Nat) (zs : List Int) : Prop := VL w (.slice a len cap) (zs.map (Value.int .u16)) ∧ zs.length = len ∧ ∀ z ∈ zs, 0 ≤ z ∧ z ≤ 65535
theorem open_u16s {H : Type} {enc : TypeId × Value → H} {w : World} {base : Nat} {spare : Nat → Bool} {held : Bool} {a : Option Addr} {len cap : Nat} {d : DataW H} {p : List MemPlace}
    (h : DataW.Trod enc Try.prog w base spare held 47 (.slice a len cap) d p) : ∃ zs, U16Row w a len cap zs := by
  obtain ⟨xs, h1, h2⟩ := open_rows Try.underlying47 (by kernel_rfl : Try.prog.cellsOf 44 = 1) h
  obtain ⟨ys, h3, rfl⟩ := rows_map (p := fun z => 0 ≤ z ∧ z ≤ 65535) (f := fun z => [.int .u16 z]) xs (fun r hr => by
    obtain ⟨m, y, ht⟩ := h2 r hr
    obtain ⟨z0, e0, _, w0⟩ := DataW.trod_int Try.underlying44 ht
    refine ⟨z0, ?_, e0⟩
    simp [Lit.wf, IntKind.min, IntKind.max, IntKind.signed, IntKind.bits] at w0
    omega)
  have hl : ys.length = len := by
    have := h1.len
    rwa [List.length_map] at this
  subst hl
  refine ⟨ys, ?_, rfl, h3⟩
  have hat : ∀ i, i < ys.length → ∃ b o, a = some ⟨b, o, none⟩ := fun i hi => by
    obtain ⟨b, o, he, _⟩ := h1.at (by decide) (i := i) (by simpa using hi)
    exact ⟨b, o, he⟩
  rcases h1 with ⟨rfl, hl0, rfl, _⟩ | ⟨x, rfl, h4, h5, _, _, h6⟩
  · exact ⟨none, 0, by rw [List.length_map], by rw [List.length_map]; omega, by unfold maxLen; omega, fun i u hu => by
      have := (List.getElem?_eq_some_iff.1 hu).1
      rw [List.length_map] at this
      omega⟩
  · refine ⟨some x, cap, by rw [List.length_map], by rw [List.length_map]; exact h4, h5, fun i u hu => ?_⟩
    rw [List.getElem?_map] at hu
    obtain ⟨z, hz, rfl⟩ := Option.map_eq_some_iff.1 hu
    obtain ⟨b, o, he⟩ := hat i (List.getElem?_eq_some_iff.1 hz).1
    cases he
    refine ⟨b, o, rfl, ?_⟩
    have := h6 i [.int .u16 z] (by rw [List.getElem?_map, hz]; rfl) 0 _ rfl
    have e : (((⟨b, o, none⟩ : Addr).add (i * 1)).add 0) = ⟨b, o + i, none⟩ := by unfold Addr.add; split <;> simp_all
    rwa [e] at this
theorem take_ext' {a b : List Int} (hl : a.length = b.length) {k : Nat} (h : ∀ j, j < k → a[j]? = b[j]?) (hk : a.length ≤ k) : a = b := by
  refine List.ext_getElem? fun i => ?_
  by_cases hi : i < k
  · exact h i hi
  · rw [List.getElem?_eq_none (by omega), List.getElem?_eq_none (by omega)]
set_option maxHeartbeats 4000000 in
theorem si_any (a b : List Int) (va vb : Value) (w : World) (ha : IL w va a) (hb : IL w vb b) :
    Calls Try.prog 18 #[va, vb] w fun e w' => e = .returned (.bool (decide (a = b))) ∧ Only (fun _ => False) w w' := by
  have HA := Lib.hid ha
  have HB := Lib.hid hb
  obtain ⟨xa, ca, rfl, hca, hma⟩ := ha.val
  obtain ⟨xb, cb, rfl, hcb, hmb⟩ := hb.val
  clear ha hb
  unfold maxLen at hma hmb
  have HO0 := Lib.hid (Only.refl (fun _ => False) w)
  by_cases hl : a.length = b.length
  · have HLn := Lib.hid hl
    obtain ⟨n, hn⟩ : ∃ n, a.length = n := ⟨_, rfl⟩
    have hn2 : b.length = n := by omega
    rw [hn] at hca
    rw [hn2] at hcb
    have HN := Lib.hid hn
    have HN2 := Lib.hid hn2
    rw [hn, hn2]
    clear hn hn2 hl
    go_enter Try.func18, Try.ntmps18
    go_wp2_with fail
    go_loopg [5] n (fun gg i wr => ∃ k : Nat, k ≤ n ∧ gg = n - k ∧ i = .int .i64 k ∧ Hid (∀ j, j < k → a[j]? = b[j]?) ∧ Hid (Only (fun _ => False) w wr))
    case atStart => exact ⟨0, by omega, by omega, rfl, fun j hj => absurd hj (Nat.not_lt_zero j), HO0.out⟩
    case round =>
      obtain ⟨k, hk, hgk, rfl, hS, hO⟩ := hrel
      by_cases hlt : k < n
      · have hlt' : (k : Int) < (n : Int) := by omega
        have hka : k < a.length := by have := HN.out; omega
        have hkb : k < b.length := by have := HN2.out; omega
        obtain ⟨ba, oa, c1, he1, _, _, hc1⟩ := (HA.out.keep hO.out).at hka
        obtain ⟨bb, ob, c2, he2, _, _, hc2⟩ := (HB.out.keep hO.out).at hkb
        cases he1
        cases he2
        have HX : Hid (a[k]? = some a[k]) := List.getElem?_eq_getElem hka
        have HY : Hid (b[k]? = some b[k]) := List.getElem?_eq_getElem hkb
        generalize a[k] = x at *
        generalize b[k] = y at *
        clear hka hkb
        by_cases hxy : x = y
        · subst hxy
          go_wp2_with fail
          go_quiet (fail)
          go_wp2_with fail
          have HS' : Hid (∀ j, j < k + 1 → a[j]? = b[j]?) := fun j hj => by
            by_cases hjk : j < k
            · exact hS.out j hjk
            · obtain rfl : j = k := by omega
              rw [HX.out, HY.out]
          go_roundg (n - (k + 1))
          case measure => omega
          case rel => exact ⟨k + 1, by omega, by omega, by go_num, HS'.out, hO.out.drewN _⟩
        · have HNE : Hid (¬ a = b) := by
            rintro rfl
            exact hxy (Option.some.inj (HX.out.symm.trans HY.out))
          have hq1 : (x == y) = false := by rw [beq_eq_false_iff_ne]; exact hxy
          have hq2 : (x != y) = true := by simp [bne, hq1]
          clear hxy
          go_wp2_with fail
          go_quiet (fail)
          go_wp2_with fail
          go_ret
          exact ⟨by rw [decide_eq_false HNE.out]; rfl, hO.out.drewN _⟩
      · obtain rfl : k = n := by omega
        go_wp2_with fail
        go_ret
        exact ⟨by rw [decide_eq_true (take_ext' HLn.out hS.out (by have := HN.out; omega))]; rfl, hO.out⟩
  · have hq : ((a.length : Int) != (b.length : Int)) = true := by simp; omega
    have HLn := Lib.hid hl
    clear hl
    go_enter Try.func18, Try.ntmps18
    go_wp2_with fail
    go_ret
    exact ⟨by rw [decide_eq_false (fun h => HLn.out (by rw [h]))]; rfl, HO0.out⟩
end Go.Proofs.Ytnppjkekbdapkaa
