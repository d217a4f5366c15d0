/-
  Nodes; slices of nodes, of numbers; May.
-/
import Derived.Test.YtnppjkekbdapkaaDoorHld
import Derived.Deep.OwnRows
set_option linter.unusedVariables false
namespace Go.Proofs.YtnppjkekbdapkaaDoor
open Go.RowKit

/-- The slice a, len, cap has these rows of n cells each. -/
def Rows' (w : World) (n : Nat) (a : Option Addr) (len cap : Nat) (xs : List (List Value)) : Prop :=
  (a = none ∧ len = 0 ∧ cap = 0 ∧ xs = []) ∨
  ∃ x, a = some x ∧ len ≤ cap ∧ cap ≤ maxLen ∧ xs.length = len ∧ (∀ r ∈ xs, r.length = n) ∧ ∀ i r, xs[i]? = some r → ∀ j v, r[j]? = some v → w.cell? ((x.add (i * n)).add j) = some v

section
variable {H : Type} {enc : TypeId × Value → H} {w : World} {base : Nat} {spare : Nat → Bool} {held : Bool}

theorem open_rows {ty e n : Nat} {a : Option Addr} {len cap : Nat} {d : DataW H} {p : List MemPlace} (hu : Tryd.prog.underlying ty = some (.slice e)) (hc : Tryd.prog.cellsOf e = n) (h : DataW.Trod enc Tryd.prog w base spare held ty (.slice a len cap) d p) :
    ∃ xs, Rows' w n a len cap xs ∧ ∀ r ∈ xs, ∃ m y, DataW.trod enc Tryd.prog w base spare held m e r = some y := by
  obtain ⟨fuel, hf⟩ := h
  rcases DataW.trod_slice hu hf with ⟨hcs, _⟩ | ⟨x, l, c, elems, rest, m, _, hcs, _, hb, hlc, hcm, hel, hall, _, _⟩
  · simp [Value.cells] at hcs
    obtain ⟨rfl, rfl, rfl⟩ := hcs
    exact ⟨[], .inl ⟨rfl, rfl, rfl, rfl⟩, by simp⟩
  · simp [Value.cells] at hcs
    obtain ⟨rfl, rfl, rfl⟩ := hcs
    rw [hc] at hall
    have each : ∀ i, i < len → ∃ cs y, w.cells? base (x.add (i * n)) n = some cs ∧ DataW.trod enc Tryd.prog w base spare held m e cs = some y := by
      intro i hi
      have he := hall i hi
      rw [List.getElem?_eq_getElem (by omega : i < elems.length)] at he
      obtain ⟨cs, hc, ht⟩ := Option.bind_eq_some_iff.1 he
      exact ⟨cs, _, hc, ht⟩
    refine ⟨(List.range len).map fun i => (w.cells? base (x.add (i * n)) n).getD [], .inr ⟨x, rfl, hlc, hcm, by simp, ?_, ?_⟩, ?_⟩
    · intro r hr
      obtain ⟨i, hi, rfl⟩ := List.mem_map.1 hr
      obtain ⟨cs, y, e1, _⟩ := each i (List.mem_range.1 hi)
      rw [e1, Option.getD_some]
      exact (World.cells?_some e1).2.1
    · intro i r hr j v hv
      have hi : i < len := by
        have := (List.getElem?_eq_some_iff.1 hr).1
        simpa using this
      obtain ⟨cs, y, e1, _⟩ := each i hi
      have hrr : r = cs := by
        rw [List.getElem?_map, List.getElem?_range hi, Option.map_some, e1, Option.getD_some] at hr
        exact (Option.some.inj hr).symm
      subst hrr
      have hs := World.cells?_some e1
      have hj : j < n := by
        have := (List.getElem?_eq_some_iff.1 hv).1
        omega
      rw [hs.2.2 j hj]
      exact hv
    · intro r hr
      obtain ⟨i, hi, rfl⟩ := List.mem_map.1 hr
      obtain ⟨cs, y, e1, e2⟩ := each i (List.mem_range.1 hi)
      rw [e1, Option.getD_some]
      exact ⟨m, y, e2⟩
end
theorem Rows'.keep {w w' : World} {n : Nat} {a : Option Addr} {len cap : Nat} {xs : List (List Value)} (h : Rows' w n a len cap xs) (o : Only (fun _ => False) w w') : Rows' w' n a len cap xs := by
  rcases h with h | ⟨x, h1, h2, h3, h4, h5, h6⟩
  · exact .inl h
  · refine .inr ⟨x, h1, h2, h3, h4, h5, fun i k hi j v hj => ?_⟩
    have hc := h6 i k hi j v hj
    rw [← hc]
    exact World.cell?_of_block (o.block _ (World.block_lt_of_cell? w _ hc) (fun h => h))
theorem Rows'.at {w : World} {n : Nat} {a : Option Addr} {len cap : Nat} {xs : List (List Value)} (h : Rows' w n a len cap xs) (hn : 0 < n) {i : Nat} (hi : i < xs.length) :
    ∃ b o, a = some ⟨b, o, none⟩ ∧ xs.length = len ∧ len ≤ cap := by
  rcases h with ⟨_, _, _, rfl⟩ | ⟨x, rfl, h2, h3, h4, h5, h6⟩
  · simp at hi
  · have h0 : 0 < xs.length := by omega
    have hk := h5 xs[0] (List.getElem_mem h0)
    have hc := h6 0 xs[0] (List.getElem?_eq_getElem h0) 0 _ (List.getElem?_eq_getElem (by omega))
    obtain ⟨b, o, sp⟩ := x
    cases sp with
    | none => exact ⟨b, o, rfl, h4, h2⟩
    | some z =>
      simp [Addr.add, World.cell?] at hc
      split at hc <;> cases hc
theorem Rows'.len {w : World} {n : Nat} {a : Option Addr} {len cap : Nat} {xs : List (List Value)} (h : Rows' w n a len cap xs) : xs.length = len := by
  rcases h with ⟨_, h, _, h'⟩ | ⟨_, _, _, _, h, _⟩
  · rw [h, h']; rfl
  · exact h
theorem Rows'.load {w : World} {n : Nat} {b o len cap : Nat} {xs : List (List Value)} (h : Rows' w n (some ⟨b, o, none⟩) len cap xs) {i : Nat} {k : List Value} (hi : xs[i]? = some k) (ty : TypeId) (d : TypeDesc)
    (hu : Tryd.prog.underlying ty = some d) (hd : isAggD d = true) (hf : (Tryd.prog.info? ty).map (·.size) = some n) :
    (loadVar ty ⟨b, o + i * n, none⟩).run Tryd.prog w = .ok (.agg k.toArray) w := by
  rcases h with ⟨h, _⟩ | ⟨x, hx, h2, h3, h4, h5, h6⟩
  · cases h
  · obtain rfl := Option.some.inj hx
    have hkl : k.length = n := h5 k (List.mem_of_getElem? hi)
    have hadd : (⟨b, o, none⟩ : Addr).add (i * n) = ⟨b, o + i * n, none⟩ := by unfold Addr.add; split <;> simp_all
    have hl := run_loadCells_list (P := Tryd.prog) w ⟨b, o + i * n, none⟩ k (fun j v hv => by rw [← hadd]; exact h6 i k hi j v hv)
    rw [hkl] at hl
    cases hq : Tryd.prog.info? ty with
    | none => simp [hq] at hf
    | some i =>
      have hs : i.size = n := by simpa [hq] using hf
      simp [loadVar, Sem.run_bind, isAgg_run (P := Tryd.prog) hu (by cases d <;> first | rfl | (simp [isAggD] at hd)), sizeOf, typeInfo, hq, hs, hl]


theorem below_new (w : World) (o : Obj) : Below w.heap.size w (w.alloc o) := ((Only.refl (fun _ => False) w).alloc o).below (fun _ h => h.elim)
structure Nd where
  op : Int
  a : Int
  b : Int
deriving DecidableEq
def ndL (x : Nd) : List Value := [.int .i64 x.op, .int .i64 x.a, .int .i64 x.b]
def ndA (x : Nd) : Array Value := #[.int .i64 x.op, .int .i64 x.a, .int .i64 x.b]
/-- The value v is a slice of these nodes. -/
def NL (w : World) (v : Value) (l : List Nd) : Prop := ∃ a cap, v = .slice a l.length cap ∧ Rows' w 3 a l.length cap (l.map ndL)
theorem NL.keep {w w' : World} {v : Value} {l : List Nd} (h : NL w v l) (o : Only (fun _ => False) w w') : NL w' v l := by
  obtain ⟨a, cap, rfl, h⟩ := h
  exact ⟨a, cap, rfl, h.keep o⟩
/-- .. opened at a place. -/
theorem NL.at {w : World} {v : Value} {l : List Nd} (h : NL w v l) {i : Nat} (hi : i < l.length) : ∃ b o cap, v = .slice (some ⟨b, o, none⟩) l.length cap ∧ l.length ≤ cap ∧ cap ≤ maxLen ∧
    w.cell? ⟨b, o + i * 3, none⟩ = some (.int .i64 l[i].op) ∧ w.cell? ⟨b, o + i * 3 + 1, none⟩ = some (.int .i64 l[i].a) ∧ w.cell? ⟨b, o + i * 3 + 2, none⟩ = some (.int .i64 l[i].b) ∧ (loadVar 27 ⟨b, o + i * 3, none⟩).run Tryd.prog w = .ok (.agg (ndA l[i])) w := by
  obtain ⟨a, cap, rfl, h⟩ := h
  obtain ⟨b, o, rfl, h1, h2⟩ := h.at (by decide) (i := i) (by simpa using hi)
  have hr : (l.map ndL)[i]? = some (ndL l[i]) := by simp [hi]
  have hl := h.load hr 27 _ Tryd.underlying27 rfl (by kernel_rfl)
  refine ⟨b, o, cap, rfl, h2, ?_, ?_, ?_, ?_, hl⟩
  all_goals rcases h with ⟨h, _⟩ | ⟨x, hx, _, h3, _, _, h6⟩
  all_goals first | (cases h; done) | skip
  · exact h3
  all_goals obtain rfl := Option.some.inj hx
  all_goals have hadd : (⟨b, o, none⟩ : Addr).add (i * 3) = ⟨b, o + i * 3, none⟩ := by unfold Addr.add; split <;> simp_all
  · have := h6 i _ hr 0 _ rfl
    rw [hadd] at this
    simpa [Addr.add] using this
  · have := h6 i _ hr 1 _ rfl
    rw [hadd] at this
    simpa [Addr.add] using this
  · have := h6 i _ hr 2 _ rfl
    rw [hadd] at this
    simpa [Addr.add] using this
theorem NL.take {w : World} {l : List Nd} {a : Option Addr} {cap : Nat} (h : NL w (.slice a l.length cap) l) {i : Nat} (hi : i ≤ l.length) : NL w (.slice a i cap) (l.take i) := by
  have hlt : (l.take i).length = i := by simp; omega
  obtain ⟨a', cap', he, h⟩ := h
  cases he
  refine ⟨a, cap, by rw [hlt], ?_⟩
  rw [hlt]
  rcases h with ⟨rfl, h1, rfl, h2⟩ | ⟨x, rfl, h2, h3, h4, h5, h6⟩
  · refine .inl ⟨rfl, by omega, rfl, ?_⟩
    have : l = [] := List.eq_nil_of_length_eq_zero h1
    rw [this]
    simp
  · refine .inr ⟨x, rfl, by omega, h3, by simp; omega, ?_, ?_⟩
    · intro r hr
      obtain ⟨y, hy, rfl⟩ := List.mem_map.1 hr
      rfl
    · intro k r hk j v hv
      refine h6 k r ?_ j v hv
      rw [List.map_take, List.getElem?_take] at hk
      split at hk
      · exact hk
      · cases hk

theorem box_row {w w1 : World} {o : Obj} (h : Below (w.alloc o).heap.size (w.alloc o) w1) : w1.heap[w.heap.size]? = some o := by
  have := h.block w.heap.size (by simp)
  rw [this, heap_alloc_new]
theorem box_nd {w w1 : World} {x y z : Value} (h : Below (w.alloc (.cells #[x, y, z] 27)).heap.size (w.alloc (.cells #[x, y, z] 27)) w1) : w1.cell? ⟨w.heap.size, 0, none⟩ = some x ∧ w1.cell? ⟨w.heap.size, 1, none⟩ = some y ∧ w1.cell? ⟨w.heap.size, 2, none⟩ = some z :=
  ⟨cell_of_row _ _ _ _ _ _ (box_row h), cell_of_row _ _ _ _ _ _ (box_row h), cell_of_row _ _ _ _ _ _ (box_row h)⟩
def rightB (l : List Nd) (x : Nd) : Bool :=
  if x.op = 0 ∨ x.op = 1 then decide (0 ≤ x.a ∧ x.a ≤ 999999 ∧ x.b = 0)
  else if ¬ (x.op = 2 ∨ x.op = 3) ∨ min x.a x.b < 0 ∨ (l.length : Int) ≤ max x.a x.b then false
  else decide (x.op = 2 ∨ (l.getD x.a.toNat ⟨0, 0, 0⟩).op = 1)

theorem made_any (x : Nd) (w : World) : Calls Tryd.prog 22 #[.agg (ndA x)] w fun e w' => e = .returned (.bool (decide (x.op = 2 ∨ x.op = 3))) ∧ Below w.heap.size w w' := by
  obtain ⟨op, a, b⟩ := x
  by_cases h2 : op = 2
  · subst h2
    show Calls Tryd.prog 22 #[.agg #[.int .i64 2, .int .i64 a, .int .i64 b]] w fun e w' => e = .returned (.bool (decide ((2 : Int) = 2 ∨ (2 : Int) = 3))) ∧ Below w.heap.size w w'
    go_enter Tryd.func22, Tryd.ntmps22
    go_wp2_with fail
    go_ret
    exact ⟨rfl, below_new _ _⟩
  · by_cases h3 : op = 3
    · subst h3
      show Calls Tryd.prog 22 #[.agg #[.int .i64 3, .int .i64 a, .int .i64 b]] w fun e w' => e = .returned (.bool (decide ((3 : Int) = 2 ∨ (3 : Int) = 3))) ∧ Below w.heap.size w w'
      go_enter Tryd.func22, Tryd.ntmps22
      go_wp2_with fail
      go_ret
      exact ⟨rfl, below_new _ _⟩
    · show Calls Tryd.prog 22 #[.agg #[.int .i64 op, .int .i64 a, .int .i64 b]] w fun e w' => e = .returned (.bool (decide (op = 2 ∨ op = 3))) ∧ Below w.heap.size w w'
      have e2 : (op == 2) = false := by rw [beq_eq_false_iff_ne]; exact h2
      have e3 : (op == 3) = false := by rw [beq_eq_false_iff_ne]; exact h3
      have hd : decide (op = 2 ∨ op = 3) = false := decide_eq_false (by omega)
      rw [hd]
      go_enter Tryd.func22, Tryd.ntmps22
      go_wp2_with fail
      go_ret
      exact ⟨rfl, below_new _ _⟩

set_option maxHeartbeats 4000000 in
theorem right_any (x : Nd) (l : List Nd) (v : Value) (w : World) (hl : NL w v l) (hlen : l.length ≤ 1000000) : Calls Tryd.prog 20 #[.agg (ndA x), v] w fun e w' => e = .returned (.bool (rightB l x)) ∧ Below w.heap.size w w' := by
  obtain ⟨op, a, b⟩ := x
  obtain ⟨ad, cap, rfl, hrow⟩ := id hl
  have HL := Lib.hid hl
  have HM := Lib.hid (made_any ⟨op, a, b⟩ (w.alloc (.cells #[.int .i64 op, .int .i64 a, .int .i64 b] 27)))
  clear hl hrow
  show Calls Tryd.prog 20 #[.agg #[.int .i64 op, .int .i64 a, .int .i64 b], _] w _
  by_cases h01 : op = 0 ∨ op = 1
  · have hr : rightB l ⟨op, a, b⟩ = decide (0 ≤ a ∧ a ≤ 999999 ∧ b = 0) := if_pos h01
    rw [hr]
    clear hr HM HL
    by_cases h1 : 0 ≤ a
    · by_cases h2 : a ≤ 999999
      · by_cases h3 : b = 0
        · subst h3
          rw [decide_eq_true (by omega)]
          rcases h01 with rfl | rfl
          · go_enter Tryd.func20, Tryd.ntmps20
            go_wp2_with fail
            go_ret
            exact ⟨rfl, below_new _ _⟩
          · go_enter Tryd.func20, Tryd.ntmps20
            go_wp2_with fail
            go_ret
            exact ⟨rfl, below_new _ _⟩
        · rw [decide_eq_false (by omega)]
          have h4 : (b == 0) = false := by rw [beq_eq_false_iff_ne]; exact h3
          rcases h01 with rfl | rfl
          · go_enter Tryd.func20, Tryd.ntmps20
            go_wp2_with fail
            go_ret
            exact ⟨rfl, below_new _ _⟩
          · go_enter Tryd.func20, Tryd.ntmps20
            go_wp2_with fail
            go_ret
            exact ⟨rfl, below_new _ _⟩
      · rw [decide_eq_false (by omega)]
        rcases h01 with rfl | rfl
        · go_enter Tryd.func20, Tryd.ntmps20
          go_wp2_with fail
          go_ret
          exact ⟨rfl, below_new _ _⟩
        · go_enter Tryd.func20, Tryd.ntmps20
          go_wp2_with fail
          go_ret
          exact ⟨rfl, below_new _ _⟩
    · rw [decide_eq_false (by omega)]
      rcases h01 with rfl | rfl
      · go_enter Tryd.func20, Tryd.ntmps20
        go_wp2_with fail
        go_ret
        exact ⟨rfl, below_new _ _⟩
      · go_enter Tryd.func20, Tryd.ntmps20
        go_wp2_with fail
        go_ret
        exact ⟨rfl, below_new _ _⟩
  · have hr : rightB l ⟨op, a, b⟩ = if ¬ (op = 2 ∨ op = 3) ∨ min a b < 0 ∨ (l.length : Int) ≤ max a b then false else decide (op = 2 ∨ (l.getD a.toNat ⟨0, 0, 0⟩).op = 1) := if_neg h01
    rw [hr]
    clear hr
    have e0 : (op == 0) = false := by rw [beq_eq_false_iff_ne]; omega
    have e1 : (op == 1) = false := by rw [beq_eq_false_iff_ne]; omega
    by_cases h23 : op = 2 ∨ op = 3
    · have HM2 := HM.out
      rw [show decide ((⟨op, a, b⟩ : Nd).op = 2 ∨ (⟨op, a, b⟩ : Nd).op = 3) = true from decide_eq_true h23] at HM2
      have HM := Lib.hid HM2
      clear HM2
      by_cases h4 : min a b < 0
      · rw [if_pos (.inr (.inl h4))]
        go_enter Tryd.func20, Tryd.ntmps20
        go_wp2_with fail
        refine HM.out.mono ?_
        rintro e w1 ⟨rfl, k1⟩
        have K1 := Lib.hid ((below_new w _).trans (k1.mono (by simp)))
        obtain ⟨c0, c1, c2⟩ := box_nd k1
        clear k1
        go_wp2_with fail
        go_ret
        exact ⟨rfl, K1.out⟩
      · by_cases h5 : (l.length : Int) ≤ max a b
        · rw [if_pos (.inr (.inr h5))]
          go_enter Tryd.func20, Tryd.ntmps20
          go_wp2_with fail
          refine HM.out.mono ?_
          rintro e w1 ⟨rfl, k1⟩
          have K1 := Lib.hid ((below_new w _).trans (k1.mono (by simp)))
          obtain ⟨c0, c1, c2⟩ := box_nd k1
          clear k1
          go_wp2_with fail
          go_ret
          exact ⟨rfl, K1.out⟩
        · rw [if_neg (by omega)]
          by_cases h2 : op = 2
          · rw [decide_eq_true (.inl h2)]
            subst h2
            go_enter Tryd.func20, Tryd.ntmps20
            go_wp2_with fail
            refine HM.out.mono ?_
            rintro e w1 ⟨rfl, k1⟩
            have K1 := Lib.hid ((below_new w _).trans (k1.mono (by simp)))
            obtain ⟨c0, c1, c2⟩ := box_nd k1
            clear k1
            go_wp2_with fail
            go_ret
            exact ⟨rfl, K1.out⟩
          · have h3 : op = 3 := by omega
            subst h3
            obtain ⟨k, rfl⟩ := Int.eq_ofNat_of_zero_le (show 0 ≤ a by omega)
            have hk : k < l.length := by omega
            have hg : l.getD (k : Int).toNat ⟨0, 0, 0⟩ = l[k] := by
              show l.getD k ⟨0, 0, 0⟩ = l[k]
              rw [List.getD_eq_getElem?_getD, List.getElem?_eq_getElem hk]
              rfl
            rw [hg]
            clear hg
            have hkl : (k : Int) < (l.length : Int) := by
              show (k : Int) < _
              omega
            have hk0 : 0 ≤ (k : Int) := by
              show (0 : Int) ≤ (k : Int)
              omega
            by_cases h6 : l[k].op = 1
            · rw [decide_eq_true (.inr h6)]
              go_enter Tryd.func20, Tryd.ntmps20
              go_wp2_with fail
              refine HM.out.mono ?_
              rintro e w1 ⟨rfl, k1⟩
              have k2 := (below_new w (.cells #[.int .i64 3, .int .i64 (k : Int), .int .i64 b] 27)).trans (k1.mono (by simp))
              have K1 := Lib.hid k2
              obtain ⟨c0, c1, c2⟩ := box_nd k1
              obtain ⟨gb, go, gc, he, _, _, d0, _⟩ := (HL.out.keep (Only.of_below k2)).at hk
              cases he
              rw [h6] at d0
              clear k1 k2
              go_wp2_with fail
              go_ret
              exact ⟨rfl, K1.out⟩
            · rw [decide_eq_false (by omega)]
              have h7 : (l[k].op == 1) = false := by rw [beq_eq_false_iff_ne]; exact h6
              go_enter Tryd.func20, Tryd.ntmps20
              go_wp2_with fail
              refine HM.out.mono ?_
              rintro e w1 ⟨rfl, k1⟩
              have k2 := (below_new w (.cells #[.int .i64 3, .int .i64 (k : Int), .int .i64 b] 27)).trans (k1.mono (by simp))
              have K1 := Lib.hid k2
              obtain ⟨c0, c1, c2⟩ := box_nd k1
              obtain ⟨gb, go, gc, he, _, _, d0, _⟩ := (HL.out.keep (Only.of_below k2)).at hk
              cases he
              clear k1 k2
              go_wp2_with fail
              go_ret
              exact ⟨rfl, K1.out⟩
    · rw [if_pos (.inl h23)]
      have HM2 := HM.out
      rw [show decide ((⟨op, a, b⟩ : Nd).op = 2 ∨ (⟨op, a, b⟩ : Nd).op = 3) = false from decide_eq_false h23] at HM2
      have HM := Lib.hid HM2
      clear HM2
      go_enter Tryd.func20, Tryd.ntmps20
      go_wp2_with fail
      refine HM.out.mono ?_
      rintro e w1 ⟨rfl, k1⟩
      have K1 := Lib.hid ((below_new w _).trans (k1.mono (by simp)))
      clear k1
      go_wp2_with fail
      go_ret
      exact ⟨rfl, K1.out⟩
end Go.Proofs.YtnppjkekbdapkaaDoor
