/-
  Arguments: nodes, numbers. Appends of numbers.
-/
import Derived.Test.YtnppjkekbdapkaaShn
import Derived.Laws.OwnMore
set_option linter.unusedVariables false
namespace Go.Proofs.Ytnppjkekbdapkaa
open Go.RowKit

section
variable {H : Type} {enc : TypeId × Value → H} {w : World} {base : Nat} {spare : Nat → Bool} {held : Bool} {fuel : Nat} {x : DataW H × List MemPlace}
theorem trod_nd {cs : List Value} (h : DataW.trod enc Try.prog w base spare held fuel 34 cs = some x) : ∃ a : Nd, a.Wf ∧ cs = ndL a := by
  obtain ⟨xs, n, _, _, hl, hlen, hf⟩ := DataW.trod_struct Try.underlying34 h
  have h34 : Try.prog.cellsOf 34 = 3 := by kernel_rfl
  rw [h34] at hl
  match xs, hlen with
  | [y0, y1, y2], _ =>
    obtain ⟨z0, e0, _, w0⟩ := DataW.trod_int Try.underlying3 (hf 0 _ rfl)
    obtain ⟨z1, e1, _, w1⟩ := DataW.trod_int Try.underlying3 (hf 1 _ rfl)
    obtain ⟨z2, e2, _, w2⟩ := DataW.trod_int Try.underlying3 (hf 2 _ rfl)
    refine ⟨⟨z0, z1, z2⟩, ⟨w0, w1, w2⟩, ?_⟩
    have h3 : Try.prog.cellsOf 3 = 1 := by kernel_rfl
    change List.take (Try.prog.cellsOf 3) (List.drop 0 cs) = _ at e0
    change List.take (Try.prog.cellsOf 3) (List.drop 1 cs) = _ at e1
    change List.take (Try.prog.cellsOf 3) (List.drop 2 cs) = _ at e2
    rw [h3] at e0 e1 e2
    match cs, hl with
    | [c0, c1, c2], _ =>
      simp at e0 e1 e2
      rw [e0, e1, e2]
      rfl
theorem trod_num {cs : List Value} (h : DataW.trod enc Try.prog w base spare held fuel 3 cs = some x) : ∃ a : Int, wf64 a ∧ cs = [.int .i64 a] := by
  obtain ⟨z0, e0, _, w0⟩ := DataW.trod_int Try.underlying3 h
  exact ⟨z0, w0, e0⟩
end
/-- A list of rows, each of which is of something. -/
theorem rows_map {α : Type} {f : α → List Value} {p : α → Prop} : ∀ (xs : List (List Value)), (∀ r ∈ xs, ∃ a, p a ∧ r = f a) → ∃ ys : List α, (∀ a ∈ ys, p a) ∧ xs = ys.map f
  | [], _ => ⟨[], by simp, rfl⟩
  | r :: xs, h => by
    obtain ⟨a, ha, rfl⟩ := h r (by simp)
    obtain ⟨ys, h1, rfl⟩ := rows_map xs (fun r hr => h r (by simp [hr]))
    exact ⟨a :: ys, by intro b hb; rcases List.mem_cons.1 hb with rfl | hb; exact ha; exact h1 b hb, rfl⟩
def NdRow (w : World) (a : Option Addr) (len cap : Nat) (ys : List Nd) : Prop := NL w (.slice a len cap) ys ∧ ys.length = len ∧ ∀ x ∈ ys, x.Wf
def NumRow (w : World) (a : Option Addr) (len cap : Nat) (zs : List Int) : Prop := IL w (.slice a len cap) zs ∧ zs.length = len ∧ ∀ z ∈ zs, wf64 z
theorem open_nodes {H : Type} {enc : TypeId × Value → H} {w : World} {base : Nat} {spare : Nat → Bool} {held : Bool} {a : Option Addr} {len cap : Nat} {d : DataW H} {p : List MemPlace}
    (h : DataW.Trod enc Try.prog w base spare held 22 (.slice a len cap) d p) : ∃ ys, NdRow w a len cap ys := by
  obtain ⟨xs, h1, h2⟩ := open_rows Try.underlying22 (by kernel_rfl : Try.prog.cellsOf 34 = 3) h
  obtain ⟨ys, h3, rfl⟩ := rows_map (p := Nd.Wf) (f := ndL) xs (fun r hr => by obtain ⟨m, y, ht⟩ := h2 r hr; exact trod_nd ht)
  have hl : ys.length = len := by
    have := h1.len
    rwa [List.length_map] at this
  subst hl
  exact ⟨ys, ⟨a, cap, rfl, h1⟩, rfl, h3⟩
theorem open_nums {H : Type} {enc : TypeId × Value → H} {w : World} {base : Nat} {spare : Nat → Bool} {held : Bool} {a : Option Addr} {len cap : Nat} {d : DataW H} {p : List MemPlace}
    (h : DataW.Trod enc Try.prog w base spare held 23 (.slice a len cap) d p) : ∃ zs, NumRow w a len cap zs := by
  obtain ⟨xs, h1, h2⟩ := open_rows Try.underlying23 (by kernel_rfl : Try.prog.cellsOf 3 = 1) h
  obtain ⟨ys, h3, rfl⟩ := rows_map (p := wf64) (f := fun z => [.int .i64 z]) xs (fun r hr => by obtain ⟨m, y, ht⟩ := h2 r hr; exact trod_num ht)
  have hl : ys.length = len := by
    have := h1.len
    rwa [List.length_map] at this
  subst hl
  refine ⟨ys, ?_, rfl, h3⟩
  have hat : ∀ i, i < ys.length → ∃ b o, a = some ⟨b, o, none⟩ := fun i hi => by
    obtain ⟨b, o, he, _⟩ := h1.at (by decide) (i := i) (by simpa using hi)
    exact ⟨b, o, he⟩
  rcases h1 with ⟨rfl, hl0, rfl, _⟩ | ⟨x, rfl, h4, h5, _, _, h6⟩
  · exact ⟨none, 0, by rw [List.length_map], by rw [List.length_map]; omega, by unfold maxLen; omega, fun i u hu => by
      have := (List.getElem?_eq_some_iff.1 hu).1
      rw [List.length_map] at this
      omega⟩
  · refine ⟨some x, cap, by rw [List.length_map], by rw [List.length_map]; exact h4, h5, fun i u hu => ?_⟩
    rw [List.getElem?_map] at hu
    obtain ⟨z, hz, rfl⟩ := Option.map_eq_some_iff.1 hu
    obtain ⟨b, o, he⟩ := hat i (List.getElem?_eq_some_iff.1 hz).1
    cases he
    refine ⟨b, o, rfl, ?_⟩
    have := h6 i [.int .i64 z] (by rw [List.getElem?_map, hz]; rfl) 0 _ rfl
    have e : (((⟨b, o, none⟩ : Addr).add (i * 1)).add 0) = ⟨b, o + i, none⟩ := by unfold Addr.add; split <;> simp_all
    rwa [e] at this

theorem FL.base_le {w : World} {base : Nat} {v : Value} {fs : List Int} (h : FL w base v fs) {k : Nat} (hk : v.ownBlock = some k) : base ≤ k := by
  obtain ⟨_, ⟨rfl, _⟩ | ⟨g, cap, cur, rfl, hg, _⟩⟩ := h
  · cases hk
  · cases hk
    exact hg
theorem FL.il {w : World} {base : Nat} {v : Value} {fs : List Int} (h : FL w base v fs) : IL w v fs := by
  obtain ⟨hl, ⟨rfl, h0⟩ | ⟨g, cap, cur, rfl, hg, hb, h1, h2, h3, h4⟩⟩ := h
  · obtain rfl : fs = [] := List.eq_nil_of_length_eq_zero h0
    exact ⟨none, 0, rfl, Nat.le_refl _, Nat.zero_le _, fun i u hu => by simp at hu⟩
  · refine IL.of_row hb h1 h2 fun i u hu => ?_
    rw [← h4, List.getElem?_take] at hu
    split at hu
    · simpa using hu
    · cases hu
theorem FL.new (w : World) (base : Nat) (h : base ≤ w.heap.size) : FL (w.alloc (.cells #[] 3)) base (.slice (some ⟨w.heap.size, 0, none⟩) 0 0) [] :=
  World.ownsRow_lit w #[] 0 h (Nat.zero_le _) rfl
theorem build_0 (w : World) : (Instr.buildSlice 23 0 #[]).run Try.prog w = .ok (.slice (some ⟨w.heap.size, 0, none⟩) 0 0) (w.alloc (.cells #[] 3)) := by
  obtain ⟨ie, hie, hz, hs, hb⟩ := info_parts (show (Try.prog.info? 3).map (fun i => (i.zero, i.size, i.bytes)) = some (some (.int .i64 0), 1, 8) by kernel_rfl)
  simp [Instr.buildSlice, run_underlying (P := Try.prog) Try.underlying23, sizeOf, typeInfo, hie, Instr.fill, newRow]
  congr 2
  exact Array.eq_empty_of_size_eq_zero (by simp)
/-- append of numbers, onto a row of the call's own. -/
theorem app_ints {w : World} {base : Nat} {v u : Value} {xs ys : List Int} (h : FL w base v xs) (hu : IL w u ys) (hb : base ≤ w.heap.size) (hn : xs.length + ys.length ≤ 1000000) :
    ∃ v' w', (∀ ty, (Builtin.append_ #[23, 23] ty #[v, u]).run Try.prog w = .ok v' w') ∧ FL w' base v' (xs ++ ys) ∧ w.grownBy w' v.ownBlock ∧ (v'.ownBlock = v.ownBlock ∨ v'.ownBlock = some w.heap.size) := by
  obtain ⟨ie, hie, hz, hs, hby⟩ := info_parts (show (Try.prog.info? 3).map (fun i => (i.zero, i.size, i.bytes)) = some (some (.int .i64 0), 1, 8) by kernel_rfl)
  obtain ⟨a, cap, rfl, h1, h2, h3⟩ := hu
  rw [List.length_map] at *
  cases a with
  | none =>
    obtain rfl : ys = [] := by
      cases ys with
      | nil => rfl
      | cons y ys =>
        obtain ⟨b, o, he, _⟩ := h3 0 _ rfl
        cases he
    rw [List.append_nil]
    refine ⟨v, w, fun ty => ?_, h, ⟨rfl, rfl, rfl, Nat.le_refl _, fun _ _ _ => rfl⟩, .inl rfl⟩
    obtain ⟨_, ⟨rfl, h0⟩ | ⟨g, c, cur, rfl, _, _, hnc, _⟩⟩ := h
    · simp [Builtin.append_, run_underlying (P := Try.prog) Try.underlying23, sizeOf, typeInfo, hie, Builtin.lenOf, Builtin.firstCells]
    · simp [Builtin.append_, run_underlying (P := Try.prog) Try.underlying23, sizeOf, typeInfo, hie, Builtin.lenOf, Builtin.firstCells, hnc, storeCells]
  | some ad =>
    have hnews : ∀ (j : Nat) (u : Value), (ys.map (Value.int .i64))[j]? = some u → w.cell? (ad.add j) = some u := fun j u hu => by
      obtain ⟨b, o, he, hc⟩ := h3 j u hu
      cases he
      have : (⟨b, o, none⟩ : Addr).add j = ⟨b, o + j, none⟩ := by unfold Addr.add; split <;> simp_all
      rw [this]
      exact hc
    have hrun := fun ty => run_append_own_at (P := Try.prog) w base 23 ty 3 ie (.int .i64 0) 1 8 Try.underlying23 hie hz hs hby rfl (by decide) v xs.length (xs.map (Value.int .i64)) h ad ys.length cap (ys.map (Value.int .i64)) (by simp) hnews (by intro u hu; obtain ⟨z, _, rfl⟩ := List.mem_map.1 hu; rfl) (by unfold maxLen; omega) (by omega) hb
    obtain ⟨v', w', hr, ho, hg, _, hat⟩ := hrun 23
    refine ⟨v', w', fun ty => hr, ?_, hg, hat⟩
    show w'.ownsRow base 3 1 v' (xs ++ ys).length ((xs ++ ys).map (Value.int .i64))
    rw [List.length_append, List.map_append]
    exact ho
section
variable {P : Program} {ops : Array Oper} {rest : List Oper} {o : Oper} {a : Act} {w w' : World} {Q : Exit → Act → World → Prop}
theorem wpList_append_run (hgd : o.guard = none) (s x : Operand) (t : TypeId) (ho : o.op = .call { callee := .builtin .append, args := #[s, x], argTypes := #[t, t] }) (v u v' : Value) (hs : a.eval s = v) (hx : a.eval x = u)
    (hrun : ∀ ty, (Builtin.append_ #[t, t] ty #[v, u]).run P w = .ok v' w') (h : wpList P ops Q rest (a.put o.dst v') w') : wpList P ops Q (o :: rest) a w := by
  refine wpList_plain hgd fun K hK => ?_
  unfold Oper.wp execOp
  simp only [ho, resolve, invoke, builtin, Sem.run_bind, Sem.run_pure, Result.andThen_ok, List.map_toArray, List.map_cons, List.map_nil, hs, hx, hrun]
  exact hK _ _ h
end
end Go.Proofs.Ytnppjkekbdapkaa
