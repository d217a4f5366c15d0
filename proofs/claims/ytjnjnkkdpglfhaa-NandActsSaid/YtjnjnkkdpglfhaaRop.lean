/-
  Acts, and numbers, as arguments.
-/
import Derived.Test.YtjnjnkkdpglfhaaRpr
import Derived.Deep.OwnRows
import Derived.WalkKit
import Derived.ProofKit
import Derived.OpenShut
import Derived.ShutString
import Derived.ChangeOld
import Derived.ChangeSlices
set_option linter.unusedVariables false
namespace Go.Proofs.Ytjnjnkkdpglfhaa
open Go.RowKit

/-- The slice a, len, cap has these rows of n cells each. -/
def Rows' (w : World) (n : Nat) (a : Option Addr) (len cap : Nat) (xs : List (List Value)) : Prop :=
  (a = none ∧ len = 0 ∧ cap = 0 ∧ xs = []) ∨
  ∃ x, a = some x ∧ len ≤ cap ∧ cap ≤ maxLen ∧ xs.length = len ∧ (∀ r ∈ xs, r.length = n) ∧ ∀ i r, xs[i]? = some r → ∀ j v, r[j]? = some v → w.cell? ((x.add (i * n)).add j) = some v

section
variable {H : Type} {enc : TypeId × Value → H} {w : World} {base : Nat} {spare : Nat → Bool} {held : Bool}

theorem open_rows {ty e n : Nat} {a : Option Addr} {len cap : Nat} {d : DataW H} {p : List MemPlace} (hu : Try.prog.underlying ty = some (.slice e)) (hc : Try.prog.cellsOf e = n) (h : DataW.Trod enc Try.prog w base spare held ty (.slice a len cap) d p) :
    ∃ xs, Rows' w n a len cap xs ∧ ∀ r ∈ xs, ∃ m y, DataW.trod enc Try.prog w base spare held m e r = some y := by
  obtain ⟨fuel, hf⟩ := h
  rcases DataW.trod_slice hu hf with ⟨hcs, _⟩ | ⟨x, l, c, elems, rest, m, _, hcs, _, hb, hlc, hcm, hel, hall, _, _⟩
  · simp [Value.cells] at hcs
    obtain ⟨rfl, rfl, rfl⟩ := hcs
    exact ⟨[], .inl ⟨rfl, rfl, rfl, rfl⟩, by simp⟩
  · simp [Value.cells] at hcs
    obtain ⟨rfl, rfl, rfl⟩ := hcs
    rw [hc] at hall
    have each : ∀ i, i < len → ∃ cs y, w.cells? base (x.add (i * n)) n = some cs ∧ DataW.trod enc Try.prog w base spare held m e cs = some y := by
      intro i hi
      have he := hall i hi
      rw [List.getElem?_eq_getElem (by omega : i < elems.length)] at he
      obtain ⟨cs, hc, ht⟩ := Option.bind_eq_some_iff.1 he
      exact ⟨cs, _, hc, ht⟩
    refine ⟨(List.range len).map fun i => (w.cells? base (x.add (i * n)) n).getD [], .inr ⟨x, rfl, hlc, hcm, by simp, ?_, ?_⟩, ?_⟩
    · intro r hr
      obtain ⟨i, hi, rfl⟩ := List.mem_map.1 hr
      obtain ⟨cs, y, e1, _⟩ := each i (List.mem_range.1 hi)
      rw [e1, Option.getD_some]
      exact (World.cells?_some e1).2.1
    · intro i r hr j v hv
      have hi : i < len := by
        have := (List.getElem?_eq_some_iff.1 hr).1
        simpa using this
      obtain ⟨cs, y, e1, _⟩ := each i hi
      have hrr : r = cs := by
        rw [List.getElem?_map, List.getElem?_range hi, Option.map_some, e1, Option.getD_some] at hr
        exact (Option.some.inj hr).symm
      subst hrr
      have hs := World.cells?_some e1
      have hj : j < n := by
        have := (List.getElem?_eq_some_iff.1 hv).1
        omega
      rw [hs.2.2 j hj]
      exact hv
    · intro r hr
      obtain ⟨i, hi, rfl⟩ := List.mem_map.1 hr
      obtain ⟨cs, y, e1, e2⟩ := each i (List.mem_range.1 hi)
      rw [e1, Option.getD_some]
      exact ⟨m, y, e2⟩
end
theorem Rows'.keep {w w' : World} {n : Nat} {a : Option Addr} {len cap : Nat} {xs : List (List Value)} (h : Rows' w n a len cap xs) (o : Only (fun _ => False) w w') : Rows' w' n a len cap xs := by
  rcases h with h | ⟨x, h1, h2, h3, h4, h5, h6⟩
  · exact .inl h
  · refine .inr ⟨x, h1, h2, h3, h4, h5, fun i k hi j v hj => ?_⟩
    have hc := h6 i k hi j v hj
    rw [← hc]
    exact World.cell?_of_block (o.block _ (World.block_lt_of_cell? w _ hc) (fun h => h))
theorem Rows'.at {w : World} {n : Nat} {a : Option Addr} {len cap : Nat} {xs : List (List Value)} (h : Rows' w n a len cap xs) (hn : 0 < n) {i : Nat} (hi : i < xs.length) :
    ∃ b o, a = some ⟨b, o, none⟩ ∧ xs.length = len ∧ len ≤ cap := by
  rcases h with ⟨_, _, _, rfl⟩ | ⟨x, rfl, h2, h3, h4, h5, h6⟩
  · simp at hi
  · have h0 : 0 < xs.length := by omega
    have hk := h5 xs[0] (List.getElem_mem h0)
    have hc := h6 0 xs[0] (List.getElem?_eq_getElem h0) 0 _ (List.getElem?_eq_getElem (by omega))
    obtain ⟨b, o, sp⟩ := x
    cases sp with
    | none => exact ⟨b, o, rfl, h4, h2⟩
    | some z =>
      simp [Addr.add, World.cell?] at hc
      split at hc <;> cases hc
theorem Rows'.len {w : World} {n : Nat} {a : Option Addr} {len cap : Nat} {xs : List (List Value)} (h : Rows' w n a len cap xs) : xs.length = len := by
  rcases h with ⟨_, h, _, h'⟩ | ⟨_, _, _, _, h, _⟩
  · rw [h, h']; rfl
  · exact h
theorem Rows'.load {w : World} {n : Nat} {b o len cap : Nat} {xs : List (List Value)} (h : Rows' w n (some ⟨b, o, none⟩) len cap xs) {i : Nat} {k : List Value} (hi : xs[i]? = some k) (ty : TypeId) (d : TypeDesc)
    (hu : Try.prog.underlying ty = some d) (hd : isAggD d = true) (hf : (Try.prog.info? ty).map (·.size) = some n) :
    (loadVar ty ⟨b, o + i * n, none⟩).run Try.prog w = .ok (.agg k.toArray) w := by
  rcases h with ⟨h, _⟩ | ⟨x, hx, h2, h3, h4, h5, h6⟩
  · cases h
  · obtain rfl := Option.some.inj hx
    have hkl : k.length = n := h5 k (List.mem_of_getElem? hi)
    have hadd : (⟨b, o, none⟩ : Addr).add (i * n) = ⟨b, o + i * n, none⟩ := by unfold Addr.add; split <;> simp_all
    have hl := run_loadCells_list (P := Try.prog) w ⟨b, o + i * n, none⟩ k (fun j v hv => by rw [← hadd]; exact h6 i k hi j v hv)
    rw [hkl] at hl
    cases hq : Try.prog.info? ty with
    | none => simp [hq] at hf
    | some i =>
      have hs : i.size = n := by simpa [hq] using hf
      simp [loadVar, Sem.run_bind, isAgg_run (P := Try.prog) hu (by cases d <;> first | rfl | (simp [isAggD] at hd)), sizeOf, typeInfo, hq, hs, hl]


theorem below_new (w : World) (o : Obj) : Below w.heap.size w (w.alloc o) := ((Only.refl (fun _ => False) w).alloc o).below (fun _ h => h.elim)

def wf64 (x : Int) : Prop := (Lit.int .i64 x).wf = true
theorem wf64_iff {x : Int} : wf64 x ↔ -9223372036854775808 ≤ x ∧ x ≤ 9223372036854775807 := by
  unfold wf64
  simp [Lit.wf, IntKind.min, IntKind.max, IntKind.signed, IntKind.bits]
def wf8 (x : Int) : Prop := (Lit.int .u8 x).wf = true
theorem wf8_iff {x : Int} : wf8 x ↔ 0 ≤ x ∧ x ≤ 255 := by
  unfold wf8
  simp [Lit.wf, IntKind.min, IntKind.max, IntKind.signed, IntKind.bits]
structure Ac where
  kind : Int
  seg : Int
  page : Int
  n : Int
  keep : Int
  junk : Int
  s : ByteArray
def acL (x : Ac) : List Value := [.int .i64 x.kind, .int .i64 x.seg, .int .i64 x.page, .int .i64 x.n, .int .i64 x.keep, .int .u8 x.junk, .string x.s]
def acA (x : Ac) : Array Value := #[.int .i64 x.kind, .int .i64 x.seg, .int .i64 x.page, .int .i64 x.n, .int .i64 x.keep, .int .u8 x.junk, .string x.s]
structure Ac.Wf (x : Ac) : Prop where
  kind : wf64 x.kind
  seg : wf64 x.seg
  page : wf64 x.page
  n : wf64 x.n
  keep : wf64 x.keep
  junk : wf8 x.junk
section
variable {H : Type} {enc : TypeId × Value → H} {w : World} {base : Nat} {spare : Nat → Bool} {held : Bool} {fuel : Nat} {x : DataW H × List MemPlace}
set_option maxRecDepth 100000 in
theorem trod_ac {cs : List Value} (h : DataW.trod enc Try.prog w base spare held fuel 57 cs = some x) : ∃ a : Ac, a.Wf ∧ cs = acL a := by
  obtain ⟨xs, n, _, _, hl, hlen, hf⟩ := DataW.trod_struct Try.underlying57 h
  have h57 : Try.prog.cellsOf 57 = 7 := by kernel_rfl
  rw [h57] at hl
  match xs, hlen with
  | [y0, y1, y2, y3, y4, y5, y6], _ =>
    obtain ⟨z0, e0, _, w0⟩ := DataW.trod_int Try.underlying3 (hf 0 _ rfl)
    obtain ⟨z1, e1, _, w1⟩ := DataW.trod_int Try.underlying3 (hf 1 _ rfl)
    obtain ⟨z2, e2, _, w2⟩ := DataW.trod_int Try.underlying3 (hf 2 _ rfl)
    obtain ⟨z3, e3, _, w3⟩ := DataW.trod_int Try.underlying3 (hf 3 _ rfl)
    obtain ⟨z4, e4, _, w4⟩ := DataW.trod_int Try.underlying3 (hf 4 _ rfl)
    obtain ⟨z5, e5, _, w5⟩ := DataW.trod_int Try.underlying5 (hf 5 _ rfl)
    obtain ⟨z6, e6, _, _⟩ := DataW.trod_string Try.underlying9 (hf 6 _ rfl)
    refine ⟨⟨z0, z1, z2, z3, z4, z5, z6⟩, ⟨w0, w1, w2, w3, w4, w5⟩, ?_⟩
    have h3 : Try.prog.cellsOf 3 = 1 := by kernel_rfl
    have h5 : Try.prog.cellsOf 5 = 1 := by kernel_rfl
    have h9 : Try.prog.cellsOf 9 = 1 := by kernel_rfl
    change List.take (Try.prog.cellsOf 3) (List.drop 0 cs) = _ at e0
    change List.take (Try.prog.cellsOf 3) (List.drop 1 cs) = _ at e1
    change List.take (Try.prog.cellsOf 3) (List.drop 2 cs) = _ at e2
    change List.take (Try.prog.cellsOf 3) (List.drop 3 cs) = _ at e3
    change List.take (Try.prog.cellsOf 3) (List.drop 4 cs) = _ at e4
    change List.take (Try.prog.cellsOf 5) (List.drop 5 cs) = _ at e5
    change List.take (Try.prog.cellsOf 9) (List.drop 6 cs) = _ at e6
    rw [h3] at e0 e1 e2 e3 e4
    rw [h5] at e5
    rw [h9] at e6
    match cs, hl with
    | [c0, c1, c2, c3, c4, c5, c6], _ =>
      simp at e0 e1 e2 e3 e4 e5 e6
      rw [e0, e1, e2, e3, e4, e5, e6]
      rfl
theorem trod_num {cs : List Value} (h : DataW.trod enc Try.prog w base spare held fuel 3 cs = some x) : ∃ a : Int, wf64 a ∧ cs = [.int .i64 a] := by
  obtain ⟨z0, e0, _, w0⟩ := DataW.trod_int Try.underlying3 h
  exact ⟨z0, w0, e0⟩
end
/-- A list of rows, each of which is of something. -/
theorem rows_map {α : Type} {f : α → List Value} {p : α → Prop} : ∀ (xs : List (List Value)), (∀ r ∈ xs, ∃ a, p a ∧ r = f a) → ∃ ys : List α, (∀ a ∈ ys, p a) ∧ xs = ys.map f
  | [], _ => ⟨[], by simp, rfl⟩
  | r :: xs, h => by
    obtain ⟨a, ha, rfl⟩ := h r (by simp)
    obtain ⟨ys, h1, rfl⟩ := rows_map xs (fun r hr => h r (by simp [hr]))
    exact ⟨a :: ys, by intro b hb; rcases List.mem_cons.1 hb with rfl | hb; exact ha; exact h1 b hb, rfl⟩
/-- The value v is a slice of these acts. -/
def AL (w : World) (v : Value) (l : List Ac) : Prop := ∃ a cap, v = .slice a l.length cap ∧ Rows' w 7 a l.length cap (l.map acL)
theorem AL.keep {w w' : World} {v : Value} {l : List Ac} (h : AL w v l) (o : Only (fun _ => False) w w') : AL w' v l := by
  obtain ⟨a, cap, rfl, h⟩ := h
  exact ⟨a, cap, rfl, h.keep o⟩
theorem AL.at {w : World} {v : Value} {l : List Ac} (h : AL w v l) {i : Nat} (hi : i < l.length) : ∃ b o cap, v = .slice (some ⟨b, o, none⟩) l.length cap ∧ l.length ≤ cap ∧
    (loadVar 57 ⟨b, o + i * 7, none⟩).run Try.prog w = .ok (.agg (acA l[i])) w := by
  obtain ⟨a, cap, rfl, h⟩ := h
  obtain ⟨b, o, rfl, h1, h2⟩ := h.at (by decide) (i := i) (by simpa using hi)
  have hr : (l.map acL)[i]? = some (acL l[i]) := by simp [hi]
  have hl := h.load hr 57 _ Try.underlying57 rfl (by kernel_rfl)
  exact ⟨b, o, cap, rfl, h2, hl⟩
def AcRow (w : World) (a : Option Addr) (len cap : Nat) (ys : List Ac) : Prop := AL w (.slice a len cap) ys ∧ ys.length = len ∧ ∀ x ∈ ys, x.Wf
theorem open_acts {H : Type} {enc : TypeId × Value → H} {w : World} {base : Nat} {spare : Nat → Bool} {held : Bool} {a : Option Addr} {len cap : Nat} {d : DataW H} {p : List MemPlace}
    (h : DataW.Trod enc Try.prog w base spare held 46 (.slice a len cap) d p) : ∃ ys, AcRow w a len cap ys := by
  obtain ⟨xs, h1, h2⟩ := open_rows Try.underlying46 (by kernel_rfl : Try.prog.cellsOf 57 = 7) h
  obtain ⟨ys, h3, rfl⟩ := rows_map (p := Ac.Wf) (f := acL) xs (fun r hr => by obtain ⟨m, y, ht⟩ := h2 r hr; exact trod_ac ht)
  have hl : ys.length = len := by
    have := h1.len
    rwa [List.length_map] at this
  subst hl
  exact ⟨ys, ⟨a, cap, rfl, h1⟩, rfl, h3⟩
/-- The value v is a slice of these numbers. -/
def IL (w : World) (v : Value) (l : List Int) : Prop := ∃ a cap, v = .slice a l.length cap ∧ l.length ≤ cap ∧ cap ≤ maxLen ∧ ∀ (i : Nat) (z : Int), l[i]? = some z → ∃ b o, a = some ⟨b, o, none⟩ ∧ w.cell? ⟨b, o + i, none⟩ = some (.int .i64 z)
theorem IL.keep {w w' : World} {v : Value} {l : List Int} (h : IL w v l) (o : Only (fun _ => False) w w') : IL w' v l := by
  obtain ⟨a, cap, rfl, h1, h2, h3⟩ := h
  refine ⟨a, cap, rfl, h1, h2, fun i u hu => ?_⟩
  obtain ⟨b, q, rfl, hc⟩ := h3 i u hu
  refine ⟨b, q, rfl, ?_⟩
  rw [← hc]
  exact World.cell?_of_block (o.block _ (World.block_lt_of_cell? w _ hc) (fun x => x))
def NumRow (w : World) (a : Option Addr) (len cap : Nat) (zs : List Int) : Prop := IL w (.slice a len cap) zs ∧ zs.length = len ∧ ∀ z ∈ zs, wf64 z
theorem open_nums {H : Type} {enc : TypeId × Value → H} {w : World} {base : Nat} {spare : Nat → Bool} {held : Bool} {a : Option Addr} {len cap : Nat} {d : DataW H} {p : List MemPlace}
    (h : DataW.Trod enc Try.prog w base spare held 22 (.slice a len cap) d p) : ∃ zs, NumRow w a len cap zs := by
  obtain ⟨xs, h1, h2⟩ := open_rows Try.underlying22 (by kernel_rfl : Try.prog.cellsOf 3 = 1) h
  obtain ⟨ys, h3, rfl⟩ := rows_map (p := wf64) (f := fun z => [.int .i64 z]) xs (fun r hr => by obtain ⟨m, y, ht⟩ := h2 r hr; exact trod_num ht)
  have hl : ys.length = len := by
    have := h1.len
    rwa [List.length_map] at this
  subst hl
  refine ⟨ys, ?_, rfl, h3⟩
  have hat : ∀ i, i < ys.length → ∃ b o, a = some ⟨b, o, none⟩ := fun i hi => by
    obtain ⟨b, o, he, _⟩ := h1.at (by decide) (i := i) (by simpa using hi)
    exact ⟨b, o, he⟩
  rcases h1 with ⟨rfl, hl0, rfl, _⟩ | ⟨x, rfl, h4, h5, _, _, h6⟩
  · exact ⟨none, 0, rfl, by omega, by unfold maxLen; omega, fun i u hu => by
      have := (List.getElem?_eq_some_iff.1 hu).1
      omega⟩
  · refine ⟨some x, cap, rfl, h4, h5, fun i u hu => ?_⟩
    obtain ⟨b, o, he⟩ := hat i (List.getElem?_eq_some_iff.1 hu).1
    cases he
    refine ⟨b, o, rfl, ?_⟩
    have := h6 i [.int .i64 u] (by simp [hu]) 0 (.int .i64 u) rfl
    have hadd : ((⟨b, o, none⟩ : Addr).add (i * 1)).add 0 = ⟨b, o + i, none⟩ := by unfold Addr.add; split <;> simp_all
    rwa [hadd] at this
/-- Has the slice this number? -/
theorem contains_il {w W : World} {v : Value} {l : List Int} (h : IL w v l) (o : Only (fun _ => False) w W) (x : Int) : Calls Try.prog 33 #[v, .int .i64 x] W fun e w' => e = .returned (.bool (l.contains x)) ∧ W = w' := by
  obtain ⟨a, cap, rfl, h1, h2, h3⟩ := h.keep o
  cases l with
  | nil =>
    refine (Try.slices_Contains_int_empty a cap x W).mono ?_
    rintro e w' ⟨rfl, rfl⟩
    exact ⟨rfl, rfl⟩
  | cons y ys =>
    obtain ⟨b, q, rfl, _⟩ := h3 0 y rfl
    have := Try.slices_Contains_int b q (y :: ys).length cap (y :: ys) x W (Nat.le_refl _) (by unfold maxLen at h2; omega) (fun j hj => by
      obtain ⟨b2, q2, he, hc⟩ := h3 j _ (List.getElem?_eq_getElem hj)
      cases he
      rw [hc]
      congr 2
      rw [List.getD_eq_getElem?_getD, List.getElem?_eq_getElem hj]
      rfl)
    refine this.mono ?_
    rintro e w' ⟨rfl, rfl⟩
    rw [List.take_of_length_le (Nat.le_refl _)]
    exact ⟨rfl, rfl⟩
end Go.Proofs.Ytjnjnkkdpglfhaa
