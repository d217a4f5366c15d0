/-
  A slice of acts, handed in: opened.
-/
import Derived.Test.YtfolmdcceefflaaKys
import Derived.Test.YtfolmdcceefflaaRfh
set_option linter.unusedVariables false
namespace Go.Proofs.Ytfolmdcceefflaa
open Go.RowKit

/-- The slice a, len, cap has these rows of n cells each. -/
def Rows' (w : World) (n : Nat) (a : Option Addr) (len cap : Nat) (xs : List (List Value)) : Prop :=
  (a = none ∧ len = 0 ∧ cap = 0 ∧ xs = []) ∨
  ∃ x, a = some x ∧ len ≤ cap ∧ cap ≤ maxLen ∧ xs.length = len ∧ (∀ r ∈ xs, r.length = n) ∧ ∀ i r, xs[i]? = some r → ∀ j v, r[j]? = some v → w.cell? ((x.add (i * n)).add j) = some v

section
variable {H : Type} {enc : TypeId × Value → H} {w : World} {base : Nat} {spare : Nat → Bool} {held : Bool}

theorem open_rows {ty e n : Nat} {a : Option Addr} {len cap : Nat} {d : DataW H} {p : List MemPlace} (hu : Try.prog.underlying ty = some (.slice e)) (hc : Try.prog.cellsOf e = n) (h : DataW.Trod enc Try.prog w base spare held ty (.slice a len cap) d p) :
    ∃ xs, Rows' w n a len cap xs ∧ ∀ r ∈ xs, ∃ m y, DataW.trod enc Try.prog w base spare held m e r = some y := by
  obtain ⟨fuel, hf⟩ := h
  rcases DataW.trod_slice hu hf with ⟨hcs, _⟩ | ⟨x, l, c, elems, rest, m, _, hcs, _, hb, hlc, hcm, hel, hall, _, _⟩
  · simp [Value.cells] at hcs
    obtain ⟨rfl, rfl, rfl⟩ := hcs
    exact ⟨[], .inl ⟨rfl, rfl, rfl, rfl⟩, by simp⟩
  · simp [Value.cells] at hcs
    obtain ⟨rfl, rfl, rfl⟩ := hcs
    rw [hc] at hall
    have each : ∀ i, i < len → ∃ cs y, w.cells? base (x.add (i * n)) n = some cs ∧ DataW.trod enc Try.prog w base spare held m e cs = some y := by
      intro i hi
      have he := hall i hi
      rw [List.getElem?_eq_getElem (by omega : i < elems.length)] at he
      obtain ⟨cs, hc, ht⟩ := Option.bind_eq_some_iff.1 he
      exact ⟨cs, _, hc, ht⟩
    refine ⟨(List.range len).map fun i => (w.cells? base (x.add (i * n)) n).getD [], .inr ⟨x, rfl, hlc, hcm, by simp, ?_, ?_⟩, ?_⟩
    · intro r hr
      obtain ⟨i, hi, rfl⟩ := List.mem_map.1 hr
      obtain ⟨cs, y, e1, _⟩ := each i (List.mem_range.1 hi)
      rw [e1, Option.getD_some]
      exact (World.cells?_some e1).2.1
    · intro i r hr j v hv
      have hi : i < len := by
        have := (List.getElem?_eq_some_iff.1 hr).1
        simpa using this
      obtain ⟨cs, y, e1, _⟩ := each i hi
      have hrr : r = cs := by
        rw [List.getElem?_map, List.getElem?_range hi, Option.map_some, e1, Option.getD_some] at hr
        exact (Option.some.inj hr).symm
      subst hrr
      have hs := World.cells?_some e1
      have hj : j < n := by
        have := (List.getElem?_eq_some_iff.1 hv).1
        omega
      rw [hs.2.2 j hj]
      exact hv
    · intro r hr
      obtain ⟨i, hi, rfl⟩ := List.mem_map.1 hr
      obtain ⟨cs, y, e1, e2⟩ := each i (List.mem_range.1 hi)
      rw [e1, Option.getD_some]
      exact ⟨m, y, e2⟩
end
theorem Rows'.keep {w w' : World} {n : Nat} {a : Option Addr} {len cap : Nat} {xs : List (List Value)} (h : Rows' w n a len cap xs) (o : Only (fun _ => False) w w') : Rows' w' n a len cap xs := by
  rcases h with h | ⟨x, h1, h2, h3, h4, h5, h6⟩
  · exact .inl h
  · refine .inr ⟨x, h1, h2, h3, h4, h5, fun i k hi j v hj => ?_⟩
    have hc := h6 i k hi j v hj
    rw [← hc]
    exact World.cell?_of_block (o.block _ (World.block_lt_of_cell? w _ hc) (fun h => h))
theorem Rows'.at {w : World} {n : Nat} {a : Option Addr} {len cap : Nat} {xs : List (List Value)} (h : Rows' w n a len cap xs) (hn : 0 < n) {i : Nat} (hi : i < xs.length) :
    ∃ b o, a = some ⟨b, o, none⟩ ∧ xs.length = len ∧ len ≤ cap := by
  rcases h with ⟨_, _, _, rfl⟩ | ⟨x, rfl, h2, h3, h4, h5, h6⟩
  · simp at hi
  · have h0 : 0 < xs.length := by omega
    have hk := h5 xs[0] (List.getElem_mem h0)
    have hc := h6 0 xs[0] (List.getElem?_eq_getElem h0) 0 _ (List.getElem?_eq_getElem (by omega))
    obtain ⟨b, o, sp⟩ := x
    cases sp with
    | none => exact ⟨b, o, rfl, h4, h2⟩
    | some z =>
      simp [Addr.add, World.cell?] at hc
      split at hc <;> cases hc
theorem Rows'.len {w : World} {n : Nat} {a : Option Addr} {len cap : Nat} {xs : List (List Value)} (h : Rows' w n a len cap xs) : xs.length = len := by
  rcases h with ⟨_, h, _, h'⟩ | ⟨_, _, _, _, h, _⟩
  · rw [h, h']; rfl
  · exact h
theorem Rows'.load {w : World} {n : Nat} {b o len cap : Nat} {xs : List (List Value)} (h : Rows' w n (some ⟨b, o, none⟩) len cap xs) {i : Nat} {k : List Value} (hi : xs[i]? = some k) (ty : TypeId) (d : TypeDesc)
    (hu : Try.prog.underlying ty = some d) (hd : isAggD d = true) (hf : (Try.prog.info? ty).map (·.size) = some n) :
    (loadVar ty ⟨b, o + i * n, none⟩).run Try.prog w = .ok (.agg k.toArray) w := by
  rcases h with ⟨h, _⟩ | ⟨x, hx, h2, h3, h4, h5, h6⟩
  · cases h
  · obtain rfl := Option.some.inj hx
    have hkl : k.length = n := h5 k (List.mem_of_getElem? hi)
    have hadd : (⟨b, o, none⟩ : Addr).add (i * n) = ⟨b, o + i * n, none⟩ := by unfold Addr.add; split <;> simp_all
    have hl := run_loadCells_list (P := Try.prog) w ⟨b, o + i * n, none⟩ k (fun j v hv => by rw [← hadd]; exact h6 i k hi j v hv)
    rw [hkl] at hl
    cases hq : Try.prog.info? ty with
    | none => simp [hq] at hf
    | some i =>
      have hs : i.size = n := by simpa [hq] using hf
      simp [loadVar, Sem.run_bind, isAgg_run (P := Try.prog) hu (by cases d <;> first | rfl | (simp [isAggD] at hd)), sizeOf, typeInfo, hq, hs, hl]

/-- An act. -/
structure Ac where
  kind : Int
  i : Int
  n : Int
  keep : Int
  k : List UInt8
  ep : Int
structure Ac.Ok (a : Ac) : Prop where
  len : a.k.length = 16
  n : a.n ≤ 9223372036854775807
def acL (a : Ac) : List Value := [.int .i64 a.kind, .int .i64 a.i, .int .i64 a.n, .int .i64 a.keep] ++ kyL a.k ++ [.int .u64 a.ep]
def acA (a : Ac) : Array Value := (acL a).toArray
theorem acL_len {a : Ac} (h : a.Ok) : (acL a).length = 21 := by simp [acL, kyL_len h.len]
theorem acA_size {a : Ac} (h : a.Ok) : (acA a).size = 21 := by simp [acA, acL_len h]
theorem acA_one (a : Ac) : ∀ v ∈ (acA a).toList, v.oneCell' = true := by
  intro v hv
  simp only [acA, acL, List.toList_toArray, List.mem_append, List.mem_cons, List.not_mem_nil, or_false] at hv
  rcases hv with ((rfl | rfl | rfl | rfl) | h) | rfl
  all_goals first | rfl | exact kyL_one _ _ h
theorem ac_0 (a : Ac) : (acA a)[0]? = some (.int .i64 a.kind) := by simp [acA, acL]
theorem ac_1 (a : Ac) : (acA a)[1]? = some (.int .i64 a.i) := by simp [acA, acL]
theorem ac_2 (a : Ac) : (acA a)[2]? = some (.int .i64 a.n) := by simp [acA, acL]
theorem ac_3 (a : Ac) : (acA a)[3]? = some (.int .i64 a.keep) := by simp [acA, acL]
theorem ac_k {a : Ac} (h : a.Ok) : (acA a).extract 4 (4 + 16) = kyA a.k := ext_mid _ _ _ rfl (kyL_len h.len)
theorem ac_ep {a : Ac} (h : a.Ok) : (acA a)[20]? = some (.int .u64 a.ep) := by
  rw [acA, acL, List.getElem?_toArray, List.getElem?_append_right (by simp [kyL_len h.len])]
  simp [kyL_len h.len]
def acZ : Ac := ⟨0, 0, 0, 0, ky0, 0⟩
theorem acZ_ok : acZ.Ok := ⟨rfl, by decide⟩
theorem zero53 (w : World) : (zeroValue 53).run Try.prog w = .ok (.agg (acA acZ)) w := by kernel_rfl
theorem info53s : (Try.prog.info? 53).map (·.size) = some 21 := by kernel_rfl

theorem cut21a {α : Type} (cs : List α) (h : cs.length = 21) : cs = (cs.drop 0).take 1 ++ (cs.drop 1).take 1 ++ (cs.drop 2).take 1 ++ (cs.drop 3).take 1 ++ (cs.drop 4).take 16 ++ (cs.drop 20).take 1 := by
  have e : cs.take 21 = cs := List.take_of_length_le (by omega)
  conv => lhs; rw [← e]
  rw [show 21 = 1 + 1 + 1 + 1 + 16 + 1 from rfl, List.take_add, List.take_add, List.take_add, List.take_add, List.take_add]
  rfl
theorem i64_top {z : Int} (h : (Lit.int .i64 z).wf = true) : z ≤ 9223372036854775807 := by
  simp [Lit.wf, IntKind.min, IntKind.max, IntKind.signed, IntKind.bits] at h
  omega
section
variable {H : Type} {enc : TypeId × Value → H} {w : World} {base : Nat} {spare : Nat → Bool} {held : Bool} {fuel : Nat} {x : DataW H × List MemPlace}
theorem trod_ac {cs : List Value} (h : DataW.trod enc Try.prog w base spare held fuel 53 cs = some x) : ∃ a : Ac, a.Ok ∧ cs = acL a := by
  obtain ⟨xs, n, _, _, hl, hlen, hf⟩ := DataW.trod_struct Try.underlying53 h
  have h53 : Try.prog.cellsOf 53 = 21 := by kernel_rfl
  rw [h53] at hl
  match xs, hlen with
  | [y0, y1, y2, y3, y4, y5], _ =>
    obtain ⟨z0, e0, _⟩ := DataW.trod_int Try.underlying3 (hf 0 _ rfl)
    obtain ⟨z1, e1, _, w1⟩ := DataW.trod_int Try.underlying3 (hf 1 _ rfl)
    obtain ⟨z2, e2, _, w2⟩ := DataW.trod_int Try.underlying3 (hf 2 _ rfl)
    obtain ⟨z3, e3, _, w3⟩ := DataW.trod_int Try.underlying3 (hf 3 _ rfl)
    obtain ⟨k, hk, e4⟩ := trod_key (hf 4 _ rfl)
    obtain ⟨z5, e5, _, w5⟩ := DataW.trod_int Try.underlying24 (hf 5 _ rfl)
    refine ⟨⟨z0, z1, z2, z3, k, z5⟩, ⟨hk, i64_top w2⟩, ?_⟩
    have h3 : Try.prog.cellsOf 3 = 1 := by kernel_rfl
    have h23 : Try.prog.cellsOf 23 = 16 := by kernel_rfl
    have h24 : Try.prog.cellsOf 24 = 1 := by kernel_rfl
    change List.take (Try.prog.cellsOf 3) (List.drop 0 cs) = _ at e0
    change List.take (Try.prog.cellsOf 3) (List.drop 1 cs) = _ at e1
    change List.take (Try.prog.cellsOf 3) (List.drop 2 cs) = _ at e2
    change List.take (Try.prog.cellsOf 3) (List.drop 3 cs) = _ at e3
    change List.take (Try.prog.cellsOf 23) (List.drop 4 cs) = _ at e4
    change List.take (Try.prog.cellsOf 24) (List.drop 20 cs) = _ at e5
    rw [h3] at e0 e1 e2 e3
    rw [h23] at e4
    rw [h24] at e5
    rw [cut21a cs hl, e0, e1, e2, e3, e4, e5]
    rw [acL]
    simp
end
/-- A list of rows, each of which is of something. -/
theorem rows_map {α : Type} {f : α → List Value} {p : α → Prop} : ∀ (xs : List (List Value)), (∀ r ∈ xs, ∃ a, p a ∧ r = f a) → ∃ ys : List α, (∀ a ∈ ys, p a) ∧ xs = ys.map f
  | [], _ => ⟨[], by simp, rfl⟩
  | r :: xs, h => by
    obtain ⟨a, ha, rfl⟩ := h r (by simp)
    obtain ⟨ys, h1, rfl⟩ := rows_map xs (fun r hr => h r (by simp [hr]))
    exact ⟨a :: ys, by intro b hb; rcases List.mem_cons.1 hb with rfl | hb; exact ha; exact h1 b hb, rfl⟩
def ActRow (w : World) (a : Option Addr) (len cap : Nat) (ys : List Ac) : Prop := Rows' w 21 a len cap (ys.map acL) ∧ ∀ x ∈ ys, x.Ok
theorem open_acts {H : Type} {enc : TypeId × Value → H} {w : World} {base : Nat} {spare : Nat → Bool} {held : Bool} {a : Option Addr} {len cap : Nat} {d : DataW H} {p : List MemPlace}
    (h : DataW.Trod enc Try.prog w base spare held 44 (.slice a len cap) d p) : ∃ ys, ActRow w a len cap ys := by
  obtain ⟨xs, h1, h2⟩ := open_rows Try.underlying44 (by kernel_rfl : Try.prog.cellsOf 53 = 21) h
  obtain ⟨ys, h3, rfl⟩ := rows_map (p := Ac.Ok) xs (fun r hr => by obtain ⟨m, y, ht⟩ := h2 r hr; exact trod_ac ht)
  exact ⟨ys, h1, h3⟩
end Go.Proofs.Ytfolmdcceefflaa
