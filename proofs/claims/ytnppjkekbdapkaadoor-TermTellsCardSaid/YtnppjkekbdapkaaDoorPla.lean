/-
  Nodes as arguments; place, number.
-/
import Derived.Test.YtnppjkekbdapkaaDoorMay
set_option linter.unusedVariables false
namespace Go.Proofs.YtnppjkekbdapkaaDoor
open Go.RowKit

def wf64 (x : Int) : Prop := (Lit.int .i64 x).wf = true
theorem wf64_iff {x : Int} : wf64 x ↔ -9223372036854775808 ≤ x ∧ x ≤ 9223372036854775807 := by
  unfold wf64
  simp [Lit.wf, IntKind.min, IntKind.max, IntKind.signed, IntKind.bits]
structure Nd.Wf (x : Nd) : Prop where
  op : wf64 x.op
  a : wf64 x.a
  b : wf64 x.b
section
variable {H : Type} {enc : TypeId × Value → H} {w : World} {base : Nat} {spare : Nat → Bool} {held : Bool} {fuel : Nat} {x : DataW H × List MemPlace}
theorem trod_nd {cs : List Value} (h : DataW.trod enc Tryd.prog w base spare held fuel 27 cs = some x) : ∃ a : Nd, a.Wf ∧ cs = ndL a := by
  obtain ⟨xs, n, _, _, hl, hlen, hf⟩ := DataW.trod_struct Tryd.underlying27 h
  have h34 : Tryd.prog.cellsOf 27 = 3 := by kernel_rfl
  rw [h34] at hl
  match xs, hlen with
  | [y0, y1, y2], _ =>
    obtain ⟨z0, e0, _, w0⟩ := DataW.trod_int Tryd.underlying3 (hf 0 _ rfl)
    obtain ⟨z1, e1, _, w1⟩ := DataW.trod_int Tryd.underlying3 (hf 1 _ rfl)
    obtain ⟨z2, e2, _, w2⟩ := DataW.trod_int Tryd.underlying3 (hf 2 _ rfl)
    refine ⟨⟨z0, z1, z2⟩, ⟨w0, w1, w2⟩, ?_⟩
    have h3 : Tryd.prog.cellsOf 3 = 1 := by kernel_rfl
    change List.take (Tryd.prog.cellsOf 3) (List.drop 0 cs) = _ at e0
    change List.take (Tryd.prog.cellsOf 3) (List.drop 1 cs) = _ at e1
    change List.take (Tryd.prog.cellsOf 3) (List.drop 2 cs) = _ at e2
    rw [h3] at e0 e1 e2
    match cs, hl with
    | [c0, c1, c2], _ =>
      simp at e0 e1 e2
      rw [e0, e1, e2]
      rfl
end
/-- A list of rows, each of which is of something. -/
theorem rows_map {α : Type} {f : α → List Value} {p : α → Prop} : ∀ (xs : List (List Value)), (∀ r ∈ xs, ∃ a, p a ∧ r = f a) → ∃ ys : List α, (∀ a ∈ ys, p a) ∧ xs = ys.map f
  | [], _ => ⟨[], by simp, rfl⟩
  | r :: xs, h => by
    obtain ⟨a, ha, rfl⟩ := h r (by simp)
    obtain ⟨ys, h1, rfl⟩ := rows_map xs (fun r hr => h r (by simp [hr]))
    exact ⟨a :: ys, by intro b hb; rcases List.mem_cons.1 hb with rfl | hb; exact ha; exact h1 b hb, rfl⟩
def NdRow (w : World) (a : Option Addr) (len cap : Nat) (ys : List Nd) : Prop := NL w (.slice a len cap) ys ∧ ys.length = len ∧ ∀ x ∈ ys, x.Wf
theorem open_nodes {H : Type} {enc : TypeId × Value → H} {w : World} {base : Nat} {spare : Nat → Bool} {held : Bool} {a : Option Addr} {len cap : Nat} {d : DataW H} {p : List MemPlace}
    (h : DataW.Trod enc Tryd.prog w base spare held 22 (.slice a len cap) d p) : ∃ ys, NdRow w a len cap ys := by
  obtain ⟨xs, h1, h2⟩ := open_rows Tryd.underlying22 (by kernel_rfl : Tryd.prog.cellsOf 27 = 3) h
  obtain ⟨ys, h3, rfl⟩ := rows_map (p := Nd.Wf) (f := ndL) xs (fun r hr => by obtain ⟨m, y, ht⟩ := h2 r hr; exact trod_nd ht)
  have hl : ys.length = len := by
    have := h1.len
    rwa [List.length_map] at this
  subst hl
  exact ⟨ys, ⟨a, cap, rfl, h1⟩, rfl, h3⟩

set_option maxHeartbeats 4000000 in
theorem place_any (l : List Nd) (i : Int) (v : Value) (w : World) (hl : NL w v l) (hlen : l.length ≤ 1000000) (hi : wf64 i) : Calls Tryd.prog 21 #[v, .int .i64 i] w fun e w' => e = .returned (.bool (decide (0 ≤ i ∧ i < (l.length : Int)) && mayB l)) ∧ Only (fun _ => False) w w' := by
  have HM := Lib.hid (may_any l v w hl hlen)
  rw [wf64_iff] at hi
  obtain ⟨ad, cap, rfl, hrow⟩ := hl
  clear hrow
  have HR := Lib.hid (Only.refl (fun _ => False) w)
  by_cases h0 : 0 ≤ i
  · by_cases h1 : i < (l.length : Int)
    · have HB : Hid ((decide (0 ≤ i ∧ i < (l.length : Int)) && mayB l) = mayB l) := show _ = _ by rw [decide_eq_true ⟨h0, h1⟩, Bool.true_and]
      rw [HB.out]
      obtain ⟨r, hr⟩ : ∃ r, mayB l = r := ⟨_, rfl⟩
      rw [hr] at HM ⊢
      clear hr HB
      go_enter Tryd.func21, Tryd.ntmps21
      go_wp2_with (go_at_call 7; refine HM.out.mono ?_; rintro e w1 ⟨rfl, k1⟩)
      go_ret
      exact ⟨rfl, Only.of_below k1⟩
    · have HB : Hid ((decide (0 ≤ i ∧ i < (l.length : Int)) && mayB l) = false) := show _ = _ by rw [decide_eq_false (fun h => h1 h.2), Bool.false_and]
      rw [HB.out]
      go_enter Tryd.func21, Tryd.ntmps21
      go_wp2_with fail
      go_ret
      exact ⟨rfl, HR.out⟩
  · have HB : Hid ((decide (0 ≤ i ∧ i < (l.length : Int)) && mayB l) = false) := show _ = _ by rw [decide_eq_false (fun h => h0 h.1), Bool.false_and]
    rw [HB.out]
    go_enter Tryd.func21, Tryd.ntmps21
    go_wp2_with fail
    go_ret
    exact ⟨rfl, HR.out⟩
theorem number_t (w : World) : Calls Tryd.prog 23 #[.bool true] w fun e w' => e = .returned (.int .i64 1) ∧ w' = w := by
  go_enter Tryd.func23, Tryd.ntmps23
  go_wp2
  go_ret
  exact ⟨rfl, rfl⟩
theorem number_f (w : World) : Calls Tryd.prog 23 #[.bool false] w fun e w' => e = .returned (.int .i64 0) ∧ w' = w := by
  go_enter Tryd.func23, Tryd.ntmps23
  go_wp2
  go_ret
  exact ⟨rfl, rfl⟩
end Go.Proofs.YtnppjkekbdapkaaDoor
