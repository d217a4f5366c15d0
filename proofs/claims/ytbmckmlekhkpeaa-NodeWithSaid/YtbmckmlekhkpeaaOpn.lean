/-
  A node, and a child, handed in by value: opened.
-/
import Derived.Test.YtbmckmlekhkpeaaNod
import Derived.OpenShut
import Derived.ChangeSame
import Derived.Lib.SmallJoins
import Derived.WideShapes
set_option linter.unusedVariables false
namespace Go.Proofs.Ytbmckmlekhkpeaa
open Go.RowKit Go.WideShapes

def byteOf (v : Value) : UInt8 := match v with | .int _ z => UInt8.ofNat z.toNat | _ => 0

theorem byteOf_int {z : Int} (h : (Lit.int .u8 z).wf = true) : Value.int .u8 ((byteOf (.int .u8 z)).toNat : Int) = .int .u8 z := by
  have hz : 0 ≤ z ∧ z ≤ 255 := by
    simp [Lit.wf, IntKind.min, IntKind.max, IntKind.signed, IntKind.bits] at h
    omega
  have : (z.toNat % 2 ^ 8 : Nat) = z.toNat := Nat.mod_eq_of_lt (by omega)
  simp only [byteOf, UInt8.toNat_ofNat']
  rw [this]
  congr 1
  omega

theorem cut21 {α : Type} (cs : List α) (h : cs.length = 21) : cs = (cs.drop 0).take 1 ++ (cs.drop 1).take 1 ++ (cs.drop 2).take 1 ++ (cs.drop 3).take 16 ++ (cs.drop 19).take 1 ++ (cs.drop 20).take 1 := by
  have e : cs.take 21 = cs := List.take_of_length_le (by omega)
  conv => lhs; rw [← e]
  rw [show 21 = 1 + 1 + 1 + 16 + 1 + 1 from rfl, List.take_add, List.take_add, List.take_add, List.take_add, List.take_add]
  rfl
theorem cut84 {α : Type} (cs : List α) (h : cs.length = 84) : cs = (cs.drop (0 * 21)).take 21 ++ (cs.drop (1 * 21)).take 21 ++ (cs.drop (2 * 21)).take 21 ++ (cs.drop (3 * 21)).take 21 := by
  have e : cs.take 84 = cs := List.take_of_length_le (by omega)
  conv => lhs; rw [← e]
  rw [show 84 = 21 + 21 + 21 + 21 from rfl, List.take_add, List.take_add, List.take_add]
  rfl
theorem cut85 {α : Type} (cs : List α) (h : cs.length = 85) : cs = (cs.drop 0).take 1 ++ (cs.drop 1).take 84 := by
  have e : cs.take 85 = cs := List.take_of_length_le (by omega)
  conv => lhs; rw [← e]
  rw [show 85 = 1 + 84 from rfl, List.take_add]
  rfl

section
variable {H : Type} {enc : TypeId × Value → H} {w : World} {base : Nat} {spare : Nat → Bool} {held : Bool} {fuel : Nat} {x : DataW H × List MemPlace}

theorem trod_key {cs : List Value} (h : DataW.trod enc Try.prog w base spare held fuel 24 cs = some x) : ∃ k : List UInt8, k.length = 16 ∧ cs = kyL k := by
  obtain ⟨xs, m, _, _, hl, hn, hel⟩ := DataW.trod_array (Try.underlying24.trans (by kernel_rfl)) h
  have h24 : Try.prog.cellsOf 24 = 16 := by kernel_rfl
  have h5 : Try.prog.cellsOf 5 = 1 := by kernel_rfl
  rw [h24] at hl
  refine ⟨cs.map byteOf, by simp [hl], ?_⟩
  apply List.ext_getElem?
  intro i
  by_cases hi : i < 16
  · have he := hel i hi
    rw [h5, List.getElem?_eq_getElem (by omega : i < xs.length)] at he
    obtain ⟨n, e1, _, hw⟩ := DataW.trod_int Try.underlying5 he
    have hc : cs[i]? = some (.int .u8 n) := by
      have h0 : ((cs.drop (i * 1)).take 1)[0]? = some (.int .u8 n) := by rw [e1]; rfl
      simpa using h0
    simp only [kyL, List.map_map, List.getElem?_map, hc, Option.map_some, Function.comp]
    rw [byteOf_int hw]
  · rw [List.getElem?_eq_none (by omega), List.getElem?_eq_none (by simp [kyL]; omega)]

theorem i64_wf {z : Int} (h : (Lit.int .i64 z).wf = true) : -9223372036854775808 ≤ z ∧ z ≤ 9223372036854775807 := by
  simp [Lit.wf, IntKind.min, IntKind.max, IntKind.signed, IntKind.bits] at h
  omega
theorem u64_wf {z : Int} (h : (Lit.int .u64 z).wf = true) : 0 ≤ z ∧ z ≤ 18446744073709551615 := by
  simp [Lit.wf, IntKind.min, IntKind.max, IntKind.signed, IntKind.bits] at h
  omega

theorem trod_ch {cs : List Value} (h : DataW.trod enc Try.prog w base spare held fuel 27 cs = some x) : ∃ c : Ch, c.Ok ∧ cs = chL c := by
  obtain ⟨xs, n, _, _, hl, hlen, hf⟩ := DataW.trod_struct Try.underlying27 h
  rw [cells27] at hl
  match xs, hlen with
  | [y0, y1, y2, y3, y4, y5], _ =>
    obtain ⟨b, e0, _⟩ := DataW.trod_bool Try.underlying4 (hf 0 _ rfl)
    obtain ⟨sg, e1, _, w1⟩ := DataW.trod_int Try.underlying3 (hf 1 _ rfl)
    obtain ⟨pg, e2, _, w2⟩ := DataW.trod_int Try.underlying3 (hf 2 _ rfl)
    obtain ⟨k, hk, e3⟩ := trod_key (hf 3 _ rfl)
    obtain ⟨ex, e4, _, w4⟩ := DataW.trod_int Try.underlying25 (hf 4 _ rfl)
    obtain ⟨ver, e5, _, w5⟩ := DataW.trod_int Try.underlying25 (hf 5 _ rfl)
    refine ⟨⟨b, sg, pg, k, ex, ver⟩, ⟨hk, i64_wf w1, i64_wf w2, u64_wf w4, u64_wf w5⟩, ?_⟩
    have h4 : Try.prog.cellsOf 4 = 1 := by kernel_rfl
    have h3 : Try.prog.cellsOf 3 = 1 := by kernel_rfl
    have h24 : Try.prog.cellsOf 24 = 16 := by kernel_rfl
    have h25 : Try.prog.cellsOf 25 = 1 := by kernel_rfl
    change List.take (Try.prog.cellsOf 4) (List.drop 0 cs) = _ at e0
    change List.take (Try.prog.cellsOf 3) (List.drop 1 cs) = _ at e1
    change List.take (Try.prog.cellsOf 3) (List.drop 2 cs) = _ at e2
    change List.take (Try.prog.cellsOf 24) (List.drop 3 cs) = _ at e3
    change List.take (Try.prog.cellsOf 25) (List.drop 19 cs) = _ at e4
    change List.take (Try.prog.cellsOf 25) (List.drop 20 cs) = _ at e5
    rw [h4] at e0
    rw [h3] at e1 e2
    rw [h24] at e3
    rw [h25] at e4 e5
    rw [cut21 cs hl, e0, e1, e2, e3, e4, e5]
    rw [chL]
    simp

theorem trod_nd {cs : List Value} (h : DataW.trod enc Try.prog w base spare held fuel 30 cs = some x) : ∃ n : Nd, n.Ok ∧ cs = ndL n := by
  obtain ⟨xs, n, _, _, hl, hlen, hf⟩ := DataW.trod_struct Try.underlying30 h
  have h30 : Try.prog.cellsOf 30 = 85 := by kernel_rfl
  have h4 : Try.prog.cellsOf 4 = 1 := by kernel_rfl
  have h28 : Try.prog.cellsOf 28 = 84 := by kernel_rfl
  rw [h30] at hl
  match xs, hlen with
  | [y0, y1], _ =>
    obtain ⟨b, e0, _⟩ := DataW.trod_bool Try.underlying4 (hf 0 _ rfl)
    have ha := hf 1 _ rfl
    obtain ⟨zs, m, _, _, hl2, hn2, hel⟩ := DataW.trod_array Try.underlying28 ha
    change List.take (Try.prog.cellsOf 4) (List.drop 0 cs) = _ at e0
    change (List.take (Try.prog.cellsOf 28) (List.drop 1 cs)).length = _ at hl2
    change ∀ i, i < 4 → DataW.trod enc Try.prog w base spare held m 27 (((List.take (Try.prog.cellsOf 28) (List.drop 1 cs)).drop (i * Try.prog.cellsOf 27)).take (Try.prog.cellsOf 27)) = zs[i]? at hel
    rw [h4] at e0
    rw [h28] at hl2 hel
    have hl84 : ((cs.drop 1).take 84).length = 84 := by simp [hl]
    have each : ∀ i, i < 4 → ∃ c : Ch, c.Ok ∧ ((((cs.drop 1).take 84).drop (i * 21)).take 21) = chL c := by
      intro i hi
      have := hel i hi
      rw [cells27, List.getElem?_eq_getElem (by omega : i < zs.length)] at this
      exact trod_ch this
    obtain ⟨c0, k0, q0⟩ := each 0 (by omega)
    obtain ⟨c1, k1, q1⟩ := each 1 (by omega)
    obtain ⟨c2, k2, q2⟩ := each 2 (by omega)
    obtain ⟨c3, k3, q3⟩ := each 3 (by omega)
    refine ⟨⟨b, [c0, c1, c2, c3]⟩, ⟨rfl, by intro c hc; simp at hc; rcases hc with rfl | rfl | rfl | rfl <;> assumption⟩, ?_⟩
    rw [cut85 cs hl, e0, cut84 _ hl84, q0, q1, q2, q3]
    simp [ndL, csL]

theorem open_nd {r : Reach} {b0 : Nat} {v : Value} {d : DataW H} {p : List MemPlace} (hv : Value.okWide Try.prog w r b0 30 v) (h : DataW.Trod enc Try.prog w base spare held 30 v d p) : ∃ n : Nd, n.Ok ∧ v = .agg (ndA n) := by
  obtain ⟨cs, rfl, _⟩ := okWide_struct Try.underlying30 hv
  obtain ⟨fuel, hf⟩ := h
  obtain ⟨n, hn, e⟩ := trod_nd hf
  refine ⟨n, hn, ?_⟩
  have e' : cs.toList = ndL n := e
  rw [ndA, ← e']
theorem open_ch {r : Reach} {b0 : Nat} {v : Value} {d : DataW H} {p : List MemPlace} (hv : Value.okWide Try.prog w r b0 27 v) (h : DataW.Trod enc Try.prog w base spare held 27 v d p) : ∃ c : Ch, c.Ok ∧ v = .agg (chA c) := by
  obtain ⟨cs, rfl, _⟩ := okWide_struct Try.underlying27 hv
  obtain ⟨fuel, hf⟩ := h
  obtain ⟨n, hn, e⟩ := trod_ch hf
  refine ⟨n, hn, ?_⟩
  have e' : cs.toList = chL n := e
  rw [chA, ← e']
end
end Go.Proofs.Ytbmckmlekhkpeaa
