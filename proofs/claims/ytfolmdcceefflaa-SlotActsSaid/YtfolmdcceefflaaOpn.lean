/-
  A key, handed in by value: opened.
-/
import Derived.Test.YtfolmdcceefflaaSlo
import Derived.OpenShut
set_option linter.unusedVariables false
namespace Go.Proofs.Ytfolmdcceefflaa
open Go.RowKit

def byteOf (v : Value) : UInt8 := match v with | .int _ z => UInt8.ofNat z.toNat | _ => 0

theorem byteOf_int {z : Int} (h : (Lit.int .u8 z).wf = true) : Value.int .u8 ((byteOf (.int .u8 z)).toNat : Int) = .int .u8 z := by
  have hz : 0 ≤ z ∧ z ≤ 255 := by
    simp [Lit.wf, IntKind.min, IntKind.max, IntKind.signed, IntKind.bits] at h
    omega
  have : (z.toNat % 2 ^ 8 : Nat) = z.toNat := Nat.mod_eq_of_lt (by omega)
  simp only [byteOf, UInt8.toNat_ofNat']
  rw [this]
  congr 1
  omega

section
variable {H : Type} {enc : TypeId × Value → H} {w : World} {base : Nat} {spare : Nat → Bool} {held : Bool} {fuel : Nat} {x : DataW H × List MemPlace}

theorem trod_key {cs : List Value} (h : DataW.trod enc Try.prog w base spare held fuel 23 cs = some x) : ∃ k : List UInt8, k.length = 16 ∧ cs = kyL k := by
  obtain ⟨xs, m, _, _, hl, hn, hel⟩ := DataW.trod_array (Try.underlying23.trans (by kernel_rfl)) h
  have h23 : Try.prog.cellsOf 23 = 16 := by kernel_rfl
  have h5 : Try.prog.cellsOf 5 = 1 := by kernel_rfl
  rw [h23] at hl
  refine ⟨cs.map byteOf, by simp [hl], ?_⟩
  apply List.ext_getElem?
  intro i
  by_cases hi : i < 16
  · have he := hel i hi
    rw [h5, List.getElem?_eq_getElem (by omega : i < xs.length)] at he
    obtain ⟨n, e1, _, hw⟩ := DataW.trod_int Try.underlying5 he
    have hc : cs[i]? = some (.int .u8 n) := by
      have h0 : ((cs.drop (i * 1)).take 1)[0]? = some (.int .u8 n) := by rw [e1]; rfl
      simpa using h0
    simp only [kyL, List.map_map, List.getElem?_map, hc, Option.map_some, Function.comp]
    rw [byteOf_int hw]
  · rw [List.getElem?_eq_none (by omega), List.getElem?_eq_none (by simp [kyL]; omega)]

theorem open_key {r : Reach} {b0 : Nat} {v : Value} {d : DataW H} {p : List MemPlace} (hv : Value.okWide Try.prog w r b0 23 v) (h : DataW.Trod enc Try.prog w base spare held 23 v d p) :
    ∃ k : List UInt8, k.length = 16 ∧ v = .agg (kyA k) := by
  simp only [Value.okWide, Try.underlying23.trans (show _ = some (TypeDesc.array 16 5) by kernel_rfl)] at hv
  obtain ⟨cs, rfl, _, _⟩ := hv
  obtain ⟨fuel, hf⟩ := h
  obtain ⟨k, hk, e⟩ := trod_key hf
  refine ⟨k, hk, ?_⟩
  have e' : cs.toList = kyL k := e
  rw [kyA, ← e']
end
end Go.Proofs.Ytfolmdcceefflaa
