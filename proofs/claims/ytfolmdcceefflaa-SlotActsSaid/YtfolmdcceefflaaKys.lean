/-
  A slice of keys, handed in: opened.
-/
import Derived.Test.YtfolmdcceefflaaOpn
import Derived.Test.YtfolmdcceefflaaLawSlotGone
set_option linter.unusedVariables false
namespace Go.Proofs.Ytfolmdcceefflaa
open Go.RowKit

/-- The slice a, len, cap has these keys. -/
def KeyRow (w : World) (a : Option Addr) (len cap : Nat) (ks : List (List UInt8)) : Prop :=
  (a = none ∧ len = 0 ∧ cap = 0 ∧ ks = []) ∨
  ∃ x, a = some x ∧ len ≤ cap ∧ cap ≤ maxLen ∧ ks.length = len ∧ (∀ k ∈ ks, k.length = 16) ∧ ∀ i k, ks[i]? = some k → ∀ j v, (kyL k)[j]? = some v → w.cell? ((x.add (i * 16)).add j) = some v

theorem byteOf_back (l : List UInt8) : (kyL l).map byteOf = l := by
  simp only [kyL, List.map_map]
  conv => rhs; rw [← List.map_id l]
  apply List.map_congr_left
  intro b _
  simp [byteOf]

section
variable {H : Type} {enc : TypeId × Value → H} {w : World} {base : Nat} {spare : Nat → Bool} {held : Bool}

theorem open_keys {a : Option Addr} {len cap : Nat} {d : DataW H} {p : List MemPlace} (h : DataW.Trod enc Try.prog w base spare held 33 (.slice a len cap) d p) : ∃ ks, KeyRow w a len cap ks := by
  obtain ⟨fuel, hf⟩ := h
  have h23 : Try.prog.cellsOf 23 = 16 := by kernel_rfl
  rcases DataW.trod_slice Try.underlying33 hf with ⟨hcs, _⟩ | ⟨x, l, c, elems, rest, m, _, hcs, _, hb, hlc, hcm, hel, hall, _, _⟩
  · simp [Value.cells] at hcs
    obtain ⟨rfl, rfl, rfl⟩ := hcs
    exact ⟨[], .inl ⟨rfl, rfl, rfl, rfl⟩⟩
  · simp [Value.cells] at hcs
    obtain ⟨rfl, rfl, rfl⟩ := hcs
    rw [h23] at hall
    have each : ∀ i, i < len → ∃ k : List UInt8, k.length = 16 ∧ w.cells? base (x.add (i * 16)) 16 = some (kyL k) := by
      intro i hi
      have he := hall i hi
      rw [List.getElem?_eq_getElem (by omega : i < elems.length)] at he
      obtain ⟨cs, hc, ht⟩ := Option.bind_eq_some_iff.1 he
      obtain ⟨k, hk, rfl⟩ := trod_key ht
      exact ⟨k, hk, hc⟩
    refine ⟨(List.range len).map fun i => ((w.cells? base (x.add (i * 16)) 16).getD []).map byteOf, .inr ⟨x, rfl, hlc, hcm, by simp, ?_, ?_⟩⟩
    · intro k hk
      obtain ⟨i, hi, rfl⟩ := List.mem_map.1 hk
      obtain ⟨k', hk', e⟩ := each i (List.mem_range.1 hi)
      rw [e, Option.getD_some, byteOf_back]
      exact hk'
    · intro i k hk j v hv
      have hi : i < len := by
        have := (List.getElem?_eq_some_iff.1 hk).1
        simpa using this
      obtain ⟨k', hk', e⟩ := each i hi
      have hkk : k = k' := by
        rw [List.getElem?_map, List.getElem?_range hi, Option.map_some, e, Option.getD_some, byteOf_back] at hk
        exact (Option.some.inj hk).symm
      subst hkk
      have hs := World.cells?_some e
      have hj : j < 16 := by
        have := (List.getElem?_eq_some_iff.1 hv).1
        rw [kyL_len hk'] at this
        exact this
      rw [hs.2.2 j hj]
      exact hv
end

theorem KeyRow.keep {w w' : World} {a : Option Addr} {len cap : Nat} {ks : List (List UInt8)} (h : KeyRow w a len cap ks) (o : Only (fun _ => False) w w') : KeyRow w' a len cap ks := by
  rcases h with h | ⟨x, h1, h2, h3, h4, h5, h6⟩
  · exact .inl h
  · refine .inr ⟨x, h1, h2, h3, h4, h5, fun i k hi j v hj => ?_⟩
    have hc := h6 i k hi j v hj
    rw [← hc]
    exact World.cell?_of_block (o.block _ (World.block_lt_of_cell? w _ hc) (fun h => h))

/-- Where a key is, and that it may be loaded. -/
theorem KeyRow.at {w : World} {a : Option Addr} {len cap : Nat} {ks : List (List UInt8)} (h : KeyRow w a len cap ks) {i : Nat} (hi : i < ks.length) :
    ∃ b o, a = some ⟨b, o, none⟩ ∧ ks.length = len ∧ len ≤ cap := by
  rcases h with ⟨_, _, _, rfl⟩ | ⟨x, rfl, h2, h3, h4, h5, h6⟩
  · simp at hi
  · have h0 : 0 < ks.length := by omega
    have hk := h5 ks[0] (List.getElem_mem h0)
    have hc := h6 0 ks[0] (List.getElem?_eq_getElem h0) 0 _ (List.getElem?_eq_getElem (by rw [kyL_len hk]; omega))
    obtain ⟨b, o, sp⟩ := x
    cases sp with
    | none => exact ⟨b, o, rfl, h4, h2⟩
    | some z =>
      simp [Addr.add, World.cell?] at hc
      split at hc <;> cases hc
theorem KeyRow.load {w : World} {b o len cap : Nat} {ks : List (List UInt8)} (h : KeyRow w (some ⟨b, o, none⟩) len cap ks) {i : Nat} {k : List UInt8} (hi : ks[i]? = some k) :
    (loadVar 23 ⟨b, o + i * 16, none⟩).run Try.prog w = .ok (.agg (kyA k)) w := by
  rcases h with ⟨h, _⟩ | ⟨x, hx, h2, h3, h4, h5, h6⟩
  · cases h
  · obtain rfl := Option.some.inj hx
    have hkl : k.length = 16 := h5 k (List.mem_of_getElem? hi)
    have hadd : (⟨b, o, none⟩ : Addr).add (i * 16) = ⟨b, o + i * 16, none⟩ := by unfold Addr.add; split <;> simp_all
    have hl := run_loadCells_list (P := Try.prog) w ⟨b, o + i * 16, none⟩ (kyL k) (fun j v hv => by rw [← hadd]; exact h6 i k hi j v hv)
    rw [kyL_len hkl] at hl
    cases hq : Try.prog.info? 23 with
    | none => have := info23s; simp [hq] at this
    | some i =>
      have hs : i.size = 16 := by have := info23s; simpa [hq] using this
      simp [loadVar, Sem.run_bind, isAgg_run (P := Try.prog) (Try.underlying23.trans (show _ = some (TypeDesc.array 16 5) by kernel_rfl)) rfl, sizeOf, typeInfo, hq, hs, hl, kyA]
end Go.Proofs.Ytfolmdcceefflaa
