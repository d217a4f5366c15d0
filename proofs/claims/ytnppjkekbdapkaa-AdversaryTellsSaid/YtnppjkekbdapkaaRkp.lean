/-
  The reference's Knows: the plain part, and its row of bools.
-/
import Derived.Test.YtnppjkekbdapkaaRcw
set_option linter.unusedVariables false
namespace Go.Proofs.Ytnppjkekbdapkaa
open Go.RowKit

/-- A part's class is below the whole's. -/
theorem part_lt {l : List Nd} (hm : mayB l = true) {i : Nat} {x : Nd} (hx : l[i]? = some x) (ho : x.op = 2 ∨ x.op = 3) : cl l x.a.toNat < cl l i ∧ cl l x.b.toNat < cl l i := by
  have hk := ks_eq hx
  have hc := cl_ks hk
  obtain ⟨y, hy⟩ : ∃ y, normAt ((firsts l).take i) x = y := ⟨_, rfl⟩
  rw [hy] at hk hc
  obtain ⟨⟨a0, a1⟩, b0, b1⟩ := may_made hm hx ho
  have hya : y.a = cl l x.a.toNat ∧ y.b = cl l x.b.toNat ∧ y.op = x.op := by
    rw [← hy]
    unfold normAt
    rw [if_pos ho]
    refine ⟨?_, ?_, rfl⟩
    · show ((firsts l).take i).getD x.a.toNat 0 = _
      rw [getD_take (by omega)]
      rfl
    · show ((firsts l).take i).getD x.b.toNat 0 = _
      rw [getD_take (by omega)]
      rfl
  have hlt := List.idxOf_lt_length_of_mem (List.mem_of_getElem? hk)
  have hat := List.getElem_idxOf hlt
  obtain ⟨c, hcc⟩ : ∃ c, (ks l).idxOf y = c := ⟨_, rfl⟩
  rw [hcc] at hc hlt
  have hkc : (ks l)[c]? = some y := by
    subst hcc
    rw [List.getElem?_eq_getElem hlt, hat]
  rw [ks_len] at hlt
  have hz : l[c]? = some l[c] := List.getElem?_eq_getElem hlt
  obtain ⟨z, hzz⟩ : ∃ z, l[c] = z := ⟨_, rfl⟩
  rw [hzz] at hz
  have hk2 := ks_eq hz
  rw [hkc] at hk2
  have hyz := Option.some.inj hk2
  have hoz : z.op = 2 ∨ z.op = 3 := by
    have := normAt_op ((firsts l).take c) z
    rw [← hyz, hya.2.2] at this
    rw [← this]
    exact ho
  obtain ⟨⟨c0, c1⟩, d0, d1⟩ := may_made hm hz hoz
  have e1 : y.a = cl l z.a.toNat := by
    rw [hyz]
    unfold normAt
    rw [if_pos hoz]
    show ((firsts l).take c).getD z.a.toNat 0 = _
    rw [getD_take (by omega)]
    rfl
  have e2 : y.b = cl l z.b.toNat := by
    rw [hyz]
    unfold normAt
    rw [if_pos hoz]
    show ((firsts l).take c).getD z.b.toNat 0 = _
    rw [getD_take (by omega)]
    rfl
  have le : ∀ j, j < l.length → cl l j ≤ (j : Int) := by
    intro j hj
    rw [← best_cl hj]
    have := (bestOf_prop l (Nat.zero_le j)).2.1
    omega
  have f1 := le z.a.toNat (by omega)
  have f2 := le z.b.toNat (by omega)
  omega

/-- The known classes, by a row of bools. -/
def kf (n : Nat) (f : Nat → Bool) (c : Int) : Prop := 0 ≤ c ∧ c < (n : Int) ∧ f c.toNat = true
def putB (f : Nat → Bool) (c : Nat) : Nat → Bool := fun j => decide (j = c) || f j
def unkB (n : Nat) (f : Nat → Bool) : Nat := (List.range n).countP fun i => !f i
theorem kf_put {n : Nat} {f : Nat → Bool} {c : Nat} {d : Int} : kf n (putB f c) d ↔ kf n f d ∨ (d = (c : Int) ∧ c < n) := by
  unfold kf putB
  constructor
  · rintro ⟨h1, h2, h3⟩
    rw [Bool.or_eq_true, decide_eq_true_iff] at h3
    rcases h3 with h3 | h3
    · exact .inr ⟨by omega, by omega⟩
    · exact .inl ⟨h1, h2, h3⟩
  · rintro (⟨h1, h2, h3⟩ | ⟨rfl, h2⟩)
    · exact ⟨h1, h2, by rw [h3, Bool.or_true]⟩
    · exact ⟨by omega, by omega, by simp⟩
theorem unkB_put {n : Nat} {f : Nat → Bool} {c : Nat} (hc : c < n) (hf : f c = false) : unkB n (putB f c) + 1 ≤ unkB n f := by
  refine countP_lt (a := c) ?_ (List.mem_range.2 hc) (by simp [hf]) (by simp [putB])
  intro x hx
  unfold putB at hx
  simp at hx
  simp [hx.2]
/-- Within a round over the nodes. -/
structure PI (l : List Nd) (kn : List Int) (f0 f : Nat → Bool) (ch : Bool) (i : Nat) : Prop where
  sup : ∀ c, Seed l kn c → kf l.length f c
  sub : ∀ c, kf l.length f c → Der l (Seed l kn) c
  no : ch = false → unkB l.length f = unkB l.length f0 ∧ ShutTo l (kf l.length f) i
  yes : ch = true → unkB l.length f < unkB l.length f0
theorem PI.put {l : List Nd} {kn : List Int} {f0 f : Nat → Bool} {ch : Bool} {i : Nat} (h : PI l kn f0 f ch i) {c : Nat} (hc : c < l.length) (hf : f c = false) (hs : Step l (kf l.length f) (c : Int)) (j : Nat) : PI l kn f0 (putB f c) true j := by
  have hu := unkB_put hc hf
  refine ⟨fun d hd => kf_put.2 (.inl (h.sup d hd)), fun d hd => ?_, (fun h => by cases h), fun _ => ?_⟩
  · rcases kf_put.1 hd with hd | ⟨rfl, _⟩
    · exact h.sub d hd
    · exact Der.step (hs.mono h.sub)
  · cases ch
    · have := (h.no rfl).1
      omega
    · have := h.yes rfl
      omega
theorem PI.next {l : List Nd} {kn : List Int} {f0 f : Nat → Bool} {ch : Bool} {i : Nat} (h : PI l kn f0 f ch i) {x : Nd} (hx : l[i]? = some x) (hs : (x.op = 2 ∨ x.op = 3) → ∀ c, At l (kf l.length f) i x c → kf l.length f c) : PI l kn f0 f ch (i + 1) :=
  ⟨h.sup, h.sub, fun hc => ⟨(h.no hc).1, shut_next (h.no hc).2 hx hs⟩, h.yes⟩

/-- The row of bools in block b. -/
def BT (w : World) (b n : Nat) (f : Nat → Bool) : Prop := ∃ cur : Array Value, w.heap[b]? = some (.cells cur 4 (0, 0)) ∧ cur.size = n ∧ ∀ c, c < n → cur[c]? = some (.bool (f c))
theorem BT.cell {w : World} {b n : Nat} {f : Nat → Bool} (h : BT w b n f) {c : Nat} (hc : c < n) : w.cell? ⟨b, c, none⟩ = some (.bool (f c)) := by
  obtain ⟨cur, hg, _, h2⟩ := h
  rw [cell_of_row w b c _ _ _ hg]
  exact h2 c hc
theorem BT.froz {w : World} {b n : Nat} {f : Nat → Bool} (h : BT w b n f) (c : Nat) : w.frozen? ⟨b, c, none⟩ = false := by
  obtain ⟨cur, hg, _, h2⟩ := h
  exact frozen_of_row w b c _ _ hg
theorem BT.keep {w w' : World} {b n : Nat} {f : Nat → Bool} {S : Nat → Prop} (h : BT w b n f) (o : Only S w w') (hs : ¬ S b) : BT w' b n f := by
  obtain ⟨cur, hg, r⟩ := h
  exact ⟨cur, keepRow o hg hs, r⟩
theorem BT.lt {w : World} {b n : Nat} {f : Nat → Bool} (h : BT w b n f) : b < w.heap.size := by
  obtain ⟨cur, hg, r⟩ := h
  exact (Array.getElem?_eq_some_iff.1 hg).1
theorem BT.put {w : World} {b n : Nat} {f : Nat → Bool} (h : BT w b n f) {c : Nat} (hc : c < n) : BT (w.setCell ⟨b, c, none⟩ (.bool true)) b n (putB f c) := by
  obtain ⟨cur, hg, h1, h2⟩ := h
  refine ⟨_, heap_setCell_same _ _ _ _ _ _ hg, by simp [h1], fun j hj => ?_⟩
  by_cases hjc : j = c
  · subst hjc
    have : j < cur.size := by omega
    simp [putB, this]
  · have := h2 j hj
    rw [show putB f c j = f j by simp [putB, hjc], ← this]
    simp [Ne.symm hjc]
theorem BT.new (w : World) (n : Nat) : BT (w.alloc (.cells (madeCells #[.bool false] n) 4)) w.heap.size n (fun _ => false) := by
  refine ⟨_, heap_alloc_new _ _, by simp [madeCells], fun c hc => ?_⟩
  simp [madeCells, hc, Nat.mod_one]
end Go.Proofs.Ytnppjkekbdapkaa
