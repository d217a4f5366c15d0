/-
  SlotSwaps: the plain laws of the states that it comes to.
-/
import Derived.Test.YtfolmdcceefflaaKys
set_option linter.unusedVariables false
namespace Go.Proofs.Ytfolmdcceefflaa
open Go.RowKit

/-- A power with so many acts left. -/
def pwL (L q : Int) : Pw := ⟨false, L, q, 0⟩
/-- The state whose cell a is x, the other one y. -/
def mkS (p : Pw) (a : Int) (x y : Ce) : St := if a = 0 then ⟨p, x, y⟩ else ⟨p, y, x⟩
theorem mkS_ok {p : Pw} {a : Int} {x y : Ce} (hp : p.Ok) (hx : x.Ok) (hy : y.Ok) : (mkS p a x y).Ok := by
  unfold mkS
  split
  · exact ⟨hp, hx, hy⟩
  · exact ⟨hp, hy, hx⟩
theorem mkS_p {p : Pw} {a : Int} {x y : Ce} : (mkS p a x y).p = p := by unfold mkS; split <;> rfl
theorem mkS_swap {p : Pw} {a : Int} (ha : a = 0 ∨ a = 1) {x y : Ce} : mkS p a x y = mkS p (1 - a) y x := by
  rcases ha with rfl | rfl <;> rfl
theorem mkS_wrong {p : Pw} {a : Int} {x y : Ce} (hp : p.off = false) {i : Int} (hi : i = 0 ∨ i = 1) : (mkS p a x y).wrong i = 0 := by
  unfold St.wrong
  rw [mkS_p, if_neg (by simp [hp]), if_neg (by omega)]
theorem mkS_write {p : Pw} (hp : p.off = false) {a : Int} (ha : a = 0 ∨ a = 1) {y : Ce} {k : List UInt8} {n : Int} :
    (mkS p a Ce.zero y).writeE a = p.err ∧ (mkS p a Ce.zero y).write a k n = mkS p.next a (p.set Ce.zero ⟨true, k, n⟩) y := by
  have hw := mkS_wrong (x := Ce.zero) (y := y) (a := a) hp ha
  unfold St.writeE St.write
  simp only [hw, ne_eq, not_true_eq_false, if_false]
  rcases ha with rfl | rfl <;> exact ⟨rfl, rfl⟩
theorem mkS_erase {p : Pw} (hp : p.off = false) {a : Int} (ha : a = 0 ∨ a = 1) {x y : Ce} :
    (mkS p a x y).eraseE (1 - a) = p.err ∧ (mkS p a x y).erase (1 - a) = mkS p.next a x (p.set y Ce.zero) := by
  have hw := mkS_wrong (x := x) (y := y) (a := a) hp (i := 1 - a) (by omega)
  unfold St.eraseE St.erase
  simp only [hw, ne_eq, not_true_eq_false, if_false]
  rcases ha with rfl | rfl <;> exact ⟨rfl, rfl⟩
theorem mkS_newest {p : Pw} (hp : p.off = false) {a : Int} (ha : a = 0 ∨ a = 1) {k : List UInt8} {n : Int} {y : Ce} (hy : y.is = false ∨ y.epoch < n) :
    (mkS p a ⟨true, k, n⟩ y).newI = a ∧ (mkS p a ⟨true, k, n⟩ y).newE = 0 := by
  unfold St.newI St.newE
  rw [mkS_p, if_neg (by simp [hp]), if_neg (by simp [hp])]
  rcases ha with rfl | rfl
  · refine ⟨if_neg ?_, if_pos (.inl rfl)⟩
    rintro ⟨h1, h2 | h2⟩
    · cases h2
    · rcases hy with hy | hy
      · have : y.is = true := h1
        rw [hy] at this
        cases this
      · have : n < y.epoch := h2
        omega
  · refine ⟨if_pos ⟨rfl, ?_⟩, if_pos (.inr rfl)⟩
    rcases hy with hy | hy
    · exact .inl hy
    · exact .inr hy
def one (c : Ce) : List (List UInt8) := if c.is = true then [c.key] else []
theorem holds_one (s : St) : s.holds = one s.c ++ one s.d := by
  simp [St.holds, St.keys, St.nth, one]

/-- Acts: the last one, and any other. -/
theorem pwL_ok {L q : Int} (h : 0 ≤ L) (h' : L ≤ 9223372036854775807) : (pwL L q).Ok := ⟨h, h'⟩
theorem pwL_last (q : Int) : (pwL 1 q).err = 4 ∧ (pwL 1 q).next = ⟨true, 0, q, 0⟩ := ⟨rfl, rfl⟩
theorem pwL_more {L q : Int} (h : 0 ≤ L) (h1 : L ≠ 1) : ∃ L', 0 ≤ L' ∧ L' ≤ L ∧ (pwL L q).err = 0 ∧ (pwL L q).next = pwL L' q ∧ ∀ c e, (pwL L q).set c e = e := by
  by_cases h0 : L = 0
  · subst h0
    exact ⟨0, by omega, by omega, rfl, rfl, fun c e => rfl⟩
  · have hb : (L - 1 == 0) = false := by rw [beq_eq_false_iff_ne]; omega
    have hw : (pwL L q).whole = true := by
      unfold Pw.whole pwL
      simp [h0, hb]
    refine ⟨L - 1, by omega, by omega, by simp [Pw.err, hw], ?_, fun c e => by simp [Pw.set, hw]⟩
    unfold Pw.next pwL
    simp only [Bool.false_eq_true, if_false, h0, hb]

theorem hold_ends {w : World} {b : Nat} {v : Value} {ks : List (List UInt8)} (h : w.ownsRow b 23 16 v ks.length (flatK ks)) (hk : ∀ k ∈ ks, k.length = 16) (hne : 0 < ks.length) :
    ∃ g cap, v = .slice (some ⟨g, 0, none⟩) ks.length cap ∧ ∀ i k, ks[i]? = some k → ∀ w', Only (fun _ => False) w w' → (loadVar 23 ⟨g, i * 16, none⟩).run Try.prog w' = .ok (.agg (kyA k)) w' := by
  rcases h.2 with ⟨_, h0⟩ | ⟨g, cap, cur, hv, _⟩
  · omega
  · refine ⟨g, cap, hv, fun i k hi w' o => ?_⟩
    subst hv
    exact own_load (own_kept h o) hk hi

/-- What the walk of SlotSwaps knows of a world. -/
structure Sit (w : World) (gs gp : Nat) (s : St) (X : World) : Prop where
  is : Is gs gp s X
  only : Only (fun _ => False) w X
theorem Sit.step {w X Y : World} {gs gp : Nat} {s s' : St} (e : Sit w gs gp s X) (hl : ∀ k, Two gs gp k → w.heap.size ≤ k) (h : Is gs gp s' Y) (o : Only (Two gs gp) X Y) : Sit w gs gp s' Y := ⟨h, e.only.next o hl⟩
theorem Sit.still {w X Y : World} {gs gp : Nat} {s : St} (e : Sit w gs gp s X) (o : Only (fun _ => False) X Y) : Sit w gs gp s Y :=
  ⟨e.is.keep o (fun h => h) (fun h => h), e.only.trans o⟩
theorem Sit.drewN {w X : World} {gs gp : Nat} {s : St} (e : Sit w gs gp s X) (n : Nat) : Sit w gs gp s (X.drewN n) := ⟨e.is.drewN n, e.only.drewN n⟩
end Go.Proofs.Ytfolmdcceefflaa
