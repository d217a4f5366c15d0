/-
  Walks of the reference's Number and TakeNumber.
-/
import Derived.Test.YtbmckmlekhkpeaaTake
import Derived.Lib.ItoaNum
set_option linter.unusedVariables false
namespace Go.Proofs.Ytbmckmlekhkpeaa
open Go.RowKit

theorem bytes_str {w : World} {base n : Nat} {v : Value} {l : List UInt8} (h : w.ownsRow base 5 1 v n (Lib.byteCells l)) :
    (convert 66 9 v).run Try.prog w = .ok (.string ⟨l.toArray⟩) w := by
  have hn : l.length = n := by have := h.1; simpa [Lib.byteCells] using this
  have hcast : strOfNums (l.map fun c : UInt8 => (c.toNat : Int)) = ⟨l.toArray⟩ := by
    have e : ((fun n : Int => UInt8.ofNat n.toNat) ∘ fun c : UInt8 => (c.toNat : Int)) = id := by funext c; simp
    simp [strOfNums, e]
  rcases h.2 with ⟨rfl, rfl⟩ | ⟨g, cap, cur, rfl, _⟩
  · obtain rfl : l = [] := List.eq_nil_of_length_eq_zero hn
    exact run_convert_bytes_nil w 66 5 Try.underlying66 Try.underlying5 0 0 9 Try.underlying9
  · rw [← hcast]
    refine run_convert_bytes_arg w 66 5 Try.underlying66 Try.underlying5 g 0 n cap _ (by simpa using hn) (fun i hi => ?_) 9 Try.underlying9
    have hil : i < l.length := by omega
    have := h.cells (g := g) rfl i (.int .u8 l[i].toNat) (by simp [Lib.byteCells, hil])
    have ea : (⟨g, 0, none⟩ : Addr).add i = ⟨g, 0 + i, none⟩ := by unfold Addr.add; split <;> simp_all
    rw [ea] at this
    simpa [hil] using this

theorem leCells' (n k : Nat) : Lib.byteCells (leBytes n (k + 1)) = Lib.byteCells (leBytes n k) ++ [.int .u8 ((n / 256 ^ k % 256 : Nat) : Int)] := by
  simp [Lib.byteCells, leBytes]

theorem bitLen_iff (n width : Nat) (hn : n ≤ 18446744073709551615) (h8 : width ≤ 8) : Lib.bitLen n ≤ 8 * width ↔ n / 256 ^ width = 0 := by
  have e : (256 : Nat) ^ width = 2 ^ (8 * width) := by rw [Nat.pow_mul]
  rw [e]
  constructor
  · intro h
    by_cases h0 : n = 0
    · subst h0; simp
    · have := (Lib.bitLenAux_bounds 64 n (by omega) h0).2.2
      have h2 : 2 ^ Lib.bitLen n ≤ 2 ^ (8 * width) := Nat.pow_le_pow_right (by omega) h
      unfold Lib.bitLen at h2
      exact Nat.div_eq_of_lt (by omega)
  · intro h
    have hlt : n < 2 ^ (8 * width) := by
      rcases Nat.div_eq_zero_iff.1 h with h | h
      · have := Nat.two_pow_pos (8 * width); omega
      · exact h
    exact Lib.bitLen_le n (8 * width) (by omega) hlt

/-- What a number of so many bytes is, or its error. -/
def numV (n width : Nat) : Value := if n / 256 ^ width = 0 then .tuple #[.string ⟨(leBytes n width).toArray⟩, .int .i64 0] else .tuple #[.string ⟨#[]⟩, .int .i64 1]
theorem numV_ok {n width : Nat} (h : n / 256 ^ width = 0) : numV n width = .tuple #[.string ⟨(leBytes n width).toArray⟩, .int .i64 0] := if_pos h
theorem numV_bad {n width : Nat} (h : n / 256 ^ width ≠ 0) : numV n width = .tuple #[.string ⟨#[]⟩, .int .i64 1] := if_neg h

theorem below_alloc {B : Nat} {w w' : World} (h : Below B w w') (hB : B ≤ w.heap.size) (o : Obj) : Below B w (w'.alloc o) := h.alloc (Nat.le_trans hB h.size) o

theorem below_grown_own {B : Nat} {w w1 w2 : World} {v : Value} {n : Nat} {xs : List Value} {e : TypeId} {sz : Nat} (hb : Below B w w1) (hB : B ≤ w.heap.size) (hown : w1.ownsRow B e sz v n xs) (hg : w1.grownBy w2 v.ownBlock) : Below B w w2 :=
  hb.grown hg (Nat.le_trans hB hb.size) (fun k hk => (hown.lt k hk).1)

theorem one_new {w : World} {x : Value} {e : TypeId} : ∀ (j : Nat) (u : Value), [x][j]? = some u → (w.alloc (.cells #[x] e)).cell? ((⟨w.heap.size, 0, none⟩ : Addr).add j) = some u := by
  rintro (_ | j) u hj
  · simp at hj; subst hj; simp [Addr.add]
  · simp at hj

theorem one_cell {k : IntKind} {x : Int} : ∀ u ∈ [Value.int k x], u.oneCell' = true := by
  intro u hu; simp at hu; subst hu; rfl

set_option maxHeartbeats 1000000 in
theorem rnum_any (n width : Nat) (w : World) (hn : n ≤ 18446744073709551615) (h1 : 1 ≤ width) (h8 : width ≤ 8) :
    Calls Try.prog 37 #[.int .u64 n, .int .i64 width] w fun e w' => e = .returned (numV n width) ∧ Below w.heap.size w w' := by
  obtain ⟨i0, hi, hz0, hz1, hz2⟩ := info_parts info5
  go_enter Try.func37, Try.ntmps37
  go_wp2_with fail
  go_loopw [0, 6, 7] (fun m b i wr => ∃ k q : Nat, k ≤ width ∧ i = .int .i64 k ∧ m = .int .u64 q ∧ Hid (q = n / 256 ^ k) ∧ q ≤ 18446744073709551615 ∧ wr.ownsRow w.heap.size 5 1 b k (Lib.byteCells (leBytes n k)) ∧ Below w.heap.size w wr) (fun _ _ i _ => width - (intOf i).toNat)
  case atStart => 
    refine ⟨0, n, Nat.zero_le _, rfl, rfl, by simp [Hid], hn, ?_, below_alloc (Below.refl _ _) (Nat.le_refl _) _⟩
    exact World.ownsRow_made w #[] 0 (Nat.le_refl _) (by simp [maxLen]) rfl
  case round =>
    obtain ⟨k, q, hk, rfl, rfl, hq, hq2, hown, hbel⟩ := hrel
    by_cases hlt : k < width
    · go_wp2_with (at_builtin; refine wpList_append_own _ rfl _ _ 66 rfl w.heap.size 5 i0 (.int .u8 0) 1 1 Try.underlying66 hi hz0 hz1 hz2 rfl (by decide) _ _ _ rfl (hown.alloc _) ⟨wr.heap.size, 0, none⟩ 1 1 [.int .u8 (q % 256)] rfl rfl ?c1 ?c2 ?c3 ?c4 ?c5 ?_)
      case c1 => exact one_new
      case c2 => exact one_cell
      case c3 => unfold maxLen; omega
      case c4 => omega
      case c5 => have := hbel.size; simp; omega
      intro v' w1 hown1 hgrow _
      have hb1 := below_grown_own (below_alloc hbel (Nat.le_refl _) _) (Nat.le_refl _) (hown.alloc _) hgrow
      go_wp2
      go_roundw
      case rel =>
        refine ⟨k + 1, q / 256, by omega, by go_num, by simp, ?_, by omega, ?_, hb1⟩
        · rw [hq.out, Nat.div_div_eq_div_mul, Nat.pow_succ]; rfl
        · rw [leCells']
          have e : ((q : Int) % 256) = ((n / 256 ^ k % 256 : Nat) : Int) := by rw [hq.out]; simp
          rw [e] at hown1
          exact hown1
      case measure => simp [intOf]; omega
    · obtain rfl : k = width := by omega
      by_cases h0 : q = 0
      · have hle : q ≤ 0 := by omega
        have H := numV_ok (hq.out.symm.trans h0)
        have H' := Lib.hid H
        clear h0 H
        have hc := bytes_str hown
        go_wp2
        go_ret2
        exact ⟨by rw [H'.out]; rfl, hbel⟩
      · have hle : 0 < q := by omega
        have H' := Lib.hid (numV_bad fun e => h0 (hq.out.trans e))
        clear h0
        go_wp2
        go_ret2
        exact ⟨by rw [H'.out]; rfl, hbel⟩
end Go.Proofs.Ytbmckmlekhkpeaa
