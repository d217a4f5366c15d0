/-
  The reference's chip: its boxes; the pages' cells copied, and stored into.
-/
import Derived.Test.YtjnjnkkdpglfhaaRrd
import Derived.Test.YtjnjnkkdpglfhaaNew
set_option linter.unusedVariables false
namespace Go.Proofs.Ytjnjnkkdpglfhaa
open Go.RowKit

/-- A chip that is none. -/
def Z53 : Array Value := #[.bool false, .int .i64 0, .int .i64 0, .int .u8 0, .int .i64 0, .int .i64 0, .int .i64 0, .bool false, .bool false, .bool false, .bool false, .bool false, .bool false, .bool false, .bool false, .bool false, .bool false, .bool false, .bool false, .bool false, .bool false, .bool false, .bool false, .bool false, .bool false, .bool false, .bool false, .bool false, .bool false, .bool false, .bool false, .bool false, .bool false, .bool false, .bool false, .bool false, .bool false, .bool false, .bool false, .bool false, .bool false, .bool false, .bool false, .bool false, .bool false, .bool false, .bool false, .bool false, .bool false, .bool false, .bool false, .bool false, .bool false, .bool false, .bool false, .bool false, .bool false, .bool false, .bool false, .bool false, .bool false, .bool false, .bool false, .bool false, .bool false, .bool false, .bool false, .bool false, .bool false, .bool false, .bool false, .slice none 0 0, .int .i64 0, .int .i64 0, .int .i64 0, .int .i64 0, .int .i64 0, .int .i64 0, .int .i64 0, .int .i64 0, .int .i64 0, .int .i64 0, .int .i64 0, .int .i64 0, .int .i64 0, .int .i64 0, .int .i64 0, .int .i64 0, .int .i64 0, .int .i64 0, .int .i64 0, .int .i64 0, .int .i64 0, .int .i64 0, .int .i64 0, .int .i64 0, .int .i64 0, .int .i64 0, .int .i64 0, .int .i64 0, .int .i64 0, .int .i64 0, .int .i64 0, .int .i64 0, .int .i64 0, .int .i64 0, .int .i64 0, .int .i64 0, .int .i64 0, .int .i64 0, .int .i64 0, .int .i64 0, .int .i64 0, .int .i64 0, .int .i64 0, .int .i64 0, .int .i64 0, .int .i64 0, .int .i64 0, .int .i64 0, .int .i64 0, .int .i64 0, .int .i64 0, .int .i64 0, .int .i64 0, .int .i64 0, .int .i64 0, .int .i64 0, .int .i64 0, .int .i64 0, .int .i64 0, .int .i64 0, .int .i64 0, .int .i64 0, .int .i64 0, .int .i64 0, .slice none 0 0, .int .i64 0, .int .i64 0]
theorem at_world {P : Program} {c : Code} {Q : Exit → Act → World → Prop} {a : Act} {w : World} (S : World → Prop) (hS : S w) (h : ∀ W, S W → c.wp P Q a W) : c.wp P Q a w := h w hS
section
variable {T : List (Nat × Array Value × TypeId)} {a w w' : World}
/-- The end: the box loaded, the result stored, loaded. -/
theorem c53_end {gb gr : Nat} {Z A : Array Value} (h : Tab T a w) {i j : Nat} (hi : T[i]? = some (gr, Z, 53)) (hj : T[j]? = some (gb, A, 53)) (hz : Z.size = 139) (hA : A.size = 139) (h1 : ∀ v ∈ A.toList, v.oneCell' = true) :
    (loadVar 53 ⟨gb, 0, none⟩).run Try.prog w = .ok (.agg A) w ∧ ∃ W, (storeVar 53 ⟨gr, 0, none⟩ (.agg A)).run Try.prog w = .ok () W ∧ (loadVar 53 ⟨gr, 0, none⟩).run Try.prog W = .ok (.agg A) W ∧ Only (fun _ => False) a W ∧ Tab (T.set i (gr, A, 53)) a W := by
  refine ⟨h.loadAll j hj 53 _ Try.underlying53 rfl info53s hA, ?_⟩
  obtain ⟨W, hs, ht, _, ho⟩ := h.whole (B := A) i hi 53 info53s hA hz h1
  have hil : i < T.length := (List.getElem?_eq_some_iff.1 hi).1
  exact ⟨W, hs, ht.loadAll i (List.getElem?_set_self hil) 53 _ Try.underlying53 rfl info53s hA, ht.only, ht⟩
theorem Tab.push {S : Nat → Prop} {g : Nat} {A : Array Value} {t : TypeId} (h : Tab T a w) (o : Only S w w') (hS : ∀ k, S k → w.heap.size ≤ k) (hg : w'.heap[g]? = some (.cells A t (0, 0))) (hgs : w.heap.size ≤ g) : Tab ((g, A, t) :: T) a w' := by
  have h2 := h.move o (fun p hp hs => by have := h.lt hp; have := hS _ hs; omega) (fun k hk => Nat.le_trans h.only.size (hS k hk))
  refine ⟨?_, ?_, ?_, h2.only⟩
  · intro p hp
    rcases List.mem_cons.1 hp with rfl | hp
    · exact hg
    · exact h2.rows p hp
  · intro p hp
    rcases List.mem_cons.1 hp with rfl | hp
    · exact Nat.le_trans h.only.size hgs
    · exact h.new p hp
  · rw [List.map_cons, List.nodup_cons]
    refine ⟨fun hm => ?_, h.nd⟩
    obtain ⟨p, hp, e⟩ := List.mem_map.1 hm
    have := h.lt hp
    simp only at e
    omega
end
/-- These cells begin with the pages'. -/
def LR (cur : Array Value) (st : Cp) : Prop := st.segs * st.pages * 2 ≤ cur.size ∧ ∀ (k : Nat) (u : Value), (lcs st)[k]? = some u → cur[k]? = some u
theorem info97s : (Try.prog.info? 97).map (·.size) = some 2 := by kernel_rfl
theorem splice_in {A : Array Value} {o j : Nat} {u v : Value} (hf : o + 2 ≤ A.size) : (splice A o #[u, v])[o]? = some u ∧ (splice A o #[u, v])[o + 1]? = some v ∧ (∀ j, j < o → (splice A o #[u, v])[j]? = A[j]?) := by
  unfold splice
  have hl : (A.toList.take o).length = o := by simp; omega
  refine ⟨?_, ?_, fun j hj => ?_⟩
  · rw [List.getElem?_toArray, List.append_assoc, List.getElem?_append_right (by omega), hl, Nat.sub_self]
    rfl
  · rw [List.getElem?_toArray, List.append_assoc, List.getElem?_append_right (by omega), hl, show o + 1 - o = 1 by omega]
    rfl
  · rw [List.getElem?_toArray, List.append_assoc, List.getElem?_append_left (by omega), List.getElem?_take, if_pos hj, Array.getElem?_toList]
theorem LR.put {cur : Array Value} {st : Cp} (h : LR cur st) {i j : Nat} (hi : i < st.segs) (hj : j < st.pages) (x : Option ByteArray) : LR (splice cur ((i * st.pages + j) * 2) #[.bool x.isSome, .string (x.getD ByteArray.empty)]) { st with page := updP st.page i j x } := by
  obtain ⟨h1, h2⟩ := h
  have hlt := at_lt hi hj
  have hf : (i * st.pages + j) * 2 + 2 ≤ cur.size := by omega
  obtain ⟨s0, s1, s2⟩ := splice_in (j := 0) (u := .bool x.isSome) (v := .string (x.getD ByteArray.empty)) hf
  refine ⟨by rw [splice_size (by exact hf)]; exact h1, fun k u hu => ?_⟩
  have hk : k < st.segs * st.pages * 2 := by
    have := (List.getElem?_eq_some_iff.1 hu).1
    rw [lcs_len] at this
    exact this
  rw [lcs_at (st := { st with page := updP st.page i j x }) hk] at hu
  obtain rfl := Option.some.inj hu
  obtain ⟨d1, d2⟩ := at_div (a := i) hj
  by_cases hkk : k / 2 = i * st.pages + j
  · unfold lcAt
    dsimp only
    rw [hkk, d1, d2]
    have hu : updP st.page i j x i j = x := by simp [updP]
    rw [hu]
    by_cases hm : k % 2 = 0
    · rw [if_pos hm, show k = (i * st.pages + j) * 2 by omega]
      exact s0
    · rw [if_neg hm, show k = (i * st.pages + j) * 2 + 1 by omega]
      exact s1
  · have hold : (splice cur ((i * st.pages + j) * 2) #[.bool x.isSome, .string (x.getD ByteArray.empty)])[k]? = cur[k]? := by
      by_cases hlo : k < (i * st.pages + j) * 2
      · exact s2 k hlo
      · exact splice_out (B := #[.bool x.isSome, .string (x.getD ByteArray.empty)]) (by exact hf) (by show (i * st.pages + j) * 2 + 2 ≤ k; omega)
    rw [hold, h2 k _ (lcs_at hk)]
    unfold lcAt
    dsimp only
    have hne : ¬ (k / 2 / st.pages = i ∧ k / 2 % st.pages = j) := by
      rintro ⟨e1, e2⟩
      apply hkk
      have := Nat.div_add_mod (k / 2) st.pages
      rw [e1, e2, Nat.mul_comm] at this
      omega
    have hu : updP st.page i j x (k / 2 / st.pages) (k / 2 % st.pages) = st.page (k / 2 / st.pages) (k / 2 % st.pages) := by
      unfold updP
      rw [if_neg hne]
    rw [hu]
theorem cbuild_0 (w : World) : (Instr.buildSlice 50 0 #[]).run Try.prog w = .ok (.slice (some ⟨w.heap.size, 0, none⟩) 0 0) (w.alloc (.cells #[] 97)) := by
  obtain ⟨ie, hie, hz, hs, hb⟩ := info_parts (show (Try.prog.info? 97).map (fun i => (i.zero, i.size, i.bytes)) = some (some (.agg #[.bool false, .string ByteArray.empty]), 2, 24) by kernel_rfl)
  simp [Instr.buildSlice, run_underlying (P := Try.prog) Try.underlying50, sizeOf, typeInfo, hie, Instr.fill, newRow]
  have he : ∀ f : Nat → Value, Array.map f (Array.range 0) = #[] := fun f => Array.eq_empty_of_size_eq_zero (by simp)
  rw [he]
/-- The pages' cells, copied. -/
theorem copyL {T : List (Nat × Array Value × TypeId)} {a w : World} {lv : Value} {st : Cp} (h : LC w lv st) (t : Tab T a w) (hs : 1 ≤ st.segs ∧ st.segs ≤ 64 ∧ 1 ≤ st.pages ∧ st.pages ≤ 16) :
    ∃ g cap cur W, (∀ ty, (Builtin.append_ #[50, 50] ty #[.slice (some ⟨w.heap.size, 0, none⟩) 0 0, lv]).run Try.prog (w.alloc (.cells #[] 97)) = .ok (.slice (some ⟨g, 0, none⟩) (st.segs * st.pages) cap) W) ∧ st.segs * st.pages ≤ cap ∧ cap ≤ maxLen ∧ Tab ((g, cur, 97) :: T) a W ∧ LR cur st ∧ w.heap.size ≤ g := by
  obtain ⟨ie, hie, hz, hsz, hby⟩ := info_parts (show (Try.prog.info? 97).map (fun i => (i.zero, i.size, i.bytes)) = some (some (.agg #[.bool false, .string ByteArray.empty]), 2, 24) by kernel_rfl)
  have hL : 1 ≤ st.segs * st.pages ∧ st.segs * st.pages ≤ 1024 := ⟨Nat.mul_le_mul hs.1 hs.2.2.1, Nat.mul_le_mul hs.2.1 hs.2.2.2⟩
  have o1 : Only (fun _ => False) w (w.alloc (.cells #[] 97)) := (Only.refl _ _).alloc _
  obtain ⟨b, cap0, rfl, hc1, hc2, hcs⟩ := h.keep o1
  have hown : (w.alloc (.cells #[] 97)).ownsRow w.heap.size 97 2 (.slice (some ⟨w.heap.size, 0, none⟩) 0 0) 0 [] := World.ownsRow_lit w #[] 0 (Nat.le_refl _) (Nat.zero_le _) rfl
  have hnews : ∀ (j : Nat) (u : Value), (lcs st)[j]? = some u → (w.alloc (.cells #[] 97)).cell? ((⟨b, 0, none⟩ : Addr).add j) = some u := fun j u hu => by
    have : (⟨b, 0, none⟩ : Addr).add j = ⟨b, j, none⟩ := by unfold Addr.add; split <;> simp_all
    rw [this]
    exact hcs j u hu
  have h1c : ∀ u ∈ lcs st, u.oneCell' = true := fun u hu => by
    obtain ⟨k, _, rfl⟩ := List.mem_map.1 hu
    unfold lcAt
    split <;> rfl
  have hrun := fun ty => run_append_own_at (P := Try.prog) (w.alloc (.cells #[] 97)) w.heap.size 50 ty 97 ie (.agg #[.bool false, .string ByteArray.empty]) 2 24 Try.underlying50 hie hz hsz hby rfl (by decide) _ 0 [] hown ⟨b, 0, none⟩ (st.segs * st.pages) cap0 (lcs st) (lcs_len st) hnews h1c (by unfold maxLen; omega) (by omega) (by simp)
  obtain ⟨v', W, hr, ho, hg, hn, _⟩ := hrun 50
  rw [Nat.zero_add, List.nil_append] at ho
  obtain ⟨_, ⟨rfl, h0⟩ | ⟨g, cap, cur, rfl, hgb, hrow, h2, h3, h4, h5⟩⟩ := ho
  · omega
  · have oW : Only (fun k => w.heap.size ≤ k) w W := (o1.mono (fun _ x => x.elim)).trans ((grown_only hg).mono (fun k hk => by
      have : w.heap.size = k := by simpa [Value.ownBlock] using hk
      omega))
    refine ⟨g, cap, cur, W, fun ty => hr, h2, h3, t.push oW (fun k hk => hk) hrow hgb, ⟨?_, fun k u hu => ?_⟩, hgb⟩
    · have := congrArg List.length h5
      rw [List.length_take, lcs_len] at this
      simp at this
      omega
    · rw [← h5, List.getElem?_take] at hu
      split at hu
      · simpa using hu
      · cases hu
end Go.Proofs.Ytjnjnkkdpglfhaa
