/-
  shown.
-/
import Derived.Test.YtnppjkekbdapkaaCan
set_option linter.unusedVariables false
namespace Go.Proofs.Ytnppjkekbdapkaa
open Go.RowKit

def flat (l : List Nd) : List Value := l.flatMap ndL
theorem flat_cons (x : Nd) (l : List Nd) : flat (x :: l) = ndL x ++ flat l := rfl
theorem flat_append (l m : List Nd) : flat (l ++ m) = flat l ++ flat m := by simp [flat]
theorem flat_len (l : List Nd) : (flat l).length = l.length * 3 := by
  induction l with
  | nil => rfl
  | cons x l ih => rw [flat_cons, List.length_append, ih, List.length_cons]; simp [ndL]; omega
theorem flat_at {l : List Nd} {i : Nat} {x : Nd} (h : l[i]? = some x) {j : Nat} {v : Value} (hv : (ndL x)[j]? = some v) : (flat l)[i * 3 + j]? = some v := by
  have hj : j < 3 := (List.getElem?_eq_some_iff.1 hv).1
  induction l generalizing i with
  | nil => cases h
  | cons y l ih =>
    rw [flat_cons]
    have h3 : (ndL y).length = 3 := rfl
    cases i with
    | zero =>
      obtain rfl : y = x := by simpa using h
      rw [List.getElem?_append_left (by omega)]
      simpa using hv
    | succ i =>
      rw [List.getElem?_append_right (by omega)]
      have := ih (i := i) (by simpa using h)
      rw [← this]
      congr 1
      omega
theorem NL.of_row {w : World} {g cap : Nat} {cs : Array Value} {t : TypeId} {l : List Nd} (hg : w.heap[g]? = some (.cells cs t (0, 0))) (hl : l.length ≤ cap) (hc : cap ≤ maxLen) (h : ∀ (i : Nat) (u : Value), (flat l)[i]? = some u → cs[i]? = some u) : NL w (.slice (some ⟨g, 0, none⟩) l.length cap) l := by
  refine ⟨_, cap, rfl, .inr ⟨_, rfl, hl, hc, by simp, ?_, ?_⟩⟩
  · intro r hr
    obtain ⟨y, hy, rfl⟩ := List.mem_map.1 hr
    rfl
  · intro i r hr j v hv
    rw [List.getElem?_map] at hr
    obtain ⟨x, hx, rfl⟩ := Option.map_eq_some_iff.1 hr
    have : (((⟨g, 0, none⟩ : Addr).add (i * 3)).add j) = ⟨g, i * 3 + j, none⟩ := by unfold Addr.add; split <;> split <;> simp_all
    rw [this, cell_of_row w g _ _ _ _ hg]
    exact h _ _ (flat_at hx hv)
theorem IL.of_row {w : World} {g cap : Nat} {cs : Array Value} {t : TypeId} {l : List Int} (hg : w.heap[g]? = some (.cells cs t (0, 0))) (hl : l.length ≤ cap) (hc : cap ≤ maxLen) (h : ∀ (i : Nat) (u : Value), (l.map (Value.int .i64))[i]? = some u → cs[i]? = some u) : IL w (.slice (some ⟨g, 0, none⟩) l.length cap) l := by
  have := VL.of_row (xs := l.map (Value.int .i64)) (cap := cap) hg (by simpa using hl) hc h
  rw [List.length_map] at this
  exact this

def shL : List Nd := [⟨1, 1, 0⟩, ⟨0, 2, 0⟩, ⟨3, 0, 1⟩]
theorem shL_cl : cl shL 0 = 0 ∧ cl shL 1 = 1 ∧ cl shL 2 = 2 := by decide
theorem sh_no : canB shL [2] 1 = false := by
  have h := canB_iff (l := shL) (kn := [2]) (by decide) (i := 1) (by decide)
  obtain ⟨e0, e1, e2⟩ := shL_cl
  cases hc : canB shL [2] 1
  · rfl
  · exfalso
    have hd := h.1 hc
    have := hd.least (K := fun c => c = 2) (by
      rintro c ⟨x, hx, _, _, rfl⟩
      obtain rfl : x = 2 := by simpa using hx
      exact e2) (by
      rintro c ⟨k, x, hx, ho, ha⟩
      match k, hx with
      | 0, hx => obtain rfl : (⟨1, 1, 0⟩ : Nd) = x := by simpa [shL] using hx
                 simp at ho
      | 1, hx => obtain rfl : (⟨0, 2, 0⟩ : Nd) = x := by simpa [shL] using hx
                 simp at ho
      | 2, hx =>
        obtain rfl : (⟨3, 0, 1⟩ : Nd) = x := by simpa [shL] using hx
        rcases ha with ⟨rfl, _, _⟩ | ⟨_, h, _⟩ | ⟨_, _, h, _⟩
        · exact e2
        · cases h
        · rw [show ((⟨3, 0, 1⟩ : Nd).a.toNat) = 0 from rfl, e0] at h
          cases h
      | k + 3, hx => simp [shL] at hx)
    rw [e1] at this
    cases this
theorem sh_yes : canB shL [2, 0] 1 = true := by
  refine (canB_iff (l := shL) (kn := [2, 0]) (by decide) (i := 1) (by decide)).2 ?_
  refine Der.step ⟨2, ⟨3, 0, 1⟩, rfl, .inr rfl, .inr (.inr ⟨Der.of ⟨2, by simp, by decide, by decide, rfl⟩, rfl, Der.of ⟨0, by simp, by decide, by decide, rfl⟩, rfl⟩)⟩
theorem build_n3 (x y z : Nd) (w : World) : (Instr.buildSlice 22 3 #[(0, .agg (ndA x)), (1, .agg (ndA y)), (2, .agg (ndA z))]).run Try.prog w = .ok (.slice (some ⟨w.heap.size, 0, none⟩) 3 3) (w.alloc (.cells (flat [x, y, z]).toArray 34)) := by
  obtain ⟨ie, hie, hz, hs, hb⟩ := info_parts (show (Try.prog.info? 34).map (fun i => (i.zero, i.size, i.bytes)) = some (some (.agg #[.int .i64 0, .int .i64 0, .int .i64 0]), 3, 24) by kernel_rfl)
  refine run_buildSlice w 22 34 3 _ _ ie _ Try.underlying22 hie hz (by omega) (by omega) ?_
  rw [hs]
  kernel_rfl
theorem b34a (x y : Int) (w : World) : (Instr.build 34 #[(0, .int .i64 x), (1, .int .i64 y)]).run Try.prog w = .ok (.agg #[.int .i64 x, .int .i64 y, .int .i64 0]) w := run_build w 34 _ _ (by kernel_rfl)
theorem b34b (x y z : Int) (w : World) : (Instr.build 34 #[(0, .int .i64 x), (1, .int .i64 y), (2, .int .i64 z)]).run Try.prog w = .ok (.agg #[.int .i64 x, .int .i64 y, .int .i64 z]) w := run_build w 34 _ _ (by kernel_rfl)
set_option maxHeartbeats 4000000 in
theorem shown_any (w : World) : Calls Try.prog 9 #[] w fun e w' => e = .returned (.bool true) ∧ Only (fun _ => False) w w' := by
  have HB : Hid ((Instr.buildSlice 22 3 #[(0, .agg #[.int .i64 1, .int .i64 1, .int .i64 0]), (1, .agg #[.int .i64 0, .int .i64 2, .int .i64 0]), (2, .agg #[.int .i64 3, .int .i64 0, .int .i64 1])]).run Try.prog w = .ok (.slice (some ⟨w.heap.size, 0, none⟩) 3 3) (w.alloc (.cells #[.int .i64 1, .int .i64 1, .int .i64 0, .int .i64 0, .int .i64 2, .int .i64 0, .int .i64 3, .int .i64 0, .int .i64 1] 34))) := build_n3 ⟨1, 1, 0⟩ ⟨0, 2, 0⟩ ⟨3, 0, 1⟩ w
  obtain ⟨V, hV⟩ : ∃ V, V = w.alloc (.cells #[.int .i64 1, .int .i64 1, .int .i64 0, .int .i64 0, .int .i64 2, .int .i64 0, .int .i64 3, .int .i64 0, .int .i64 1] 34) := ⟨_, rfl⟩
  have HVO : Hid (Only (fun _ => False) w V) := by rw [hV]; exact (Only.refl _ _).alloc _
  have HNL : Hid (NL V (.slice (some ⟨w.heap.size, 0, none⟩) 3 3) shL) := by
    rw [hV]
    exact NL.of_row (l := shL) (cap := 3) (heap_alloc_new _ _) (by decide) (by unfold maxLen; omega) (fun i u h => by rw [← h]; simp [flat, shL, ndL])
  have HB1 := Lib.hid (fun W => build_f 2 W)
  have HB2 := Lib.hid (fun W => build_f2 2 0 W)
  have HWF : Hid (∀ x ∈ shL, x.Wf) := by intro x hx; simp [shL] at hx; rcases hx with rfl | rfl | rfl <;> exact ⟨by unfold wf64; decide, by unfold wf64; decide, by unfold wf64; decide⟩
  have HC1 : Hid (∀ W, Only (fun _ => False) V W → Calls Try.prog 14 #[.slice (some ⟨w.heap.size, 0, none⟩) 3 3, .slice (some ⟨W.heap.size, 0, none⟩) 1 1, .int .i64 1] (W.alloc (.cells #[.int .i64 2] 3)) fun e w' => e = .returned (.bool false) ∧ Only (fun _ => False) V w') := fun W o => by
    have h := can_any shL [2] 1 _ _ (W.alloc (.cells #[.int .i64 2] 3)) (HNL.out.keep (o.alloc _)) (IL.of_row (l := [2]) (cap := 1) (heap_alloc_new _ _) (by decide) (by unfold maxLen; omega) (fun i u h => by simpa using h)) HWF.out (by decide) (by decide) (by unfold wf64; decide)
    rw [sh_no] at h
    exact h.mono fun e w' ⟨h1, h2⟩ => ⟨h1, (o.alloc _).trans h2⟩
  have HC2 : Hid (∀ W, Only (fun _ => False) V W → Calls Try.prog 14 #[.slice (some ⟨w.heap.size, 0, none⟩) 3 3, .slice (some ⟨W.heap.size, 0, none⟩) 2 2, .int .i64 1] (W.alloc (.cells #[.int .i64 2, .int .i64 0] 3)) fun e w' => e = .returned (.bool true) ∧ Only (fun _ => False) V w') := fun W o => by
    have h := can_any shL [2, 0] 1 _ _ (W.alloc (.cells #[.int .i64 2, .int .i64 0] 3)) (HNL.out.keep (o.alloc _)) (IL.of_row (l := [2, 0]) (cap := 2) (heap_alloc_new _ _) (by decide) (by unfold maxLen; omega) (fun i u h => by simpa using h)) HWF.out (by decide) (by decide) (by unfold wf64; decide)
    rw [sh_yes] at h
    exact h.mono fun e w' ⟨h1, h2⟩ => ⟨h1, (o.alloc _).trans h2⟩
  have HC1' := Lib.hid (HC1.out V (Only.refl _ V))
  have HD1 := Lib.hid (b34a 1 1 w)
  have HD2 := Lib.hid (b34a 0 2 w)
  have HD3 := Lib.hid (b34b 3 0 1 w)
  go_enter Try.func9, Try.ntmps9
  have HV := Lib.hid hV
  clear hV
  go_upto_region 1 with fail
  go_step
  refine wpList_build_at rfl 34 _ rfl [(0, .int .i64 1), (1, .int .i64 1)] rfl _ HD1.out ?_
  refine wpList_build_at rfl 34 _ rfl [(0, .int .i64 0), (1, .int .i64 2)] rfl _ HD2.out ?_
  refine wpList_build_at rfl 34 _ rfl [(0, .int .i64 3), (1, .int .i64 0), (2, .int .i64 1)] rfl _ HD3.out ?_
  refine wpList_bs_at rfl 22 3 _ rfl [(0, .agg #[.int .i64 1, .int .i64 1, .int .i64 0]), (1, .agg #[.int .i64 0, .int .i64 2, .int .i64 0]), (2, .agg #[.int .i64 3, .int .i64 0, .int .i64 1])] rfl _ HB.out ?_
  rw [← HV.out]
  go_upto_region 2 with fail
  have HB1' := Lib.hid (HB1.out V)
  go_wp2_with (first | ((with_reducible refine wpList_bs_at ?_ 23 1 #[(0, .const (.int .i64 2))] ?_ [(0, .int .i64 2)] ?_ _ HB1'.out ?_); rfl; rfl; rfl) | (go_at_call 14; with_reducible refine HC1'.out.mono ?_; rintro e w1 ⟨rfl, h1⟩; have HB2' := Lib.hid (HB2.out w1); have HC2' := Lib.hid (HC2.out _ h1)) | ((with_reducible refine wpList_bs_at ?_ 23 2 #[(0, .const (.int .i64 2)), (1, .const (.int .i64 0))] ?_ [(0, .int .i64 2), (1, .int .i64 0)] ?_ _ HB2'.out ?_); rfl; rfl; rfl) | (go_at_call 14; with_reducible refine HC2'.out.mono ?_; rintro e w2 ⟨rfl, h2⟩))
  go_ret
  exact ⟨rfl, HVO.out.trans h2⟩
end Go.Proofs.Ytnppjkekbdapkaa
