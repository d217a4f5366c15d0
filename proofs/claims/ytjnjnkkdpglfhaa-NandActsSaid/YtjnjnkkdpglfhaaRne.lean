/-
  The reference: New.
-/
import Derived.Test.YtjnjnkkdpglfhaaRno
import Derived.Test.YtjnjnkkdpglfhaaSho
set_option linter.unusedVariables false
namespace Go.Proofs.Ytjnjnkkdpglfhaa
open Go.RowKit

/-- A chip's cells at first. -/
def NC (a b c : Int) (lv : Value) : Array Value := (((Z53.setIfInBounds 4 (.int .i64 a)).setIfInBounds 5 (.int .i64 b)).setIfInBounds 6 (.int .i64 c)).setIfInBounds 71 lv
theorem build53 (a b c : Int) (g n : Nat) (w : World) : (Instr.build 53 #[(1, .int .i64 a), (2, .int .i64 b), (3, .int .i64 c), (5, .slice (some ⟨g, 0, none⟩) n n)]).run Try.prog w = .ok (.agg (NC a b c (.slice (some ⟨g, 0, none⟩) n n))) w := run_build w 53 _ _ (by kernel_rfl)
def zL : List Value := [.bool false, .int .i64 0, .int .i64 0, .int .u8 0, .int .i64 0, .int .i64 0, .int .i64 0]
theorem Z53_list : Z53.toList = zL ++ (List.replicate 64 (.bool false) ++ (.slice none 0 0 :: (List.replicate 64 (.int .i64 0) ++ [.slice none 0 0, .int .i64 0, .int .i64 0]))) := by rfl
theorem Z53_bad {i : Nat} (h : i < 64) : Z53[7 + i]? = some (.bool false) := by
  rw [← Array.getElem?_toList, Z53_list, List.getElem?_append_right (by simp [zL]), show 7 + i - zL.length = i by simp [zL], List.getElem?_append_left (by rw [List.length_replicate]; exact h), List.getElem?_replicate, if_pos h]
theorem Z53_worn {i : Nat} (h : i < 64) : Z53[72 + i]? = some (.int .i64 0) := by
  rw [← Array.getElem?_toList, Z53_list, List.getElem?_append_right (by simp [zL]; omega), show 72 + i - zL.length = 65 + i by simp [zL]; omega, List.getElem?_append_right (by rw [List.length_replicate]; omega), List.length_replicate, show 65 + i - 64 = i + 1 by omega, List.getElem?_cons_succ, List.getElem?_append_left (by rw [List.length_replicate]; exact h), List.getElem?_replicate, if_pos h]
theorem ra_new (a b : Nat) (c : Int) (lv : Value) (h1 : lv.oneCell' = true) (ha : 1 ≤ a ∧ a ≤ 64) (hb : 1 ≤ b ∧ b ≤ 16) : RA (NC a b c lv) lv (.slice none 0 0) (newCp a b c (fun _ => false)) p0 := by
  have hz : Z53.size = 139 := Z53_size
  have k : ∀ j, j ≠ 4 → j ≠ 5 → j ≠ 6 → j ≠ 71 → (NC a b c lv)[j]? = Z53[j]? := fun j h4 h5 h6 h7 => by
    unfold NC
    rw [Array.getElem?_setIfInBounds_ne (by omega), Array.getElem?_setIfInBounds_ne (by omega), Array.getElem?_setIfInBounds_ne (by omega), Array.getElem?_setIfInBounds_ne (by omega)]
  have hs : (NC a b c lv).size = 139 := by unfold NC; simp [hz]
  refine ⟨hs, ?_, ?_, ?_, ?_, fun i hi => ?_, ?_, fun i hi => ?_, ?_, ?_, ?_, ⟨ha.1, ha.2, hb.1, hb.2⟩, ?_⟩
  · apply Array.ext_getElem?
    intro j
    rw [Array.getElem?_extract]
    by_cases hj : j < 4
    · rw [if_pos (by omega), k _ (by omega) (by omega) (by omega) (by omega)]
      have q0 : Z53[0]? = (p0.cells)[0]? := by kernel_rfl
      have q1 : Z53[1]? = (p0.cells)[1]? := by kernel_rfl
      have q2 : Z53[2]? = (p0.cells)[2]? := by kernel_rfl
      have q3 : Z53[3]? = (p0.cells)[3]? := by kernel_rfl
      rw [Nat.zero_add]
      rcases (by omega : j = 0 ∨ j = 1 ∨ j = 2 ∨ j = 3) with rfl | rfl | rfl | rfl
      · exact q0
      · exact q1
      · exact q2
      · exact q3
    · rw [if_neg (by omega), Array.getElem?_eq_none (by show 4 ≤ j; omega)]
  · unfold NC
    rw [Array.getElem?_setIfInBounds_ne (by omega), Array.getElem?_setIfInBounds_ne (by omega), Array.getElem?_setIfInBounds_ne (by omega), Array.getElem?_setIfInBounds_self_of_lt (by omega)]
    rfl
  · unfold NC
    rw [Array.getElem?_setIfInBounds_ne (by omega), Array.getElem?_setIfInBounds_ne (by omega), Array.getElem?_setIfInBounds_self_of_lt (by simp; omega)]
    rfl
  · unfold NC
    rw [Array.getElem?_setIfInBounds_ne (by omega), Array.getElem?_setIfInBounds_self_of_lt (by simp; omega)]
    rfl
  · have hi' : i < a := hi
    rw [k _ (by omega) (by omega) (by omega) (by omega), Z53_bad (by omega)]
    rfl
  · unfold NC
    rw [Array.getElem?_setIfInBounds_self_of_lt (by simp; omega)]
  · have hi' : i < a := hi
    rw [k _ (by omega) (by omega) (by omega) (by omega), Z53_worn (by omega)]
    rfl
  · rw [k _ (by omega) (by omega) (by omega) (by omega)]; kernel_rfl
  · rw [k _ (by omega) (by omega) (by omega) (by omega)]; kernel_rfl
  · rw [k _ (by omega) (by omega) (by omega) (by omega)]; kernel_rfl
  · intro v hv
    unfold NC at hv
    simp only [Array.toList_setIfInBounds] at hv
    rcases List.mem_or_eq_of_mem_set hv with hv | rfl
    · rcases List.mem_or_eq_of_mem_set hv with hv | rfl
      · rcases List.mem_or_eq_of_mem_set hv with hv | rfl
        · rcases List.mem_or_eq_of_mem_set hv with hv | rfl
          · exact Z53_one v hv
          · rfl
        · rfl
      · rfl
    · exact h1
section
variable {A : Array Value} {lv pv : Value} {st : Cp} {p : Pw}
theorem RA.setBad (h : RA A lv pv st p) {i : Nat} (hi : i < st.segs) (x : Bool) : RA (A.setIfInBounds (7 + i) (.bool x)) lv pv { st with bad := fun k => if k = i then x else st.bad k } p := by
  have hl := h.lens
  obtain ⟨a1, a2, k, a4, a5⟩ := h.set1 (o := 7 + i) (v := .bool x) (by omega) rfl
  refine ⟨a1, a5 (by omega), by rw [k _ (by omega)]; exact h.segs, by rw [k _ (by omega)]; exact h.pages, by rw [k _ (by omega)]; exact h.rated, fun j hj => ?_, by rw [k _ (by omega)]; exact h.l, fun j hj => ?_, by rw [k _ (by omega)]; exact h.past, by rw [k _ (by omega)]; exact h.programs, by rw [k _ (by omega)]; exact h.erases, h.lens, a4⟩
  · by_cases e : j = i
    · subst e
      simp only [if_true]
      exact a2
    · have hj' : j < st.segs := hj
      simp only [if_neg e]
      rw [k _ (by omega)]
      exact h.bad j hj
  · have hj' : j < st.segs := hj
    rw [k _ (by omega)]
    exact h.worn j hj
theorem RA.badExt (h : RA A lv pv st p) (bd : Nat → Bool) (hb : ∀ i, i < st.segs → st.bad i = bd i) : RA A lv pv { st with bad := bd } p := ⟨h.size, h.pw, h.segs, h.pages, h.rated, fun i hi => by rw [h.bad i hi, hb i hi], h.l, h.worn, h.past, h.programs, h.erases, h.lens, h.one⟩
end
theorem make50 (n : Nat) (hn : n ≤ 1024) (w : World) : (Instr.makeSlice 50 (.int .i64 n) (.int .i64 n)).run Try.prog w = .ok (.slice (some ⟨w.heap.size, 0, none⟩) n n) (w.alloc (.cells (madeCells #[.bool false, .string ByteArray.empty] (n * 2)) 97)) := by
  obtain ⟨i, hi, hz, h1, h2⟩ := info_parts (show (Try.prog.info? 97).map (fun i => (i.zero, i.size, i.bytes)) = some (some (.agg #[.bool false, .string ByteArray.empty]), 2, 24) by kernel_rfl)
  have := run_make (P := Try.prog) w 50 97 i _ Try.underlying50 hi hz .i64 .i64 n n (by omega) (by omega) (by rw [h2]; omega) (by omega)
  rw [h1, show (Value.agg #[Value.bool false, Value.string ByteArray.empty]).cells = #[Value.bool false, Value.string ByteArray.empty] from rfl] at this
  simpa using this
theorem lr_new (a b : Nat) (c : Int) (bd : Nat → Bool) : LR (madeCells #[.bool false, .string ByteArray.empty] (a * b * 2)) (newCp a b c bd) := by
  refine ⟨by rw [size_madeCells]; exact Nat.le_refl _, fun k u hu => ?_⟩
  have hk : k < a * b * 2 := by
    have := (List.getElem?_eq_some_iff.1 hu).1
    rw [lcs_len] at this
    exact this
  rw [lcs_at (st := newCp a b c bd) hk] at hu
  obtain rfl := Option.some.inj hu
  have e : (madeCells #[.bool false, .string ByteArray.empty] (a * b * 2))[k]? = some (#[Value.bool false, .string ByteArray.empty][k % 2]!) := by simp [madeCells, hk]
  rw [e]
  unfold lcAt
  by_cases hm : k % 2 = 0
  · rw [if_pos hm, hm]
    rfl
  · rw [if_neg hm, show k % 2 = 1 by omega]
    rfl
/-- The segments that are bad, by the first k numbers. -/
def bdOf (l : List Int) (k : Nat) : Nat → Bool := fun i => (l.take k).contains (i : Int)
theorem bdOf_0 (l : List Int) : bdOf l 0 = fun _ => false := by
  funext i
  simp [bdOf]
theorem bdOf_end (l : List Int) : bdOf l l.length = fun (i : Nat) => l.contains (i : Int) := by
  funext i
  simp [bdOf]
theorem bdOf_step (l : List Int) (k : Nat) {z : Int} (hz : l[k]? = some z) (i : Nat) : bdOf l (k + 1) i = (bdOf l k i || decide ((i : Int) = z)) := by
  unfold bdOf
  obtain ⟨hk, rfl⟩ := List.getElem?_eq_some_iff.1 hz
  rw [List.take_add_one, List.getElem?_eq_getElem hk]
  simp only [List.contains_eq_mem, List.mem_append, Option.toList_some, List.mem_singleton]
  by_cases h1 : (i : Int) ∈ List.take k l <;> by_cases h2 : (i : Int) = l[k] <;> simp [h1, h2]
set_option maxRecDepth 100000 in
set_option maxHeartbeats 8000000 in
theorem rnew_ok {w : World} (a b : Nat) (c : Int) (bv : Value) (bl : List Int) (hb : IL w bv bl) (ha : 1 ≤ a ∧ a ≤ 64) (hbb : 1 ≤ b ∧ b ≤ 16) (hc : 0 ≤ c) :
    Calls Try.prog 22 #[.int .i64 a, .int .i64 b, .int .i64 c, bv] w fun e w' => ∃ A, e = .returned (.tuple #[.agg A, .bool true]) ∧ (∃ lv, RA A lv (.slice none 0 0) (newCp a b c (fun (i : Nat) => bl.contains (i : Int))) p0 ∧ LNew w w' lv (newCp a b c (fun (i : Nat) => bl.contains (i : Int)))) ∧ Only (fun _ => False) w w' := by
  have HB := Lib.hid hb
  obtain ⟨ad, capb, rfl, hcb1, hcb2, -⟩ := hb
  have HX := Lib.hid (And.intro ha hbb)
  have hbl : bl.length ≤ 9223372036854775807 := by unfold maxLen at hcb2; omega
  have n1 : ¬ (a : Int) < 1 := by omega
  have n2 : ¬ (64 : Int) < (a : Int) := by omega
  have n3 : ¬ (b : Int) < 1 := by omega
  have n4 : ¬ (16 : Int) < (b : Int) := by omega
  have n5 : ¬ c < 0 := by omega
  obtain ⟨n, hn⟩ : ∃ n, n = a * b := ⟨_, rfl⟩
  have hmul : (a : Int) * (b : Int) = (n : Int) := by rw [hn]; simp
  have hn1 : n ≤ 1024 := by rw [hn]; exact Nat.mul_le_mul ha.2 hbb.2
  have hw1 : IntKind.i64.wrap (n : Int) = (n : Int) := by rw [IntKind.wrap_i64]; omega
  go_enter Try.func22, Try.ntmps22
  go_upto_region 1 with ((with_reducible refine wpList_alloc_at ?_ 53 ?_ _ (zero53 _) ?_); rfl; rfl)
  refine at_world (fun W => Tab [(w.heap.size, Z53, 53)] w W) (Tab.box1 w Z53 53) ?_
  intro W1 T1
  have hmk := make50 n hn1 W1
  have T2 := T1.alloc (madeCells #[.bool false, .string ByteArray.empty] (n * 2)) 97
  generalize W1.alloc (.cells (madeCells #[.bool false, .string ByteArray.empty] (n * 2)) 97) = W2 at *
  generalize W1.heap.size = gl at *
  obtain ⟨W3, hs3, T3, z3, o3⟩ := T2.fresh (B := NC a b c (.slice (some ⟨gl, 0, none⟩) n n)) Z53 53 info53s (ra_new a b c _ rfl ha hbb).size Z53_size (ra_new a b c _ rfl ha hbb).one
  have hra := ra_new a b c (.slice (some ⟨gl, 0, none⟩) n n) rfl ha hbb
  have HBU := Lib.hid (fun W => build53 a b c gl n W)
  have HMK := Lib.hid hmk
  have HS3 := Lib.hid hs3
  have HT3 := Lib.hid T3
  generalize NC a b c (.slice (some ⟨gl, 0, none⟩) n n) = A0 at *
  have HRA := Lib.hid hra
  have HN := Lib.hid hn
  have ha64 : a ≤ 64 := ha.2
  clear ha hbb hc hn T1 hmk T2 hs3 T3 z3 o3 hra hn1
  go_upto_region 5 with (first | ((with_reducible refine wpList_make_at ?_ 50 (.tmp 36) (.tmp 36) ?_ _ _ _ ?_ ?_ HMK.out ?_); rfl; rfl; rfl; rfl) | ((with_reducible refine wpList_build_at ?_ 53 #[(1, .tmp 31), (2, .tmp 32), (3, .tmp 33), (5, .tmp 37)] ?_ [(1, .int .i64 a), (2, .int .i64 b), (3, .int .i64 c), (5, .slice (some ⟨gl, 0, none⟩) n n)] ?_ _ (HBU.out _) ?_); rfl; rfl; rfl) | ((with_reducible refine wpList_alloc_at ?_ 53 ?_ _ (zero53 _) ?_); rfl; rfl) | ((with_reducible refine wpList_store_at ?_ 53 (.tmp 10) (.tmp 38) ?_ _ ?_ _ ?_ HS3.out ?_); rfl; rfl; rfl; rfl))
  clear HMK HBU HS3 hmul hw1 n1 n2 n3 n4 n5
  generalize W2.heap.size = gb at *
  go_loopw [11] (fun y wr => ∃ k : Nat, k ≤ bl.length ∧ y = .int .i64 k ∧ Hid (∃ A, Tab [(gb, A, 53), (gl, madeCells #[.bool false, .string ByteArray.empty] (n * 2), 97), (w.heap.size, Z53, 53)] w wr ∧ RA A (.slice (some ⟨gl, 0, none⟩) n n) (.slice none 0 0) (newCp a b c (bdOf bl k)) p0)) (fun y _ => bl.length - (intOf y).toNat)
  case atStart => exact ⟨0, by omega, rfl, A0, HT3.out, by rw [bdOf_0]; exact HRA.out⟩
  case round =>
    obtain ⟨k, hk, rfl, hx⟩ := hrel
    by_cases hlt : k < bl.length
    · obtain ⟨z, hz⟩ : ∃ z, bl[k]? = some z := ⟨_, List.getElem?_eq_getElem hlt⟩
      obtain ⟨A, hT, hA⟩ := hx.out
      obtain ⟨b1, o1, q1, e1, _, c1⟩ := (HB.out.keep hT.only).at hz
      cases e1
      have HK := Lib.hid hlt
      have hlt' : (k : Int) < bl.length := by omega
      have hk0 : (0 : Int) ≤ (k : Int) := by omega
      by_cases hin : 0 ≤ z ∧ z < (a : Int)
      · obtain ⟨j, rfl⟩ := Int.eq_ofNat_of_zero_le hin.1
        have hja : j < a := by have := hin.2; omega
        have hj0 : (0 : Int) ≤ (j : Int) := by omega
        have hja' : (j : Int) < (a : Int) := by omega
        have hj64 : (j : Int) < 64 := by omega
        obtain ⟨Wa, hsa, Ta, za, oa⟩ := hT.one 0 rfl 4 (7 + j) (.bool true) info4s rfl (by rw [hA.size]; omega)
        have hA2 := (hA.setBad (i := j) hja true).badExt (bdOf bl (k + 1)) (fun i _ => by
          show (if i = j then true else bdOf bl k i) = _
          rw [bdOf_step bl k hz]
          by_cases e : i = j
          · rw [if_pos e, decide_eq_true (by omega)]; simp
          · rw [if_neg e, decide_eq_false (by omega)]; simp)
        have HF : Hid (∃ A, Tab [(gb, A, 53), (gl, madeCells #[.bool false, .string ByteArray.empty] (n * 2), 97), (w.heap.size, Z53, 53)] w Wa ∧ RA A (.slice (some ⟨gl, 0, none⟩) n n) (.slice none 0 0) (newCp a b c (bdOf bl (k + 1))) p0) := ⟨_, Ta, hA2⟩
        have HSa := Lib.hid hsa
        clear hx hT hA hsa Ta za oa hA2 hin hz hlt
        go_wp2_with ((with_reducible refine wpList_store_at ?_ 4 (.tmp 63) (.const (.bool true)) ?_ _ ?_ _ ?_ HSa.out ?_); rfl; rfl; rfl; rfl)
        go_roundw
        case rel => exact ⟨k + 1, by have := HK.out; omega, by go_num, HF.out⟩
        case measure => have := HK.out; simp [intOf]; omega
      · have hA2 := hA.badExt (bdOf bl (k + 1)) (fun i hi => by
          have hi' : i < a := hi
          show bdOf bl k i = _
          rw [bdOf_step bl k hz, decide_eq_false (by omega)]
          simp)
        have HF : Hid (∃ A, Tab [(gb, A, 53), (gl, madeCells #[.bool false, .string ByteArray.empty] (n * 2), 97), (w.heap.size, Z53, 53)] w wr ∧ RA A (.slice (some ⟨gl, 0, none⟩) n n) (.slice none 0 0) (newCp a b c (bdOf bl (k + 1))) p0) := ⟨_, hT, hA2⟩
        by_cases h0 : 0 ≤ z
        · have h1 : ¬ z < (a : Int) := fun h => hin ⟨h0, h⟩
          clear hx hT hA hA2 hin hz hlt
          go_wp2_with fail
          go_roundw
          case rel => exact ⟨k + 1, by have := HK.out; omega, by go_num, HF.out⟩
          case measure => have := HK.out; simp [intOf]; omega
        · clear hx hT hA hA2 hin hz hlt
          go_wp2_with fail
          go_roundw
          case rel => exact ⟨k + 1, by have := HK.out; omega, by go_num, HF.out⟩
          case measure => have := HK.out; simp [intOf]; omega
    · obtain rfl : k = bl.length := by omega
      obtain ⟨A, hT, hA⟩ := hx.out
      obtain ⟨hl, W, hs, hl2, ht, ho⟩ := c53_end' hT (i := 2) (j := 0) rfl rfl Z53_size hA.size hA.one
      rw [bdOf_end] at hA
      have hlr := lr_new a b c (fun (i : Nat) => bl.contains (i : Int))
      rw [← HN.out] at hlr
      have hlc := Tab.rowNew (cap := n) ht 1 rfl hlr (by show a * b ≤ n; rw [HN.out]; exact Nat.le_refl _) (by have := Nat.mul_le_mul HX.out.1.2 HX.out.2.2; rw [HN.out]; unfold maxLen; omega)
      have hlc2 : LNew w W (.slice (some ⟨gl, 0, none⟩) n n) (newCp a b c (fun (i : Nat) => bl.contains (i : Int))) := by
        have e : (newCp a b c (fun (i : Nat) => bl.contains (i : Int))).segs * (newCp a b c (fun (i : Nat) => bl.contains (i : Int))).pages = n := HN.out.symm
        rw [e] at hlc
        exact hlc
      have HF : Hid ((∃ lv, RA A lv (.slice none 0 0) (newCp a b c (fun (i : Nat) => bl.contains (i : Int))) p0 ∧ LNew w W lv (newCp a b c (fun (i : Nat) => bl.contains (i : Int)))) ∧ Only (fun _ => False) w W) := ⟨⟨_, hA, hlc2⟩, ht.only⟩
      have HL1 := Lib.hid hl
      have HS := Lib.hid hs
      have HL2 := Lib.hid hl2
      clear hx hT hA hl hs hl2 ht ho hlr hlc hlc2
      go_wp2_with (first | ((with_reducible refine wpList_load_at ?_ 53 (.tmp 10) ?_ _ ?_ _ HL1.out ?_); rfl; rfl; rfl) | ((with_reducible refine wpList_store_at ?_ 53 (.tmp 8) (.tmp 64) ?_ _ ?_ _ ?_ HS.out ?_); rfl; rfl; rfl; rfl))
      refine bodyPost_ret (v := .tuple #[.agg A, .bool true]) ?_ rfl ⟨A, rfl, HF.out⟩
      have := HL2.out
      simp [results, Try.results22, asAddr, this]
end Go.Proofs.Ytjnjnkkdpglfhaa
