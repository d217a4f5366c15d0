/-
  NodeDecodes: the walk.
-/
import Derived.Test.YtbmckmlekhkpeaaPla
import Derived.Test.YtbmckmlekhkpeaaOpn
import Derived.Test.YtbmckmlekhkpeaaRde
import Derived.Test.YtbmckmlekhkpeaaShn
import Derived.Test.YtbmckmlekhkpeaaHlc
set_option linter.unusedVariables false
namespace Go.Proofs.Ytbmckmlekhkpeaa
open Go.RowKit

/-- The node that Decode answers, and its error. -/
def dcN (s : ByteArray) : Nd := match rdNd s with | .ok n => n | .error _ => ndZ
def dcE (s : ByteArray) : Int := match rdNd s with | .ok _ => 0 | .error x => x
theorem dcV_is (s : ByteArray) : dcV (rdNd s) = .tuple #[.agg (ndA (dcN s)), .int .i64 (dcE s)] := by
  unfold dcN dcE
  cases rdNd s <;> rfl
theorem dcN_ok (s : ByteArray) : (dcN s).Ok := by
  unfold dcN
  cases h : rdNd s with
  | ok n => exact (rdNd_inv h).1
  | error x => exact ndZ_ok
theorem rdNd_err {s : ByteArray} {x : Int} (h : rdNd s = .error x) : x ≠ 0 := by
  unfold rdNd at h
  split at h
  · rename_i e1
    injection h with h
    subst h
    exact rdB_err e1
  · split at h
    · rename_i y e2
      injection h with h
      subst h
      have key : ∀ (leaf : Bool) (s0 : ByteArray) (k : Nat) (y : Int), rdP leaf s0 k = .error y → y ≠ 0 := by
        intro leaf s0 k
        induction k with
        | zero => intro y h; cases h
        | succ k ih =>
          intro y h
          unfold rdP at h
          split at h
          · rename_i z e3
            injection h with h
            subst h
            exact ih _ e3
          · split at h
            · rename_i z e4
              injection h with h
              subst h
              exact rdC_err e4
            · cases h
      exact key _ _ _ _ e2
    · split at h
      · cases h
      · injection h with h
        subst h
        decide

set_option maxHeartbeats 1000000 in
theorem decodes_long (w : World) (s : ByteArray) (hs : s.size ≤ 140737488351232) (h6 : 600 < s.size) :
    Calls Try.prog 3 #[.string s] w fun e w' => e = .returned (.bool true) ∧ Below w.heap.size w w' := by
  have hd : decide ((600 : Int) < (s.size : Int)) = true := decide_eq_true (by omega)
  have hd2 : (600 : Int) < (s.size : Int) := by omega
  clear h6
  go_enter Try.func3, Try.ntmps3
  go_wp2_with fail
  refine (shown_any w).mono ?_
  rintro e w1 ⟨rfl, h1⟩
  go_wp2_with fail
  go_ret
  exact ⟨rfl, h1⟩

set_option maxRecDepth 100000 in
set_option maxHeartbeats 8000000 in
theorem decodes_short (w : World) (s : ByteArray) (hs : s.size ≤ 140737488351232) (h6 : s.size ≤ 600) :
    Calls Try.prog 3 #[.string s] w fun e w' => e = .returned (.bool true) ∧ Below w.heap.size w w' := by
  have hz30 := zero30
  have hz37 := zero37
  have hd : decide ((600 : Int) < (s.size : Int)) = false := decide_eq_false (by omega)
  have HD1 := Lib.hid (fun W => decode_any s W hs)
  have HD2 := Lib.hid (fun W => rdecode_any s W hs)
  rw [dcV_is] at HD1 HD2
  have hok := dcN_ok s
  have HSZ := Lib.hid (ndA_size hok)
  have HF1 := Lib.hid (fun W => fresh_at W 30 85 (ndA ndZ) (ndA (dcN s)) info30s (ndA_size ndZ_ok) (ndA_size hok) (ndA_one _))
  have HF2 := Lib.hid (fun W => fresh_at W 37 85 (ndA ndZ) (ndA (dcN s)) info37s (ndA_size ndZ_ok) (ndA_size hok) (ndA_one _))
  have HITS := Lib.hid (fun W => its_any (dcN s) W hok)
  have HQ := Lib.hid (fun W => nd_eq37 hok hok W)
  rw [(Nd.eqv_iff hok hok).2 rfl] at HQ
  have HEN := Lib.hid (fun W => encode_any (dcN s) W hok)
  have HB := Lib.hid build30
  have HCASE : Hid ((dcE s = 0 ∧ encV (dcN s) = .tuple #[.string s, .int .i64 0]) ∨ (dcE s ≠ 0 ∧ dcN s = ndZ)) := by
    unfold dcE dcN
    cases h : rdNd s with
    | ok n =>
      obtain ⟨_, hm, he⟩ := rdNd_inv h
      refine .inl ⟨rfl, ?_⟩
      show encV n = _
      rw [encV, encS, encE, if_pos hm, if_pos hm]
      rw [show (⟨(encN n).toArray⟩ : ByteArray) = s from he]
    | error x => exact .inr ⟨rdNd_err h, rfl⟩
  have HQZ : Hid (dcN s = ndZ → ∀ W, (Op.equalIn 10000 30 (.agg (ndA (dcN s))) (.agg (ndA ndZ))).run Try.prog W = .ok true W) := by
    intro h W
    rw [h]
    have := nd_eq30 ndZ_ok ndZ_ok W
    rw [(Nd.eqv_iff ndZ_ok ndZ_ok).2 rfl] at this
    exact this
  clear hok h6
  generalize encV (dcN s) = EV at *
  generalize dcN s = N at *
  generalize ndA ndZ = Z at *
  generalize ndA N = A at *
  generalize dcE s = x at *
  go_enter Try.func3, Try.ntmps3
  go_wp2_with fail
  refine (shown_any w).mono ?_
  rintro e w1 ⟨rfl, h1⟩
  have O1 : Hid (Only (fun _ => False) w w1) := Only.of_below h1
  clear h1
  go_wp2_with fail
  refine (HD1.out _).mono ?_
  rintro e w2 ⟨rfl, h2⟩
  obtain ⟨W3, hst3, g3, o3, _⟩ := HF1.out w2
  have HST3 := Lib.hid hst3
  have G3 := Lib.hid g3
  have O3 := Lib.hid ((O1.out.trans (Only.of_below (S := fun _ => False) h2)).trans o3)
  clear h2 hst3 g3 o3
  go_wp2_with (((with_reducible refine wpList_store_at ?_ 30 (.tmp 3) (.tmp 20) ?_ _ ?_ _ ?_ HST3.out ?_); rfl; rfl; rfl; rfl))
  refine (HD2.out _).mono ?_
  rintro e w4 ⟨rfl, h4⟩
  obtain ⟨W5, hst5, g5, o5, _⟩ := HF2.out w4
  have HST5 := Lib.hid hst5
  have G5 := Lib.hid g5
  have G6 := Lib.hid (o5.row ((Only.of_below (S := fun _ => False) h4).row G3.out (fun x => x)) (fun x => x))
  have O5 := Lib.hid ((O3.out.trans (Only.of_below (S := fun _ => False) h4)).trans o5)
  clear h4 hst5 g5 o5
  go_wp2_with (((with_reducible refine wpList_store_at ?_ 37 (.tmp 5) (.tmp 25) ?_ _ ?_ _ ?_ HST5.out ?_); rfl; rfl; rfl; rfl))
  refine wp_region_held (S := fun W => W.heap[w2.heap.size]? = some (.cells A 30 (0, 0)) ∧ W.heap[w4.heap.size]? = some (.cells A 37 (0, 0))) (by kernel_rfl) ?_
  change wpAnyH _ _ _ _ _ _ _ _ (World.drew _)
  have HS0 : (World.drew W5).heap[w2.heap.size]? = some (.cells A 30 (0, 0)) ∧ (World.drew W5).heap[w4.heap.size]? = some (.cells A 37 (0, 0)) := ⟨G6.out, G5.out⟩
  have HLa : Hid (∀ W : World, (W.heap[w2.heap.size]? = some (.cells A 30 (0, 0)) ∧ W.heap[w4.heap.size]? = some (.cells A 37 (0, 0))) → (loadVar 30 ⟨w2.heap.size, 0, none⟩).run Try.prog W = .ok (.agg A) W) := fun W h => load30 HSZ.out h.1
  have HLb : Hid (∀ W : World, (W.heap[w2.heap.size]? = some (.cells A 30 (0, 0)) ∧ W.heap[w4.heap.size]? = some (.cells A 37 (0, 0))) → (loadVar 37 ⟨w4.heap.size, 0, none⟩).run Try.prog W = .ok (.agg A) W) := fun W h => load37 HSZ.out h.2
  refine held_take (i := 0) (v := .agg A) rfl rfl (by kernel_rfl) (by kernel_rfl) (by kernel_rfl) (fun _ _ _ h => h) (yields_load_w (by rfl) 30 (.tmp 3) rfl _ rfl _ HLa.out) HS0 ?_
  simp only [List.setIfInBounds_toArray, List.set]
  refine held_take (i := 2) (v := .agg A) rfl rfl (by kernel_rfl) (by kernel_rfl) (by kernel_rfl) (fun _ _ _ h => h) (yields_load_w (by rfl) 37 (.tmp 5) rfl _ rfl _ HLb.out) HS0 ?_
  simp only [List.setIfInBounds_toArray, List.set]
  refine held_call (j := 1) (by kernel_rfl) rfl rfl (by rfl) Try.func13 (by kernel_rfl) rfl rfl [.agg A] rfl (HITS.out _) ?_
  intro w6 h6
  have o6 : Only (fun _ => False) (World.drew W5) w6 := Only.of_below h6
  have HS1 : w6.heap[w2.heap.size]? = some (.cells A 30 (0, 0)) ∧ w6.heap[w4.heap.size]? = some (.cells A 37 (0, 0)) := ⟨o6.row HS0.1 (fun x => x), o6.row HS0.2 (fun x => x)⟩
  have O6 : Hid (Only (fun _ => False) w w6) := O5.out.drew.trans o6
  have HSS := Lib.hid HS1
  refine ⟨HS1, ?_⟩
  simp only [List.setIfInBounds_toArray, List.set]
  refine held_take (i := 3) (v := .bool false) rfl rfl (by kernel_rfl) (by kernel_rfl) (by kernel_rfl) (fun _ _ _ h => h) (yields_neq (by rfl) 37 (.tmp 28) (.tmp 29) 37 _ _ _ rfl rfl rfl (by kernel_rfl) HQ.out) HS1 ?_
  simp only [List.setIfInBounds_toArray, List.set]
  refine held_pure (i := 4) (v := .bool false) rfl rfl (by kernel_rfl) (by kernel_rfl) (by kernel_rfl) (fun _ _ _ h => h) (Or.inl ⟨by rfl, fun w => by go_simp⟩) HS1 ?_
  simp only [List.setIfInBounds_toArray, List.set]
  refine held_pure (i := 5) (v := .int .i64 x) rfl rfl (by kernel_rfl) (by kernel_rfl) (by kernel_rfl) (fun _ _ _ h => h) (Or.inl ⟨by rfl, fun w => by go_simp⟩) HS1 ?_
  simp only [List.setIfInBounds_toArray, List.set]
  refine held_pure (i := 6) (v := .int .i64 x) rfl rfl (by kernel_rfl) (by kernel_rfl) (by kernel_rfl) (fun _ _ _ h => h) (Or.inl ⟨by rfl, fun w => by go_simp⟩) HS1 ?_
  simp only [List.setIfInBounds_toArray, List.set]
  refine held_pure (i := 7) (v := .bool false) rfl rfl (by kernel_rfl) (by kernel_rfl) (by kernel_rfl) (fun _ _ _ h => h) (Or.inl ⟨by rfl, fun w => by go_simp⟩) HS1 ?_
  simp only [List.setIfInBounds_toArray, List.set]
  refine held_pure (i := 8) (v := .bool false) rfl rfl (by kernel_rfl) (by kernel_rfl) (by kernel_rfl) (fun _ _ _ h => h) (Or.inl ⟨by rfl, fun w => by go_simp⟩) HS1 ?_
  simp only [List.setIfInBounds_toArray, List.set]
  refine wpAnyH_done (by kernel_rfl) ?_ _
  have HL7 := Lib.hid (load30 HSZ.out HSS.out.1)
  clear HS0 HS1
  rcases HCASE.out with ⟨hx, hev⟩ | ⟨hx, hnz⟩
  · subst hx
    have HEV := Lib.hid hev
    clear hev
    go_wp2_with (((with_reducible refine wpList_load_at ?_ 30 (.tmp 3) ?_ _ ?_ _ HL7.out ?_); rfl; rfl; rfl))
    refine (HEN.out _).mono ?_
    rintro e w7 ⟨rfl, h7⟩
    rw [HEV.out]
    have O7 := Lib.hid (O6.out.trans (Only.of_below (S := fun _ => False) h7))
    clear h7
    go_wp2_with fail
    go_ret
    exact ⟨rfl, O7.out.below0⟩
  · have HQ7 := Lib.hid (HQZ.out hnz w6)
    have hx0 : (x == 0) = false := by rw [beq_eq_false_iff_ne]; exact hx
    have hx1 : (x != 0) = true := by simp [hx]
    clear hx hnz
    go_wp2_with (first | ((with_reducible refine wpList_load_at ?_ 30 (.tmp 3) ?_ _ ?_ _ HL7.out ?_); rfl; rfl; rfl) | ((with_reducible refine wpList_build_at ?_ 30 #[] ?_ [] ?_ _ (HB.out _) ?_); rfl; rfl; rfl) | ((with_reducible refine wpList_eql_at ?_ 30 (.tmp 38) (.tmp 39) 30 _ _ _ ?_ ?_ ?_ ?_ HQ7.out ?_); rfl; rfl; rfl; rfl; kernel_rfl))
    go_ret
    exact ⟨rfl, O6.out.below0⟩

theorem nodeDecodes_walk (w : World) (s : ByteArray) (hs : s.size ≤ 140737488351232) :
    Calls Try.prog 3 #[.string s] w fun e w' => e = .returned (.bool true) ∧ Below w.heap.size w w' := by
  by_cases h : 600 < s.size
  · exact decodes_long w s hs h
  · exact decodes_short w s hs (by omega)
end Go.Proofs.Ytbmckmlekhkpeaa
