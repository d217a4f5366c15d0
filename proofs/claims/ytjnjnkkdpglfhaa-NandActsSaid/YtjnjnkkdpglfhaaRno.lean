/-
  The reference: New; Same; New refused. (Printed by mkrne.py.)
-/
import Derived.Test.YtjnjnkkdpglfhaaRop
set_option linter.unusedVariables false
namespace Go.Proofs.Ytjnjnkkdpglfhaa
open Go.RowKit
theorem SL.at {w : World} {v : Value} {xs : List ByteArray} (h : SL w v xs) {k : Nat} {t : ByteArray} (hk : xs[k]? = some t) : ∃ b o cap, v = .slice (some ⟨b, o, none⟩) xs.length cap ∧ xs.length ≤ cap ∧ w.cell? ⟨b, o + k, none⟩ = some (.string t) := by
  obtain ⟨a, cap, rfl, h1, h2, h3⟩ := h
  obtain ⟨b, o, rfl, hc⟩ := h3 k _ hk
  exact ⟨b, o, cap, rfl, h1, hc⟩
theorem IL.at {w : World} {v : Value} {xs : List Int} (h : IL w v xs) {k : Nat} {z : Int} (hk : xs[k]? = some z) : ∃ b o cap, v = .slice (some ⟨b, o, none⟩) xs.length cap ∧ xs.length ≤ cap ∧ w.cell? ⟨b, o + k, none⟩ = some (.int .i64 z) := by
  obtain ⟨a, cap, rfl, h1, h2, h3⟩ := h
  obtain ⟨b, o, rfl, hc⟩ := h3 k _ hk
  exact ⟨b, o, cap, rfl, h1, hc⟩
set_option maxHeartbeats 4000000 in
theorem same_refl {w : World} {v u : Value} {xs : List ByteArray} (h1 : SL w v xs) (h2 : SL w u xs) (hn : xs.length ≤ 1000000) : Calls Try.prog 30 #[v, u] w fun e w' => e = .returned (.bool true) ∧ Only (fun _ => False) w w' := by
  have H1 := Lib.hid h1
  have H2 := Lib.hid h2
  obtain ⟨a1, cap1, rfl, k1, k2, _⟩ := h1
  obtain ⟨a2, cap2, rfl, m1, m2, _⟩ := h2
  go_enter Try.func30, Try.ntmps30
  go_upto_region 4 with fail
  go_loopw [5] (fun y wr => ∃ k : Nat, k ≤ xs.length ∧ y = .int .i64 k ∧ Hid (Only (fun _ => False) w wr)) (fun y _ => xs.length - (intOf y).toNat)
  case atStart => exact ⟨0, by omega, rfl, Only.refl _ _⟩
  case round =>
    obtain ⟨k, hk, rfl, hx⟩ := hrel
    by_cases hlt : k < xs.length
    · obtain ⟨t, ht⟩ : ∃ t, xs[k]? = some t := ⟨_, List.getElem?_eq_getElem hlt⟩
      obtain ⟨b1, o1, q1, e1, _, c1⟩ := (H1.out.keep hx.out).at ht
      obtain ⟨b2, o2, q2, e2, _, c2⟩ := (H2.out.keep hx.out).at ht
      cases e1
      cases e2
      have HK := Lib.hid hlt
      have hlt' : (k : Int) < xs.length := by omega
      have hk0 : (0 : Int) ≤ (k : Int) := by omega
      clear ht hlt
      go_upto_region 6 with fail
      go_quiet (fail)
      go_wp2_with fail
      go_roundw
      case rel => exact ⟨k + 1, by have := HK.out; omega, by go_num, hx.out.drewN _⟩
      case measure => have := HK.out; simp [intOf]; omega
    · obtain rfl : k = xs.length := by omega
      go_wp2_with fail
      go_ret
      exact ⟨rfl, hx.out⟩
theorem build53_0 (w : World) : (Instr.build 53 #[]).run Try.prog w = .ok (.agg Z53) w := run_build w 53 _ _ (by kernel_rfl)
theorem Z53_one : ∀ v ∈ Z53.toList, v.oneCell' = true := by
  have : Z53.toList.all (fun v => v.oneCell') = true := by rfl
  exact List.all_eq_true.1 this
section
variable {w : World} {sg pz rt : Int} {bv : Value}
set_option maxRecDepth 100000 in
set_option maxHeartbeats 4000000 in
theorem rnew_no0  (hc : sg < 1) : Calls Try.prog 22 #[.int .i64 sg, .int .i64 pz, .int .i64 rt, bv] w fun e w' => e = .returned (.tuple #[.agg Z53, .bool false]) ∧ Only (fun _ => False) w w' := by
  go_enter Try.func22, Try.ntmps22
  go_upto_region 1 with ((with_reducible refine wpList_alloc_at ?_ 53 ?_ _ (zero53 _) ?_); rfl; rfl)
  refine at_world (fun W => Tab [(w.heap.size, Z53, 53)] w W) (Tab.box1 w Z53 53) ?_
  intro W1 T1
  obtain ⟨W, hs, ht, hz, ho⟩ := T1.whole (B := Z53) 0 rfl 53 info53s Z53_size Z53_size Z53_one
  have hl := ht.loadAll 0 rfl 53 _ Try.underlying53 rfl info53s Z53_size
  have HS := Lib.hid hs
  have HL2 := Lib.hid hl
  have HO := Lib.hid ht.only
  clear T1 hs ht hz ho hl
  go_wp2_with (first | ((with_reducible refine wpList_build_at ?_ 53 #[] ?_ [] ?_ _ (build53_0 _) ?_); rfl; rfl; rfl) | ((with_reducible refine wpList_store_at ?_ 53 (.tmp 8) (.tmp 30) ?_ _ ?_ _ ?_ HS.out ?_); rfl; rfl; rfl; rfl))
  refine bodyPost_ret (v := .tuple #[.agg Z53, .bool false]) ?_ rfl ⟨rfl, HO.out⟩
  have := HL2.out
  simp [results, Try.results22, asAddr, this]
set_option maxHeartbeats 4000000 in
theorem new8_no0 {q : Nat}  (hc : sg < 1) : Calls Try.prog 8 #[.pointer (some ⟨q, 0, none⟩), .int .i64 sg, .int .i64 pz, .int .i64 rt, bv] w fun e w' => e = .returned (.pointer none) ∧ w' = w := by
  go_enter Try.func8, Try.ntmps8
  go_wp2_with fail
  go_ret
  exact ⟨rfl, rfl⟩
set_option maxRecDepth 100000 in
set_option maxHeartbeats 4000000 in
theorem rnew_no1 (h0 : ¬ sg < 1) (hc : 64 < sg) : Calls Try.prog 22 #[.int .i64 sg, .int .i64 pz, .int .i64 rt, bv] w fun e w' => e = .returned (.tuple #[.agg Z53, .bool false]) ∧ Only (fun _ => False) w w' := by
  go_enter Try.func22, Try.ntmps22
  go_upto_region 1 with ((with_reducible refine wpList_alloc_at ?_ 53 ?_ _ (zero53 _) ?_); rfl; rfl)
  refine at_world (fun W => Tab [(w.heap.size, Z53, 53)] w W) (Tab.box1 w Z53 53) ?_
  intro W1 T1
  obtain ⟨W, hs, ht, hz, ho⟩ := T1.whole (B := Z53) 0 rfl 53 info53s Z53_size Z53_size Z53_one
  have hl := ht.loadAll 0 rfl 53 _ Try.underlying53 rfl info53s Z53_size
  have HS := Lib.hid hs
  have HL2 := Lib.hid hl
  have HO := Lib.hid ht.only
  clear T1 hs ht hz ho hl
  go_wp2_with (first | ((with_reducible refine wpList_build_at ?_ 53 #[] ?_ [] ?_ _ (build53_0 _) ?_); rfl; rfl; rfl) | ((with_reducible refine wpList_store_at ?_ 53 (.tmp 8) (.tmp 30) ?_ _ ?_ _ ?_ HS.out ?_); rfl; rfl; rfl; rfl))
  refine bodyPost_ret (v := .tuple #[.agg Z53, .bool false]) ?_ rfl ⟨rfl, HO.out⟩
  have := HL2.out
  simp [results, Try.results22, asAddr, this]
set_option maxHeartbeats 4000000 in
theorem new8_no1 {q : Nat} (h0 : ¬ sg < 1) (hc : 64 < sg) : Calls Try.prog 8 #[.pointer (some ⟨q, 0, none⟩), .int .i64 sg, .int .i64 pz, .int .i64 rt, bv] w fun e w' => e = .returned (.pointer none) ∧ w' = w := by
  go_enter Try.func8, Try.ntmps8
  go_wp2_with fail
  go_ret
  exact ⟨rfl, rfl⟩
set_option maxRecDepth 100000 in
set_option maxHeartbeats 4000000 in
theorem rnew_no2 (h0 : ¬ sg < 1) (h1 : ¬ 64 < sg) (hc : pz < 1) : Calls Try.prog 22 #[.int .i64 sg, .int .i64 pz, .int .i64 rt, bv] w fun e w' => e = .returned (.tuple #[.agg Z53, .bool false]) ∧ Only (fun _ => False) w w' := by
  go_enter Try.func22, Try.ntmps22
  go_upto_region 1 with ((with_reducible refine wpList_alloc_at ?_ 53 ?_ _ (zero53 _) ?_); rfl; rfl)
  refine at_world (fun W => Tab [(w.heap.size, Z53, 53)] w W) (Tab.box1 w Z53 53) ?_
  intro W1 T1
  obtain ⟨W, hs, ht, hz, ho⟩ := T1.whole (B := Z53) 0 rfl 53 info53s Z53_size Z53_size Z53_one
  have hl := ht.loadAll 0 rfl 53 _ Try.underlying53 rfl info53s Z53_size
  have HS := Lib.hid hs
  have HL2 := Lib.hid hl
  have HO := Lib.hid ht.only
  clear T1 hs ht hz ho hl
  go_wp2_with (first | ((with_reducible refine wpList_build_at ?_ 53 #[] ?_ [] ?_ _ (build53_0 _) ?_); rfl; rfl; rfl) | ((with_reducible refine wpList_store_at ?_ 53 (.tmp 8) (.tmp 30) ?_ _ ?_ _ ?_ HS.out ?_); rfl; rfl; rfl; rfl))
  refine bodyPost_ret (v := .tuple #[.agg Z53, .bool false]) ?_ rfl ⟨rfl, HO.out⟩
  have := HL2.out
  simp [results, Try.results22, asAddr, this]
set_option maxHeartbeats 4000000 in
theorem new8_no2 {q : Nat} (h0 : ¬ sg < 1) (h1 : ¬ 64 < sg) (hc : pz < 1) : Calls Try.prog 8 #[.pointer (some ⟨q, 0, none⟩), .int .i64 sg, .int .i64 pz, .int .i64 rt, bv] w fun e w' => e = .returned (.pointer none) ∧ w' = w := by
  go_enter Try.func8, Try.ntmps8
  go_wp2_with fail
  go_ret
  exact ⟨rfl, rfl⟩
set_option maxRecDepth 100000 in
set_option maxHeartbeats 4000000 in
theorem rnew_no3 (h0 : ¬ sg < 1) (h1 : ¬ 64 < sg) (h2 : ¬ pz < 1) (hc : 16 < pz) : Calls Try.prog 22 #[.int .i64 sg, .int .i64 pz, .int .i64 rt, bv] w fun e w' => e = .returned (.tuple #[.agg Z53, .bool false]) ∧ Only (fun _ => False) w w' := by
  go_enter Try.func22, Try.ntmps22
  go_upto_region 1 with ((with_reducible refine wpList_alloc_at ?_ 53 ?_ _ (zero53 _) ?_); rfl; rfl)
  refine at_world (fun W => Tab [(w.heap.size, Z53, 53)] w W) (Tab.box1 w Z53 53) ?_
  intro W1 T1
  obtain ⟨W, hs, ht, hz, ho⟩ := T1.whole (B := Z53) 0 rfl 53 info53s Z53_size Z53_size Z53_one
  have hl := ht.loadAll 0 rfl 53 _ Try.underlying53 rfl info53s Z53_size
  have HS := Lib.hid hs
  have HL2 := Lib.hid hl
  have HO := Lib.hid ht.only
  clear T1 hs ht hz ho hl
  go_wp2_with (first | ((with_reducible refine wpList_build_at ?_ 53 #[] ?_ [] ?_ _ (build53_0 _) ?_); rfl; rfl; rfl) | ((with_reducible refine wpList_store_at ?_ 53 (.tmp 8) (.tmp 30) ?_ _ ?_ _ ?_ HS.out ?_); rfl; rfl; rfl; rfl))
  refine bodyPost_ret (v := .tuple #[.agg Z53, .bool false]) ?_ rfl ⟨rfl, HO.out⟩
  have := HL2.out
  simp [results, Try.results22, asAddr, this]
set_option maxHeartbeats 4000000 in
theorem new8_no3 {q : Nat} (h0 : ¬ sg < 1) (h1 : ¬ 64 < sg) (h2 : ¬ pz < 1) (hc : 16 < pz) : Calls Try.prog 8 #[.pointer (some ⟨q, 0, none⟩), .int .i64 sg, .int .i64 pz, .int .i64 rt, bv] w fun e w' => e = .returned (.pointer none) ∧ w' = w := by
  go_enter Try.func8, Try.ntmps8
  go_wp2_with fail
  go_ret
  exact ⟨rfl, rfl⟩
set_option maxRecDepth 100000 in
set_option maxHeartbeats 4000000 in
theorem rnew_no4 (h0 : ¬ sg < 1) (h1 : ¬ 64 < sg) (h2 : ¬ pz < 1) (h3 : ¬ 16 < pz) (hc : rt < 0) : Calls Try.prog 22 #[.int .i64 sg, .int .i64 pz, .int .i64 rt, bv] w fun e w' => e = .returned (.tuple #[.agg Z53, .bool false]) ∧ Only (fun _ => False) w w' := by
  go_enter Try.func22, Try.ntmps22
  go_upto_region 1 with ((with_reducible refine wpList_alloc_at ?_ 53 ?_ _ (zero53 _) ?_); rfl; rfl)
  refine at_world (fun W => Tab [(w.heap.size, Z53, 53)] w W) (Tab.box1 w Z53 53) ?_
  intro W1 T1
  obtain ⟨W, hs, ht, hz, ho⟩ := T1.whole (B := Z53) 0 rfl 53 info53s Z53_size Z53_size Z53_one
  have hl := ht.loadAll 0 rfl 53 _ Try.underlying53 rfl info53s Z53_size
  have HS := Lib.hid hs
  have HL2 := Lib.hid hl
  have HO := Lib.hid ht.only
  clear T1 hs ht hz ho hl
  go_wp2_with (first | ((with_reducible refine wpList_build_at ?_ 53 #[] ?_ [] ?_ _ (build53_0 _) ?_); rfl; rfl; rfl) | ((with_reducible refine wpList_store_at ?_ 53 (.tmp 8) (.tmp 30) ?_ _ ?_ _ ?_ HS.out ?_); rfl; rfl; rfl; rfl))
  refine bodyPost_ret (v := .tuple #[.agg Z53, .bool false]) ?_ rfl ⟨rfl, HO.out⟩
  have := HL2.out
  simp [results, Try.results22, asAddr, this]
set_option maxHeartbeats 4000000 in
theorem new8_no4 {q : Nat} (h0 : ¬ sg < 1) (h1 : ¬ 64 < sg) (h2 : ¬ pz < 1) (h3 : ¬ 16 < pz) (hc : rt < 0) : Calls Try.prog 8 #[.pointer (some ⟨q, 0, none⟩), .int .i64 sg, .int .i64 pz, .int .i64 rt, bv] w fun e w' => e = .returned (.pointer none) ∧ w' = w := by
  go_enter Try.func8, Try.ntmps8
  go_wp2_with fail
  go_ret
  exact ⟨rfl, rfl⟩
theorem rnew_no (h : ¬ (1 ≤ sg ∧ sg ≤ 64 ∧ 1 ≤ pz ∧ pz ≤ 16 ∧ 0 ≤ rt)) : Calls Try.prog 22 #[.int .i64 sg, .int .i64 pz, .int .i64 rt, bv] w fun e w' => e = .returned (.tuple #[.agg Z53, .bool false]) ∧ Only (fun _ => False) w w' := by
  by_cases h0 : sg < 1
  · exact rnew_no0  h0
  by_cases h1 : 64 < sg
  · exact rnew_no1 h0 h1
  by_cases h2 : pz < 1
  · exact rnew_no2 h0 h1 h2
  by_cases h3 : 16 < pz
  · exact rnew_no3 h0 h1 h2 h3
  exact rnew_no4 h0 h1 h2 h3 (by omega)
theorem new8_no {q : Nat} (h : ¬ (1 ≤ sg ∧ sg ≤ 64 ∧ 1 ≤ pz ∧ pz ≤ 16 ∧ 0 ≤ rt)) : Calls Try.prog 8 #[.pointer (some ⟨q, 0, none⟩), .int .i64 sg, .int .i64 pz, .int .i64 rt, bv] w fun e w' => e = .returned (.pointer none) ∧ w' = w := by
  by_cases h0 : sg < 1
  · exact new8_no0  h0
  by_cases h1 : 64 < sg
  · exact new8_no1 h0 h1
  by_cases h2 : pz < 1
  · exact new8_no2 h0 h1 h2
  by_cases h3 : 16 < pz
  · exact new8_no3 h0 h1 h2 h3
  exact new8_no4 h0 h1 h2 h3 (by omega)
end
end Go.Proofs.Ytjnjnkkdpglfhaa
