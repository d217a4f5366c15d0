/-
  NandActs: the walk. (Printed by mknact.py.)
-/
import Derived.Test.YtjnjnkkdpglfhaaRdv
import Derived.Deep.CutRange
import Derived.Deep.CutBlock
set_option linter.unusedVariables false
namespace Go.Proofs.Ytjnjnkkdpglfhaa
open Go.RowKit
theorem info57s : (Try.prog.info? 57).map (·.size) = some 7 := by kernel_rfl
theorem ac_one (x : Ac) : ∀ v ∈ (acA x).toList, v.oneCell' = true := by
  intro v hv
  simp [acA] at hv
  rcases hv with rfl | rfl | rfl | rfl | rfl | rfl | rfl <;> rfl
theorem eql_up (b : Bool) : ((!b) == b) = false := by cases b <;> rfl
section
variable {a0 a1 a2 : Int} {a3 a4 : Option Addr} {len3 cap3 len4 cap4 : Nat}
set_option maxRecDepth 100000 in
set_option maxHeartbeats 4000000 in
theorem acts_far1 (w : World) (h : 120 < len4) : Calls Try.prog 7 #[.int .i64 a0, .int .i64 a1, .int .i64 a2, .slice a3 len3 cap3, .slice a4 len4 cap4] w fun e w' => e = .returned (.bool true) ∧ Below w.heap.size w w' := by
  have h1 : (120 : Int) < (len4 : Int) := by omega
  go_enter Try.func7, Try.ntmps7
  go_wp2_with fail
  refine (shown_any _).mono ?_
  rintro e w1 ⟨rfl, k1⟩
  have HF := Lib.hid k1
  clear k1
  go_wp2_with fail
  go_ret
  exact ⟨rfl, HF.out⟩
set_option maxRecDepth 100000 in
set_option maxHeartbeats 4000000 in
theorem acts_far2 (w : World) (h : len4 ≤ 120) (h2 : 70 < len3) : Calls Try.prog 7 #[.int .i64 a0, .int .i64 a1, .int .i64 a2, .slice a3 len3 cap3, .slice a4 len4 cap4] w fun e w' => e = .returned (.bool true) ∧ Below w.heap.size w w' := by
  have h1 : ¬ (120 : Int) < (len4 : Int) := by omega
  have h2' : (70 : Int) < (len3 : Int) := by omega
  go_enter Try.func7, Try.ntmps7
  go_wp2_with fail
  refine (shown_any _).mono ?_
  rintro e w1 ⟨rfl, k1⟩
  have HF := Lib.hid k1
  clear k1
  go_wp2_with fail
  go_ret
  exact ⟨rfl, HF.out⟩
set_option maxRecDepth 100000 in
set_option maxHeartbeats 8000000 in
theorem acts_no (w : World) (h : len4 ≤ 120) (h2 : len3 ≤ 70) (hno : ¬ (1 ≤ a0 ∧ a0 ≤ 64 ∧ 1 ≤ a1 ∧ a1 ≤ 16 ∧ 0 ≤ a2)) : Calls Try.prog 7 #[.int .i64 a0, .int .i64 a1, .int .i64 a2, .slice a3 len3 cap3, .slice a4 len4 cap4] w fun e w' => e = .returned (.bool true) ∧ Below w.heap.size w w' := by
  have h1 : ¬ (120 : Int) < (len4 : Int) := by omega
  have h2' : ¬ (70 : Int) < (len3 : Int) := by omega
  have HNO := Lib.hid hno
  clear hno
  go_enter Try.func7, Try.ntmps7
  go_wp2_with fail
  refine (shown_any _).mono ?_
  rintro e w1 ⟨rfl, k1⟩
  have HO1 := Lib.hid (Only.of_below (S := fun _ => False) k1)
  clear k1
  go_wp2_with fail
  refine (newPower_wp _).mono ?_
  rintro e w2 ⟨rfl, rfl⟩
  have HO2 := Lib.hid (HO1.out.trans (wp_only w1))
  generalize WP w1 = W2 at *
  go_wp2_with fail
  refine (new8_no HNO.out).mono ?_
  rintro e w3 ⟨rfl, rfl⟩
  go_wp2_with fail
  refine (rnew_no HNO.out).mono ?_
  rintro e w4 ⟨rfl, k4⟩
  obtain ⟨W, hs, ht, hz, ho⟩ := (Tab.nil w4).fresh (B := Z53) Z53 53 info53s Z53_size Z53_size Z53_one
  have HS := Lib.hid hs
  have HF := Lib.hid ((HO2.out.trans k4).trans ho)
  clear hs ht hz ho k4
  go_wp2_with (first | ((with_reducible refine wpList_alloc_at ?_ 53 ?_ _ (zero53 _) ?_); rfl; rfl) | ((with_reducible refine wpList_store_at ?_ 53 (.tmp 13) (.tmp 62) ?_ _ ?_ _ ?_ HS.out ?_); rfl; rfl; rfl; rfl))
  go_ret
  exact ⟨rfl, HF.out.below (fun _ h => h.elim)⟩
set_option maxRecDepth 100000 in
set_option maxHeartbeats 64000000 in
theorem acts_ok (w : World) (sg pz : Nat) (bl : List Int) (l : List Ac) (hb : IL w (.slice a3 len3 cap3) bl) (hl : AL w (.slice a4 len4 cap4) l) (hll : l.length = len4) (hwf : ∀ x ∈ l, x.Wf) (h : len4 ≤ 120) (h2 : len3 ≤ 70) (h3 : 1 ≤ sg ∧ sg ≤ 64) (h4 : 1 ≤ pz ∧ pz ≤ 16) (h5 : 0 ≤ a2 ∧ a2 ≤ 9223372036854775807) :
    Calls Try.prog 7 #[.int .i64 sg, .int .i64 pz, .int .i64 a2, .slice a3 len3 cap3, .slice a4 len4 cap4] w fun e w' => e = .returned (.bool true) ∧ Below w.heap.size w w' := by
  have h1 : ¬ (120 : Int) < (len4 : Int) := by omega
  have h2' : ¬ (70 : Int) < (len3 : Int) := by omega
  have HB := Lib.hid hb
  have HAL := Lib.hid hl
  have HLL := Lib.hid (And.intro hll h)
  have HWF := Lib.hid hwf
  have HX := Lib.hid (And.intro h3 (And.intro h4 h5))
  clear hb hl hll hwf h3 h4 h5 h2 h
  go_enter Try.func7, Try.ntmps7
  go_wp2_with fail
  refine (shown_any _).mono ?_
  rintro e w1 ⟨rfl, k1⟩
  have HO1 := Lib.hid (Only.of_below (S := fun _ => False) k1)
  clear k1
  go_wp2_with fail
  refine (newPower_wp _).mono ?_
  rintro e w2 ⟨rfl, rfl⟩
  have HN := Lib.hid (new_on w w1 HO1.out sg pz a2 (.slice a3 len3 cap3) (fun k => bl.contains (k : Int)) HX.out.1 HX.out.2.1 HX.out.2.2.1 (fun W o k _ => contains_il HB.out ((HO1.out.trans (wp_only w1)).trans o) (k : Int)))
  generalize WP w1 = W2 at *
  generalize w1.heap.size = gp at *
  clear h1 h2'
  go_wp2_with fail
  refine HN.out.mono ?_
  rintro e w3 ⟨gc, gl, pg, rfl, hon⟩
  have HON := Lib.hid hon
  have HR := Lib.hid (rnew_ok sg pz a2 (.slice a3 len3 cap3) bl (HB.out.keep hon.tab.only) HX.out.1 HX.out.2.1 HX.out.2.2.1)
  clear hon HN
  go_wp2_with fail
  refine HR.out.mono ?_
  rintro e w4 ⟨A, rfl, ⟨lv, hra, hln⟩, k4⟩
  obtain ⟨W5, hs5, hd5⟩ := du_new HON.out k4 hra hln rfl
  have HS5 := Lib.hid hs5
  have HD5 := Lib.hid hd5
  have HNV : Hid (Nv sg pz a2 0 (newCp sg pz a2 (fun k => bl.contains (k : Int))) p0) := ⟨rfl, rfl, rfl, Nat.le_refl _, ⟨Int.le_refl _, Int.le_refl _⟩, ⟨Int.le_refl _, Int.le_refl _⟩, fun _ => Int.le_refl _, p0_in⟩
  generalize newCp sg pz a2 (fun k => bl.contains (k : Int)) = st0 at *
  clear hs5 hd5 HON HR hra hln k4
  go_upto_region 9 with (first | ((with_reducible refine wpList_alloc_at ?_ 53 ?_ _ (zero53 _) ?_); rfl; rfl) | ((with_reducible refine wpList_store_at ?_ 53 (.tmp 13) (.tmp 62) ?_ _ ?_ _ ?_ HS5.out ?_); rfl; rfl; rfl; rfl))
  generalize w4.heap.size = br at *
  clear HS5
  go_loopw [15] (fun y wr => ∃ (k : Nat) (st : Cp) (p : Pw) (A : Array Value), k ≤ l.length ∧ y = .int .i64 k ∧ Hid (Nv sg pz a2 k st p) ∧ Hid (Du [] br w gp gc gl gp pg st p st p A wr)) (fun y _ => l.length - (intOf y).toNat)
  case atStart => exact ⟨0, st0, p0, A, by omega, rfl, HNV.out, HD5.out⟩
  case round =>
    obtain ⟨k, st, p, A1, hk, rfl, HNI, HDI⟩ := hrel
    obtain ⟨hl4, hl120⟩ := HLL.out
    by_cases hlt : k < l.length
    · obtain ⟨b4, o4, q4, e4, _, hx57⟩ := (HAL.out.keep (Only.of_below HDI.out.below)).at hlt
      cases e4
      have HK := Lib.hid (And.intro hlt hl120)
      have hlt' : (k : Int) < l.length := by omega
      have hk0 : (0 : Int) ≤ (k : Int) := by omega
      have hxwf := HWF.out l[k] (List.getElem_mem hlt)
      obtain ⟨x, hx⟩ : ∃ x, l[k] = x := ⟨_, rfl⟩
      rw [hx] at hx57 hxwf
      obtain ⟨Wx, hsx, hdx⟩ := HDI.out.fresh (X := acA x) #[.int .i64 0, .int .i64 0, .int .i64 0, .int .i64 0, .int .i64 0, .int .u8 0, .string ByteArray.empty] 57 info57s rfl rfl (ac_one x)
      have HX57 := Lib.hid hx57
      have HSX := Lib.hid hsx
      have HDX := Lib.hid hdx
      have HXW := Lib.hid hxwf
      clear hx hx57 hsx hdx hxwf hl4 hl120 hlt
      go_upto_region 12 with (first | ((with_reducible refine wpList_load_at ?_ 57 (.tmp 84) ?_ _ ?_ _ HX57.out ?_); rfl; rfl; rfl) | ((with_reducible refine wpList_store_at ?_ 57 (.tmp 16) (.tmp 85) ?_ _ ?_ _ ?_ HSX.out ?_); rfl; rfl; rfl; rfl))
      generalize wr.heap.size = bx at *
      clear HSX HX57
      have c0 := HDX.out.x 0 (v := .int .i64 x.kind) rfl
      have c1 := HDX.out.x 1 (v := .int .i64 x.seg) rfl
      have c2 := HDX.out.x 2 (v := .int .i64 x.page) rfl
      have c6 := HDX.out.x 6 (v := .string x.s) rfl
      by_cases hs : 300 < x.s.size
      · have hs' : (300 : Int) < (x.s.size : Int) := by omega
        go_wp2_with fail
        refine (shown_any _).mono ?_
        rintro e wA ⟨rfl, k1⟩
        have HF := Lib.hid (HDX.out.call k1).below
        clear k1
        go_wp2_with fail
        go_ret
        exact ⟨rfl, HF.out⟩
      · have hs' : ¬ (300 : Int) < (x.s.size : Int) := by omega
        have hl120 := HK.out.2
        go_upto_block 2 with fail
        go_cut [17, 18, 19, 20, 21, 22, 23, 24, 25, 26, 27, 28, 29, 30, 31] from 76 to 269 (fun e f s19 s20 s21 s22 s23 s24 s25 s26 s27 s28 s29 s30 s31 wx => ∃ (E : Int) (st6 : Cp) (p6 : Pw) (A6 : Array Value), e = .int .i64 E ∧ f = .int .i64 E ∧ Hid (Nv sg pz a2 (k + 1) st6 p6) ∧ Hid (Du [(bx, acA x, 57)] br w gp gc gl gp pg st6 p6 st6 p6 A6 wx))
        case first =>
          by_cases K0 : x.kind = 0
          · rw [K0] at c0
            as_aux_lemma =>
              have HPD := Lib.hid (program_du HDX.out x.seg x.page x.s HNI.out.pin (by have := HNI.out.past; have := HK.out; omega) (by have := HNI.out.prog; have := HK.out; omega))
              go_wp2_with fail
              refine HPD.out.mono ?_
              rintro e wA ⟨rfl, hdA⟩
              have HDA := Lib.hid hdA
              have d1 := hdA.x 1 (v := .int .i64 x.seg) rfl
              have d2 := hdA.x 2 (v := .int .i64 x.page) rfl
              have d6 := hdA.x 6 (v := .string x.s) rfl
              have HLA := Lib.hid hdA.load
              have HRP := Lib.hid (rprog_du hdA x.seg x.page x.s HNI.out.pin (by have := HNI.out.past; have := HK.out; omega) (by have := HNI.out.prog; have := HK.out; omega))
              clear hdA HPD
              go_wp2_with ((with_reducible refine wpList_load_at ?_ 53 (.tmp 13) ?_ _ ?_ _ HLA.out ?_); rfl; rfl; rfl)
              refine HRP.out.mono ?_
              rintro e wB ⟨A2, W6, rfl, hs6, hd6⟩
              have HS6 := Lib.hid hs6
              have HD6 := Lib.hid hd6
              clear hs6 hd6 d1 d2 d6 HRP HLA
              go_wp2_with ((with_reducible refine wpList_store_at ?_ 53 (.tmp 13) (.tmp 115) ?_ _ ?_ _ ?_ HS6.out ?_); rfl; rfl; rfl; rfl)
              go_meet
              case rel => exact ⟨_, _, _, _, rfl, rfl, HNI.out.pr x.seg x.page x.s, HD6.out⟩
          · have q0 : (x.kind == 0) = false := by rw [beq_eq_false_iff_ne]; exact K0
            by_cases K1 : x.kind = 1
            · rw [K1] at c0
              as_aux_lemma =>
                have HPD := Lib.hid (program_du HDX.out x.seg x.page x.s HNI.out.pin (by have := HNI.out.past; have := HK.out; omega) (by have := HNI.out.prog; have := HK.out; omega))
                go_wp2_with fail
                refine HPD.out.mono ?_
                rintro e wA ⟨rfl, hdA⟩
                have HDA := Lib.hid hdA
                have d1 := hdA.x 1 (v := .int .i64 x.seg) rfl
                have d2 := hdA.x 2 (v := .int .i64 x.page) rfl
                have d6 := hdA.x 6 (v := .string x.s) rfl
                have HLA := Lib.hid hdA.load
                have HRP := Lib.hid (rprog_du hdA x.seg x.page x.s HNI.out.pin (by have := HNI.out.past; have := HK.out; omega) (by have := HNI.out.prog; have := HK.out; omega))
                clear hdA HPD
                go_wp2_with ((with_reducible refine wpList_load_at ?_ 53 (.tmp 13) ?_ _ ?_ _ HLA.out ?_); rfl; rfl; rfl)
                refine HRP.out.mono ?_
                rintro e wB ⟨A2, W6, rfl, hs6, hd6⟩
                have HS6 := Lib.hid hs6
                have HD6 := Lib.hid hd6
                clear hs6 hd6 d1 d2 d6 HRP HLA
                go_wp2_with ((with_reducible refine wpList_store_at ?_ 53 (.tmp 13) (.tmp 115) ?_ _ ?_ _ ?_ HS6.out ?_); rfl; rfl; rfl; rfl)
                go_meet
                case rel => exact ⟨_, _, _, _, rfl, rfl, HNI.out.pr x.seg x.page x.s, HD6.out⟩
            · have q1 : (x.kind == 1) = false := by rw [beq_eq_false_iff_ne]; exact K1
              by_cases K2 : x.kind = 2
              · rw [K2] at c0
                as_aux_lemma =>
                  have HPD := Lib.hid (program_du HDX.out x.seg x.page x.s HNI.out.pin (by have := HNI.out.past; have := HK.out; omega) (by have := HNI.out.prog; have := HK.out; omega))
                  go_wp2_with fail
                  refine HPD.out.mono ?_
                  rintro e wA ⟨rfl, hdA⟩
                  have HDA := Lib.hid hdA
                  have d1 := hdA.x 1 (v := .int .i64 x.seg) rfl
                  have d2 := hdA.x 2 (v := .int .i64 x.page) rfl
                  have d6 := hdA.x 6 (v := .string x.s) rfl
                  have HLA := Lib.hid hdA.load
                  have HRP := Lib.hid (rprog_du hdA x.seg x.page x.s HNI.out.pin (by have := HNI.out.past; have := HK.out; omega) (by have := HNI.out.prog; have := HK.out; omega))
                  clear hdA HPD
                  go_wp2_with ((with_reducible refine wpList_load_at ?_ 53 (.tmp 13) ?_ _ ?_ _ HLA.out ?_); rfl; rfl; rfl)
                  refine HRP.out.mono ?_
                  rintro e wB ⟨A2, W6, rfl, hs6, hd6⟩
                  have HS6 := Lib.hid hs6
                  have HD6 := Lib.hid hd6
                  clear hs6 hd6 d1 d2 d6 HRP HLA
                  go_wp2_with ((with_reducible refine wpList_store_at ?_ 53 (.tmp 13) (.tmp 115) ?_ _ ?_ _ ?_ HS6.out ?_); rfl; rfl; rfl; rfl)
                  go_meet
                  case rel => exact ⟨_, _, _, _, rfl, rfl, HNI.out.pr x.seg x.page x.s, HD6.out⟩
              · have q2 : (x.kind == 2) = false := by rw [beq_eq_false_iff_ne]; exact K2
                by_cases K3 : x.kind = 3
                · rw [K3] at c0
                  as_aux_lemma =>
                    have HPD := Lib.hid (program_du HDX.out x.seg x.page x.s HNI.out.pin (by have := HNI.out.past; have := HK.out; omega) (by have := HNI.out.prog; have := HK.out; omega))
                    go_wp2_with fail
                    refine HPD.out.mono ?_
                    rintro e wA ⟨rfl, hdA⟩
                    have HDA := Lib.hid hdA
                    have d1 := hdA.x 1 (v := .int .i64 x.seg) rfl
                    have d2 := hdA.x 2 (v := .int .i64 x.page) rfl
                    have d6 := hdA.x 6 (v := .string x.s) rfl
                    have HLA := Lib.hid hdA.load
                    have HRP := Lib.hid (rprog_du hdA x.seg x.page x.s HNI.out.pin (by have := HNI.out.past; have := HK.out; omega) (by have := HNI.out.prog; have := HK.out; omega))
                    clear hdA HPD
                    go_wp2_with ((with_reducible refine wpList_load_at ?_ 53 (.tmp 13) ?_ _ ?_ _ HLA.out ?_); rfl; rfl; rfl)
                    refine HRP.out.mono ?_
                    rintro e wB ⟨A2, W6, rfl, hs6, hd6⟩
                    have HS6 := Lib.hid hs6
                    have HD6 := Lib.hid hd6
                    clear hs6 hd6 d1 d2 d6 HRP HLA
                    go_wp2_with ((with_reducible refine wpList_store_at ?_ 53 (.tmp 13) (.tmp 115) ?_ _ ?_ _ ?_ HS6.out ?_); rfl; rfl; rfl; rfl)
                    go_meet
                    case rel => exact ⟨_, _, _, _, rfl, rfl, HNI.out.pr x.seg x.page x.s, HD6.out⟩
                · have q3 : (x.kind == 3) = false := by rw [beq_eq_false_iff_ne]; exact K3
                  by_cases K4 : x.kind = 4
                  · rw [K4] at c0
                    as_aux_lemma =>
                      have HPD := Lib.hid (erase_du HDX.out x.seg HNI.out.pin (by have := HNI.out.er; have := HK.out; omega) HNI.out.wear (by rw [HNI.out.rated]; exact HX.out.2.2.2))
                      go_wp2_with fail
                      refine HPD.out.mono ?_
                      rintro e wA ⟨rfl, hdA⟩
                      have HDA := Lib.hid hdA
                      have d1 := hdA.x 1 (v := .int .i64 x.seg) rfl
                      have HLA := Lib.hid hdA.load
                      have HRP := Lib.hid (rerase_du hdA x.seg HNI.out.pin (by have := HNI.out.er; have := HK.out; omega) HNI.out.wear (by rw [HNI.out.rated]; exact HX.out.2.2.2))
                      clear hdA HPD
                      go_wp2_with ((with_reducible refine wpList_load_at ?_ 53 (.tmp 13) ?_ _ ?_ _ HLA.out ?_); rfl; rfl; rfl)
                      refine HRP.out.mono ?_
                      rintro e wB ⟨A2, W6, rfl, hs6, hd6⟩
                      have HS6 := Lib.hid hs6
                      have HD6 := Lib.hid hd6
                      clear hs6 hd6 d1 HRP HLA
                      go_wp2_with ((with_reducible refine wpList_store_at ?_ 53 (.tmp 13) (.tmp 129) ?_ _ ?_ _ ?_ HS6.out ?_); rfl; rfl; rfl; rfl)
                      go_meet
                      case rel => exact ⟨_, _, _, _, rfl, rfl, HNI.out.ers x.seg, HD6.out⟩
                  · have q4 : (x.kind == 4) = false := by rw [beq_eq_false_iff_ne]; exact K4
                    by_cases K5 : x.kind = 5
                    · rw [K5] at c0
                      as_aux_lemma =>
                        have HPD := Lib.hid (erase_du HDX.out x.seg HNI.out.pin (by have := HNI.out.er; have := HK.out; omega) HNI.out.wear (by rw [HNI.out.rated]; exact HX.out.2.2.2))
                        go_wp2_with fail
                        refine HPD.out.mono ?_
                        rintro e wA ⟨rfl, hdA⟩
                        have HDA := Lib.hid hdA
                        have d1 := hdA.x 1 (v := .int .i64 x.seg) rfl
                        have HLA := Lib.hid hdA.load
                        have HRP := Lib.hid (rerase_du hdA x.seg HNI.out.pin (by have := HNI.out.er; have := HK.out; omega) HNI.out.wear (by rw [HNI.out.rated]; exact HX.out.2.2.2))
                        clear hdA HPD
                        go_wp2_with ((with_reducible refine wpList_load_at ?_ 53 (.tmp 13) ?_ _ ?_ _ HLA.out ?_); rfl; rfl; rfl)
                        refine HRP.out.mono ?_
                        rintro e wB ⟨A2, W6, rfl, hs6, hd6⟩
                        have HS6 := Lib.hid hs6
                        have HD6 := Lib.hid hd6
                        clear hs6 hd6 d1 HRP HLA
                        go_wp2_with ((with_reducible refine wpList_store_at ?_ 53 (.tmp 13) (.tmp 129) ?_ _ ?_ _ ?_ HS6.out ?_); rfl; rfl; rfl; rfl)
                        go_meet
                        case rel => exact ⟨_, _, _, _, rfl, rfl, HNI.out.ers x.seg, HD6.out⟩
                    · have q5 : (x.kind == 5) = false := by rw [beq_eq_false_iff_ne]; exact K5
                      by_cases K6 : x.kind = 6
                      · rw [K6] at c0
                        as_aux_lemma =>
                          have hpd := read_du HDX.out x.seg x.page
                          obtain ⟨s9, hs9⟩ : ∃ s9, (st.rdO p x.seg x.page).getD ByteArray.empty = s9 := ⟨_, rfl⟩
                          obtain ⟨i9, hi9⟩ : ∃ i9, (st.rdO p x.seg x.page).isSome = i9 := ⟨_, rfl⟩
                          obtain ⟨e9, he9⟩ : ∃ e9, st.rdE p x.seg x.page = e9 := ⟨_, rfl⟩
                          rw [hs9, hi9, he9] at hpd
                          have HPD := Lib.hid hpd
                          clear hpd
                          go_wp2_with fail
                          refine HPD.out.mono ?_
                          rintro e wA ⟨rfl, hdA⟩
                          have HDA := Lib.hid hdA
                          have d1 := hdA.x 1 (v := .int .i64 x.seg) rfl
                          have d2 := hdA.x 2 (v := .int .i64 x.page) rfl
                          have HLA := Lib.hid hdA.load
                          have hrp := rread_du hdA x.seg x.page
                          rw [hs9, hi9, he9] at hrp
                          have HRP := Lib.hid hrp
                          clear hdA HPD hrp hs9 hi9 he9
                          go_wp2_with ((with_reducible refine wpList_load_at ?_ 53 (.tmp 13) ?_ _ ?_ _ HLA.out ?_); rfl; rfl; rfl)
                          refine HRP.out.mono ?_
                          rintro e wB ⟨rfl, hd6⟩
                          have HD6 := Lib.hid hd6
                          clear hd6 d1 d2 HRP HLA
                          go_wp2_with fail
                          go_meet
                          case rel => exact ⟨_, _, _, _, rfl, rfl, HNI.out.up HNI.out.pin, HD6.out⟩
                      · have q6 : (x.kind == 6) = false := by rw [beq_eq_false_iff_ne]; exact K6
                        by_cases K7 : x.kind = 7
                        · rw [K7] at c0
                          as_aux_lemma =>
                            have c3 := HDX.out.x 3 (v := .int .i64 x.n) rfl
                            have c4 := HDX.out.x 4 (v := .int .i64 x.keep) rfl
                            have c5 := HDX.out.x 5 (v := .int .u8 x.junk) rfl
                            have HPD := Lib.hid (fuse_du HDX.out x.n x.keep x.junk)
                            have HQI : Hid ({ p with left := max x.n 0, keep := max x.keep 0, junk := x.junk } : Pw).In := Nv.fuse HNI.out.pin HXW.out.n HXW.out.keep HXW.out.junk
                            go_wp2_with fail
                            refine HPD.out.mono ?_
                            rintro e wA ⟨rfl, hdA⟩
                            have d3 := hdA.x 3 (v := .int .i64 x.n) rfl
                            have d4 := hdA.x 4 (v := .int .i64 x.keep) rfl
                            have d5 := hdA.x 5 (v := .int .u8 x.junk) rfl
                            have HLA := Lib.hid hdA.load48
                            have HRP := Lib.hid (rfuse_du hdA x.n x.keep x.junk)
                            clear hdA HPD c3 c4 c5
                            go_wp2_with ((with_reducible refine wpList_load_at ?_ 48 (.tmp 176) ?_ _ ?_ _ HLA.out ?_); rfl; rfl; rfl)
                            refine HRP.out.mono ?_
                            rintro e wB ⟨W6, rfl, hs6, A2, hd6⟩
                            have HS6 := Lib.hid hs6
                            obtain ⟨q, hq⟩ : ∃ q, q = ({ p with left := max x.n 0, keep := max x.keep 0, junk := x.junk } : Pw) := ⟨_, rfl⟩
                            have hkp := kept_du hd6
                            rw [← hq] at hkp hd6 HQI
                            have HKP := Lib.hid hkp
                            clear hs6 hd6 d3 d4 d5 HRP HLA hkp hq
                            go_wp2_with ((with_reducible refine wpList_store_at ?_ 48 (.tmp 185) (.tmp 184) ?_ _ ?_ _ ?_ HS6.out ?_); rfl; rfl; rfl; rfl)
                            refine HKP.out.mono ?_
                            rintro e wD ⟨rfl, hdD⟩
                            obtain ⟨lv8, pv8, ra8, -, -⟩ := hdD.ra
                            have g2 := hdD.c 2 ra8.p0.2.2.1
                            have g3 := hdD.c 3 ra8.p0.2.2.2
                            have HD6 := Lib.hid hdD
                            obtain ⟨n8, hn8⟩ : ∃ n8, q.keep = n8 := ⟨_, rfl⟩
                            obtain ⟨m8, hm8⟩ : ∃ m8, q.junk = m8 := ⟨_, rfl⟩
                            rw [hn8] at g2 ⊢
                            rw [hm8] at g3 ⊢
                            clear hdD ra8 HKP HS6 hn8 hm8
                            go_wp2_with fail
                            go_meet
                            case rel => exact ⟨_, _, _, _, rfl, rfl, HNI.out.up HQI.out, HD6.out⟩
                        · have q7 : (x.kind == 7) = false := by rw [beq_eq_false_iff_ne]; exact K7
                          by_cases K8 : x.kind = 8
                          · rw [K8] at c0
                            as_aux_lemma =>
                              have HPD := Lib.hid (cut_du HDX.out)
                              go_wp2_with fail
                              refine HPD.out.mono ?_
                              rintro e wA ⟨rfl, hdA⟩
                              obtain ⟨W6, hs6, A2, hd6⟩ := hdA.off true
                              have HS6 := Lib.hid hs6
                              have HD6 := Lib.hid hd6
                              clear hdA HPD hs6 hd6
                              go_wp2_with ((with_reducible refine wpList_store_at ?_ 4 (.tmp 208) (.const (.bool true)) ?_ _ ?_ _ ?_ HS6.out ?_); rfl; rfl; rfl; rfl)
                              go_meet
                              case rel => exact ⟨_, _, _, _, rfl, rfl, HNI.out.up (Nv.cut HNI.out.pin true), HD6.out⟩
                          · have q8 : (x.kind == 8) = false := by rw [beq_eq_false_iff_ne]; exact K8
                            by_cases K9 : x.kind = 9
                            · rw [K9] at c0
                              as_aux_lemma =>
                                have HPD := Lib.hid (on_du HDX.out)
                                go_wp2_with fail
                                refine HPD.out.mono ?_
                                rintro e wA ⟨rfl, hdA⟩
                                obtain ⟨W5, hs5, A1, hd5⟩ := hdA.off false
                                obtain ⟨W6, hs6, A2, hd6⟩ := hd5.left 0
                                have HS5 := Lib.hid hs5
                                have HS6 := Lib.hid hs6
                                have HD6 := Lib.hid hd6
                                clear hdA HPD hs5 hd5 hs6 hd6
                                go_wp2_with (first | ((with_reducible refine wpList_store_at ?_ 4 (.tmp 215) (.const (.bool false)) ?_ _ ?_ _ ?_ HS5.out ?_); rfl; rfl; rfl; rfl) | ((with_reducible refine wpList_store_at ?_ 3 (.tmp 217) (.const (.int .i64 0)) ?_ _ ?_ _ ?_ HS6.out ?_); rfl; rfl; rfl; rfl))
                                go_meet
                                case rel => exact ⟨_, _, _, _, rfl, rfl, HNI.out.up (Nv.on HNI.out.pin false), HD6.out⟩
                            · have q9 : (x.kind == 9) = false := by rw [beq_eq_false_iff_ne]; exact K9
                              by_cases K10 : x.kind = 10
                              · rw [K10] at c0
                                as_aux_lemma =>
                                  have HPD := Lib.hid (on_du HDX.out)
                                  go_wp2_with fail
                                  refine HPD.out.mono ?_
                                  rintro e wA ⟨rfl, hdA⟩
                                  obtain ⟨W5, hs5, A1, hd5⟩ := hdA.off false
                                  obtain ⟨W6, hs6, A2, hd6⟩ := hd5.left 0
                                  have HS5 := Lib.hid hs5
                                  have HS6 := Lib.hid hs6
                                  have HD6 := Lib.hid hd6
                                  clear hdA HPD hs5 hd5 hs6 hd6
                                  go_wp2_with (first | ((with_reducible refine wpList_store_at ?_ 4 (.tmp 215) (.const (.bool false)) ?_ _ ?_ _ ?_ HS5.out ?_); rfl; rfl; rfl; rfl) | ((with_reducible refine wpList_store_at ?_ 3 (.tmp 217) (.const (.int .i64 0)) ?_ _ ?_ _ ?_ HS6.out ?_); rfl; rfl; rfl; rfl))
                                  go_meet
                                  case rel => exact ⟨_, _, _, _, rfl, rfl, HNI.out.up (Nv.on HNI.out.pin false), HD6.out⟩
                              · have q10 : (x.kind == 10) = false := by rw [beq_eq_false_iff_ne]; exact K10
                                by_cases K11 : x.kind = 11
                                · rw [K11] at c0
                                  as_aux_lemma =>
                                    have hpd := act_du HDX.out HNI.out.pin.1
                                    have hin := next_in HNI.out.pin
                                    obtain ⟨y9, hy9⟩ : ∃ y9, p.may = y9 := ⟨_, rfl⟩
                                    obtain ⟨z9, hz9⟩ : ∃ z9, p.whole = z9 := ⟨_, rfl⟩
                                    rw [hy9, hz9] at hpd
                                    have HPD := Lib.hid hpd
                                    have HIN := Lib.hid hin
                                    clear hpd hin
                                    go_wp2_with fail
                                    refine HPD.out.mono ?_
                                    rintro e wA ⟨rfl, hdA⟩
                                    have HLA := Lib.hid hdA.load48
                                    have hrp := ract_du hdA HNI.out.pin.1
                                    rw [hy9, hz9] at hrp
                                    have HRP := Lib.hid hrp
                                    clear hdA HPD hrp hy9 hz9
                                    go_wp2_with ((with_reducible refine wpList_load_at ?_ 48 (.tmp 226) ?_ _ ?_ _ HLA.out ?_); rfl; rfl; rfl)
                                    refine HRP.out.mono ?_
                                    rintro e wB ⟨rfl, hdB⟩
                                    obtain ⟨W5, hs5, hd5⟩ := hdB.fresh (X := p.next.cells) #[.bool false, .int .i64 0, .int .i64 0, .int .u8 0] 48 info48s rfl rfl (p4_one _ _ _ _)
                                    have hl5 := hd5.xload 48 _ Try.underlying48 rfl info48s
                                    obtain ⟨W6, hs6, A2, hd6⟩ := hd5.power p.next
                                    have HS5 := Lib.hid hs5
                                    have HL5 := Lib.hid hl5
                                    have HS6 := Lib.hid hs6
                                    have HD6 := Lib.hid hd6.drop
                                    clear hdB HRP HLA hs5 hl5 hs6 hd5 hd6
                                    go_wp2_with (first | ((with_reducible refine wpList_store_at ?_ 48 (.tmp 29) (.tmp 229) ?_ _ ?_ _ ?_ HS5.out ?_); rfl; rfl; rfl; rfl) | ((with_reducible refine wpList_load_at ?_ 48 (.tmp 29) ?_ _ ?_ _ HL5.out ?_); rfl; rfl; rfl) | ((with_reducible refine wpList_store_at ?_ 48 (.tmp 233) (.tmp 232) ?_ _ ?_ _ ?_ HS6.out ?_); rfl; rfl; rfl; rfl))
                                    go_meet
                                    case rel => exact ⟨_, _, _, _, rfl, rfl, HNI.out.up HIN.out, HD6.out⟩
                                · have q11 : (x.kind == 11) = false := by rw [beq_eq_false_iff_ne]; exact K11
                                  as_aux_lemma =>
                                    go_wp2_with fail
                                    go_meet
                                    case rel => exact ⟨_, _, _, _, rfl, rfl, HNI.out.up HNI.out.pin, HDX.out⟩
        case rest =>
          obtain ⟨E, st6, p6, A6, rfl, rfl, HNV2, HD6⟩ := hcut
          as_aux_lemma =>
            have HC := Lib.hid (counts_du HD6.out)
            go_wp2_with fail
            refine HC.out.mono ?_
            rintro e wC ⟨rfl, hdC⟩
            have HDC := Lib.hid hdC
            obtain ⟨lv9, pv9, ra9, -, -⟩ := hdC.ra
            have f0 := hdC.c 0 ra9.p0.1
            have f137 := hdC.c 137 ra9.programs
            have f138 := hdC.c 138 ra9.erases
            have hup := fun n => up_du (hdC.on ((Only.refl _ wC).drewN n))
            clear hdC ra9 HC
            obtain ⟨o9, ho9⟩ : ∃ o9, p6.off = o9 := ⟨_, rfl⟩
            rw [ho9] at f0 hup
            have HUP := Lib.hid hup
            have hne := eql_up o9
            obtain ⟨n9, hn9⟩ : ∃ n9, st6.programs = n9 := ⟨_, rfl⟩
            obtain ⟨m9, hm9⟩ : ∃ m9, st6.erases = m9 := ⟨_, rfl⟩
            rw [hn9] at f137 ⊢
            rw [hm9] at f138 ⊢
            have hl120 := HK.out.2
            clear hup ho9 hn9 hm9
            go_upto_region 53 with fail
            go_quiet (first | (go_at_call 17; refine Calls.quiet_of_same (HUP.out _)))
            go_wp2_with fail
            go_roundw
            case rel => exact ⟨k + 1, st6, p6, A6, by have := HK.out; omega, by go_num, HNV2.out, HDC.out.drop.on ((Only.refl _ wC).drewN _)⟩
            case measure => have := HK.out; simp [intOf]; omega
    · obtain rfl : k = l.length := by omega
      subst hl4
      clear hl120
      go_upto_region 56 with fail
      have hp1 := HX.out.2.1.1
      go_loopw [34] (fun y wq => ∃ z : Int, -1 ≤ z ∧ z ≤ (sg : Int) + 1 ∧ y = .int .i64 z ∧ Hid (Du [] br w gp gc gl gp pg st p st p A1 wq)) (fun y _ => ((sg : Int) + 1 - intOf y).toNat)
      case atStart => exact ⟨-1, by omega, by omega, rfl, HDI.out⟩
      case round =>
        obtain ⟨z, hz1, hz2, rfl, HQ⟩ := hrel
        have hsg := HX.out.1
        have hsg64 : sg ≤ 64 := hsg.2
        by_cases hz : z ≤ (sg : Int)
        · have hwd := wear_du HQ.out z
          have HZ := Lib.hid (And.intro hz1 hz)
          by_cases h0 : 0 ≤ z
          · by_cases h1 : z < (sg : Int)
            · as_aux_lemma =>
                obtain ⟨j, rfl⟩ := Int.eq_ofNat_of_zero_le h0
                have hjs : j < st.segs := by rw [HNI.out.segs]; omega
                obtain ⟨lv9, pv9, ra9, -, -⟩ := HQ.out.ra
                have f35 := HQ.out.c (72 + j) (ra9.worn j hjs)
                have hwe : st.wearI (j : Int) = st.wear j := by
                  have hh : hasB st.segs st.pages (j : Int) 0 = true := by have := HNI.out.pages; simp only [hasB, decide_eq_true_eq]; omega
                  unfold Cp.wearI
                  rw [if_pos hh, Int.toNat_natCast]
                rw [hwe] at hwd
                have hj64 : (j : Int) < 64 := by omega
                have HWD := Lib.hid hwd
                obtain ⟨n9, hn9⟩ : ∃ n9, st.wear j = n9 := ⟨_, rfl⟩
                rw [hn9] at f35 HWD
                clear hwd ra9 hwe hn9 hjs
                go_wp2_with fail
                refine HWD.out.mono ?_
                rintro e wA ⟨rfl, hdA⟩
                have HDA := Lib.hid hdA
                clear hdA f35 HWD
                go_wp2_with fail
                go_roundw
                case rel => exact ⟨(j : Int) + 1, by have := HZ.out; omega, by have := HZ.out; omega, by go_num, HDA.out⟩
                case measure => have := HZ.out; simp [intOf]; omega
            · as_aux_lemma =>
                have hwe : st.wearI z = 0 := by
                  have hh : hasB st.segs st.pages z 0 = false := by have := HNI.out.segs; simp only [hasB, decide_eq_false_iff_not]; omega
                  unfold Cp.wearI
                  rw [if_neg (by rw [hh]; simp)]
                rw [hwe] at hwd
                have HWD := Lib.hid hwd
                clear hwd hwe
                go_wp2_with fail
                refine HWD.out.mono ?_
                rintro e wA ⟨rfl, hdA⟩
                have HDA := Lib.hid hdA
                clear hdA HWD
                go_wp2_with fail
                go_roundw
                case rel => exact ⟨z + 1, by have := HZ.out; omega, by have := HZ.out; omega, by go_num, HDA.out⟩
                case measure => have := HZ.out; simp [intOf]; omega
          · as_aux_lemma =>
              have hwe : st.wearI z = 0 := by
                have hh : hasB st.segs st.pages z 0 = false := by simp only [hasB, decide_eq_false_iff_not]; omega
                unfold Cp.wearI
                rw [if_neg (by rw [hh]; simp)]
              rw [hwe] at hwd
              have HWD := Lib.hid hwd
              clear hwd hwe
              go_wp2_with fail
              refine HWD.out.mono ?_
              rintro e wA ⟨rfl, hdA⟩
              have HDA := Lib.hid hdA
              clear hdA HWD
              go_wp2_with fail
              go_roundw
              case rel => exact ⟨z + 1, by have := HZ.out; omega, by have := HZ.out; omega, by go_num, HDA.out⟩
              case measure => have := HZ.out; simp [intOf]; omega
        · as_aux_lemma =>
            go_wp2_with fail
            obtain ⟨lv9, pv9, ra9, -, -⟩ := HQ.out.ra
            have hpast := ra9.past
            have F3 := Lib.hid (fun W (h : Du [] br w gp gc gl gp pg st p st p A1 W) => load_one 43 _ Try.underlying43 rfl (h.c 136 hpast))
            have FS : Hid (∀ W, Du [] br w gp gc gl gp pg st p st p A1 W → SL W pv9 st.past) := fun W h => by
              obtain ⟨lv8, pv8, ra8, -, hs8⟩ := h.ra
              obtain rfl : pv8 = pv9 := Option.some.inj (ra8.past.symm.trans hpast)
              exact hs8
            have hseg := HNI.out.segs
            have hpag := HNI.out.pages
            have F9 : Hid (∀ W, Du [] br w gp gc gl gp pg st p st p A1 W → (loadVar 72 ⟨gc, 0, none⟩).run Try.prog W = .ok (.agg (szA sg pz)) W) := fun W h => by
              have := size_du h
              rwa [hseg, hpag] at this
            have hpl : st.past.length ≤ 1000000 := by have := HNI.out.past; have := HLL.out; omega
            have HPL := Lib.hid hpl
            clear ra9 hpast hseg hpag hpl
            refine wp_region_held (S := fun W => Du [] br w gp gc gl gp pg st p st p A1 W) (by kernel_rfl) ?_
            change wpAnyH _ _ _ _ _ _ _ _ (World.drew _)
            have hS0 := HQ.out.on (Only.refl (fun _ => False) _).drew
            refine held_pure (i := 0) (v := (.pointer (some ⟨gc, 0, none⟩))) rfl rfl (by kernel_rfl) (by kernel_rfl) (by kernel_rfl) (fun _ _ _ h => h) (Or.inl ⟨by rfl, fun w => by go_simp⟩) hS0 ?_
            simp only [List.setIfInBounds_toArray, List.set]
            refine held_pure (i := 2) (v := (.pointer (some ⟨br, 136, none⟩))) rfl rfl (by kernel_rfl) (by kernel_rfl) (by kernel_rfl) (fun _ _ _ h => h) (Or.inl ⟨by rfl, fun w => by go_simp⟩) hS0 ?_
            simp only [List.setIfInBounds_toArray, List.set]
            refine held_take (i := 3) (v := pv9) rfl rfl (by kernel_rfl) (by kernel_rfl) (by kernel_rfl) (fun _ _ _ h => h) (yields_load_w (by rfl) 43 (.tmp 293) rfl _ rfl _ F3.out) hS0 ?_
            simp only [List.setIfInBounds_toArray, List.set]
            refine held_callx (j := 1) (by kernel_rfl) rfl rfl (by rfl) Try.func21 (by kernel_rfl) rfl rfl [(.pointer (some ⟨gc, 0, none⟩))] rfl (R := fun v W => SL W v st.past ∧ Du [] br w gp gc gl gp pg st p st p A1 W) (history_du hS0 HPL.out) ?_
            rintro v1 y1 ⟨hv1, hS1⟩
            refine ⟨hS1, ?_⟩
            simp only [List.setIfInBounds_toArray, List.set]
            refine held_call (j := 4) (by kernel_rfl) rfl rfl (by rfl) Try.func30 (by kernel_rfl) rfl rfl [v1, pv9] rfl (same_refl hv1 (FS.out _ hS1) HPL.out) ?_
            intro y4 k4
            have hS4 := hS1.on k4
            refine ⟨hS4, ?_⟩
            simp only [List.setIfInBounds_toArray, List.set]
            refine held_pure (i := 5) (v := (.bool true)) rfl rfl (by kernel_rfl) (by kernel_rfl) (by kernel_rfl) (fun _ _ _ h => h) (Or.inl ⟨by rfl, fun w => by go_simp⟩) hS4 ?_
            simp only [List.setIfInBounds_toArray, List.set]
            refine held_pure (i := 6) (v := (.pointer (some ⟨gc, 0, none⟩))) rfl rfl (by kernel_rfl) (by kernel_rfl) (by kernel_rfl) (fun _ _ _ h => h) (Or.inl ⟨by rfl, fun w => by go_simp⟩) hS4 ?_
            simp only [List.setIfInBounds_toArray, List.set]
            refine held_pure (i := 7) (v := (.pointer (some ⟨gc, 0, none⟩))) rfl rfl (by kernel_rfl) (by kernel_rfl) (by kernel_rfl) (fun _ _ _ h => h) (Or.inl ⟨by rfl, fun w => by go_simp⟩) hS4 ?_
            simp only [List.setIfInBounds_toArray, List.set]
            refine held_pure (i := 8) (v := (.pointer (some ⟨gc, 0, none⟩))) rfl rfl (by kernel_rfl) (by kernel_rfl) (by kernel_rfl) (fun _ _ _ h => h) (Or.inl ⟨by rfl, fun w => by go_simp⟩) hS4 ?_
            simp only [List.setIfInBounds_toArray, List.set]
            refine held_take (i := 9) (v := (.agg (szA sg pz))) rfl rfl (by kernel_rfl) (by kernel_rfl) (by kernel_rfl) (fun _ _ _ h => h) (yields_load_w (by rfl) 72 (.tmp 299) rfl _ rfl _ F9.out) hS4 ?_
            simp only [List.setIfInBounds_toArray, List.set]
            refine held_pure (i := 11) (v := (.int .i64 (sg : Int))) rfl rfl (by kernel_rfl) (by kernel_rfl) (by kernel_rfl) (fun _ _ _ h => h) (Or.inl ⟨by rfl, fun w => by go_simp⟩) hS4 ?_
            simp only [List.setIfInBounds_toArray, List.set]
            refine held_call (j := 10) (by kernel_rfl) rfl rfl (by rfl) Try.func31 (by kernel_rfl) rfl rfl [(.agg (szA sg pz))] rfl (segs_any sg pz _) ?_
            intro y10 k10
            have hS10 := hS4.call k10
            refine ⟨hS10, ?_⟩
            simp only [List.setIfInBounds_toArray, List.set]
            refine held_pure (i := 12) (v := (.bool true)) rfl rfl (by kernel_rfl) (by kernel_rfl) (by kernel_rfl) (fun _ _ _ h => h) (Or.inl ⟨by rfl, fun w => by go_simp⟩) hS10 ?_
            simp only [List.setIfInBounds_toArray, List.set]
            refine held_pure (i := 13) (v := (.bool true)) rfl rfl (by kernel_rfl) (by kernel_rfl) (by kernel_rfl) (fun _ _ _ h => h) (Or.inl ⟨by rfl, fun w => by go_simp⟩) hS10 ?_
            simp only [List.setIfInBounds_toArray, List.set]
            refine held_pure (i := 14) (v := (.bool true)) rfl rfl (by kernel_rfl) (by kernel_rfl) (by kernel_rfl) (fun _ _ _ h => h) (Or.inl ⟨by rfl, fun w => by go_simp⟩) hS10 ?_
            simp only [List.setIfInBounds_toArray, List.set]
            refine held_pure (i := 15) (v := (.pointer (some ⟨gc, 0, none⟩))) rfl rfl (by kernel_rfl) (by kernel_rfl) (by kernel_rfl) (fun _ _ _ h => h) (Or.inl ⟨by rfl, fun w => by go_simp⟩) hS10 ?_
            simp only [List.setIfInBounds_toArray, List.set]
            refine held_pure (i := 16) (v := (.pointer (some ⟨gc, 0, none⟩))) rfl rfl (by kernel_rfl) (by kernel_rfl) (by kernel_rfl) (fun _ _ _ h => h) (Or.inl ⟨by rfl, fun w => by go_simp⟩) hS10 ?_
            simp only [List.setIfInBounds_toArray, List.set]
            refine held_pure (i := 17) (v := (.pointer (some ⟨gc, 0, none⟩))) rfl rfl (by kernel_rfl) (by kernel_rfl) (by kernel_rfl) (fun _ _ _ h => h) (Or.inl ⟨by rfl, fun w => by go_simp⟩) hS10 ?_
            simp only [List.setIfInBounds_toArray, List.set]
            refine held_take (i := 18) (v := (.agg (szA sg pz))) rfl rfl (by kernel_rfl) (by kernel_rfl) (by kernel_rfl) (fun _ _ _ h => h) (yields_load_w (by rfl) 72 (.tmp 308) rfl _ rfl _ F9.out) hS10 ?_
            simp only [List.setIfInBounds_toArray, List.set]
            refine held_pure (i := 20) (v := (.int .i64 (pz : Int))) rfl rfl (by kernel_rfl) (by kernel_rfl) (by kernel_rfl) (fun _ _ _ h => h) (Or.inl ⟨by rfl, fun w => by go_simp⟩) hS10 ?_
            simp only [List.setIfInBounds_toArray, List.set]
            refine held_call (j := 19) (by kernel_rfl) rfl rfl (by rfl) Try.func32 (by kernel_rfl) rfl rfl [(.agg (szA sg pz))] rfl (pages_any sg pz _) ?_
            intro y19 k19
            have hS19 := hS10.call k19
            refine ⟨hS19, ?_⟩
            simp only [List.setIfInBounds_toArray, List.set]
            refine held_pure (i := 21) (v := (.bool true)) rfl rfl (by kernel_rfl) (by kernel_rfl) (by kernel_rfl) (fun _ _ _ h => h) (Or.inl ⟨by rfl, fun w => by go_simp⟩) hS19 ?_
            simp only [List.setIfInBounds_toArray, List.set]
            refine held_pure (i := 22) (v := (.bool true)) rfl rfl (by kernel_rfl) (by kernel_rfl) (by kernel_rfl) (fun _ _ _ h => h) (Or.inl ⟨by rfl, fun w => by go_simp⟩) hS19 ?_
            simp only [List.setIfInBounds_toArray, List.set]
            refine held_pure (i := 23) (v := (.bool true)) rfl rfl (by kernel_rfl) (by kernel_rfl) (by kernel_rfl) (fun _ _ _ h => h) (Or.inl ⟨by rfl, fun w => by go_simp⟩) hS19 ?_
            simp only [List.setIfInBounds_toArray, List.set]
            refine wpAnyH_done (by kernel_rfl) ?_ _
            have HBE := Lib.hid hS19.below
            clear hS0 hS1 hS4 hS10 hS19
            go_wp2_with fail
            go_ret
            exact ⟨rfl, HBE.out⟩
/-- The walk. -/
theorem nandActs_walk (w : World) (b0 : Int) (w0 : (Lit.int .i64 b0).wf = true) (b1 : Int) (w1 : (Lit.int .i64 b1).wf = true) (b2 : Int) (w2 : (Lit.int .i64 b2).wf = true) (a3 : Option Addr) (len3 cap3 : Nat) (bl : List Int) (h3 : NumRow w a3 len3 cap3 bl) (a4 : Option Addr) (len4 cap4 : Nat) (l : List Ac) (h4 : AcRow w a4 len4 cap4 l) :
    Calls Try.prog 7 #[.int .i64 b0, .int .i64 b1, .int .i64 b2, .slice a3 len3 cap3, .slice a4 len4 cap4] w fun e w' => e = .returned (.bool true) ∧ Below w.heap.size w w' := by
  obtain ⟨k1, k2, k3⟩ := h4
  have hw2 := wf64_iff.1 w2
  by_cases n1 : 120 < len4
  · exact acts_far1 w n1
  · by_cases n2 : 70 < len3
    · exact acts_far2 w (by omega) n2
    · by_cases hv : 1 ≤ b0 ∧ b0 ≤ 64 ∧ 1 ≤ b1 ∧ b1 ≤ 16 ∧ 0 ≤ b2
      · obtain ⟨v0, v1, v2, v3, v4⟩ := hv
        obtain ⟨sg, rfl⟩ := Int.eq_ofNat_of_zero_le (show 0 ≤ b0 by omega)
        obtain ⟨pz, rfl⟩ := Int.eq_ofNat_of_zero_le (show 0 ≤ b1 by omega)
        exact acts_ok w sg pz bl l h3.1 k1 k2 k3 (by omega) (by omega) ⟨by omega, by omega⟩ ⟨by omega, by omega⟩ ⟨v4, hw2.2⟩
      · exact acts_no w (by omega) (by omega) hv
end
end Go.Proofs.Ytjnjnkkdpglfhaa
