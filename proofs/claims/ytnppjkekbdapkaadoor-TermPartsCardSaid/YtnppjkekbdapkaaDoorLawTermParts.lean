/-
  What a term is made of are its own parts' parts, and itself: for every input.
-/
import Derived.Test.YtnppjkekbdapkaaDoorTxt
import Derived.Test.YtnppjkekbdapkaaDoorPar
import Derived.Test.YtnppjkekbdapkaaDoorMpi
import Derived.Test.YtnppjkekbdapkaaDoorCls
set_option linter.unusedVariables false
namespace Go.Proofs.YtnppjkekbdapkaaDoor
open Go.RowKit

theorem count_one {x : Int} : ∀ {l : List Int}, l.Nodup → x ∈ l → l.count x = 1
  | [], _, h => by cases h
  | y :: l, hn, h => by
    rw [List.nodup_cons] at hn
    rw [List.count_cons]
    rcases List.mem_cons.1 h with rfl | h
    · rw [List.count_eq_zero.2 hn.1]
      simp
    · have hne : ¬ y = x := by rintro rfl; exact hn.1 h
      rw [count_one hn.2 h]
      simp [hne]
theorem parts_mem {l : List Nd} (hm : mayB l = true) {i : Nat} (hi : i < l.length) {z : Int} : z ∈ partsN l i ↔ ∃ k : Nat, z = (k : Int) ∧ k ≤ i ∧ isIn l i k = true := by
  rw [parts_eq hm hi, List.mem_map]
  constructor
  · rintro ⟨k, hk, rfl⟩
    obtain ⟨h1, h2⟩ := List.mem_filter.1 hk
    exact ⟨k, rfl, by have := List.mem_range.1 h1; omega, h2⟩
  · rintro ⟨k, rfl, h1, h2⟩
    exact ⟨k, List.mem_filter.2 ⟨List.mem_range.2 (by omega), h2⟩, rfl⟩
theorem parts_nodup {l : List Nd} (hm : mayB l = true) {i : Nat} (hi : i < l.length) : (partsN l i).Nodup := by
  rw [parts_eq hm hi]
  refine List.pairwise_map.2 ((List.nodup_range.filter _).imp ?_)
  intro a b h e
  exact h (by omega)
theorem parts_last {l : List Nd} (hm : mayB l = true) {i : Nat} (hi : i < l.length) : ∃ pre, partsN l i = pre ++ [(i : Int)] := by
  have h2 : [i].filter (isIn l i) = [i] := by rw [List.filter_cons, if_pos (isIn_self i)]; rfl
  refine ⟨((List.range i).filter (isIn l i)).map fun z : Nat => (z : Int), ?_⟩
  rw [parts_eq hm hi, List.range_succ, List.filter_append, List.map_append, h2]
  rfl
theorem parts_len {l : List Nd} {i : Nat} (hi : i < l.length) : (partsN l i).length ≤ l.length := by
  unfold partsN
  rw [List.length_reverse]
  have := outD_len l i (i + 1)
  omega
set_option maxHeartbeats 8000000 in
theorem termParts_walk (w : World) (a0 : Option Addr) (len0 cap0 : Nat) (l : List Nd) (hl : NdRow w a0 len0 cap0 l) (n : Int) (hn : (Lit.int .u8 n).wf = true) (htab : Pow10 w) :
    Calls Tryd.prog 5 #[.slice a0 len0 cap0, .int .u8 n] w fun e w' => e = .returned (.bool true) ∧ Below w.heap.size w w' := by
  obtain ⟨hl1, rfl, hwf⟩ := hl
  have h1 : 0 ≤ n ∧ n ≤ 255 := by
    simp [Lit.wf, IntKind.min, IntKind.max, IntKind.signed, IntKind.bits] at hn
    omega
  clear hn
  have HL := Lib.hid hl1
  have HT := Lib.hid htab
  clear hl1 hwf htab
  have HSH : Hid (∀ W, Only (fun _ => False) w W → Calls Tryd.prog 8 #[] W fun e w' => e = .returned (.bool true) ∧ Only (fun _ => False) W w') := fun W o => shown_any W (HT.out.keep o)
  have HS0 := Lib.hid (HSH.out w (Only.refl _ w))
  have e1 : IntKind.i64.wrap n = n := IntWalk.i64_in _ (by omega)
  by_cases g1 : 100 < l.length
  · have g1' : (100 : Int) < (l.length : Int) := by omega
    go_enter Tryd.func5, Tryd.ntmps5
    go_wp2_with (go_at_call 8; refine HS0.out.mono ?_; rintro e w1 ⟨rfl, h1⟩)
    go_ret
    exact ⟨rfl, h1.below (fun _ h => h.elim)⟩
  have g1' : ¬ (100 : Int) < (l.length : Int) := by omega
  have HM0 := Lib.hid (may_any l _ w HL.out (by omega))
  cases hm : mayB l
  · rw [hm] at HM0
    clear hm
    go_enter Tryd.func5, Tryd.ntmps5
    go_wp2_with (first | (go_at_call 7; (with_reducible refine HM0.out.mono ?_); rintro e w1 ⟨rfl, h1⟩; have HS1 := Lib.hid (HSH.out w1 (Only.of_below h1))) | (go_at_call 8; (with_reducible refine HS1.out.mono ?_); rintro e w2 ⟨rfl, h2⟩))
    go_ret
    exact ⟨rfl, ((Only.of_below (S := fun _ => False) h1).trans h2).below (fun _ h => h.elim)⟩
  have HMB := Lib.hid hm
  rw [hm] at HM0
  clear hm
  by_cases g3 : l.length = 0
  · have g3' : ((l.length : Int) == 0) = true := by simp [g3]
    clear g3
    go_enter Tryd.func5, Tryd.ntmps5
    go_wp2_with (first | (go_at_call 7; (with_reducible refine HM0.out.mono ?_); rintro e w1 ⟨rfl, h1⟩; have HS1 := Lib.hid (HSH.out w1 (Only.of_below h1))) | (go_at_call 8; (with_reducible refine HS1.out.mono ?_); rintro e w2 ⟨rfl, h2⟩))
    go_ret
    exact ⟨rfl, ((Only.of_below (S := fun _ => False) h1).trans h2).below (fun _ h => h.elim)⟩
  have g3' : ((l.length : Int) == 0) = false := by rw [beq_eq_false_iff_ne]; omega
  have g4 : ¬ (l.length : Int) = 0 := by omega
  obtain ⟨A, hAd⟩ : ∃ g : Nat, (g : Int) = n % (l.length : Int) := by
    obtain ⟨N, rfl⟩ := Int.eq_ofNat_of_zero_le h1.1
    exact ⟨N % l.length, by simp⟩
  have hA : A < l.length := by
    have := Int.emod_lt_of_pos n (show (0 : Int) < (l.length : Int) by omega)
    omega
  have HAD := Lib.hid hAd
  clear hAd
  have wA : wf64 (A : Int) := by rw [wf64_iff]; omega
  have HPL : Hid (placeB l (A : Int) = true) := by
    show placeB l (A : Int) = true
    unfold placeB
    rw [decide_eq_true ⟨by omega, by omega⟩, HMB.out]
    rfl
  obtain ⟨ps, hps⟩ : ∃ ps, partsN l A = ps := ⟨_, rfl⟩
  have HMEM : Hid (∀ z : Int, z ∈ ps ↔ ∃ k : Nat, z = (k : Int) ∧ k ≤ A ∧ isIn l A k = true) := fun z => by rw [← hps]; exact parts_mem HMB.out hA
  have HND : Hid (ps.Nodup) := by show ps.Nodup; rw [← hps]; exact parts_nodup HMB.out hA
  obtain ⟨pre, hpre⟩ := parts_last HMB.out hA
  rw [hps] at hpre
  have hpl : ps.length ≤ l.length := by rw [← hps]; exact parts_len hA
  go_enter Tryd.func5, Tryd.ntmps5
  go_upto_region 4 with (first | (go_at_call 7; (with_reducible refine HM0.out.mono ?_); rintro e w1 ⟨rfl, h1⟩; have HS1 := Lib.hid (HSH.out w1 (Only.of_below h1))) | (go_at_call 8; (with_reducible refine HS1.out.mono ?_); rintro e w2 ⟨rfl, h2⟩))
  have HO2 := Lib.hid ((Only.of_below (S := fun _ => False) h1).trans h2)
  clear h1 h2 HM0 HS1 HS0 HSH
  rw [← HAD.out]
  have HC4 : Hid (Calls Tryd.prog 12 #[.slice a0 l.length cap0, .int .i64 (A : Int)] w2 fun e w' => ∃ v', e = .returned v' ∧ IL w' v' ps ∧ Only (fun _ => False) w2 w') := by
    have := parts_any l (A : Int) _ w2 (HL.out.keep HO2.out) (by omega) wA
    rw [if_pos HPL.out, Int.toNat_natCast, hps] at this
    exact this
  clear hps
  go_upto_region 5 with (go_at_call 12; (with_reducible refine HC4.out.mono ?_); rintro e w3 ⟨pv, rfl, hp3, h3⟩)
  have HO3 := Lib.hid (HO2.out.trans h3)
  have hN : ps.length = pre.length + 1 := by rw [hpre]; simp
  obtain ⟨pb, po, pc, rfl, hpc, hpm, hq⟩ := hp3.at (i := pre.length) (by omega)
  have HIX : Hid (∀ W, Only (fun _ => False) w3 W → ∀ j, (hj : j < ps.length) → W.cell? ⟨pb, po + j, none⟩ = some (.int .i64 ps[j])) := fun W o j hj => by
    obtain ⟨b', o', c', he, _, _, hc⟩ := (hp3.keep o).at hj
    cases he
    exact hc
  have hq' : w3.cell? ⟨pb, po + pre.length, none⟩ = some (.int .i64 (A : Int)) := by
    rw [hq]
    simp [hpre]
  have HN := Lib.hid hN
  obtain ⟨N, hN2⟩ : ∃ N, ps.length = N := ⟨_, rfl⟩
  have HN2 := Lib.hid hN2
  have hNp : pre.length + 1 = N := by omega
  obtain rfl : N = pre.length + 1 := hNp.symm
  have b1 : (((pre.length : Int) + 1) == 0) = false := by rw [beq_eq_false_iff_ne]; omega
  rw [hN2]
  rw [hN2] at hpl hpc
  clear hp3 h3 HC4 hq hN hN2 hNp
  have hmm := make_map 34 w3
  generalize hM : pre.length = M at *
  have HIM0 : Hid (IM (w3.alloc (.map #[] 0)) w3.heap.size 0 (fun z => (((ps.take 0).count z : Nat) : Int))) := IM.new w3
  have HOM0 : Hid (Only (fun _ => False) w3 (w3.alloc (.map #[] 0))) := (Only.refl _ _).alloc _
  have HPW : Hid (∀ x ∈ ps, 0 ≤ x ∧ x < (l.length : Int)) := fun x hx => by
    obtain ⟨k, rfl, hk, _⟩ := (HMEM.out x).1 hx
    omega
  clear hpre hM
  go_wp2_with fail
  generalize w3.alloc (.map #[] 0) = V0 at *
  generalize hms : w3.heap.size = m at *
  have HMS := Lib.hid hms
  clear hms
  clear hmm hq'
  go_loopg [8] (M + 1) (fun gg i wr => ∃ k : Nat, k ≤ M + 1 ∧ gg = M + 1 - k ∧ i = .int .i64 k ∧ Hid (IM wr m k (fun z => (((ps.take k).count z : Nat) : Int))) ∧ Hid (Only (fun _ => False) w3 wr))
  case atStart => exact ⟨0, by omega, by omega, rfl, HIM0.out, HOM0.out⟩
  case round =>
    clear HIM0 HOM0
    revert wr
    intro wa hrel
    obtain ⟨k, hk, hgk, rfl, hS, hO⟩ := hrel
    by_cases hlt : k < M + 1
    · have hlt' : (k : Int) < (M : Int) + 1 := by omega
      have hkl : k < ps.length := by rw [HN2.out]; exact hlt
      have q1 := HIX.out wa hO.out k hkl
      have hx := HPW.out _ (List.getElem_mem hkl)
      have HX : Hid (ps[k]? = some ps[k]) := List.getElem?_eq_getElem hkl
      generalize ps[k] = x at *
      have hc := List.count_le_length (a := x) (l := ps.take k)
      rw [List.length_take] at hc
      obtain ⟨c, hcd⟩ : ∃ c, (ps.take k).count x = c := ⟨_, rfl⟩
      have hlk := (hS.out.look (k := x) (by rw [wf64_iff]; omega)).1
      obtain ⟨V, hput, hnm, ho⟩ := hS.out.put (by unfold maxLen; omega) (k := x) (v := (c : Int) + 1) (by rw [wf64_iff]; omega) (by rw [wf64_iff]; omega)
      rw [hcd] at hlk hc
      have HN1 : Hid (IM V m (k + 1) (fun z => (((ps.take (k + 1)).count z : Nat) : Int))) := by
        have e : (fun z => (((ps.take (k + 1)).count z : Nat) : Int)) = (fun j => if j = x then (c : Int) + 1 else (((ps.take k).count j : Nat) : Int)) := by
          funext z
          rw [List.take_add_one, HX.out]
          show (((ps.take k ++ [x]).count z : Nat) : Int) = _
          rw [List.count_append, List.count_singleton]
          by_cases hz : z = x
          · subst hz
            rw [if_pos rfl, hcd]
            simp
          · rw [if_neg hz]
            have : (x == z) = false := by rw [beq_eq_false_iff_ne]; exact fun h => hz h.symm
            simp [this]
        rw [e]
        exact hnm
      have HO1 : Hid (Only (fun _ => False) w3 V) := only_fresh hO.out ho (fun j hj => by have := HMS.out; omega)
      clear hnm ho hcd
      go_wp2_with fail
      go_roundg (M + 1 - (k + 1))
      case measure => omega
      case rel => exact ⟨k + 1, by omega, by omega, by go_num, HN1.out, HO1.out⟩
    · obtain rfl : k = M + 1 := by omega
      have HIM : Hid (IM wa m (M + 1) (fun z => ((ps.count z : Nat) : Int))) := by
        have := hS.out
        rw [List.take_of_length_le (by rw [HN2.out]; omega)] at this
        exact this
      have HRF := Lib.hid (Only.refl (fun _ => False) wa)
      have HOW := Lib.hid hO.out
      clear hS hO hlt
      go_wp2_with fail
      go_loopg [9] (M + 1) (fun gg i wr => ∃ k : Nat, k ≤ M + 1 ∧ gg = M + 1 - k ∧ i = .int .i64 k ∧ Hid (Only (fun _ => False) wa wr))
      case atStart => exact ⟨0, by omega, by omega, rfl, HRF.out⟩
      case round =>
        clear HRF
        revert wr
        intro wb hrel
        obtain ⟨k, hk2, hgk2, rfl, hO⟩ := hrel
        by_cases hlt : k < M + 1
        · have hlt' : (k : Int) < (M : Int) + 1 := by omega
          have hkl : k < ps.length := by rw [HN2.out]; exact hlt
          have HIX2 : Hid (∀ W, Only (fun _ => False) w3 W → W.cell? ⟨pb, po + k, none⟩ = some (.int .i64 ps[k])) := fun W o => HIX.out W o k hkl
          have q1 := HIX2.out wb (HOW.out.trans hO.out)
          have hxm : ps[k] ∈ ps := List.getElem_mem hkl
          generalize ps[k] = x at *
          obtain ⟨z, rfl, hz, hin⟩ := (HMEM.out x).1 hxm
          have hzl : z < l.length := by omega
          have hzl' : (z : Int) < (l.length : Int) := by omega
          obtain ⟨gb, go, gc, he, hgc, _, _, _, _, hld⟩ := (HL.out.keep (HO3.out.trans (HOW.out.trans hO.out))).at hzl
          cases he
          have HX : Hid (l[z]? = some l[z]) := List.getElem?_eq_getElem hzl
          generalize l[z] = nd at *
          obtain ⟨op, a, b⟩ := nd
          have HLD : Hid ((loadVar 27 ⟨gb, go + z * 3, none⟩).run Tryd.prog wb = .ok (.agg #[.int .i64 op, .int .i64 a, .int .i64 b]) wb) := hld
          have hos := (op_small HMB.out HX.out).1
          dsimp only at hos
          have HC1 : Hid (ps.count (z : Int) = 1) := count_one HND.out hxm
          clear hld
          go_upto_region 16 with (((with_reducible refine wpList_load_at ?_ 27 (.tmp 75) ?_ _ ?_ _ HLD.out ?_); rfl; rfl; rfl))
          obtain ⟨X, hX⟩ : ∃ X, X = wb.alloc (.cells #[.int .i64 op, .int .i64 a, .int .i64 b] 27) := ⟨_, rfl⟩
          have hO1 : Only (fun _ => False) wb X := by rw [hX]; exact (Only.refl _ _).alloc _
          have hg1 : X.heap[wb.heap.size]? = some (.cells #[.int .i64 op, .int .i64 a, .int .i64 b] 27 (0, 0)) := by rw [hX]; exact heap_alloc_new _ _
          rw [← hX]
          have HOX := Lib.hid (hO.out.trans hO1)
          have q2 := HIX2.out X (HOW.out.trans HOX.out)
          have b0 := cell_of_row _ _ 0 _ _ _ hg1
          have b2 := cell_of_row _ _ 1 _ _ _ hg1
          have b3 := cell_of_row _ _ 2 _ _ _ hg1
          have hIX := HIM.out.keep HOX.out (fun x => x)
          have k0 := (hIX.look (k := (z : Int)) (by rw [wf64_iff]; omega)).1
          rw [HC1.out] at k0
          clear hX hO1 hg1 q1 HLD
          by_cases ho : op = 2 ∨ op = 3
          · obtain ⟨⟨a0, ak⟩, b0', bk⟩ := may_made HMB.out HX.out ho
            dsimp only at a0 ak b0' bk
            obtain ⟨hia, hib⟩ := isIn_parts HMB.out hA hz HX.out ho hin
            dsimp only at hia hib
            obtain ⟨A', rfl⟩ := Int.eq_ofNat_of_zero_le a0
            obtain ⟨B', rfl⟩ := Int.eq_ofNat_of_zero_le b0'
            have cA := count_one HND.out ((HMEM.out (A' : Int)).2 ⟨A', rfl, by omega, hia⟩)
            have cB := count_one HND.out ((HMEM.out (B' : Int)).2 ⟨B', rfl, by omega, hib⟩)
            have kA := (hIX.look (k := (A' : Int)) (by rw [wf64_iff]; omega)).1
            have kB := (hIX.look (k := (B' : Int)) (by rw [wf64_iff]; omega)).1
            rw [cA] at kA
            rw [cB] at kB
            have ho2 : 2 ≤ op := by omega
            clear cA cB hIX hia hib hxm hin ho
            go_wp2_with fail
            go_roundg (M + 1 - (k + 1))
            case measure => omega
            case rel => exact ⟨k + 1, by omega, by omega, by go_num, HOX.out⟩
          · have ho2 : ¬ 2 ≤ op := by omega
            clear hIX hxm hin ho
            go_wp2_with fail
            go_roundg (M + 1 - (k + 1))
            case measure => omega
            case rel => exact ⟨k + 1, by omega, by omega, by go_num, HOX.out⟩
        · obtain rfl : k = M + 1 := by omega
          have HOE := Lib.hid (((HO3.out.trans HOW.out).trans hO.out).below (fun _ h => h.elim))
          go_wp2_with fail
          go_ret
          exact ⟨rfl, HOE.out⟩
end Go.Proofs.YtnppjkekbdapkaaDoor
