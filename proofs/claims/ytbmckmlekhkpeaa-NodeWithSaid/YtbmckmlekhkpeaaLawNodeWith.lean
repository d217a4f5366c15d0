/-
  NodeWith: the walk.
-/
import Derived.Test.YtbmckmlekhkpeaaLawNodePaths
set_option linter.unusedVariables false
namespace Go.Proofs.Ytbmckmlekhkpeaa
open Go.RowKit

/-- The first j children taken away. -/
def zapN (n : Nd) : Nat → Nd
  | 0 => n
  | j + 1 => (zapN n j).put j chZ
theorem zapN_leaf (n : Nd) : ∀ j, (zapN n j).leaf = n.leaf
  | 0 => rfl
  | j + 1 => zapN_leaf n j
theorem zapN_ok {n : Nd} (h : n.Ok) : ∀ j, (zapN n j).Ok
  | 0 => h
  | j + 1 => (zapN_ok h j).put_ok j chZ_ok
theorem mayC_z (b : Bool) : mayC b chZ = true := by cases b <;> decide
theorem mayN_put {n : Nd} (h : mayN n = true) (j : Nat) : mayN (n.put j chZ) = true := by
  unfold mayN at h ⊢
  rw [List.all_eq_true] at h ⊢
  intro c hc
  rcases List.mem_or_eq_of_mem_set hc with hc | rfl
  · exact h c hc
  · exact mayC_z _
theorem zapN_may {n : Nd} (h : mayN n = true) : ∀ j, mayN (zapN n j) = true
  | 0 => h
  | j + 1 => mayN_put (zapN_may h j) j
theorem zapN_with {n : Nd} (h : mayN n = true) (j : Nat) (hj : j < 4) : wiN (zapN n j) (j : Int) chZ = zapN n (j + 1) ∧ wiE (zapN n j) (j : Int) chZ = 0 := by
  have hm : mayN ((zapN n j).put j chZ) = true := mayN_put (zapN_may h j) j
  have hc : 0 ≤ (j : Int) ∧ (j : Int) < 4 ∧ mayN ((zapN n j).put (j : Int).toNat chZ) = true := ⟨by omega, by omega, by rw [Int.toNat_natCast]; exact hm⟩
  rw [wiN, wiE, if_pos hc, if_pos hc, Int.toNat_natCast]
  exact ⟨rfl, rfl⟩
theorem zapN_empty {n : Nd} (h : n.Ok) : emptyN (zapN n 4) = true := by
  obtain ⟨leaf, cs⟩ := n
  obtain ⟨a, b, c, d, e⟩ := list4 cs h.len
  subst e
  rfl
theorem put_get {n : Nd} (h : n.Ok) (i j : Nat) (hi : i < 4) (c : Ch) : (n.put i c).get j = if j = i then c else n.get j := by
  obtain ⟨leaf, cs⟩ := n
  obtain ⟨a, b, d, e, hcs⟩ := list4 cs h.len
  subst hcs
  by_cases hj : j = i
  · subst hj
    have : j = 0 ∨ j = 1 ∨ j = 2 ∨ j = 3 := by omega
    rcases this with rfl | rfl | rfl | rfl <;> rfl
  · rw [if_neg hj]
    simp only [Nd.put, Nd.get, List.getD_eq_getElem?_getD]
    rw [List.getElem?_set_ne (by omega)]
theorem wiE_cases (n : Nd) (i : Int) (c : Ch) : (wiE n i c = 1 ∧ wiN n i c = ndZ) ∨ (wiE n i c = 0 ∧ wiN n i c = n.put i.toNat c ∧ mayN (n.put i.toNat c) = true) := by
  unfold wiE wiN
  split
  · next h => exact .inr ⟨rfl, rfl, h.2.2⟩
  · exact .inl ⟨rfl, rfl⟩

/-- The rows that NodeWith's loops read. -/
def Tri (a b m : Nat) (A C M : Array Value) (W : World) : Prop := W.heap[a]? = some (.cells A 30 (0, 0)) ∧ W.heap[b]? = some (.cells C 27 (0, 0)) ∧ W.heap[m]? = some (.cells M 30 (0, 0))
theorem Tri.keep {a b m : Nat} {A C M : Array Value} {W X : World} (h : Tri a b m A C M W) (o : Only (fun _ => False) W X) : Tri a b m A C M X :=
  ⟨o.row h.1 (fun x => x), o.row h.2.1 (fun x => x), o.row h.2.2 (fun x => x)⟩

set_option maxRecDepth 100000 in
set_option maxHeartbeats 16000000 in
theorem nodeWith_bad (w : World) (n : Nd) (h : n.Ok) (q : Nat) (hq : q ≤ 255) (c : Ch) (hc : c.Ok) (he : wiE n ((q % 4 : Nat) : Int) c = 1) (hm : wiN n ((q % 4 : Nat) : Int) c = ndZ) :
    Calls Try.prog 8 #[.agg (ndA n), .int .u8 q, .agg (chA c)] w fun e w' => e = .returned (.bool true) ∧ Below w.heap.size w w' := by
  have hwr : wrap64 (q : Int) = q := by unfold wrap64; omega
  have hz30 := zero30
  have hgn := heap_alloc_new w (.cells (ndA n) 30)
  have hgc := heap_alloc_new (w.alloc (.cells (ndA n) 30)) (.cells (chA c) 27)
  rw [show (w.alloc (.cells (ndA n) 30)).heap.size = w.heap.size + 1 by simp] at hgc
  have HT0 : Hid (Two w.heap.size (w.heap.size + 1) (ndA n) (chA c) 30 27 ((w.alloc (.cells (ndA n) 30)).alloc (.cells (chA c) 27))) := ⟨((Only.refl (fun _ => False) _).alloc _).row hgn (fun x => x), hgc⟩
  have HB : Hid (Only (fun _ => False) w ((w.alloc (.cells (ndA n) 30)).alloc (.cells (chA c) 27))) := ((Only.refl _ w).alloc _).alloc _
  have HLN := Lib.hid (load30 (ndA_size h) HT0.out.1)
  have HLC := Lib.hid (load27 (chA_size hc) HT0.out.2)
  have HW := Lib.hid (fun W => with_any n ((q % 4 : Nat) : Int) c W h hc)
  rw [he, hm] at HW
  have HFZ := Lib.hid (fun W => fresh_at W 30 85 (ndA ndZ) (ndA ndZ) info30s (ndA_size ndZ_ok) (ndA_size ndZ_ok) (ndA_one _))
  have HBZ := Lib.hid build30
  have HEQ := Lib.hid (fun W => nd_eq30 ndZ_ok ndZ_ok W)
  rw [(Nd.eqv_iff ndZ_ok ndZ_ok).2 rfl] at HEQ
  have HSZ := Lib.hid (ndA_size ndZ_ok)
  clear hgn hgc h hc he hm
  generalize ndA ndZ = Z at *
  generalize ndA n = A at *
  generalize chA c = C at *
  go_enter Try.func8, Try.ntmps8
  go_wp2_with (first | ((with_reducible refine wpList_load_at ?_ 30 (.tmp 3) ?_ _ ?_ _ HLN.out ?_); rfl; rfl; rfl) | ((with_reducible refine wpList_load_at ?_ 27 (.tmp 5) ?_ _ ?_ _ HLC.out ?_); rfl; rfl; rfl))
  refine (HW.out _).mono ?_
  rintro e w5 ⟨rfl, h5⟩
  obtain ⟨W6, hst6, g6, o6, -⟩ := HFZ.out w5
  have HST6 := Lib.hid hst6
  have HL6 := Lib.hid (load30 HSZ.out g6)
  have O6 := Lib.hid (HB.out.trans ((Only.of_below (S := fun _ => False) h5).trans o6))
  clear h5 hst6 g6 o6
  go_wp2_with (first | ((with_reducible refine wpList_store_at ?_ 30 (.tmp 8) (.tmp 23) ?_ _ ?_ _ ?_ HST6.out ?_); rfl; rfl; rfl; rfl) | ((with_reducible refine wpList_load_at ?_ 30 (.tmp 8) ?_ _ ?_ _ HL6.out ?_); rfl; rfl; rfl) | ((with_reducible refine wpList_build_at ?_ 30 #[] ?_ [] ?_ _ (HBZ.out _) ?_); rfl; rfl; rfl) | ((with_reducible refine wpList_eql_at ?_ 30 (.tmp 27) (.tmp 28) 30 _ _ _ ?_ ?_ ?_ ?_ (HEQ.out _) ?_); rfl; rfl; rfl; rfl; kernel_rfl))
  refine (shown_any _).mono ?_
  rintro e w7 ⟨rfl, h7⟩
  go_wp2_with fail
  go_ret
  exact ⟨rfl, (O6.out.trans (Only.of_below h7)).below0⟩

set_option maxRecDepth 100000 in
set_option maxHeartbeats 16000000 in
theorem nodeWith_ok (w : World) (n : Nd) (h : n.Ok) (q : Nat) (hq : q ≤ 255) (c : Ch) (hc : c.Ok) (he : wiE n ((q % 4 : Nat) : Int) c = 0) (hm : wiN n ((q % 4 : Nat) : Int) c = n.put (q % 4) c) (hmay : mayN (n.put (q % 4) c) = true) :
    Calls Try.prog 8 #[.agg (ndA n), .int .u8 q, .agg (chA c)] w fun e w' => e = .returned (.bool true) ∧ Below w.heap.size w w' := by
  have hwr : wrap64 (q : Int) = q := by unfold wrap64; omega
  have hz30 := zero30
  have hz27 : ∀ W : World, (zeroValue 27).run Try.prog W = .ok (.agg (chA chZ)) W := fun _ => by kernel_rfl
  have hgn := heap_alloc_new w (.cells (ndA n) 30)
  have hgc := heap_alloc_new (w.alloc (.cells (ndA n) 30)) (.cells (chA c) 27)
  rw [show (w.alloc (.cells (ndA n) 30)).heap.size = w.heap.size + 1 by simp] at hgc
  have HT0 : Hid (Two w.heap.size (w.heap.size + 1) (ndA n) (chA c) 30 27 ((w.alloc (.cells (ndA n) 30)).alloc (.cells (chA c) 27))) := ⟨((Only.refl (fun _ => False) _).alloc _).row hgn (fun x => x), hgc⟩
  have HB : Hid (Only (fun _ => False) w ((w.alloc (.cells (ndA n) 30)).alloc (.cells (chA c) 27))) := ((Only.refl _ w).alloc _).alloc _
  have HLN := Lib.hid (load30 (ndA_size h) HT0.out.1)
  have HLC := Lib.hid (load27 (chA_size hc) HT0.out.2)
  have HW := Lib.hid (fun W => with_any n ((q % 4 : Nat) : Int) c W h hc)
  rw [he, hm] at HW
  obtain ⟨m, hmeq⟩ : ∃ m, m = n.put (q % 4) c := ⟨_, rfl⟩
  have hmo : m.Ok := by rw [hmeq]; exact h.put_ok _ hc
  have hml : m.leaf = n.leaf := by rw [hmeq]; rfl
  have hq4 : q % 4 < 4 := by omega
  have HGET : Hid (∀ j, m.get j = if j = q % 4 then c else n.get j) := fun j => by rw [hmeq]; exact put_get h _ _ hq4 c
  rw [← hmeq] at HW hmay
  have HMAY := Lib.hid hmay
  have HMO := Lib.hid hmo
  have HNO := Lib.hid h
  have HCO := Lib.hid hc
  have HML := Lib.hid hml
  have HFM := Lib.hid (fun W => fresh_at W 30 85 (ndA ndZ) (ndA m) info30s (ndA_size ndZ_ok) (ndA_size hmo) (ndA_one _))
  have HFC := Lib.hid (fun W (d : Ch) (hd : d.Ok) => fresh_at W 27 21 (chA chZ) (chA d) info27s (chA_size chZ_ok) (chA_size hd) (chA_one _))
  have HLD := Lib.hid (fun (j : Nat) (hj : j < 4) (g : Nat) (N : Nd) (hN : N.Ok) (W : World) (hW : W.heap[g]? = some (.cells (ndA N) 30 (0, 0))) => load27c hN hj hW)
  have HBC := Lib.hid build27
  have HSZ := Lib.hid (ndA_size ndZ_ok)
  have hcc := chA_size hc
  have HSC := Lib.hid hcc
  have hkk : (q : Int) % 4 = ((q % 4 : Nat) : Int) := by omega
  clear hgn hgc h hc he hm hmay hmo hml hmeq hcc
  generalize hk : q % 4 = kk at *
  clear hk
  go_enter Try.func8, Try.ntmps8
  go_wp2_with (first | ((with_reducible refine wpList_load_at ?_ 30 (.tmp 3) ?_ _ ?_ _ HLN.out ?_); rfl; rfl; rfl) | ((with_reducible refine wpList_load_at ?_ 27 (.tmp 5) ?_ _ ?_ _ HLC.out ?_); rfl; rfl; rfl))
  refine (HW.out _).mono ?_
  rintro e w5 ⟨rfl, h5⟩
  obtain ⟨W6, hst6, g6, o6, -⟩ := HFM.out w5
  have HST6 := Lib.hid hst6
  have HLT : Hid (w.heap.size < w5.heap.size) := by
    have := h5.size
    simp at this
    exact (by omega : w.heap.size < w5.heap.size)
  have q6 := (Only.of_below (S := fun _ => False) h5).trans o6
  have O6 := Lib.hid (HB.out.trans q6)
  have HR6 : Hid (Tri w.heap.size (w.heap.size + 1) w5.heap.size (ndA n) (chA c) (ndA m) W6) := ⟨q6.row HT0.out.1 (fun x => x), q6.row HT0.out.2 (fun x => x), g6⟩
  clear h5 hst6 g6 o6 q6
  go_wp2_with (((with_reducible refine wpList_store_at ?_ 30 (.tmp 8) (.tmp 23) ?_ _ ?_ _ ?_ HST6.out ?_); rfl; rfl; rfl; rfl))
  go_loopw [10] (fun i wr => ∃ k : Nat, k ≤ 4 ∧ i = .int .i64 k ∧ Hid (Tri w.heap.size (w.heap.size + 1) w5.heap.size (ndA n) (chA c) (ndA m) wr) ∧ Hid (Only (fun _ => False) w wr)) (fun i _ => 4 - (intOf i).toNat)
  case atStart => exact ⟨0, by omega, rfl, HR6.out, O6.out⟩
  case round =>
    obtain ⟨k, hk, rfl, hr, ho⟩ := hrel
    by_cases hlt : k < 4
    · have HL := Lib.hid (HLD.out k hlt _ n HNO.out wr hr.out.1)
      obtain ⟨W7, hst7, g7, o7, -⟩ := HFC.out wr (n.get k) (HNO.out.get_ok k)
      have HST7 := Lib.hid hst7
      have hr7 := hr.out.keep o7
      have HO7 := Lib.hid (ho.out.trans o7)
      have hlt' : (k : Int) < 4 := by omega
      by_cases hkq : k = kk
      · have hget : m.get k = c := by rw [HGET.out k, if_pos hkq]
        have HL5 := Lib.hid (load27 HSC.out hr7.2.1)
        obtain ⟨W8, hst8, g8, o8, -⟩ := store_row W7 g7 info27s HSC.out (chA_size (HNO.out.get_ok k)) (chA_one c)
        have HST8 := Lib.hid hst8
        have ob : Only (fun _ => False) wr W8 := o7.fresh o8 (by intro j hj; omega)
        have hr8 := hr.out.keep ob
        have HO8 := Lib.hid (ho.out.trans ob)
        have hld : ∀ W : World, (∃ n, W = W8.drewN n) → (loadVar 27 ⟨w5.heap.size, 1 + k * 21, none⟩).run Try.prog W = .ok (.agg (chA c)) W := by
          rintro _ ⟨nn, rfl⟩
          have := HLD.out k hlt w5.heap.size m HMO.out (W8.drewN nn) hr8.2.2
          rw [hget] at this
          exact this
        have Q1 := Lib.hid hld
        have Q2 := Lib.hid (fun (W : World) (hW : ∃ n, W = W8.drewN n) => show (loadVar 27 ⟨wr.heap.size, 0, none⟩).run Try.prog W = .ok (.agg (chA c)) W by obtain ⟨nn, rfl⟩ := hW; exact load27 HSC.out (w := W8.drewN nn) g8)
        have Q3 := Lib.hid (fun (W : World) (_ : ∃ n, W = W8.drewN n) => ch_eq27 9996 HCO.out HCO.out W)
        rw [Ch.eqv_iff.2 rfl] at Q3
        have HR8 := Lib.hid hr8
        have hkb : ((k : Int) == (kk : Int)) = true := by rw [beq_iff_eq]; omega
        clear hst7 g7 o7 hst8 g8 o8 ob hr7 hr8 hld hget
        subst hkq
        go_wp2_with (first | ((with_reducible refine wpList_load_at ?_ 27 (.tmp 39) ?_ _ ?_ _ HL.out ?_); rfl; rfl; rfl) | ((with_reducible refine wpList_store_at ?_ 27 (.tmp 11) (.tmp 40) ?_ _ ?_ _ ?_ HST7.out ?_); rfl; rfl; rfl; rfl) | ((with_reducible refine wpList_load_at ?_ 27 (.tmp 5) ?_ _ ?_ _ HL5.out ?_); rfl; rfl; rfl) | ((with_reducible refine wpList_store_at ?_ 27 (.tmp 11) (.tmp 44) ?_ _ ?_ _ ?_ HST8.out ?_); rfl; rfl; rfl; rfl))
        refine wp_region_quiet_lit (by kernel_rfl) (by kernel_rfl) ?_
        repeat (first | ((with_reducible refine quiet_load_w ?_ 27 (.tmp 47) ?_ _ ?_ _ Q1.out ?_); rfl; rfl; rfl) | ((with_reducible refine quiet_load_w ?_ 27 (.tmp 11) ?_ _ ?_ _ Q2.out ?_); rfl; rfl; rfl) | ((with_reducible refine quiet_neq_w ?_ 27 (.tmp 48) (.tmp 49) 27 _ _ _ ?_ ?_ ?_ ?_ Q3.out ?_); rfl; rfl; rfl; rfl; kernel_rfl) | quiet_step (fail))
        refine wpQuiet_nil ?_
        rintro _ ⟨nq, rfl⟩
        go_wp2_with fail
        go_roundw
        case rel => exact ⟨k + 1, by omega, by go_num, HR8.out.keep ((Only.refl _ _).drewN nq), HO8.out.drewN nq⟩
        case measure => simp [intOf]; omega
      · have hget : m.get k = n.get k := by rw [HGET.out k, if_neg hkq]
        have hld : ∀ W : World, (∃ n, W = W7.drewN n) → (loadVar 27 ⟨w5.heap.size, 1 + k * 21, none⟩).run Try.prog W = .ok (.agg (chA (n.get k))) W := by
          rintro _ ⟨nn, rfl⟩
          have := HLD.out k hlt w5.heap.size m HMO.out (W7.drewN nn) hr7.2.2
          rw [hget] at this
          exact this
        have Q1 := Lib.hid hld
        have Q2 := Lib.hid (fun (W : World) (hW : ∃ n, W = W7.drewN n) => show (loadVar 27 ⟨wr.heap.size, 0, none⟩).run Try.prog W = .ok (.agg (chA (n.get k))) W by obtain ⟨nn, rfl⟩ := hW; exact load27 (chA_size (HNO.out.get_ok k)) (w := W7.drewN nn) g7)
        have Q3 := Lib.hid (fun (W : World) (_ : ∃ n, W = W7.drewN n) => ch_eq27 9996 (HNO.out.get_ok k) (HNO.out.get_ok k) W)
        rw [Ch.eqv_iff.2 rfl] at Q3
        have HR8 := Lib.hid hr7
        have HO8 := HO7
        have hkb : ((k : Int) == (kk : Int)) = false := by rw [beq_eq_false_iff_ne]; omega
        clear hst7 g7 o7 hr7 hld hget hkq
        go_wp2_with (first | ((with_reducible refine wpList_load_at ?_ 27 (.tmp 39) ?_ _ ?_ _ HL.out ?_); rfl; rfl; rfl) | ((with_reducible refine wpList_store_at ?_ 27 (.tmp 11) (.tmp 40) ?_ _ ?_ _ ?_ HST7.out ?_); rfl; rfl; rfl; rfl))
        refine wp_region_quiet_lit (by kernel_rfl) (by kernel_rfl) ?_
        repeat (first | ((with_reducible refine quiet_load_w ?_ 27 (.tmp 47) ?_ _ ?_ _ Q1.out ?_); rfl; rfl; rfl) | ((with_reducible refine quiet_load_w ?_ 27 (.tmp 11) ?_ _ ?_ _ Q2.out ?_); rfl; rfl; rfl) | ((with_reducible refine quiet_neq_w ?_ 27 (.tmp 48) (.tmp 49) 27 _ _ _ ?_ ?_ ?_ ?_ Q3.out ?_); rfl; rfl; rfl; rfl; kernel_rfl) | quiet_step (fail))
        refine wpQuiet_nil ?_
        rintro _ ⟨nq, rfl⟩
        go_wp2_with fail
        go_roundw
        case rel => exact ⟨k + 1, by omega, by go_num, HR8.out.keep ((Only.refl _ _).drewN nq), HO8.out.drewN nq⟩
        case measure => simp [intOf]; omega
    · have hlt' : ¬ (k : Int) < 4 := by omega
      have HCZ := Lib.hid (fun (j : Nat) (hj : j < 4) W => with_any (zapN m j) ((j : Nat) : Int) chZ W (zapN_ok HMO.out j) chZ_ok)
      have HZW := Lib.hid (fun (j : Nat) (hj : j < 4) => zapN_with HMAY.out j hj)
      have HFZ := Lib.hid (fun (j : Nat) W => fresh_at W 30 85 (ndA ndZ) (ndA (zapN m j)) info30s (ndA_size ndZ_ok) (ndA_size (zapN_ok HMO.out j)) (ndA_one _))
      have HR0 : Hid (wr.heap[w5.heap.size]? = some (.cells (ndA (zapN m 0)) 30 (0, 0))) := hr.out.2.2
      have HRN : Hid (wr.heap[w.heap.size]? = some (.cells (ndA n) 30 (0, 0))) := hr.out.1
      have HNE : Hid (w.heap.size < w5.heap.size) := HLT.out
      go_wp2_with fail
      go_loopw [12] (fun i wt => ∃ j : Nat, j ≤ 4 ∧ i = .int .i64 j ∧ Hid (wt.heap[w5.heap.size]? = some (.cells (ndA (zapN m j)) 30 (0, 0))) ∧ Hid (wt.heap[w.heap.size]? = some (.cells (ndA n) 30 (0, 0))) ∧ Hid (Only (fun _ => False) w wt)) (fun i _ => 4 - (intOf i).toNat)
      case atStart => exact ⟨0, by omega, rfl, HR0.out, HRN.out, ho.out⟩
      case round =>
        obtain ⟨j, hj, rfl, h1, h2, h3⟩ := hrel
        by_cases hlt : j < 4
        · have HLZ := Lib.hid (load30 (ndA_size (zapN_ok HMO.out j)) h1.out)
          have HCJ := HCZ.out j hlt
          rw [(HZW.out j hlt).1, (HZW.out j hlt).2] at HCJ
          have HCJ := Lib.hid HCJ
          have hlt' : (j : Int) < 4 := by omega
          go_wp2_with (first | ((with_reducible refine wpList_load_at ?_ 30 (.tmp 8) ?_ _ ?_ _ HLZ.out ?_); rfl; rfl; rfl) | ((with_reducible refine wpList_build_at ?_ 27 #[] ?_ [] ?_ _ (HBC.out _) ?_); rfl; rfl; rfl))
          refine (HCJ.out _).mono ?_
          rintro e wa ⟨rfl, ha⟩
          obtain ⟨W8, hst8, g8, o8, -⟩ := HFZ.out (j + 1) wa
          have HST8 := Lib.hid hst8
          have q8 := (Only.of_below (S := fun _ => False) ha).trans o8
          have HL8 := Lib.hid (load30 (ndA_size (zapN_ok HMO.out (j + 1))) g8)
          obtain ⟨W9, hst9, g9, o9, -⟩ := store_row W8 (q8.row h1.out (fun x => x)) info30s (ndA_size (zapN_ok HMO.out (j + 1))) (ndA_size (zapN_ok HMO.out j)) (ndA_one _)
          have HST9 := Lib.hid hst9
          have G9 := Lib.hid g9
          have H29 := Lib.hid (o9.row (q8.row h2.out (fun x => x)) (by have := HNE.out; omega))
          have HO9 : Hid (Only (fun _ => False) w W9) := (h3.out.trans q8).fresh o9 (by have := HNE.out; intro j hj; omega)
          clear ha hst8 q8 g8 o8 hst9 g9 o9
          go_wp2_with (first | ((with_reducible refine wpList_store_at ?_ 30 (.tmp 13) (.tmp 60) ?_ _ ?_ _ ?_ HST8.out ?_); rfl; rfl; rfl; rfl) | ((with_reducible refine wpList_load_at ?_ 30 (.tmp 13) ?_ _ ?_ _ HL8.out ?_); rfl; rfl; rfl) | ((with_reducible refine wpList_store_at ?_ 30 (.tmp 8) (.tmp 64) ?_ _ ?_ _ ?_ HST9.out ?_); rfl; rfl; rfl; rfl))
          go_roundw
          case rel => exact ⟨j + 1, by omega, by go_num, G9.out, H29.out, HO9.out⟩
          case measure => simp [intOf]; omega
        · obtain rfl : j = 4 := by omega
          have HLZ := Lib.hid (load30 (ndA_size (zapN_ok HMO.out 4)) h1.out)
          have HE := Lib.hid (fun W => empty_any (zapN m 4) W (zapN_ok HMO.out 4))
          rw [zapN_empty HMO.out] at HE
          go_wp2_with (((with_reducible refine wpList_load_at ?_ 30 (.tmp 8) ?_ _ ?_ _ HLZ.out ?_); rfl; rfl; rfl))
          refine (HE.out _).mono ?_
          rintro e wb ⟨rfl, hb⟩
          have c0 := (cell_of_row _ _ 0 _ _ _ ((Only.of_below (S := fun _ => False) hb).row h1.out (fun x => x))).trans (nd_leaf _)
          have d0 := (cell_of_row _ _ 0 _ _ _ ((Only.of_below (S := fun _ => False) hb).row h2.out (fun x => x))).trans (nd_leaf _)
          rw [zapN_leaf, HML.out] at c0
          have HOB := Lib.hid (h3.out.trans (Only.of_below (S := fun _ => False) hb))
          have hnl : (n.leaf == n.leaf) = true := beq_self_eq_true _
          clear hb
          go_wp2_with fail
          refine (shown_any _).mono ?_
          rintro e w9 ⟨rfl, h9⟩
          go_wp2_with fail
          go_ret
          exact ⟨rfl, (HOB.out.trans (Only.of_below h9)).below0⟩

theorem nodeWith_walk (w : World) (n : Nd) (h : n.Ok) (i : Int) (hi : (Lit.int .u8 i).wf = true) (c : Ch) (hc : c.Ok) :
    Calls Try.prog 8 #[.agg (ndA n), .int .u8 i, .agg (chA c)] w fun e w' => e = .returned (.bool true) ∧ Below w.heap.size w w' := by
  have hi' : 0 ≤ i ∧ i ≤ 255 := by
    have := hi
    simp [Lit.wf, IntKind.min, IntKind.max, IntKind.signed, IntKind.bits] at this
    omega
  obtain ⟨q, rfl⟩ := Int.eq_ofNat_of_zero_le hi'.1
  have hq : q ≤ 255 := by omega
  rcases wiE_cases n ((q % 4 : Nat) : Int) c with ⟨he, hm⟩ | ⟨he, hm, hmay⟩
  · exact nodeWith_bad w n h q hq c hc he hm
  · rw [Int.toNat_natCast] at hm hmay
    exact nodeWith_ok w n h q hq c hc he hm hmay
end Go.Proofs.Ytbmckmlekhkpeaa
