/-
  SlotSwaps: the walk.
-/
import Derived.Test.YtfolmdcceefflaaLawSlotErrors
import Derived.Test.YtfolmdcceefflaaSwp
set_option linter.unusedVariables false
namespace Go.Proofs.Ytfolmdcceefflaa
open Go.RowKit

set_option maxHeartbeats 2000000 in
theorem swaps_long (w : World) (a : Option Addr) (len cap : Nat) (h20 : 20 < len) (cut keep : Int) :
    Calls Try.prog 6 #[.slice a len cap, .int .u8 cut, .int .u8 keep] w fun e w' => e = .returned (.bool true) ∧ Below w.heap.size w w' := by
  have hlen : (20 : Int) < (len : Int) := by omega
  go_enter Try.func6, Try.ntmps6
  go_wp2_with fail
  refine (shown_any w).mono ?_
  rintro e x1 ⟨rfl, o1⟩
  go_wp2_with fail
  go_ret
  exact ⟨rfl, o1.below0⟩

/-- The cell that was written the round before. -/
def prevC (ks : List (List UInt8)) (k : Nat) : Ce := if h : 0 < k ∧ k ≤ ks.length then ⟨true, ks[k - 1]'(by omega), k⟩ else Ce.zero

theorem prevC_ok {ks : List (List UInt8)} (h : ∀ x ∈ ks, x.length = 16) (k : Nat) : (prevC ks k).Ok := by
  unfold prevC
  split
  · exact made_ok _ (h _ (List.getElem_mem _)) _
  · exact ce_zero_ok

theorem prevC_succ {ks : List (List UInt8)} {k : Nat} {pk : List UInt8} (h : ks[k]? = some pk) : prevC ks (k + 1) = ⟨true, pk, ((k + 1 : Nat) : Int)⟩ := by
  obtain ⟨hl, he⟩ := List.getElem?_eq_some_iff.1 h
  unfold prevC
  rw [dif_pos ⟨by omega, by omega⟩]
  simp [he]

theorem prevC_lt (ks : List (List UInt8)) (k : Nat) : (prevC ks k).is = false ∨ (prevC ks k).epoch < (k : Int) + 1 := by
  unfold prevC
  split
  · right; show (k : Int) < (k : Int) + 1; omega
  · left; rfl

theorem one_holds {p : Pw} {a : Int} (ha : a = 0 ∨ a = 1) {k : List UInt8} {n : Int} : (mkS p a ⟨true, k, n⟩ Ce.zero).holds = [k] := by
  rw [holds_one]
  rcases ha with rfl | rfl <;> simp [mkS, one, Ce.zero]

/-- The list of a slot that holds a key: it is its first one or its last. -/
theorem ends (p : Pw) {a : Int} (ha : a = 0 ∨ a = 1) {pk : List UInt8} (hp : pk.length = 16) (n : Int) {X : Ce} (hX : X.Ok) :
    ∃ f g m, (mkS p a X ⟨true, pk, n⟩).holds.length = m + 1 ∧ (mkS p a X ⟨true, pk, n⟩).holds[0]? = some f ∧ (mkS p a X ⟨true, pk, n⟩).holds[m]? = some g ∧ (f = pk ∨ g = pk) ∧ (m = 0 ∨ m = 1) ∧ ∀ k ∈ (mkS p a X ⟨true, pk, n⟩).holds, k.length = 16 := by
  rw [holds_one]
  have hXl := hX.len
  rcases ha with rfl | rfl <;> cases hx : X.is
  · refine ⟨pk, pk, 0, ?_, ?_, ?_, .inl rfl, .inl rfl, ?_⟩ <;> simp [mkS, one, hx, hp]
  · refine ⟨X.key, pk, 1, ?_, ?_, ?_, .inr rfl, .inr rfl, ?_⟩ <;> simp [mkS, one, hx, hp, hXl]
  · refine ⟨pk, pk, 0, ?_, ?_, ?_, .inl rfl, .inl rfl, ?_⟩ <;> simp [mkS, one, hx, hp]
  · refine ⟨pk, X.key, 1, ?_, ?_, ?_, .inl rfl, .inr rfl, ?_⟩ <;> simp [mkS, one, hx, hp, hXl]

set_option maxRecDepth 8000 in
set_option maxHeartbeats 8000000 in
theorem swaps_short (w : World) (sa : Option Addr) (len cap : Nat) (ks : List (List UInt8)) (hks : KeyRow w sa len cap ks) (h20 : len ≤ 20) (cut keep : Int) (hc : 0 ≤ cut) (hc' : cut ≤ 255) (hq : 0 ≤ keep) (hq' : keep ≤ 255) :
    Calls Try.prog 6 #[.slice sa len cap, .int .u8 cut, .int .u8 keep] w fun e w' => e = .returned (.bool true) ∧ Below w.heap.size w w' := by
  have hlen : decide ((20 : Int) < (len : Int)) = false := by simp; omega
  have H20 := Lib.hid h20
  clear h20
  have hne : w.heap.size + 1 ≠ w.heap.size := by omega
  go_enter Try.func6, Try.ntmps6
  go_wp2_with fail
  refine (shown_any w).mono ?_
  rintro e x1 ⟨rfl, o1⟩
  have hpw := Lib.hid (newPower_any x1)
  have hnw := Lib.hid (new_there x1)
  have hi0 := Lib.hid (w0_is x1)
  have ho0 := Lib.hid (o1.trans (w0_only x1))
  generalize W0 x1 = X at *
  go_wp2_with fail
  refine hpw.out.mono ?_
  rintro e w1 ⟨rfl, rfl⟩
  go_wp2_with fail
  refine hnw.out.mono ?_
  rintro e w1 ⟨rfl, rfl⟩
  go_wp2_with fail
  refine (fuse_is _ _ st0 (cut % 50) keep 0 X hi0.out (by omega)).mono ?_
  rintro e X1 ⟨rfl, i1, o2⟩
  rw [show max (cut % 50) 0 = cut % 50 by omega, show max keep 0 = keep by omega] at i1
  have hsz : w.heap.size ≤ x1.heap.size := o1.size
  have HT : Hid (∀ k, Two (x1.heap.size + 1) x1.heap.size k → w.heap.size ≤ k) := fun k hk => by unfold Two at hk; omega
  have HS0 : Hid (Sit w (x1.heap.size + 1) x1.heap.size (mkS (pwL (cut % 50) keep) 0 Ce.zero Ce.zero) X1) := ⟨i1, ho0.out.next o2 HT.out⟩
  have HL0 : Hid (0 ≤ cut % 50 ∧ cut % 50 ≤ 49) := ⟨by omega, by omega⟩
  have HNE : Hid (x1.heap.size + 1 ≠ x1.heap.size) := by unfold Hid; omega
  have HKS := Lib.hid hks
  generalize hgs : x1.heap.size + 1 = gs at *
  generalize x1.heap.size = gp at *
  clear hgs hpw hnw hi0 ho0 i1 o2 hsz hne hc hc' hq hq' o1 hks
  go_wp2_with fail
  go_loopw [9, 10] (fun at_ i wr => ∃ (k : Nat) (a L : Int), k ≤ len ∧ i = .int .i64 k ∧ at_ = .int .i64 a ∧ (a = 0 ∨ a = 1) ∧ Hid (0 ≤ L ∧ L ≤ 49) ∧ Hid (Sit w gs gp (mkS (pwL L keep) a Ce.zero (prevC ks k)) wr)) (fun _ i _ => len - (intOf i).toNat)
  case atStart => exact ⟨0, 0, cut % 50, by omega, rfl, rfl, .inl rfl, HL0.out, HS0.out⟩
  case round =>
    obtain ⟨k, a, L, hk, rfl, rfl, ha, hL, hS⟩ := hrel
    by_cases hlt : k < len
    · have hlk := HKS.out
      have hlen2 : ks.length = len := by
        rcases hlk with ⟨_, h, _, h'⟩ | ⟨_, _, _, _, h, _⟩
        · rw [h, h']; rfl
        · exact h
      obtain ⟨b, o, rfl, _, hcap⟩ := hlk.at (i := k) (by omega)
      obtain ⟨key, hkey⟩ : ∃ key, ks[k]? = some key := ⟨_, List.getElem?_eq_getElem (by omega)⟩
      have HK16 : Hid (∀ x ∈ ks, x.length = 16) := by
        rcases hlk with ⟨h, _⟩ | ⟨_, _, _, _, _, h, _⟩
        · cases h
        · exact h
      have hky := HK16.out key (List.mem_of_getElem? hkey)
      have HLK : Hid (∀ X, Only (fun _ => False) w X → ∀ j x, ks[j]? = some x → (loadVar 23 ⟨b, o + j * 16, none⟩).run Try.prog X = .ok (.agg (kyA x)) X) := fun X h j x hj => (hlk.keep h).load hj
      have L1 := Lib.hid (HLK.out wr hS.out.only k key hkey)
      have HKEY := Lib.hid hkey
      have HKY := Lib.hid hky
      have hIlt : (k : Int) < (len : Int) := by omega
      have HLEN := Lib.hid hlen2
      have HKL := Lib.hid hk
      clear hlk hkey hky hcap hlen2 hk hlen
      have HA := Lib.hid ha
      clear ha hlt
      have h0k : (0 : Int) ≤ (k : Int) := by omega
      have hw1 : wrap64 ((k : Int) + 1) = (k : Int) + 1 := by have := HLEN.out; have := H20.out; unfold wrap64; omega
      have hw2 : IntKind.u64.wrap ((k : Int) + 1) = (k : Int) + 1 := by have := HLEN.out; have := H20.out; rw [IntKind.wrap_u64]; omega
      have hprev : (prevC ks k).Ok := prevC_ok HK16.out k
      have HPV := Lib.hid hprev
      have hwr := Lib.hid (write_any gs gp _ a ((k : Int) + 1) key wr hS.out.is (mkS_ok (pwL_ok hL.out.1 (by have := hL.out.2; omega)) ce_zero_ok hprev) HNE.out HKY.out)
      have hok : ((mkS (pwL L keep) a Ce.zero (prevC ks k)).write a key ((k : Int) + 1)).Ok := St.write_ok (mkS_ok (pwL_ok hL.out.1 (by have := hL.out.2; omega)) ce_zero_ok hprev) a HKY.out _
      have hmw := mkS_write (p := pwL L keep) rfl HA.out (y := prevC ks k) (k := key) (n := (k : Int) + 1)
      rw [hmw.1, hmw.2] at hwr
      rw [hmw.2] at hok
      have HOK := Lib.hid hok
      clear hprev hok hmw
      by_cases hL1 : L = 1
      · subst hL1
        rw [(pwL_last keep).1, (pwL_last keep).2] at hwr
        rw [(pwL_last keep).2] at HOK
        generalize hX : (pwL 1 keep).set Ce.zero ⟨true, key, (k : Int) + 1⟩ = XX at *
        have HX := Lib.hid hX
        clear hX
        go_wp2_with (refine wpList_load_at rfl 23 _ rfl _ rfl _ L1.out ?_)
        refine hwr.out.mono ?_
        rintro e y1 ⟨rfl, i1, o1⟩
        have S1 := Lib.hid (hS.out.step HT.out i1 o1)
        clear i1 o1
        have hhd := Lib.hid (holds_any gs gp _ y1 S1.out.is HOK.out)
        go_wp2_with fail
        refine hhd.out.mono ?_
        rintro e y2 ⟨v, rfl, hown, o2⟩
        have S2 := Lib.hid (S1.out.still o2)
        clear o2
        by_cases hk0 : k = 0
        · subst hk0
          go_wp2_with fail
          go_quiet (fail)
          go_wp2_with fail
          go_ret
          exact ⟨rfl, (S2.out.drewN _).only.below0⟩
        · obtain ⟨k', rfl⟩ : ∃ k', k = k' + 1 := ⟨k - 1, by omega⟩
          obtain ⟨pk, hpk⟩ : ∃ pk, ks[k']? = some pk := ⟨_, List.getElem?_eq_getElem (by have := HLEN.out; have := HKL.out; omega)⟩
          have hpv := prevC_succ hpk
          have hpl := HK16.out pk (List.mem_of_getElem? hpk)
          have hXok : XX.Ok := by rw [← HX.out]; exact Pw.set_ok ce_zero_ok (made_ok key HKY.out _)
          obtain ⟨f, g, m, e1, e2, e3, e4, e5, e6⟩ := ends ⟨true, 0, keep, 0⟩ HA.out hpl ((k' + 1 : Nat) : Int) hXok
          rw [hpv] at hown
          obtain ⟨gb, cap2, rfl, hld⟩ := hold_ends hown e6 (by omega)
          rw [e1]
          have HF := Lib.hid (fun W (hW : ∃ n, W = y2.drewN n) => hld 0 f e2 W (by obtain ⟨n, rfl⟩ := hW; exact (Only.refl _ _).drewN n))
          have HG := Lib.hid (fun W (hW : ∃ n, W = y2.drewN n) => hld m g e3 W (by obtain ⟨n, rfl⟩ := hW; exact (Only.refl _ _).drewN n))
          have HP := Lib.hid (fun W (hW : ∃ n, W = y2.drewN n) => HLK.out W (by obtain ⟨n, rfl⟩ := hW; exact S2.out.only.drewN n) k' pk hpk)
          have hfl := e6 f (List.mem_of_getElem? e2)
          have hgl := e6 g (List.mem_of_getElem? e3)
          have HE1 := Lib.hid (fun W (_ : ∃ n, W = y2.drewN n) => key_eq 9998 f pk hfl hpl W)
          have HE2 := Lib.hid (fun W (_ : ∃ n, W = y2.drewN n) => key_eq 9998 g pk hgl hpl W)
          have HFG : Hid (f ≠ pk → (g == pk) = true) := fun hn => by rcases e4 with h | h; exact absurd h hn; rw [h]; exact beq_self_eq_true pk
          have hm := e5
          have hfg0 : m = 0 → f = g := by rintro rfl; rw [e2] at e3; exact Option.some.inj e3
          have hI1 : (k' : Int) < (len : Int) := by omega
          have h0k1 : (0 : Int) ≤ (k' : Int) := by omega
          have hI4 : IntKind.i64.wrap (k' : Int) = (k' : Int) := by have := HLEN.out; have := H20.out; rw [IntKind.wrap_i64]; omega
          have hI5 : IntKind.i64.wrap 0 = 0 := rfl
          have hI6 : IntKind.i64.wrap 1 = 1 := rfl
          have hI2 : (k' : Int) + 1 - 1 = (k' : Int) := by omega
          have hI3 : ((k' : Int) + 1 == 0) = false := by rw [beq_eq_false_iff_ne]; omega
          clear hld hown e1 e2 e3 e4 e5 e6 hfl hgl hpl hpk hpv hXok hk0
          rcases hm with rfl | rfl <;> cases hfe : (f == pk)
          · exact absurd (HFG.out (by rintro rfl; simp at hfe)) (by rw [← hfg0 rfl, hfe]; simp)
          · rw [hfe] at HE1
            clear hfe hfg0
            go_wp2_with fail
            refine wp_region_quiet_lit (by kernel_rfl) (by kernel_rfl) ?_
            iterate 12 (quiet_step (fail))
            refine quiet_load_w (by rfl) 23 _ rfl _ rfl _ HF.out ?_
            iterate 4 (quiet_step (fail))
            refine quiet_load_w (by rfl) 23 _ rfl _ rfl _ HP.out ?_
            refine quiet_eql_w (by rfl) 23 _ _ _ _ _ _ rfl rfl rfl (by kernel_rfl) HE1.out ?_
            iterate 1 (quiet_step (fail))
            iterate 12 go_big_quiet_skip
            iterate 5 (quiet_step (fail))
            refine wpQuiet_nil ?_
            rintro _ ⟨nq, rfl⟩
            go_wp2_with fail
            go_ret
            exact ⟨rfl, (S2.out.drewN _).only.below0⟩
          · have hE2 : (g == pk) = true := HFG.out (by rintro rfl; simp at hfe)
            rw [hfe] at HE1
            rw [hE2] at HE2
            clear hE2 hfe hfg0
            go_wp2_with fail
            refine wp_region_quiet_lit (by kernel_rfl) (by kernel_rfl) ?_
            iterate 12 (quiet_step (fail))
            refine quiet_load_w (by rfl) 23 _ rfl _ rfl _ HF.out ?_
            iterate 4 (quiet_step (fail))
            refine quiet_load_w (by rfl) 23 _ rfl _ rfl _ HP.out ?_
            refine quiet_eql_w (by rfl) 23 _ _ _ _ _ _ rfl rfl rfl (by kernel_rfl) HE1.out ?_
            iterate 1 (quiet_step (fail))
            iterate 5 (quiet_step (fail))
            refine quiet_load_w (by rfl) 23 _ rfl _ rfl _ HG.out ?_
            iterate 4 (quiet_step (fail))
            refine quiet_load_w (by rfl) 23 _ rfl _ rfl _ HP.out ?_
            refine quiet_eql_w (by rfl) 23 _ _ _ _ _ _ rfl rfl rfl (by kernel_rfl) HE2.out ?_
            iterate 5 (quiet_step (fail))
            refine wpQuiet_nil ?_
            rintro _ ⟨nq, rfl⟩
            go_wp2_with fail
            go_ret
            exact ⟨rfl, (S2.out.drewN _).only.below0⟩
          · rw [hfe] at HE1
            clear hfe hfg0
            go_wp2_with fail
            refine wp_region_quiet_lit (by kernel_rfl) (by kernel_rfl) ?_
            iterate 12 (quiet_step (fail))
            refine quiet_load_w (by rfl) 23 _ rfl _ rfl _ HF.out ?_
            iterate 4 (quiet_step (fail))
            refine quiet_load_w (by rfl) 23 _ rfl _ rfl _ HP.out ?_
            refine quiet_eql_w (by rfl) 23 _ _ _ _ _ _ rfl rfl rfl (by kernel_rfl) HE1.out ?_
            iterate 1 (quiet_step (fail))
            iterate 12 go_big_quiet_skip
            iterate 5 (quiet_step (fail))
            refine wpQuiet_nil ?_
            rintro _ ⟨nq, rfl⟩
            go_wp2_with fail
            go_ret
            exact ⟨rfl, (S2.out.drewN _).only.below0⟩
      · obtain ⟨L', hL0, hLL, hpe, hpn, hps⟩ := pwL_more (q := keep) hL.out.1 hL1
        rw [hpe, hpn, hps] at hwr
        rw [hpn, hps] at HOK
        have HL1 : Hid (0 ≤ L' ∧ L' ≤ 49) := ⟨hL0, by have := hL.out.2; omega⟩
        clear hpe hpn hps hL0 hLL hL1
        go_wp2_with (refine wpList_load_at rfl 23 _ rfl _ rfl _ L1.out ?_)
        refine hwr.out.mono ?_
        rintro e y1 ⟨rfl, i1, o1⟩
        have S1 := Lib.hid (hS.out.step HT.out i1 o1)
        clear i1 o1
        have hhd := Lib.hid (holds_any gs gp _ y1 S1.out.is HOK.out)
        go_wp2_with fail
        refine hhd.out.mono ?_
        rintro e y2 ⟨v, rfl, hown, o2⟩
        have S2 := Lib.hid (S1.out.still o2)
        clear o2 hown
        have hnew := newest_any gs gp _ y2 S2.out.is HOK.out
        have hmn := mkS_newest (p := pwL L' keep) rfl HA.out (k := key) (n := (k : Int) + 1) (y := prevC ks k) (prevC_lt ks k)
        rw [hmn.1, hmn.2] at hnew
        have HNW := Lib.hid hnew
        clear hnew hmn
        go_wp2_with fail
        refine HNW.out.mono ?_
        rintro e y3 ⟨rfl, o3⟩
        have S3 := Lib.hid (S2.out.still o3)
        clear o3
        by_cases hk0 : k = 0
        · subst hk0
          have hz : prevC ks 0 = Ce.zero := by unfold prevC; exact dif_neg (by omega)
          rw [hz] at S3 HOK
          have HOK2 := HOK
          clear hz
          have hone := one_holds (p := pwL L' keep) HA.out (k := key) (n := ((0 : Nat) : Int) + 1)
          have hh2 := Lib.hid (holds_any gs gp _ y3 S3.out.is HOK2.out)
          go_wp2_with fail
          refine hh2.out.mono ?_
          rintro e z1 ⟨v2, rfl, hown2, o9⟩
          have S9 := Lib.hid (S3.out.still o9)
          clear o9
          rw [hone] at hown2
          obtain ⟨gb, cap2, rfl, hld⟩ := hold_ends hown2 (by intro q hq; simp only [List.mem_singleton] at hq; subst hq; exact HKY.out) (by simp)
          have HF := Lib.hid (fun W (hW : ∃ n, W = z1.drewN n) => hld 0 key rfl W (by obtain ⟨n, rfl⟩ := hW; exact (Only.refl _ _).drewN n))
          have HP := Lib.hid (fun W (hW : ∃ n, W = z1.drewN n) => HLK.out W (by obtain ⟨n, rfl⟩ := hW; exact S9.out.only.drewN n) 0 key HKEY.out)
          have HE1 := Lib.hid (fun W (_ : ∃ n, W = z1.drewN n) => key_eq 9998 key key HKY.out HKY.out W)
          rw [beq_self_eq_true] at HE1
          have HNX : Hid (∀ n, Sit w gs gp (mkS (pwL L' keep) (1 - a) Ce.zero (prevC ks (0 + 1))) (z1.drewN n)) := fun n => by
            have hs := (S9.out.drewN n)
            rw [mkS_swap HA.out] at hs
            rw [prevC_succ HKEY.out, Int.natCast_succ]
            exact hs
          have hI5 : IntKind.i64.wrap 0 = 0 := rfl
          have hJ : 0 < len := by omega
          have ha0 : 0 ≤ a := by have := HA.out; omega
          have ha1 : a ≤ 1 := by have := HA.out; omega
          have HHL : Hid (0 ≤ L' ∧ L' ≤ 49) := HL1.out
          clear hone hld hown2
          simp only [List.length_singleton]
          go_wp2_with fail
          refine wp_region_quiet_lit (by kernel_rfl) (by kernel_rfl) ?_
          repeat (first | (refine quiet_load_w (by rfl) 23 _ rfl _ rfl _ HF.out ?_) | (refine quiet_load_w (by rfl) 23 _ rfl _ rfl _ HP.out ?_) | (refine quiet_neq_w (by rfl) 23 _ _ _ _ _ _ rfl rfl rfl (by kernel_rfl) HE1.out ?_) | quiet_step (fail))
          refine wpQuiet_nil ?_
          rintro _ ⟨nq, rfl⟩
          go_wp2_with fail
          go_roundw
          case rel => exact ⟨0 + 1, 1 - a, L', by omega, by go_num, rfl, by omega, HHL.out, HNX.out _⟩
          case measure => simp [intOf]; omega
        · obtain ⟨k', rfl⟩ : ∃ k', k = k' + 1 := ⟨k - 1, by omega⟩
          have her := Lib.hid (erase_any gs gp _ (1 - a) y3 S3.out.is HOK.out HNE.out)
          have hme := mkS_erase (p := pwL L' keep) rfl HA.out (x := ⟨true, key, ((k' + 1 : Nat) : Int) + 1⟩) (y := prevC ks (k' + 1))
          rw [hme.1, hme.2] at her
          have ha0 : 0 ≤ a := by have := HA.out; omega
          have ha1 : a ≤ 1 := by have := HA.out; omega
          clear hme hk0
          by_cases hL2 : L' = 1
          · subst hL2
            rw [(pwL_last keep).1, (pwL_last keep).2] at her
            have hXok : ((pwL 1 keep).set (prevC ks (k' + 1)) Ce.zero).Ok := Pw.set_ok HPV.out ce_zero_ok
            generalize (pwL 1 keep).set (prevC ks (k' + 1)) Ce.zero = XX at *
            go_wp2_with fail
            refine her.out.mono ?_
            rintro e y4 ⟨rfl, i4, o4⟩
            have S4 := Lib.hid (S3.out.step HT.out i4 o4)
            clear i4 o4
            have HOK4 : Hid ((mkS ⟨true, 0, keep, 0⟩ a ⟨true, key, ((k' + 1 : Nat) : Int) + 1⟩ XX).Ok) := mkS_ok ⟨Int.le_refl _, by show (0 : Int) ≤ 9223372036854775807; omega⟩ (made_ok key HKY.out _) hXok
            have hh2 := Lib.hid (holds_any gs gp _ y4 S4.out.is HOK4.out)
            go_wp2_with fail
            refine hh2.out.mono ?_
            rintro e y5 ⟨v2, rfl, hown, o5⟩
            have S5 := Lib.hid (S4.out.still o5)
            clear o5
            rw [mkS_swap HA.out] at hown
            have ha' : 1 - a = 0 ∨ 1 - a = 1 := by have := HA.out; omega
            obtain ⟨f, g, m, e1, e2, e3, e4, e5, e6⟩ := ends ⟨true, 0, keep, 0⟩ ha' HKY.out (((k' + 1 : Nat) : Int) + 1) hXok
            obtain ⟨gb, cap2, rfl, hld⟩ := hold_ends hown e6 (by omega)
            rw [e1]
            have HF := Lib.hid (fun W (hW : ∃ n, W = y5.drewN n) => hld 0 f e2 W (by obtain ⟨n, rfl⟩ := hW; exact (Only.refl _ _).drewN n))
            have HG := Lib.hid (fun W (hW : ∃ n, W = y5.drewN n) => hld m g e3 W (by obtain ⟨n, rfl⟩ := hW; exact (Only.refl _ _).drewN n))
            have HP := Lib.hid (fun W (hW : ∃ n, W = y5.drewN n) => HLK.out W (by obtain ⟨n, rfl⟩ := hW; exact S5.out.only.drewN n) (k' + 1) key HKEY.out)
            have hfl := e6 f (List.mem_of_getElem? e2)
            have hgl := e6 g (List.mem_of_getElem? e3)
            have HE1 := Lib.hid (fun W (_ : ∃ n, W = y5.drewN n) => key_eq 9998 f key hfl HKY.out W)
            have HE2 := Lib.hid (fun W (_ : ∃ n, W = y5.drewN n) => key_eq 9998 g key hgl HKY.out W)
            have HFG : Hid (f ≠ key → (g == key) = true) := fun hn => by rcases e4 with h | h; exact absurd h hn; rw [h]; exact beq_self_eq_true key
            have hm := e5
            have hfg0 : m = 0 → f = g := by rintro rfl; rw [e2] at e3; exact Option.some.inj e3
            have hJ : (k' : Int) + 1 < (len : Int) := by omega
            have hJ0 : (0 : Int) ≤ (k' : Int) + 1 := by omega
            have hI4 : IntKind.i64.wrap ((k' : Int) + 1) = (k' : Int) + 1 := by have := HLEN.out; have := H20.out; rw [IntKind.wrap_i64]; omega
            have hI5 : IntKind.i64.wrap 0 = 0 := rfl
            have hI6 : IntKind.i64.wrap 1 = 1 := rfl
            clear hld hown e1 e2 e3 e4 e5 e6 hfl hgl hXok ha'
            rcases hm with rfl | rfl <;> cases hfe : (f == key)
            · exact absurd (HFG.out (by rintro rfl; simp at hfe)) (by rw [← hfg0 rfl, hfe]; simp)
            · rw [hfe] at HE1
              clear hfe hfg0
              go_wp2_with fail
              refine wp_region_quiet_lit (by kernel_rfl) (by kernel_rfl) ?_
              iterate 6 (quiet_step (fail))
              refine quiet_load_w (by rfl) 23 _ rfl _ rfl _ HF.out ?_
              iterate 3 (quiet_step (fail))
              refine quiet_load_w (by rfl) 23 _ rfl _ rfl _ HP.out ?_
              refine quiet_eql_w (by rfl) 23 _ _ _ _ _ _ rfl rfl rfl (by kernel_rfl) HE1.out ?_
              iterate 1 (quiet_step (fail))
              iterate 11 go_big_quiet_skip
              iterate 3 (quiet_step (fail))
              refine wpQuiet_nil ?_
              rintro _ ⟨nq, rfl⟩
              go_wp2_with fail
              go_ret
              exact ⟨rfl, (S5.out.drewN _).only.below0⟩
            · have hE2 : (g == key) = true := HFG.out (by rintro rfl; simp at hfe)
              rw [hfe] at HE1
              rw [hE2] at HE2
              clear hE2 hfe hfg0
              go_wp2_with fail
              refine wp_region_quiet_lit (by kernel_rfl) (by kernel_rfl) ?_
              iterate 6 (quiet_step (fail))
              refine quiet_load_w (by rfl) 23 _ rfl _ rfl _ HF.out ?_
              iterate 3 (quiet_step (fail))
              refine quiet_load_w (by rfl) 23 _ rfl _ rfl _ HP.out ?_
              refine quiet_eql_w (by rfl) 23 _ _ _ _ _ _ rfl rfl rfl (by kernel_rfl) HE1.out ?_
              iterate 1 (quiet_step (fail))
              iterate 5 (quiet_step (fail))
              refine quiet_load_w (by rfl) 23 _ rfl _ rfl _ HG.out ?_
              iterate 3 (quiet_step (fail))
              refine quiet_load_w (by rfl) 23 _ rfl _ rfl _ HP.out ?_
              refine quiet_eql_w (by rfl) 23 _ _ _ _ _ _ rfl rfl rfl (by kernel_rfl) HE2.out ?_
              iterate 3 (quiet_step (fail))
              refine wpQuiet_nil ?_
              rintro _ ⟨nq, rfl⟩
              go_wp2_with fail
              go_ret
              exact ⟨rfl, (S5.out.drewN _).only.below0⟩
            · rw [hfe] at HE1
              clear hfe hfg0
              go_wp2_with fail
              refine wp_region_quiet_lit (by kernel_rfl) (by kernel_rfl) ?_
              iterate 6 (quiet_step (fail))
              refine quiet_load_w (by rfl) 23 _ rfl _ rfl _ HF.out ?_
              iterate 3 (quiet_step (fail))
              refine quiet_load_w (by rfl) 23 _ rfl _ rfl _ HP.out ?_
              refine quiet_eql_w (by rfl) 23 _ _ _ _ _ _ rfl rfl rfl (by kernel_rfl) HE1.out ?_
              iterate 1 (quiet_step (fail))
              iterate 11 go_big_quiet_skip
              iterate 3 (quiet_step (fail))
              refine wpQuiet_nil ?_
              rintro _ ⟨nq, rfl⟩
              go_wp2_with fail
              go_ret
              exact ⟨rfl, (S5.out.drewN _).only.below0⟩
          · obtain ⟨L2, hM0, hMM, hqe, hqn, hqs⟩ := pwL_more (q := keep) HL1.out.1 hL2
            rw [hqe, hqn, hqs] at her
            have HL0 := HL1
            clear HL1
            have HL1 : Hid (0 ≤ L2 ∧ L2 ≤ 49) := ⟨hM0, by have := HL0.out.2; omega⟩
            clear hqe hqn hqs hM0 hMM hL2
            go_wp2_with fail
            refine her.out.mono ?_
            rintro e y4 ⟨rfl, i4, o4⟩
            have S4 := Lib.hid (S3.out.step HT.out i4 o4)
            clear i4 o4
            have HOK2 : Hid ((mkS (pwL L2 keep) a ⟨true, key, ((k' + 1 : Nat) : Int) + 1⟩ Ce.zero).Ok) := mkS_ok (pwL_ok HL1.out.1 (by have := HL1.out.2; omega)) (made_ok key HKY.out _) ce_zero_ok
            have hone := one_holds (p := pwL L2 keep) HA.out (k := key) (n := ((k' + 1 : Nat) : Int) + 1)
            have hh2 := Lib.hid (holds_any gs gp _ y4 S4.out.is HOK2.out)
            go_wp2_with fail
            refine hh2.out.mono ?_
            rintro e z1 ⟨v2, rfl, hown2, o9⟩
            have S9 := Lib.hid (S4.out.still o9)
            clear o9
            rw [hone] at hown2
            obtain ⟨gb, cap2, rfl, hld⟩ := hold_ends hown2 (by intro q hq; simp only [List.mem_singleton] at hq; subst hq; exact HKY.out) (by simp)
            have HF := Lib.hid (fun W (hW : ∃ n, W = z1.drewN n) => hld 0 key rfl W (by obtain ⟨n, rfl⟩ := hW; exact (Only.refl _ _).drewN n))
            have HP := Lib.hid (fun W (hW : ∃ n, W = z1.drewN n) => HLK.out W (by obtain ⟨n, rfl⟩ := hW; exact S9.out.only.drewN n) (k' + 1) key HKEY.out)
            have HE1 := Lib.hid (fun W (_ : ∃ n, W = z1.drewN n) => key_eq 9998 key key HKY.out HKY.out W)
            rw [beq_self_eq_true] at HE1
            have HNX : Hid (∀ n, Sit w gs gp (mkS (pwL L2 keep) (1 - a) Ce.zero (prevC ks (k' + 1 + 1))) (z1.drewN n)) := fun n => by
              have hs := (S9.out.drewN n)
              rw [mkS_swap HA.out] at hs
              rw [prevC_succ HKEY.out, Int.natCast_succ]
              exact hs
            have hI5 : IntKind.i64.wrap 0 = 0 := rfl
            have hJ : (k' : Int) + 1 < (len : Int) := by omega
            have hJ0 : (0 : Int) ≤ (k' : Int) + 1 := by omega
            have hw3 : (k' : Int) + 1 + 1 ≤ 1000 := by have := HLEN.out; have := H20.out; omega
            have hI4 : IntKind.i64.wrap ((k' : Int) + 1) = (k' : Int) + 1 := by have := HLEN.out; have := H20.out; rw [IntKind.wrap_i64]; omega
            have ha0 : 0 ≤ a := by have := HA.out; omega
            have ha1 : a ≤ 1 := by have := HA.out; omega
            have HHL : Hid (0 ≤ L2 ∧ L2 ≤ 49) := HL1.out
            clear hone hld hown2
            simp only [List.length_singleton]
            go_wp2_with fail
            refine wp_region_quiet_lit (by kernel_rfl) (by kernel_rfl) ?_
            repeat (first | (refine quiet_load_w (by rfl) 23 _ rfl _ rfl _ HF.out ?_) | (refine quiet_load_w (by rfl) 23 _ rfl _ rfl _ HP.out ?_) | (refine quiet_neq_w (by rfl) 23 _ _ _ _ _ _ rfl rfl rfl (by kernel_rfl) HE1.out ?_) | quiet_step (fail))
            refine wpQuiet_nil ?_
            rintro _ ⟨nq, rfl⟩
            go_wp2_with fail
            go_roundw
            all_goals clear hw1 hw2 hw3 hI4
            case rel => exact ⟨k' + 1 + 1, 1 - a, L2, by omega, by go_num, rfl, by omega, HHL.out, HNX.out _⟩
            case measure => simp [intOf]; omega
    · obtain rfl : k = len := by omega
      go_wp2_with fail
      go_ret
      exact ⟨rfl, hS.out.only.below0⟩
end Go.Proofs.Ytfolmdcceefflaa
