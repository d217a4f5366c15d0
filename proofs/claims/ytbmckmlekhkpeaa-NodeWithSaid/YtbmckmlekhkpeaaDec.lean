/-
  Decode.
-/
import Derived.Test.YtbmckmlekhkpeaaCat
set_option linter.unusedVariables false
namespace Go.Proofs.Ytbmckmlekhkpeaa
open Go.RowKit

/-- The first children read. -/
def rdP (leaf : Bool) (s : ByteArray) : Nat → Except Int (List Ch × ByteArray)
  | 0 => .ok ([], s)
  | k + 1 => match rdP leaf s k with
    | .error x => .error x
    | .ok (l, s') => match rdC leaf s' with
      | .error x => .error x
      | .ok (c, s'') => .ok (l ++ [c], s'')
/-- A node read, whole. -/
def rdNd (s : ByteArray) : Except Int Nd :=
  match rdB 2 s with
  | .error x => .error x
  | .ok (h, s1) => match rdP (h == 1) s1 4 with
    | .error x => .error x
    | .ok (l, s') => if s'.size = 0 then .ok ⟨h == 1, l⟩ else .error 12
def dcV (x : Except Int Nd) : Value := match x with
  | .ok n => .tuple #[.agg (ndA n), .int .i64 0]
  | .error c => .tuple #[.agg (ndA ndZ), .int .i64 c]
/-- A node of which so many children are there. -/
def pN (leaf : Bool) (l : List Ch) : Nd := ⟨leaf, l ++ List.replicate (4 - l.length) chZ⟩
theorem rdC_ok {leaf : Bool} {s s' : ByteArray} {c : Ch} (h : rdC leaf s = .ok (c, s')) : c.Ok ∧ s'.size ≤ s.size := by
  unfold rdC at h
  split at h
  · cases h
  · rename_i h1 s1 e1
    have b1 := rdB_ok e1
    split at h
    · injection h with h
      injection h with h1 h2
      subst h1 h2
      exact ⟨chZ_ok, b1.2⟩
    · split at h
      · cases h
      · rename_i sg s2 e2
        have b2 := rdB_ok e2
        split at h
        · cases h
        · rename_i pg s3 e3
          have b3 := rdB_ok e3
          split at h
          · cases h
          · rename_i k s4 e4
            have b4 := rdK_ok e4
            split at h
            · injection h with h
              injection h with h1 h2
              subst h1 h2
              exact ⟨⟨b4.1, ⟨by show -9223372036854775808 ≤ (sg : Int); omega, by show (sg : Int) ≤ 9223372036854775807; omega⟩, ⟨by show -9223372036854775808 ≤ (pg : Int); omega, by show (pg : Int) ≤ 9223372036854775807; omega⟩, ⟨Int.le_refl _, by show (0 : Int) ≤ 18446744073709551615; omega⟩, ⟨Int.le_refl _, by show (0 : Int) ≤ 18446744073709551615; omega⟩⟩, by omega⟩
            · split at h
              · cases h
              · rename_i ex s5 e5
                have b5 := rdN_ok e5
                split at h
                · cases h
                · rename_i ver s6 e6
                  have b6 := rdN_ok e6
                  injection h with h
                  injection h with h1 h2
                  subst h1 h2
                  exact ⟨⟨b4.1, ⟨by show -9223372036854775808 ≤ (sg : Int); omega, by show (sg : Int) ≤ 9223372036854775807; omega⟩, ⟨by show -9223372036854775808 ≤ (pg : Int); omega, by show (pg : Int) ≤ 9223372036854775807; omega⟩, ⟨by show (0 : Int) ≤ (ex : Int); omega, by show (ex : Int) ≤ 18446744073709551615; omega⟩, ⟨by show (0 : Int) ≤ (ver : Int); omega, by show (ver : Int) ≤ 18446744073709551615; omega⟩⟩, by omega⟩
theorem rdP_ok {leaf : Bool} {s : ByteArray} : ∀ {k : Nat} {l : List Ch} {s' : ByteArray}, rdP leaf s k = .ok (l, s') → l.length = k ∧ (∀ c ∈ l, c.Ok) ∧ s'.size ≤ s.size
  | 0, l, s', h => by
    injection h with h
    injection h with h1 h2
    subst h1 h2
    simp
  | k + 1, l, s', h => by
    unfold rdP at h
    split at h
    · cases h
    · rename_i l0 s0 e0
      obtain ⟨a, b, c⟩ := rdP_ok e0
      split at h
      · cases h
      · rename_i c1 s1 e1
        have := rdC_ok e1
        injection h with h
        injection h with h1 h2
        subst h1 h2
        refine ⟨by simp [a], ?_, by omega⟩
        intro d hd
        rw [List.mem_append, List.mem_singleton] at hd
        rcases hd with hd | rfl
        · exact b d hd
        · exact this.1
theorem pN_ok {leaf : Bool} {l : List Ch} (h : ∀ c ∈ l, c.Ok) (hl : l.length ≤ 4) : (pN leaf l).Ok :=
  ⟨by simp [pN]; omega, fun c hc => by
    simp only [pN, List.mem_append] at hc
    rcases hc with hc | hc
    · exact h c hc
    · rw [(List.mem_replicate.1 hc).2]; exact chZ_ok⟩
theorem pN_put {leaf : Bool} {l : List Ch} (hl : l.length < 4) (c : Ch) : (pN leaf l).put l.length c = pN leaf (l ++ [c]) := by
  have e : 4 - l.length = (4 - (l.length + 1)) + 1 := by omega
  unfold pN Nd.put
  simp only [List.length_append, List.length_singleton]
  rw [e, List.replicate_succ, List.set_append_right _ _ (Nat.le_refl _), Nat.sub_self, List.set_cons_zero, List.append_assoc, List.singleton_append]
theorem pN_all {leaf : Bool} {l : List Ch} (hl : l.length = 4) : pN leaf l = ⟨leaf, l⟩ := by simp [pN, hl]
theorem pN_none (leaf : Bool) : pN leaf [] = ⟨leaf, [chZ, chZ, chZ, chZ]⟩ := rfl

def D3 (w : World) (s : ByteArray) : World := ((w.alloc (.cells (ndA ndZ) 30)).alloc (.cells #[.int .i64 0] 31)).alloc (.cells #[.string s] 58)
theorem d3_n (w : World) (s : ByteArray) : (D3 w s).heap[w.heap.size]? = some (.cells (ndA ndZ) 30 (0, 0)) := by
  have h := heap_alloc_new w (.cells (ndA ndZ) 30)
  exact (((Only.refl (fun _ => False) _).alloc _).alloc _).row h (fun x => x)
theorem d3_e (w : World) (s : ByteArray) : (D3 w s).heap[w.heap.size + 1]? = some (.cells #[.int .i64 0] 31 (0, 0)) := by
  have h := heap_alloc_new (w.alloc (.cells (ndA ndZ) 30)) (.cells #[.int .i64 0] 31)
  rw [show (w.alloc (.cells (ndA ndZ) 30)).heap.size = w.heap.size + 1 by simp] at h
  exact ((Only.refl (fun _ => False) _).alloc _).row h (fun x => x)
theorem d3_r (w : World) (s : ByteArray) : IsR (w.heap.size + 1 + 1) s (D3 w s) := by
  have h := heap_alloc_new ((w.alloc (.cells (ndA ndZ) 30)).alloc (.cells #[.int .i64 0] 31)) (.cells #[.string s] 58)
  rw [show ((w.alloc (.cells (ndA ndZ) 30)).alloc (.cells #[.int .i64 0] 31)).heap.size = w.heap.size + 1 + 1 by simp] at h
  exact h
theorem d3_only (w : World) (s : ByteArray) : Only (fun _ => False) w (D3 w s) := (((Only.refl _ w).alloc _).alloc _).alloc _

/-- What is known while Decode runs. -/
structure At (w : World) (A : Array Value) (s : ByteArray) (W : World) : Prop where
  n : W.heap[w.heap.size]? = some (.cells A 30 (0, 0))
  e : W.heap[w.heap.size + 1]? = some (.cells #[.int .i64 0] 31 (0, 0))
  r : IsR (w.heap.size + 1 + 1) s W
  o : Only (fun _ => False) w W
theorem At.step {w : World} {A : Array Value} {s s' : ByteArray} {W X : World} (h : At w A s W) (hr : IsR (w.heap.size + 1 + 1) s' X) (o : Only (fun k => k = w.heap.size + 1 + 1) W X) : At w A s' X :=
  ⟨o.row h.n (by omega), o.row h.e (by omega), hr, h.o.fresh o (by intro k hk; omega)⟩
theorem At.put {w : World} {A B : Array Value} {s : ByteArray} {W X : World} (h : At w A s W) (hn : X.heap[w.heap.size]? = some (.cells B 30 (0, 0))) (o : Only (fun k => k = w.heap.size) W X) : At w B s X :=
  ⟨hn, o.row h.e (by omega), h.r.keep o (by omega), h.o.fresh o (by intro k hk; omega)⟩
/-- The way out of Decode by a panic. -/
def Fell (w : World) (W : World) : Prop := (∃ A, A.size = 85 ∧ W.heap[w.heap.size]? = some (.cells A 30 (0, 0))) ∧ W.heap[w.heap.size + 1]? = some (.cells #[.int .i64 0] 31 (0, 0)) ∧ Only (fun _ => False) w W
theorem At.fell {w : World} {A : Array Value} {s : ByteArray} {W X : World} (h : At w A s W) (hA : A.size = 85) (o : Only (fun k => k = w.heap.size + 1 + 1) W X) : Fell w X :=
  ⟨⟨A, hA, o.row h.n (by omega)⟩, o.row h.e (by omega), h.o.fresh o (by intro k hk; omega)⟩
theorem At.fell0 {w : World} {A : Array Value} {s : ByteArray} {W : World} (h : At w A s W) (hA : A.size = 85) : Fell w W := ⟨⟨A, hA, h.n⟩, h.e, h.o⟩
theorem Fell.catch {w W : World} (h : Fell w W) (x : Int) (older : List PanicEntry) :
    CallsD Try.prog 24 #[.pointer (some ⟨w.heap.size, 0, none⟩), .pointer (some ⟨w.heap.size + 1, 0, none⟩)] (.panicking ({ v := .iface 31 (.int .i64 x), recovered := false } :: older)) W fun e u' w' => e = .returned (.tuple #[]) ∧ u' = .panicking ({ v := .iface 31 (.int .i64 x), recovered := true } :: older) ∧ (loadVar 30 ⟨w.heap.size, 0, none⟩).run Try.prog w' = .ok (.agg (ndA ndZ)) w' ∧ w'.cell? ⟨w.heap.size + 1, 0, none⟩ = some (.int .i64 x) ∧ Below w.heap.size w w' := by
  obtain ⟨⟨A, hA, hn⟩, he, ho⟩ := h
  refine (catch_pan w.heap.size (w.heap.size + 1) x 0 A W older (by omega) hn hA he).mono ?_
  rintro e u' w' ⟨h1, h2, h3, h4, h5⟩
  exact ⟨h1, h2, load30 (ndA_size ndZ_ok) h3, cell_of_row _ _ 0 _ _ _ h4, (ho.fresh h5 (by intro k hk; omega)).below0⟩

theorem leaves_end {P : Program} {fn : Func} {tmps : Array Value} {R : Ending → World → Prop} {v : Value} {w : World} (h : (results fn tmps).run P w = .ok v w) (hr : R (.returned v) w) : Leaves P fn tmps R [] .returning w := ⟨v, h, hr⟩
theorem load31 {w : World} {g : Nat} {x : Int} (h : w.cell? ⟨g, 0, none⟩ = some (.int .i64 x)) : (loadVar 31 ⟨g, 0, none⟩).run Try.prog w = .ok (.int .i64 x) w := by simp [go_sem, h]
theorem results11 {w : World} {g k : Nat} {A : Array Value} {x : Int} {tmps : Array Value} (h2 : tmps.getD 2 undef = .pointer (some ⟨g, 0, none⟩)) (h3 : tmps.getD 3 undef = .pointer (some ⟨k, 0, none⟩)) (hl : (loadVar 30 ⟨g, 0, none⟩).run Try.prog w = .ok (.agg A) w) (hk : (loadVar 31 ⟨k, 0, none⟩).run Try.prog w = .ok (.int .i64 x) w) :
    (results Try.f11 tmps).run Try.prog w = .ok (.tuple #[.agg A, .int .i64 x]) w := by
  simp only [Array.getD_eq_getD_getElem?] at h2 h3
  simp [results, Try.results11, asAddr, h2, h3, hl, hk]

set_option maxHeartbeats 8000000 in
theorem decode_any (s : ByteArray) (w : World) (hs : s.size ≤ 140737488351232) :
    Calls Try.prog 11 #[.string s] w fun e w' => e = .returned (dcV (rdNd s)) ∧ Below w.heap.size w w' := by
  have hmf : ∀ (fn : Fn) (first cap : Array Value) (w : World), (Instr.makeFunc fn first cap).run Try.prog w = .ok (.func fn first cap) w := fun _ _ _ _ => rfl
  have hz30 : ∀ W, (zeroValue 30).run Try.prog W = .ok (.agg (ndA ndZ)) W := fun _ => by kernel_rfl
  have H3 : Hid (At w (ndA ndZ) s (D3 w s)) := ⟨d3_n w s, d3_e w s, d3_r w s, d3_only w s⟩
  have hc := below_any 2 (w.heap.size + 1 + 1) s (D3 w s) H3.out.r hs (by omega)
  have HDC : Hid (rdNd s = match rdB 2 s with
      | .error x => .error x
      | .ok (h, s1) => match rdP (h == 1) s1 4 with
        | .error x => .error x
        | .ok (l, s') => if s'.size = 0 then .ok ⟨h == 1, l⟩ else .error 12) := rfl
  have HZ := Lib.hid (ndA_size ndZ_ok)
  generalize rdNd s = RES at *
  unfold D3 at hc H3
  cases hb : rdB 2 s with
  | error x =>
    rw [hb] at hc
    simp only [hb] at HDC
    have HC := Lib.hid hc
    clear hc hb
    generalize ndA ndZ = Z at *
    go_enter_defers Try.func11, Try.ntmps11
    go_wp2_with fail
    refine HC.out.mono ?_
    rintro e w1 ⟨rfl, o1⟩
    have F1 := H3.out.fell HZ.out o1
    have HK := Lib.hid F1
    clear o1 F1
    unfold pan
    go_wp2_with fail
    refine leaves_cons (f := 24) (args := #[.pointer (some ⟨w.heap.size, 0, none⟩), .pointer (some ⟨w.heap.size + 1, 0, none⟩)]) (by simp) (by simp [go_sem]) ?_
    refine (HK.out.catch x []).mono ?_
    rintro e u' w'' ⟨rfl, rfl, hl, hcell, hbel⟩
    have HD := HDC.out
    subst HD
    exact leaves_end (results11 rfl rfl hl (load31 hcell)) ⟨rfl, hbel⟩
  | ok p =>
    obtain ⟨h, s1⟩ := p
    obtain ⟨hh2, hs1⟩ := rdB_ok hb
    rw [hb] at hc
    simp only [hb] at HDC
    have HC := Lib.hid hc
    have HS := Lib.hid hs
    have HS1 := Lib.hid hs1
    have HZ0 := Lib.hid (nd_leaf ndZ)
    have HZS : Hid (∀ b, (ndA ndZ).setIfInBounds 0 (.bool b) = ndA (pN b [])) := fun b => nd_setleaf ndZ b
    have HIFF : Hid (h = 0 ∨ h = 1) := by unfold Hid; omega
    clear hc hb hh2 hs hs1
    generalize ndA ndZ = Z at *
    go_enter_defers Try.func11, Try.ntmps11
    go_wp2_with fail
    refine HC.out.mono ?_
    rintro e w1 ⟨rfl, r1, o1⟩
    have a1 := H3.out.step r1 o1
    have f1 := frozen_of_row w1 w.heap.size 0 _ _ a1.n
    have c1 := (cell_of_row w1 w.heap.size 0 _ _ _ a1.n).trans HZ0.out
    have g2 := set_row (j := 0) a1.n (.bool (h == 1))
    rw [HZS.out] at g2
    have A2 := Lib.hid (a1.put g2 (set_only _))
    have HA1 := Lib.hid a1
    clear r1 o1 a1 g2
    have HLF : Hid (∀ l, (ndA (pN (h == 1) l))[0]? = some (.bool (h == 1))) := fun l => nd_leaf _
    have HNE : Hid (w.heap.size ≠ w.heap.size + 1 + 1) := by unfold Hid; omega
    have hcmp : ((h : Int) == 1) = (h == 1) := by
      rcases HIFF.out with rfl | rfl <;> rfl
    generalize (h == 1) = leaf at *
    clear HC HZ0 HZS HIFF H3 HZ hz30 HA1
    go_wp2_with fail
    clear f1 c1 hcmp
    go_loopw [14] (fun i wr => ∃ (k : Nat) (l : List Ch) (s' : ByteArray), k ≤ 4 ∧ i = .int .i64 k ∧ Hid (rdP leaf s1 k = .ok (l, s')) ∧ Hid (At w (ndA (pN leaf l)) s' wr)) (fun i _ => 4 - (intOf i).toNat)
    case atStart => exact ⟨0, [], s1, by omega, rfl, rfl, A2.out⟩
    case round =>
      obtain ⟨k, l, s', hk, rfl, hP, hA⟩ := hrel
      have hpo := rdP_ok hP.out
      by_cases hlt : k < 4
      · have HPS : Hid (rdP leaf s1 (k + 1) = match rdC leaf s' with
          | .error x => .error x
          | .ok (c, s'') => .ok (l ++ [c], s'')) := by
          show rdP leaf s1 (k + 1) = _
          rw [rdP, hP.out]
        have hcc := child_any leaf (w.heap.size + 1 + 1) s' wr hA.out.r (by have := HS.out; have := HS1.out; omega)
        have c0 := (cell_of_row wr w.heap.size 0 _ _ _ hA.out.n).trans (HLF.out l)
        have HPO := Lib.hid hpo
        clear hpo
        cases hb2 : rdC leaf s' with
        | error x =>
          rw [hb2] at hcc
          simp only [hb2] at HPS
          have HCC := Lib.hid hcc
          have herr : rdP leaf s1 4 = .error x := by
            have : ∀ j, rdP leaf s1 (k + 1 + j) = .error x := fun j => by
              induction j with
              | zero => exact HPS.out
              | succ j ih =>
                show rdP leaf s1 ((k + 1 + j) + 1) = _
                rw [rdP, ih]
            have h4 := this (4 - (k + 1))
            rw [show k + 1 + (4 - (k + 1)) = 4 by omega] at h4
            exact h4
          simp only [herr] at HDC
          clear hcc hb2 herr
          go_wp2_with fail
          refine HCC.out.mono ?_
          rintro e w2 ⟨rfl, o2⟩
          have F2 := Lib.hid (hA.out.fell (ndA_size (pN_ok HPO.out.2.1 (by have := HPO.out.1; omega))) o2)
          clear o2
          unfold pan
          go_wp2_with fail
          refine leaves_cons (f := 24) (args := #[.pointer (some ⟨w.heap.size, 0, none⟩), .pointer (some ⟨w.heap.size + 1, 0, none⟩)]) (by simp) (by simp [go_sem]) ?_
          refine (F2.out.catch x []).mono ?_
          rintro e u' w'' ⟨rfl, rfl, hl, hcell, hbel⟩
          rw [HDC.out]
          exact leaves_end (results11 rfl rfl hl (load31 hcell)) ⟨rfl, hbel⟩
        | ok p =>
          obtain ⟨c, s''⟩ := p
          have hco := rdC_ok hb2
          rw [hb2] at hcc
          simp only [hb2] at HPS
          have HCC := Lib.hid hcc
          have HCO := Lib.hid hco
          clear hcc hb2 hco
          go_wp2_with fail
          refine HCC.out.mono ?_
          rintro e w2 ⟨rfl, r2, o2⟩
          have a3 := hA.out.step r2 o2
          have hok := pN_ok (leaf := leaf) HPO.out.2.1 (by have := HPO.out.1; omega)
          obtain ⟨W4, hst, g4, o4, _⟩ := put_at w2 (o := 1 + k * 21) (B := chA c) a3.n info27s (chA_size HCO.out.1) (by rw [ndA_size hok]; omega) (chA_one c)
          rw [nd_put hok hlt HCO.out.1] at g4
          have e4 : (pN leaf l).put k c = pN leaf (l ++ [c]) := by
            have := pN_put (leaf := leaf) (l := l) (by rw [HPO.out.1]; exact hlt) c
            rw [HPO.out.1] at this
            exact this
          rw [e4] at g4
          have HST := Lib.hid hst
          have A4 := Lib.hid (a3.put g4 o4)
          clear r2 o2 a3 hok hst g4 o4 e4
          go_wp2_with (refine wpList_store_at rfl 27 _ _ rfl _ rfl _ rfl HST.out ?_)
          go_roundw
          case rel => exact ⟨k + 1, l ++ [c], s'', by omega, by go_num, HPS.out, A4.out⟩
          case measure => simp [intOf]; omega
      · obtain rfl : k = 4 := by omega
        have HP4 := hP
        simp only [hP.out] at HDC
        have c0 := hA.out.r.c0
        have hpn : pN leaf l = ⟨leaf, l⟩ := pN_all hpo.1
        have hok : Nd.Ok ⟨leaf, l⟩ := ⟨hpo.1, hpo.2.1⟩
        rw [hpn] at hA
        by_cases hz : s'.size = 0
        · rw [if_pos hz] at HDC
          obtain rfl : s' = ByteArray.empty := by
            apply ByteArray.ext
            apply Array.eq_empty_of_size_eq_zero
            exact hz
          have HL := Lib.hid (load30 (ndA_size hok) hA.out.n)
          have HST := Lib.hid (same_row wr (ty := 30) hA.out.n info30s (ndA_size hok) (ndA_one _))
          have c1 := cell_of_row wr (w.heap.size + 1) 0 _ _ _ hA.out.e
          have f1 := frozen_of_row wr (w.heap.size + 1) 0 _ _ hA.out.e
          have HOK := Lib.hid hok
          clear hz hpn hok hpo
          go_wp2_with (first | (refine wpList_load_at rfl 30 _ rfl _ rfl _ HL.out ?_) | (refine wpList_store_at rfl 30 _ _ rfl _ rfl _ rfl HST.out ?_))
          have g5 : (wr.setCell ⟨w.heap.size + 1, 0, none⟩ (.int .i64 0)).heap[w.heap.size]? = some (.cells (ndA ⟨leaf, l⟩) 30 (0, 0)) := (heap_setCell_other wr ⟨w.heap.size + 1, 0, none⟩ w.heap.size _ (by simp)).trans hA.out.n
          have e5 := set_row (j := 0) hA.out.e (.int .i64 0)
          have c5 : (wr.setCell ⟨w.heap.size + 1, 0, none⟩ (.int .i64 0)).cell? ⟨w.heap.size + 1, 0, none⟩ = some (.int .i64 0) := cell_of_row _ _ 0 _ _ _ e5
          have o5 : Only (fun _ => False) w (wr.setCell ⟨w.heap.size + 1, 0, none⟩ (.int .i64 0)) := hA.out.o.fresh (set_only (w := wr) (g := w.heap.size + 1) (j := 0) (.int .i64 0)) (by intro k hk; omega)
          refine leaves_cons (f := 24) (args := #[.pointer (some ⟨w.heap.size, 0, none⟩), .pointer (some ⟨w.heap.size + 1, 0, none⟩)]) (by simp) (by simp [go_sem]) ?_
          refine (catch_idle _ _ _).mono ?_
          rintro e u' w'' ⟨rfl, rfl, rfl⟩
          rw [HDC.out]
          exact leaves_end (results11 rfl rfl (load30 (ndA_size HOK.out) g5) (load31 c5)) ⟨rfl, o5.below0⟩
        · rw [if_neg hz] at HDC
          have F2 := Lib.hid (hA.out.fell0 (ndA_size hok))
          have hne : s'.toList.isEmpty = false := by
            cases hq : s'.toList with
            | nil =>
              have e : s'.size = s'.toList.length := by rw [ByteArray.toList_eq]; simp
              rw [hq] at e
              exact absurd e hz
            | cons a b => rfl
          have HNZ := Lib.hid hz
          clear hz
          clear hpn hok hpo
          go_wp2_with fail
          refine leaves_cons (f := 24) (args := #[.pointer (some ⟨w.heap.size, 0, none⟩), .pointer (some ⟨w.heap.size + 1, 0, none⟩)]) (by simp) (by simp [go_sem]) ?_
          refine (F2.out.catch 12 []).mono ?_
          rintro e u' w'' ⟨rfl, rfl, hl, hcell, hbel⟩
          rw [HDC.out]
          exact leaves_end (results11 rfl rfl hl (load31 hcell)) ⟨rfl, hbel⟩
end Go.Proofs.Ytbmckmlekhkpeaa
