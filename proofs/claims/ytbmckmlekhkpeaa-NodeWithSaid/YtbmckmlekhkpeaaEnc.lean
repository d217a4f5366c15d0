/-
  Encode: its bytes.
-/
import Derived.Test.YtbmckmlekhkpeaaBui
set_option linter.unusedVariables false
namespace Go.Proofs.Ytbmckmlekhkpeaa
open Go.RowKit

/-- The bytes of a child, of a node's first children. -/
def encC (leaf : Bool) (c : Ch) : List UInt8 := flagB c.has ++ (if c.has = true then [UInt8.ofNat c.seg.toNat, UInt8.ofNat c.page.toNat] ++ c.key ++ (if leaf = true then leBytes c.ex.toNat 8 ++ leBytes c.ver.toNat 8 else []) else [])
def encP (n : Nd) (k : Nat) : List UInt8 := flagB n.leaf ++ (n.cs.take k).flatMap (encC n.leaf)
def encN (n : Nd) : List UInt8 := encP n 4
theorem encC_len {leaf : Bool} {c : Ch} (h : c.Ok) : (encC leaf c).length ≤ 35 := by
  have := leBytes_len c.ex.toNat 8
  have := leBytes_len c.ver.toNat 8
  have := h.len
  unfold encC flagB
  cases c.has <;> cases leaf <;> simp_all
theorem encP_len {n : Nd} (h : n.Ok) (k : Nat) (hk : k ≤ 4) : (encP n k).length ≤ 1 + 35 * k := by
  have : ∀ l : List Ch, (∀ c ∈ l, c.Ok) → (l.flatMap (encC n.leaf)).length ≤ 35 * l.length := by
    intro l
    induction l with
    | nil => intro _; simp
    | cons c l ih =>
      intro hl
      have := ih fun d hd => hl d (by simp [hd])
      have := encC_len (leaf := n.leaf) (hl c (by simp))
      simp only [List.flatMap_cons, List.length_append, List.length_cons]
      omega
  have := this (n.cs.take k) fun c hc => h.ok c (List.mem_of_mem_take hc)
  have hl : (n.cs.take k).length ≤ k := List.length_take_le _ _
  unfold encP
  rw [List.length_append]
  have : (flagB n.leaf).length = 1 := rfl
  have : 35 * (n.cs.take k).length ≤ 35 * k := Nat.mul_le_mul_left _ hl
  omega
theorem encP_succ {n : Nd} (h : n.Ok) {k : Nat} (hk : k < 4) : encP n (k + 1) = encP n k ++ encC n.leaf (n.get k) := by
  have hl : k < n.cs.length := by rw [h.len]; exact hk
  have e : n.get k = n.cs[k] := by unfold Nd.get; rw [List.getD_eq_getElem?_getD, List.getElem?_eq_getElem hl]; rfl
  unfold encP
  rw [e, ← List.take_append_getElem hl, List.flatMap_append, List.append_assoc]
  congr 2
  simp
def encS (n : Nd) : ByteArray := if mayN n = true then ⟨(encN n).toArray⟩ else ⟨#[]⟩
def encE (n : Nd) : Int := if mayN n = true then 0 else 1
def encV (n : Nd) : Value := .tuple #[.string (encS n), .int .i64 (encE n)]

theorem mayC_has {leaf : Bool} {c : Ch} (h : mayC leaf c = true) (hh : c.has = true) : 0 ≤ c.seg ∧ c.seg < 64 ∧ 0 ≤ c.page ∧ c.page < 16 := by
  rw [mayC, if_neg (by simp [hh]), Bool.and_eq_true, decide_eq_true_iff] at h
  exact h.1
theorem mayN_get {n : Nd} (h : n.Ok) (hm : mayN n = true) {k : Nat} (hk : k < 4) : mayC n.leaf (n.get k) = true := by
  have hl : k < n.cs.length := by rw [h.len]; exact hk
  have := List.all_eq_true.1 hm (n.cs[k]) (List.getElem_mem hl)
  unfold Nd.get
  rw [List.getD_eq_getElem?_getD, List.getElem?_eq_getElem hl]
  exact this

theorem nd_same {w w' : World} {b g : Nat} {A : Array Value} {t : TypeId} (h : w.heap[g]? = some (.cells A t (0, 0))) (hb : Below b w w') (hlt : g < b) : w'.heap[g]? = some (.cells A t (0, 0)) := (hb.block g hlt).trans h

set_option maxHeartbeats 400000 in
theorem enc_bad (n : Nd) (w : World) (h : n.Ok) (hm : mayN n = false) :
    Calls Try.prog 14 #[.agg (ndA n)] w fun e w' => e = .returned (.tuple #[.string ⟨#[]⟩, .int .i64 1]) ∧ Below w.heap.size w w' := by
  have hg : (w.alloc (.cells (ndA n) 30)).heap[w.heap.size]? = some (.cells (ndA n) 30 (0, 0)) := heap_alloc_new w _
  have HL := Lib.hid (load30 (ndA_size h) hg)
  have hc := may_any n (w.alloc (.cells (ndA n) 30)) h
  rw [hm] at hc
  have HC := Lib.hid hc
  have HB : Hid (Only (fun _ => False) w (w.alloc (.cells (ndA n) 30))) := (Only.refl _ w).alloc _
  clear hc hg h hm
  generalize ndA n = A at *
  go_enter Try.func14, Try.ntmps14
  go_wp2_with (refine wpList_load_at rfl 30 _ rfl _ rfl _ HL.out ?_)
  refine HC.out.mono ?_
  rintro e w1 ⟨rfl, h1⟩
  go_wp2_with fail
  go_ret2
  exact ⟨rfl, (HB.out.trans (Only.of_below h1)).below0⟩

theorem Wrote.rows {b : Nat} {bs : List Value} {w w' : World} (h : Wrote b bs w w') {g : Nat} {A : Array Value} {t : TypeId} (hg : w.heap[g]? = some (.cells A t (0, 0))) (hne : g ≠ b) (ht : t ≠ 5) : w'.heap[g]? = some (.cells A t (0, 0)) :=
  h.2.2 g _ hg (by intro e; exact hne (Option.some.inj e)) (by intro c fz e; injection e with e1 e2 e3; exact ht e2)

theorem Only.grown {w w' : World} (o : Only (fun _ => False) w w') : w.grownBy w' none := ⟨o.os, o.tape, o.output, o.size, fun i hi _ => o.block i hi (fun x => x)⟩
theorem BW.keep {b : Nat} {bs : List Value} {w w' : World} (h : BW b bs w) (o : Only (fun _ => False) w w') : BW b bs w' := by
  rcases h with ⟨h1, v, h2, h3, h4⟩ | ⟨h1, v, h2, h3, h4⟩
  · exact .inl ⟨h1, v, o.row h2 (fun x => x), h3.kept o.grown (by cases v.ownBlock <;> simp), h4⟩
  · exact .inr ⟨h1, v, o.row h2 (fun x => x), h3.kept o.grown (by cases v.ownBlock <;> simp), h4⟩
theorem Only.wrote {a w w' : World} {b : Nat} (h : Only (fun _ => False) a w) (k : Below b w w') (hb : a.heap.size ≤ b) : Only (fun _ => False) a w' :=
  ⟨k.os.trans h.os, k.tape.trans h.tape, k.output.trans h.output, Nat.le_trans h.size k.size, fun i hi hf => (k.block i (by omega)).trans (h.block i hi hf)⟩
theorem cells_app (l m : List UInt8) : Lib.byteCells l ++ Lib.byteCells m = Lib.byteCells (l ++ m) := by simp [Lib.byteCells]
theorem cells_str (l : List UInt8) : Lib.strCells ⟨l.toArray⟩ = Lib.byteCells l := by simp [Lib.strCells, Lib.byteCells]
theorem writeTwo (b : Nat) (bs : List Value) (x y : UInt8) (g cap : Nat) (w : World) (h : BW b bs w) (hlen : bs.length + 2 ≤ 140737488355328) (hgb : g ≠ b)
    (c0 : w.cell? ⟨g, 0, none⟩ = some (.int .u8 x.toNat)) (c1 : w.cell? ⟨g, 1, none⟩ = some (.int .u8 y.toNat)) :
    Calls Try.prog 31 #[.pointer (some ⟨b, 0, none⟩), .slice (some ⟨g, 0, none⟩) 2 cap] w fun e w' => e = .returned (.tuple #[.int .i64 2, .nilIface]) ∧ Wrote b (bs ++ Lib.byteCells [x, y]) w w' := by
  refine writeBytes b bs [x, y] g 0 cap w h hlen (by simp) hgb ?_
  rintro (_ | _ | j) u hu
  · simp [Lib.byteCells] at hu; subst hu; simpa [Addr.add] using c0
  · simp [Lib.byteCells] at hu; subst hu; simpa [Addr.add] using c1
  · simp [Lib.byteCells] at hu
theorem writeKey (b : Nat) (bs : List Value) (k : List UInt8) (g cap : Nat) (A : Array Value) (t : TypeId) (w : World) (h : BW b bs w) (hk : k.length = 16) (hlen : bs.length + 16 ≤ 140737488355328) (hgb : g ≠ b)
    (hg : w.heap[g]? = some (.cells A t (0, 0))) (hA : A.extract 3 (3 + 16) = kyC k) :
    Calls Try.prog 31 #[.pointer (some ⟨b, 0, none⟩), .slice (some ⟨g, 3, none⟩) 16 cap] w fun e w' => e = .returned (.tuple #[.int .i64 16, .nilIface]) ∧ Wrote b (bs ++ Lib.byteCells k) w w' := by
  have := writeBytes b bs k g 3 cap w h (by rw [hk]; exact hlen) (by omega) hgb ?_
  · rw [hk] at this; exact this
  · intro j u hu
    have hj : j < 16 := by
      have := (List.getElem?_eq_some_iff.1 hu).1
      rw [Lib.byteCells_length, hk] at this
      exact this
    have ea : (⟨g, 3, none⟩ : Addr).add j = ⟨g, 3 + j, none⟩ := by unfold Addr.add; split <;> simp_all
    rw [ea, cell_of_row w g (3 + j) A t (0, 0) hg]
    have e1 : (kyC k)[j]? = some u := by
      rw [kyC, List.getElem?_toArray]
      exact hu
    rw [← hA, Array.getElem?_extract] at e1
    split at e1
    · exact e1
    · cases e1
def numP (ex ver : Nat) (j : Nat) : List UInt8 := if j = 0 then [] else if j = 1 then leBytes ex 8 else leBytes ex 8 ++ leBytes ver 8

set_option maxHeartbeats 4000000 in
theorem enc_ok (n : Nd) (w : World) (h : n.Ok) (hm : mayN n = true) :
    Calls Try.prog 14 #[.agg (ndA n)] w fun e w' => e = .returned (.tuple #[.string ⟨(encN n).toArray⟩, .int .i64 0]) ∧ Below w.heap.size w w' := by
  have hmf : ∀ (fn : Fn) (first cap : Array Value) (w : World), (Instr.makeFunc fn first cap).run Try.prog w = .ok (.func fn first cap) w := fun _ _ _ _ => rfl
  have hg : (w.alloc (.cells (ndA n) 30)).heap[w.heap.size]? = some (.cells (ndA n) 30 (0, 0)) := heap_alloc_new w _
  have HL := Lib.hid (load30 (ndA_size h) hg)
  have hc := may_any n (w.alloc (.cells (ndA n) 30)) h
  rw [hm] at hc
  have HC := Lib.hid hc
  have HG := Lib.hid hg
  have HLA := Lib.hid (fun (W : World) (hW : W.heap[w.heap.size]? = some (.cells (ndA n) 30 (0, 0))) => load28 h hW)
  have HB : Hid (Only (fun _ => False) w (w.alloc (.cells (ndA n) 30))) := (Only.refl _ w).alloc _
  have HLF := Lib.hid (nd_leaf n)
  have HOK := Lib.hid h
  have HIX := Lib.hid (fun i hi W => index28 h i hi W)
  have HMY := Lib.hid (fun k (hk : k < 4) => mayN_get h hm hk)
  have HSU := Lib.hid (fun k (hk : k < 4) => encP_succ h hk)
  have HLE := Lib.hid (fun k (hk : k ≤ 4) => encP_len h k hk)
  have HE0 : Hid (encP n 0 = flagB n.leaf) := by unfold Hid encP; simp
  unfold encN
  clear hc hg h hm
  generalize ndA n = A at *
  generalize csA n = C at *
  generalize hleaf : n.leaf = leaf at *
  go_enter Try.func14, Try.ntmps14
  go_wp2_with (refine wpList_load_at rfl 30 _ rfl _ rfl _ HL.out ?_)
  refine HC.out.mono ?_
  rintro e w1 ⟨rfl, h1⟩
  have O1 := Lib.hid (HB.out.trans (Only.of_below (S := fun _ => False) h1))
  have G1 := Lib.hid ((Only.of_below (S := fun _ => False) h1).row HG.out (fun x => x))
  have hlt1 : w.heap.size < w1.heap.size := lt_of_heap G1.out
  have g2 : (w1.alloc (.cells #[.pointer none, .slice none 0 0] 68)).heap[w.heap.size]? = some (.cells A 30 (0, 0)) := (Below.heap_alloc _ _ _ hlt1).trans G1.out
  have c0 := (cell_of_row _ _ 0 _ _ _ g2).trans HLF.out
  have G2 := Lib.hid g2
  have B2 := Lib.hid (fresh68 w1)
  have O2 : Hid (Only (fun _ => False) w (w1.alloc (.cells #[.pointer none, .slice none 0 0] 68))) := O1.out.alloc _
  clear h1 g2
  go_wp2_with fail
  refine (flag_any leaf _ _ _ B2.out (by simp)).mono ?_
  rintro e w2 ⟨rfl, h2⟩
  have hb0 : w.heap.size ≤ w1.heap.size := by omega
  have HNB : Hid (w.heap.size ≠ w1.heap.size) := by unfold Hid; omega
  have G3 := Lib.hid (h2.rows G2.out HNB.out (by decide))
  have O3 := Lib.hid (O2.out.wrote h2.2.1 hb0)
  have B3 : Hid (BW w1.heap.size (Lib.byteCells (encP n 0)) w2) := by rw [HE0.out]; exact h2.1
  have HLA3 := Lib.hid (HLA.out w2 G3.out)
  clear h2
  generalize w1.heap.size = b at *
  go_wp2_with (refine wpList_load_at rfl 28 _ rfl _ rfl _ HLA3.out ?_)
  go_loopw [22] (fun i wr => ∃ k : Nat, k ≤ 4 ∧ i = .int .i64 k ∧ Hid (BW b (Lib.byteCells (encP n k)) wr) ∧ Hid (wr.heap[w.heap.size]? = some (.cells A 30 (0, 0))) ∧ Hid (Only (fun _ => False) w wr)) (fun i _ => 4 - (intOf i).toNat)
  case atStart => exact ⟨0, by omega, rfl, B3.out, G3.out, O3.out⟩
  case round =>
    obtain ⟨k, hk, rfl, hB, hG, hO⟩ := hrel
    by_cases hlt : k < 4
    · have HX := Lib.hid (HIX.out k hlt wr)
      have hok := HOK.out.get_ok k
      obtain ⟨W2, hst, hw2, o2, hs2⟩ := fresh_at wr 27 21 (chA chZ) (chA (n.get k)) info27s rfl (chA_size hok) (chA_one _)
      rw [chZ_is] at hst
      have HST := Lib.hid hst
      have c0 := (cell_of_row _ _ 0 _ _ _ hw2).trans (ch_has _)
      have hbl : b < wr.heap.size := by rcases hB.out with h | h <;> exact h.lt
      have HGB : Hid (wr.heap.size ≠ b) := by unfold Hid; omega
      have HB2 := Lib.hid (hB.out.keep o2)
      have HG2 := Lib.hid (o2.row hG.out (fun x => x))
      have HO2 := Lib.hid (hO.out.trans o2)
      have HC2 := Lib.hid hw2
      have HSU1 := Lib.hid (HSU.out k hlt)
      have hlen := HLE.out k hk
      clear hst hw2 o2 hs2
      cases hb : (n.get k).has
      · rw [hb] at c0
        have hnx : encP n (k + 1) = encP n k ++ flagB false := by
          rw [HSU1.out, encC, hb]; simp
        have HNX := Lib.hid hnx
        clear hb hnx
        go_wp2_with (first | (refine wpList_index_at rfl 28 _ _ rfl _ _ rfl rfl _ HX.out ?_) | (refine wpList_store_at rfl 27 _ _ rfl _ rfl _ rfl HST.out ?_))
        refine (flag_any false _ _ _ HB2.out (by rw [Lib.byteCells_length]; omega)).mono ?_
        rintro e w3 ⟨rfl, h3⟩
        have H3 := Lib.hid h3
        clear h3
        go_wp2_with fail
        go_roundw
        case rel => exact ⟨k + 1, by omega, by go_num, by rw [HNX.out, ← cells_app]; exact H3.out.1, H3.out.rows HG2.out HNB.out (by decide), HO2.out.wrote H3.out.2.1 hb0⟩
        case measure => simp [intOf]; omega
      · rw [hb] at c0
        have hmc := mayC_has (HMY.out k hlt) hb
        go_wp2_with (first | (refine wpList_index_at rfl 28 _ _ rfl _ _ rfl rfl _ HX.out ?_) | (refine wpList_store_at rfl 27 _ _ rfl _ rfl _ rfl HST.out ?_))
        refine (flag_any true _ _ _ HB2.out (by rw [Lib.byteCells_length]; omega)).mono ?_
        rintro e w3 ⟨rfl, h3⟩
        have HC3 := Lib.hid (h3.rows HC2.out HGB.out (by decide))
        have HG3 := Lib.hid (h3.rows HG2.out HNB.out (by decide))
        have HO3 := Lib.hid (HO2.out.wrote h3.2.1 hb0)
        have HB3 := Lib.hid h3.1
        have d1 := (cell_of_row _ _ 1 _ _ _ HC3.out).trans (ch_seg _)
        have d2 := (cell_of_row _ _ 2 _ _ _ HC3.out).trans (ch_page _)
        obtain ⟨m1, m2, m3, m4⟩ := hmc
        clear h3
        have HS := Lib.hid hb
        clear hb
        have hal : Only (fun _ => False) w3 (w3.alloc (.cells #[.int .u8 (n.get k).seg, .int .u8 (n.get k).page] 5)) := (Only.refl _ w3).alloc _
        have HC4 := Lib.hid (hal.row HC3.out (fun x => x))
        have HG4 := Lib.hid (hal.row HG3.out (fun x => x))
        have HO4 := Lib.hid (HO3.out.trans hal)
        have HB4 := Lib.hid (HB3.out.keep hal)
        have hnw := heap_alloc_new w3 (.cells #[.int .u8 (n.get k).seg, .int .u8 (n.get k).page] 5)
        have e0 := cell_of_row _ _ 0 _ _ _ hnw
        have e1 := cell_of_row _ _ 1 _ _ _ hnw
        have E0 : Hid ((w3.alloc (.cells #[.int .u8 (n.get k).seg, .int .u8 (n.get k).page] 5)).cell? ⟨w3.heap.size, 0, none⟩ = some (.int .u8 (UInt8.ofNat (n.get k).seg.toNat).toNat)) := e0.trans (by
          have e : (((UInt8.ofNat (n.get k).seg.toNat).toNat : Nat) : Int) = (n.get k).seg := by rw [UInt8.toNat_ofNat']; omega
          rw [e]; rfl)
        have E1 : Hid ((w3.alloc (.cells #[.int .u8 (n.get k).seg, .int .u8 (n.get k).page] 5)).cell? ⟨w3.heap.size, 1, none⟩ = some (.int .u8 (UInt8.ofNat (n.get k).page.toNat).toNat)) := e1.trans (by
          have e : (((UInt8.ofNat (n.get k).page.toNat).toNat : Nat) : Int) = (n.get k).page := by rw [UInt8.toNat_ofNat']; omega
          rw [e]; rfl)
        have hbl3 : b < w3.heap.size := by rcases HB3.out with h | h <;> exact h.lt
        have HGB3 : Hid (w3.heap.size ≠ b) := by unfold Hid; omega
        clear hal hnw e0 e1
        go_wp2_with fail
        refine (writeTwo b _ _ _ _ _ _ HB4.out (by simp [Lib.byteCells_length, flagB]; omega) HGB3.out E0.out E1.out).mono ?_
        rintro e w4 ⟨rfl, h4⟩
        have HC5 := Lib.hid (h4.rows HC4.out HGB.out (by decide))
        have HG5 := Lib.hid (h4.rows HG4.out HNB.out (by decide))
        have HO5 := Lib.hid (HO4.out.wrote h4.2.1 hb0)
        have HB5 := Lib.hid h4.1
        clear h4
        go_wp2_with fail
        refine (writeKey b _ _ _ _ _ _ _ HB5.out (HOK.out.get_ok k).len (by simp [Lib.byteCells_length, flagB]; omega) HGB.out HC5.out (ch_key (HOK.out.get_ok k))).mono ?_
        rintro e w5 ⟨rfl, h5⟩
        have HC6 := Lib.hid (h5.rows HC5.out HGB.out (by decide))
        have HG6 := Lib.hid (h5.rows HG5.out HNB.out (by decide))
        have HO6 := Lib.hid (HO5.out.wrote h5.2.1 hb0)
        have HB6 := Lib.hid h5.1
        have c6 := (cell_of_row _ _ 0 _ _ _ HG6.out).trans HLF.out
        clear h5
        rw [cells_app, cells_app, cells_app] at HB6
        cases leaf
        · have hnx : encP n (k + 1) = encP n k ++ flagB true ++ [UInt8.ofNat (n.get k).seg.toNat, UInt8.ofNat (n.get k).page.toNat] ++ (n.get k).key := by
            rw [HSU1.out, encC, HS.out]; simp
          have HNX := Lib.hid hnx
          clear hnx
          go_wp2_with fail
          go_roundw
          case rel => exact ⟨k + 1, by omega, by go_num, by rw [HNX.out]; exact HB6.out, HG6.out, HO6.out⟩
          case measure => simp [intOf]; omega
        · have hnx : encP n (k + 1) = encP n k ++ flagB true ++ [UInt8.ofNat (n.get k).seg.toNat, UInt8.ofNat (n.get k).page.toNat] ++ (n.get k).key ++ numP (n.get k).ex.toNat (n.get k).ver.toNat 2 := by
            rw [HSU1.out, encC, HS.out]; simp [numP]
          have HNX := Lib.hid hnx
          have hlen6 : (encP n k ++ flagB true ++ [UInt8.ofNat (n.get k).seg.toNat, UInt8.ofNat (n.get k).page.toNat] ++ (n.get k).key).length ≤ 300 := by
            have := (HOK.out.get_ok k).len
            simp [flagB]; omega
          have d3 := (cell_of_row _ _ 19 _ _ _ HC6.out).trans (ch_ex (HOK.out.get_ok k))
          have d4 := (cell_of_row _ _ 20 _ _ _ HC6.out).trans (ch_ver (HOK.out.get_ok k))
          have x0 := (HOK.out.get_ok k).ex
          have v0 := (HOK.out.get_ok k).ver
          generalize encP n k ++ flagB true ++ [UInt8.ofNat (n.get k).seg.toNat, UInt8.ofNat (n.get k).page.toNat] ++ (n.get k).key = PRE at *
          clear hnx
          obtain ⟨ex, hex⟩ := Int.eq_ofNat_of_zero_le x0.1
          obtain ⟨ver, hver⟩ := Int.eq_ofNat_of_zero_le v0.1
          rw [hex, Int.toNat_natCast, hver, Int.toNat_natCast] at HNX
          rw [hex] at d3 x0
          rw [hver] at d4 v0
          clear hex hver
          have HK := Lib.hid hk
          have HLT := Lib.hid hlt
          have HN8 : Hid (∀ x : Nat, x ≤ 18446744073709551615 → nmV x 8 = .tuple #[.string ⟨(leBytes x 8).toArray⟩, .int .i64 0]) := fun x hx => by
            have e := nmV_ok (n := x) (width := 8) ⟨by omega, by omega, by
              show x / 256 ^ 8 = 0
              exact Nat.div_eq_of_lt (by omega)⟩
            exact e
          have hix0 : ∀ W, (Instr.index 75 (.agg #[.int .u64 (ex : Int), .int .u64 (ver : Int)]) (.int .i64 0)).run Try.prog W = .ok (.int .u64 (ex : Int)) W := fun _ => by kernel_rfl
          have hix1 : ∀ W, (Instr.index 75 (.agg #[.int .u64 (ex : Int), .int .u64 (ver : Int)]) (.int .i64 1)).run Try.prog W = .ok (.int .u64 (ver : Int)) W := fun _ => by kernel_rfl
          have HP0 : Hid (numP ex ver 0 = []) := rfl
          have HP1 : Hid (numP ex ver 1 = leBytes ex 8) := rfl
          have HP2 : Hid (numP ex ver 2 = leBytes ex 8 ++ leBytes ver 8) := rfl
          go_wp2_with fail
          go_loopw [48] (fun i wi => ∃ j : Nat, j ≤ 2 ∧ i = .int .i64 j ∧ Hid (BW b (Lib.byteCells (PRE ++ numP ex ver j)) wi) ∧ Hid (wi.heap[w.heap.size]? = some (.cells A 30 (0, 0))) ∧ Hid (Only (fun _ => False) w wi)) (fun i _ => 2 - (intOf i).toNat)
          case atStart => exact ⟨0, by omega, rfl, by rw [HP0.out, List.append_nil]; exact HB6.out, HG6.out, HO6.out⟩
          case round =>
            obtain ⟨j, hj, rfl, hBi, hGi, hOi⟩ := hrel
            by_cases hj2 : j < 2
            · obtain rfl | rfl : j = 0 ∨ j = 1 := by omega
              · have hn := num_all ex 8 wr (by omega)
                rw [HN8.out ex (by omega)] at hn
                have HN := Lib.hid hn
                clear hn
                go_wp2_with fail
                refine HN.out.mono ?_
                rintro e w6 ⟨rfl, h6⟩
                have HG7 := Lib.hid ((Only.of_below (S := fun _ => False) h6).row hGi.out (fun x => x))
                have HO7 := Lib.hid (hOi.out.trans (Only.of_below h6))
                have HB7 := Lib.hid (hBi.out.keep (Only.of_below h6))
                clear h6
                go_wp2_with fail
                refine (writeString b _ _ _ HB7.out (by rw [Lib.byteCells_length, HP0.out]; simp [ByteArray.size, leBytes_len]; omega)).mono ?_
                rintro e w7 ⟨rfl, h7⟩
                have HG8 := Lib.hid (h7.rows HG7.out HNB.out (by decide))
                have HO8 := Lib.hid (HO7.out.wrote h7.2.1 hb0)
                have hb8 := h7.1
                rw [cells_str, cells_app, List.append_assoc, HP0.out, List.nil_append] at hb8
                have HB8 := Lib.hid hb8
                clear h7 hb8
                go_wp2_with fail
                go_roundw
                case rel => exact ⟨1, by omega, rfl, by rw [HP1.out]; exact HB8.out, HG8.out, HO8.out⟩
                case measure => simp [intOf]
              · have hn := num_all ver 8 wr (by omega)
                rw [HN8.out ver (by omega)] at hn
                have HN := Lib.hid hn
                clear hn
                go_wp2_with fail
                refine HN.out.mono ?_
                rintro e w6 ⟨rfl, h6⟩
                have HG7 := Lib.hid ((Only.of_below (S := fun _ => False) h6).row hGi.out (fun x => x))
                have HO7 := Lib.hid (hOi.out.trans (Only.of_below h6))
                have HB7 := Lib.hid (hBi.out.keep (Only.of_below h6))
                clear h6
                go_wp2_with fail
                refine (writeString b _ _ _ HB7.out (by rw [Lib.byteCells_length, HP1.out]; simp [ByteArray.size, leBytes_len]; omega)).mono ?_
                rintro e w7 ⟨rfl, h7⟩
                have HG8 := Lib.hid (h7.rows HG7.out HNB.out (by decide))
                have HO8 := Lib.hid (HO7.out.wrote h7.2.1 hb0)
                have hb8 := h7.1
                rw [cells_str, cells_app, List.append_assoc, HP1.out] at hb8
                have HB8 := Lib.hid hb8
                clear h7 hb8
                go_wp2_with fail
                go_roundw
                case rel => exact ⟨2, by omega, rfl, by rw [HP2.out]; exact HB8.out, HG8.out, HO8.out⟩
                case measure => simp [intOf]
            · obtain rfl : j = 2 := by omega
              have hk4 := HLT.out
              go_wp2_with fail
              go_roundw
              case rel => exact ⟨k + 1, by omega, by go_num, by rw [HNX.out]; exact hBi.out, hGi.out, hOi.out⟩
              case measure => simp [intOf]; omega
    · obtain rfl : k = 4 := by omega
      go_wp2_with fail
      refine (toStr _ _ _ hB.out).mono ?_
      rintro e w3 ⟨rfl, h3⟩
      have H3 := Lib.hid h3
      clear h3
      go_wp2_with fail
      go_ret2
      exact ⟨rfl, (hO.out.wrote H3.out hb0).below0⟩
end Go.Proofs.Ytbmckmlekhkpeaa
