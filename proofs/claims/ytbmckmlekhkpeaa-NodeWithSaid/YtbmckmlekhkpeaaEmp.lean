/-
  May, Empty: the loops over a node's children.
-/
import Derived.Test.YtbmckmlekhkpeaaMay
set_option linter.unusedVariables false
namespace Go.Proofs.Ytbmckmlekhkpeaa
open Go.RowKit

/-- A cell that is made and filled at once. -/
theorem fresh_at (w : World) (ty : TypeId) (n : Nat) (Z A : Array Value) (hi : (Try.prog.info? ty).map (·.size) = some n) (hz : Z.size = n) (hA : A.size = n) (h1 : ∀ v ∈ A.toList, v.oneCell' = true) :
    ∃ W, (storeVar ty ⟨w.heap.size, 0, none⟩ (.agg A)).run Try.prog (w.alloc (.cells Z ty)) = .ok () W ∧ W.heap[w.heap.size]? = some (.cells A ty (0, 0)) ∧ Only (fun _ => False) w W ∧ W.heap.size = w.heap.size + 1 := by
  have hg := heap_alloc_new w (.cells Z ty)
  have := storeVar_at (P := Try.prog) (w.alloc (.cells Z ty)) w.heap.size 0 ty ty Z A n hg hi hA (by omega) h1
  rw [splice_all (by rw [hA, hz])] at this
  refine ⟨_, this, setRow_heap _ _ _ _ _ _ hg, ⟨rfl, rfl, rfl, by simp, fun j hj _ => ?_⟩, by simp⟩
  rw [setRow_other _ _ _ _ (by omega), (World.grownBy_alloc w _ none).block j hj (by simp)]

def mayN (n : Nd) : Bool := n.cs.all (mayC n.leaf)
def emptyN (n : Nd) : Bool := n.cs.all fun c => !c.has
theorem all_of {n : Nd} (h : n.Ok) (p : Ch → Bool) (hp : ∀ j, j < 4 → p (n.get j) = true) : n.cs.all p = true := by
  obtain ⟨a, b, c, d, e⟩ := list4 n.cs h.len
  have := hp 0 (by omega); have := hp 1 (by omega); have := hp 2 (by omega); have := hp 3 (by omega)
  simp_all [Nd.get]
theorem all_not {n : Nd} (h : n.Ok) (p : Ch → Bool) (j : Nat) (hj : j < 4) (hp : p (n.get j) = false) : n.cs.all p = false := by
  rw [List.all_eq_false]
  refine ⟨n.get j, ?_, by simp [hp]⟩
  have hl : j < n.cs.length := by rw [h.len]; exact hj
  rw [Nd.get, List.getD_eq_getElem?_getD, List.getElem?_eq_getElem hl]
  exact List.getElem_mem hl

theorem load28 {w : World} {g : Nat} {n : Nd} (h : n.Ok) (hg : w.heap[g]? = some (.cells (ndA n) 30 (0, 0))) : (loadVar 28 ⟨g, 1, none⟩).run Try.prog w = .ok (.agg (csA n)) w := by
  have := loadVar_at (P := Try.prog) w g 1 30 28 (ndA n) (0, 0) _ 84 hg Try.underlying28 rfl info28s (by rw [ndA_size h]; omega)
  rw [this, nd_arr h]

set_option maxHeartbeats 2000000 in
theorem may_any (n : Nd) (w : World) (h : n.Ok) :
    Calls Try.prog 15 #[.agg (ndA n)] w fun e w' => e = .returned (.bool (mayN n)) ∧ Below w.heap.size w w' := by
  have hg : (w.alloc (.cells (ndA n) 30)).heap[w.heap.size]? = some (.cells (ndA n) 30 (0, 0)) := heap_alloc_new w _
  have HL := Lib.hid (load28 h hg)
  have HG := Lib.hid hg
  have HB : Hid (Only (fun _ => False) w (w.alloc (.cells (ndA n) 30))) := (Only.refl _ w).alloc _
  have HLF := Lib.hid (nd_leaf n)
  have HOK := Lib.hid h
  have HIX := Lib.hid (fun i hi W => index28 h i hi W)
  have HMT := Lib.hid (fun hp => all_of h (mayC n.leaf) hp)
  have HMF := Lib.hid (fun j hj hp => all_not h (mayC n.leaf) j hj hp)
  unfold mayN
  clear hg h
  generalize ndA n = A at *
  generalize csA n = C at *
  go_enter Try.func15, Try.ntmps15
  go_wp2_with (refine wpList_load_at rfl 28 _ rfl _ rfl _ HL.out ?_)
  go_loopw [7] (fun i wr => ∃ k : Nat, k ≤ 4 ∧ i = .int .i64 k ∧ Hid (wr.heap[w.heap.size]? = some (.cells A 30 (0, 0))) ∧ Hid (Only (fun _ => False) w wr) ∧ Hid (∀ j, j < k → mayC n.leaf (n.get j) = true)) (fun i _ => 4 - (intOf i).toNat)
  case atStart => exact ⟨0, by omega, rfl, HG.out, HB.out, fun j hj => by omega⟩
  case round =>
    obtain ⟨k, hk, rfl, hg, ho, hm⟩ := hrel
    by_cases hlt : k < 4
    · have HX := Lib.hid (HIX.out k hlt wr)
      obtain ⟨W2, hst, hw2, o2, hs2⟩ := fresh_at wr 27 21 (chA chZ) (chA (n.get k)) info27s rfl (chA_size (HOK.out.get_ok k)) (chA_one _)
      rw [chZ_is] at hst
      have HST := Lib.hid hst
      have HLC := Lib.hid (load27 (chA_size (HOK.out.get_ok k)) hw2)
      have g2 := o2.row hg.out (fun x => x)
      have c0 := (cell_of_row _ _ 0 _ _ _ g2).trans HLF.out
      have G2 := Lib.hid g2
      have O2 := Lib.hid (ho.out.trans o2)
      clear hst hw2 o2 hs2 g2
      have hcall := mayc_any (n.get k) n.leaf W2 (HOK.out.get_ok k)
      cases hb : mayC n.leaf (n.get k)
      · rw [hb] at hcall
        have HC := Lib.hid hcall
        have HBF := Lib.hid (HMF.out k hlt hb)
        clear hcall hb
        go_wp2_with (first | (refine wpList_index_at rfl 28 _ _ rfl _ _ rfl rfl _ HX.out ?_) | (refine wpList_store_at rfl 27 _ _ rfl _ rfl _ rfl HST.out ?_) | (refine wpList_load_at rfl 27 _ rfl _ rfl _ HLC.out ?_))
        refine HC.out.mono ?_
        rintro e w3 ⟨rfl, h3⟩
        go_wp2_with fail
        go_ret
        exact ⟨by rw [HBF.out]; rfl, (O2.out.trans (Only.of_below h3)).below0⟩
      · rw [hb] at hcall
        have HC := Lib.hid hcall
        have HB2 := Lib.hid hb
        clear hcall hb
        go_wp2_with (first | (refine wpList_index_at rfl 28 _ _ rfl _ _ rfl rfl _ HX.out ?_) | (refine wpList_store_at rfl 27 _ _ rfl _ rfl _ rfl HST.out ?_) | (refine wpList_load_at rfl 27 _ rfl _ rfl _ HLC.out ?_))
        refine HC.out.mono ?_
        rintro e w3 ⟨rfl, h3⟩
        go_wp2_with fail
        go_roundw
        case rel => exact ⟨k + 1, by omega, by go_num, (Only.of_below (S := fun _ => False) h3).row G2.out (fun x => x), O2.out.trans (Only.of_below h3), fun j hj => by
          by_cases hjk : j = k
          · subst hjk; exact HB2.out
          · exact hm.out j (by omega)⟩
        case measure => simp [intOf]; omega
    · obtain rfl : k = 4 := by omega
      have hall := Lib.hid (HMT.out hm.out)
      go_wp2_with fail
      go_ret
      exact ⟨by rw [hall.out]; rfl, ho.out.below0⟩

set_option maxHeartbeats 2000000 in
theorem empty_any (n : Nd) (w : World) (h : n.Ok) :
    Calls Try.prog 18 #[.agg (ndA n)] w fun e w' => e = .returned (.bool (emptyN n)) ∧ Below w.heap.size w w' := by
  have hg : (w.alloc (.cells (ndA n) 30)).heap[w.heap.size]? = some (.cells (ndA n) 30 (0, 0)) := heap_alloc_new w _
  have HL := Lib.hid (load28 h hg)
  have HG := Lib.hid hg
  have HB : Hid (Only (fun _ => False) w (w.alloc (.cells (ndA n) 30))) := (Only.refl _ w).alloc _
  have HOK := Lib.hid h
  have HIX := Lib.hid (fun i hi W => index28 h i hi W)
  have HMT := Lib.hid (fun hp => all_of h (fun c => !c.has) hp)
  have HMF := Lib.hid (fun j hj hp => all_not h (fun c => !c.has) j hj hp)
  unfold emptyN
  clear hg h
  generalize ndA n = A at *
  generalize csA n = C at *
  go_enter Try.func18, Try.ntmps18
  go_wp2_with (refine wpList_load_at rfl 28 _ rfl _ rfl _ HL.out ?_)
  go_loopw [7] (fun i wr => ∃ k : Nat, k ≤ 4 ∧ i = .int .i64 k ∧ Hid (wr.heap[w.heap.size]? = some (.cells A 30 (0, 0))) ∧ Hid (Only (fun _ => False) w wr) ∧ Hid (∀ j, j < k → (!(n.get j).has) = true)) (fun i _ => 4 - (intOf i).toNat)
  case atStart => exact ⟨0, by omega, rfl, HG.out, HB.out, fun j hj => by omega⟩
  case round =>
    obtain ⟨k, hk, rfl, hg, ho, hm⟩ := hrel
    by_cases hlt : k < 4
    · have HX := Lib.hid (HIX.out k hlt wr)
      obtain ⟨W2, hst, hw2, o2, hs2⟩ := fresh_at wr 27 21 (chA chZ) (chA (n.get k)) info27s rfl (chA_size (HOK.out.get_ok k)) (chA_one _)
      rw [chZ_is] at hst
      have HST := Lib.hid hst
      have c0 := (cell_of_row _ _ 0 _ _ _ hw2).trans (ch_has _)
      have G2 := Lib.hid (o2.row hg.out (fun x => x))
      have O2 := Lib.hid (ho.out.trans o2)
      clear hst hw2 o2 hs2
      cases hb : (n.get k).has
      · rw [hb] at c0
        have HB2 := Lib.hid hb
        clear hb
        go_wp2_with (first | (refine wpList_index_at rfl 28 _ _ rfl _ _ rfl rfl _ HX.out ?_) | (refine wpList_store_at rfl 27 _ _ rfl _ rfl _ rfl HST.out ?_))
        go_roundw
        case rel => exact ⟨k + 1, by omega, by go_num, G2.out, O2.out, fun j hj => by
          by_cases hjk : j = k
          · subst hjk; rw [HB2.out]; rfl
          · exact hm.out j (by omega)⟩
        case measure => simp [intOf]; omega
      · rw [hb] at c0
        have HBF := Lib.hid (HMF.out k hlt (by rw [hb]; rfl))
        clear hb
        go_wp2_with (first | (refine wpList_index_at rfl 28 _ _ rfl _ _ rfl rfl _ HX.out ?_) | (refine wpList_store_at rfl 27 _ _ rfl _ rfl _ rfl HST.out ?_))
        go_ret
        exact ⟨by rw [HBF.out]; rfl, O2.out.below0⟩
    · obtain rfl : k = 4 := by omega
      have hall := Lib.hid (HMT.out hm.out)
      go_wp2_with fail
      go_ret
      exact ⟨by rw [hall.out]; rfl, ho.out.below0⟩
end Go.Proofs.Ytbmckmlekhkpeaa
