/-
  NodeOnce: the walk.
-/
import Derived.Test.YtbmckmlekhkpeaaShn
import Derived.Test.YtbmckmlekhkpeaaPla
import Derived.Test.YtbmckmlekhkpeaaOpn
set_option linter.unusedVariables false
namespace Go.Proofs.Ytbmckmlekhkpeaa
open Go.RowKit

theorem enc_inj {a b : Nd} (ha : a.Ok) (hb : b.Ok) (ma : mayN a = true) (mb : mayN b = true) : (SB (encN a)).toList = (SB (encN b)).toList ↔ a = b := by
  constructor
  · intro h
    have e : SB (encN a) = SB (encN b) := by
      rw [ByteArray.toList_eq, ByteArray.toList_eq] at h
      rw [← sb_data (SB (encN a)), ← sb_data (SB (encN b)), h]
    have h1 := rdNd_enc a ha ma
    rw [e, rdNd_enc b hb mb] at h1
    injection h1 with h1
    exact h1.symm
  · rintro rfl
    rfl

def O2 (w : World) (a b : Nd) : World := (w.alloc (.cells (ndA a) 30)).alloc (.cells (ndA b) 30)
theorem o2_a (w : World) (a b : Nd) : (O2 w a b).heap[w.heap.size]? = some (.cells (ndA a) 30 (0, 0)) :=
  ((Only.refl (fun _ => False) _).alloc _).row (heap_alloc_new w _) (fun x => x)
theorem o2_b (w : World) (a b : Nd) : (O2 w a b).heap[w.heap.size + 1]? = some (.cells (ndA b) 30 (0, 0)) := by
  have h := heap_alloc_new (w.alloc (.cells (ndA a) 30)) (.cells (ndA b) 30)
  rw [show (w.alloc (.cells (ndA a) 30)).heap.size = w.heap.size + 1 by simp] at h
  exact h
theorem o2_only (w : World) (a b : Nd) : Only (fun _ => False) w (O2 w a b) := ((Only.refl _ w).alloc _).alloc _

set_option maxHeartbeats 4000000 in
theorem nodeOnce_walk (w : World) (a : Nd) (ha : a.Ok) (b : Nd) (hb : b.Ok) :
    Calls Try.prog 5 #[.agg (ndA a), .agg (ndA b)] w fun e w' => e = .returned (.bool true) ∧ Below w.heap.size w w' := by
  have HLA := Lib.hid (load30 (ndA_size ha) (o2_a w a b))
  have HGA := Lib.hid (o2_a w a b)
  have HGB := Lib.hid (o2_b w a b)
  have HO := Lib.hid (o2_only w a b)
  have HCA := Lib.hid (encode_any a (O2 w a b) ha)
  have HCB := Lib.hid (fun W => encode_any b W hb)
  have HSA := Lib.hid (ndA_size ha)
  have HSB := Lib.hid (ndA_size hb)
  have HMA := Lib.hid (fun W => may_any a W ha)
  have HMB := Lib.hid (fun W => may_any b W hb)
  have HQ := Lib.hid (fun W => nd_eq30 ha hb W)
  have HIN := Lib.hid (fun ma mb => enc_inj ha hb ma mb)
  have HEV := Lib.hid (Nd.eqv_iff ha hb)
  clear ha hb
  unfold O2 at *
  unfold encV encS encE at HCA HCB
  generalize ndA a = A at *
  generalize ndA b = B at *
  cases ma : mayN a with
  | false =>
    rw [ma] at HCA HMA
    simp only [Bool.false_eq_true, if_false] at HCA
    cases mb : mayN b with
    | false =>
      rw [mb] at HCB HMB
      simp only [Bool.false_eq_true, if_false] at HCB
      clear HIN HEV HQ ma mb
      go_enter Try.func5, Try.ntmps5
      go_wp2_with (((with_reducible refine wpList_load_at ?_ 30 (.tmp 2) ?_ _ ?_ _ HLA.out ?_); rfl; rfl; rfl))
      refine HCA.out.mono ?_
      rintro e w1 ⟨rfl, h1⟩
      have O1 := Lib.hid (HO.out.trans (Only.of_below (S := fun _ => False) h1))
      have GA := Lib.hid ((Only.of_below (S := fun _ => False) h1).row HGA.out (fun x => x))
      have GB := Lib.hid ((Only.of_below (S := fun _ => False) h1).row HGB.out (fun x => x))
      have HLB := Lib.hid (load30 HSB.out GB.out)
      clear h1
      go_wp2_with (((with_reducible refine wpList_load_at ?_ 30 (.tmp 3) ?_ _ ?_ _ HLB.out ?_); rfl; rfl; rfl))
      refine (HCB.out _).mono ?_
      rintro e w2 ⟨rfl, h2⟩
      have O2' := Lib.hid (O1.out.trans (Only.of_below (S := fun _ => False) h2))
      have GA2 := Lib.hid ((Only.of_below (S := fun _ => False) h2).row GA.out (fun x => x))
      have GB2 := Lib.hid ((Only.of_below (S := fun _ => False) h2).row GB.out (fun x => x))
      have HLA2 := Lib.hid (load30 HSA.out GA2.out)
      clear h2
      go_wp2_with (((with_reducible refine wpList_load_w ?_ 30 (.tmp 2) ?_ _ ?_ _ HLA2.out ?_); rfl; rfl; rfl))
      refine (HMA.out _).mono ?_
      rintro e w3 ⟨rfl, h3⟩
      have O3 := Lib.hid (O2'.out.trans (Only.of_below (S := fun _ => False) h3))
      have GB3 := Lib.hid ((Only.of_below (S := fun _ => False) h3).row GB2.out (fun x => x))
      have HLB3 := Lib.hid (load30 HSB.out GB3.out)
      clear h3
      go_wp2_with (((with_reducible refine wpList_load_w ?_ 30 (.tmp 3) ?_ _ ?_ _ HLB3.out ?_); rfl; rfl; rfl))
      refine (HMB.out _).mono ?_
      rintro e w4 ⟨rfl, h4⟩
      have O4 := Lib.hid (O3.out.trans (Only.of_below (S := fun _ => False) h4))
      clear h4
      go_wp2_with fail
      refine (shown_any _).mono ?_
      rintro e w5 ⟨rfl, h5⟩
      have O5 := Lib.hid (O4.out.trans (Only.of_below (S := fun _ => False) h5))
      clear h5
      go_wp2_with fail
      go_ret
      exact ⟨rfl, O5.out.below0⟩
    | true =>
      rw [mb] at HCB
      simp only [if_true] at HCB
      clear HIN HEV HQ ma mb HMB
      generalize (⟨(encN b).toArray⟩ : ByteArray) = SS at *
      go_enter Try.func5, Try.ntmps5
      go_wp2_with (((with_reducible refine wpList_load_at ?_ 30 (.tmp 2) ?_ _ ?_ _ HLA.out ?_); rfl; rfl; rfl))
      refine HCA.out.mono ?_
      rintro e w1 ⟨rfl, h1⟩
      have O1 := Lib.hid (HO.out.trans (Only.of_below (S := fun _ => False) h1))
      have GA := Lib.hid ((Only.of_below (S := fun _ => False) h1).row HGA.out (fun x => x))
      have GB := Lib.hid ((Only.of_below (S := fun _ => False) h1).row HGB.out (fun x => x))
      have HLB := Lib.hid (load30 HSB.out GB.out)
      clear h1
      go_wp2_with (((with_reducible refine wpList_load_at ?_ 30 (.tmp 3) ?_ _ ?_ _ HLB.out ?_); rfl; rfl; rfl))
      refine (HCB.out _).mono ?_
      rintro e w2 ⟨rfl, h2⟩
      have O2' := Lib.hid (O1.out.trans (Only.of_below (S := fun _ => False) h2))
      have GA2 := Lib.hid ((Only.of_below (S := fun _ => False) h2).row GA.out (fun x => x))
      have HLA2 := Lib.hid (load30 HSA.out GA2.out)
      clear h2
      go_wp2_with (((with_reducible refine wpList_load_w ?_ 30 (.tmp 2) ?_ _ ?_ _ HLA2.out ?_); rfl; rfl; rfl))
      refine (HMA.out _).mono ?_
      rintro e w3 ⟨rfl, h3⟩
      have O3 := Lib.hid (O2'.out.trans (Only.of_below (S := fun _ => False) h3))
      clear h3
      go_wp2_with fail
      refine (shown_any _).mono ?_
      rintro e w5 ⟨rfl, h5⟩
      have O5 := Lib.hid (O3.out.trans (Only.of_below (S := fun _ => False) h5))
      clear h5
      go_wp2_with fail
      go_ret
      exact ⟨rfl, O5.out.below0⟩
  | true =>
    rw [ma] at HCA
    simp only [if_true] at HCA
    cases mb : mayN b with
    | false =>
      rw [mb] at HCB HMB
      simp only [Bool.false_eq_true, if_false] at HCB
      clear HIN HEV HQ ma mb HMA
      generalize (⟨(encN a).toArray⟩ : ByteArray) = SS at *
      go_enter Try.func5, Try.ntmps5
      go_wp2_with (((with_reducible refine wpList_load_at ?_ 30 (.tmp 2) ?_ _ ?_ _ HLA.out ?_); rfl; rfl; rfl))
      refine HCA.out.mono ?_
      rintro e w1 ⟨rfl, h1⟩
      have O1 := Lib.hid (HO.out.trans (Only.of_below (S := fun _ => False) h1))
      have GB := Lib.hid ((Only.of_below (S := fun _ => False) h1).row HGB.out (fun x => x))
      have HLB := Lib.hid (load30 HSB.out GB.out)
      clear h1
      go_wp2_with (((with_reducible refine wpList_load_at ?_ 30 (.tmp 3) ?_ _ ?_ _ HLB.out ?_); rfl; rfl; rfl))
      refine (HCB.out _).mono ?_
      rintro e w2 ⟨rfl, h2⟩
      have O2' := Lib.hid (O1.out.trans (Only.of_below (S := fun _ => False) h2))
      have GB2 := Lib.hid ((Only.of_below (S := fun _ => False) h2).row GB.out (fun x => x))
      have HLB2 := Lib.hid (load30 HSB.out GB2.out)
      clear h2
      go_wp2_with (((with_reducible refine wpList_load_w ?_ 30 (.tmp 3) ?_ _ ?_ _ HLB2.out ?_); rfl; rfl; rfl))
      refine (HMB.out _).mono ?_
      rintro e w3 ⟨rfl, h3⟩
      have O3 := Lib.hid (O2'.out.trans (Only.of_below (S := fun _ => False) h3))
      clear h3
      go_wp2_with fail
      refine (shown_any _).mono ?_
      rintro e w5 ⟨rfl, h5⟩
      have O5 := Lib.hid (O3.out.trans (Only.of_below (S := fun _ => False) h5))
      clear h5
      go_wp2_with fail
      go_ret
      exact ⟨rfl, O5.out.below0⟩
    | true =>
      rw [mb] at HCB
      simp only [if_true] at HCB
      have hin := HIN.out ma mb
      have hsame : ((⟨(encN a).toArray⟩ : ByteArray).toList == (⟨(encN b).toArray⟩ : ByteArray).toList) = a.eqv b := by
        rw [Bool.eq_iff_iff, beq_iff_eq, HEV.out]
        exact hin
      clear HIN HEV ma mb HMA HMB hin
      generalize (⟨(encN a).toArray⟩ : ByteArray) = SA at *
      generalize (⟨(encN b).toArray⟩ : ByteArray) = SS at *
      generalize a.eqv b = q at *
      go_enter Try.func5, Try.ntmps5
      go_wp2_with (((with_reducible refine wpList_load_at ?_ 30 (.tmp 2) ?_ _ ?_ _ HLA.out ?_); rfl; rfl; rfl))
      refine HCA.out.mono ?_
      rintro e w1 ⟨rfl, h1⟩
      have O1 := Lib.hid (HO.out.trans (Only.of_below (S := fun _ => False) h1))
      have GA := Lib.hid ((Only.of_below (S := fun _ => False) h1).row HGA.out (fun x => x))
      have GB := Lib.hid ((Only.of_below (S := fun _ => False) h1).row HGB.out (fun x => x))
      have HLB := Lib.hid (load30 HSB.out GB.out)
      clear h1
      go_wp2_with (((with_reducible refine wpList_load_at ?_ 30 (.tmp 3) ?_ _ ?_ _ HLB.out ?_); rfl; rfl; rfl))
      refine (HCB.out _).mono ?_
      rintro e w2 ⟨rfl, h2⟩
      have O2' := Lib.hid (O1.out.trans (Only.of_below (S := fun _ => False) h2))
      have HLA2 := Lib.hid (load30 HSA.out ((Only.of_below (S := fun _ => False) h2).row GA.out (fun x => x)))
      have HLB2 := Lib.hid (load30 HSB.out ((Only.of_below (S := fun _ => False) h2).row GB.out (fun x => x)))
      have HQ2 := Lib.hid (HQ.out w2)
      clear h2
      go_wp2_with (first | ((with_reducible refine wpList_load_at ?_ 30 (.tmp 2) ?_ _ ?_ _ HLA2.out ?_); rfl; rfl; rfl) | ((with_reducible refine wpList_load_at ?_ 30 (.tmp 3) ?_ _ ?_ _ HLB2.out ?_); rfl; rfl; rfl) | ((with_reducible refine wpList_eql_at ?_ 30 (.tmp 47) (.tmp 48) 30 _ _ _ ?_ ?_ ?_ ?_ HQ2.out ?_); rfl; rfl; rfl; rfl; kernel_rfl))
      refine (shown_any _).mono ?_
      rintro e w5 ⟨rfl, h5⟩
      have O5 := Lib.hid (O2'.out.trans (Only.of_below (S := fun _ => False) h5))
      clear h5
      go_wp2_with fail
      go_ret
      exact ⟨rfl, O5.out.below0⟩
end Go.Proofs.Ytbmckmlekhkpeaa
