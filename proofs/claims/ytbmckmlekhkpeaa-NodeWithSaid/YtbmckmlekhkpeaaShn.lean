/-
  shown: a node is bytes, and back.
-/
import Derived.Test.YtbmckmlekhkpeaaEnc
import Derived.Test.YtbmckmlekhkpeaaDec
set_option linter.unusedVariables false
namespace Go.Proofs.Ytbmckmlekhkpeaa
open Go.RowKit

theorem encode_any (n : Nd) (w : World) (h : n.Ok) : Calls Try.prog 14 #[.agg (ndA n)] w fun e w' => e = .returned (encV n) ∧ Below w.heap.size w w' := by
  unfold encV encS encE
  cases hm : mayN n
  · exact enc_bad n w h hm
  · exact enc_ok n w h hm

def k7 : List UInt8 := [7,0,0,0,0,0,0,0,0,0,0,0,0,0,0,0]
def c7 : Ch := ⟨true, 5, 6, k7, 8, 9⟩
def n6 : Nd := ⟨true, [chZ, chZ, chZ, chZ]⟩
def n7 : Nd := ⟨true, [chZ, chZ, c7, chZ]⟩
theorem c7_ok : c7.Ok := ⟨rfl, by decide, by decide, by decide, by decide⟩
theorem n6_ok : n6.Ok := ⟨rfl, by intro c hc; simp [n6] at hc; subst hc; exact chZ_ok⟩
theorem n7_ok : n7.Ok := ⟨rfl, by intro c hc; simp [n7] at hc; rcases hc with rfl | rfl | rfl <;> first | exact chZ_ok | exact c7_ok⟩
theorem n7_may : mayN n7 = true := by kernel_rfl
theorem n7_enc : encV n7 = .tuple #[.string ⟨(encN n7).toArray⟩, .int .i64 0] := by rw [encV, encS, encE, if_pos n7_may, if_pos n7_may]
theorem n7_size : (⟨(encN n7).toArray⟩ : ByteArray).size = 39 := by kernel_rfl
theorem n7_dec : rdNd ⟨(encN n7).toArray⟩ = .ok n7 := by kernel_rfl
theorem build30t (w : World) : (Instr.build 30 #[(0, .bool true)]).run Try.prog w = .ok (.agg (ndA n6)) w := run_build w 30 _ _ (by kernel_rfl)
theorem build24t (w : World) : (Instr.build 24 #[(0, .int .u8 7)]).run Try.prog w = .ok (.agg (kyC k7)) w := run_build w 24 _ _ (by kernel_rfl)
theorem build27t (w : World) : (Instr.build 27 #[(0, .bool true), (1, .int .i64 5), (2, .int .i64 6), (3, .agg (kyC k7)), (4, .int .u64 8), (5, .int .u64 9)]).run Try.prog w = .ok (.agg (chA c7)) w := run_build w 27 _ _ (by kernel_rfl)

set_option maxHeartbeats 2000000 in
theorem shown_any (w : World) : Calls Try.prog 10 #[] w fun e w' => e = .returned (.bool true) ∧ Below w.heap.size w w' := by
  have hz30 : ∀ W, (zeroValue 30).run Try.prog W = .ok (.agg (ndA ndZ)) W := fun _ => by kernel_rfl
  obtain ⟨W1, hst1, g1, o1, s1⟩ := fresh_at w 30 85 (ndA ndZ) (ndA n6) info30s (ndA_size ndZ_ok) (ndA_size n6_ok) (ndA_one _)
  obtain ⟨W2, hst2, g2, o2, s2⟩ := put_at W1 (o := 1 + 2 * 21) (B := chA c7) g1 info27s (chA_size c7_ok) (by rw [ndA_size n6_ok]; omega) (chA_one c7)
  rw [nd_put n6_ok (by omega) c7_ok, show n6.put 2 c7 = n7 from rfl] at g2
  have HST1 := Lib.hid hst1
  have HST2 := Lib.hid hst2
  have HL := Lib.hid (load30 (ndA_size n7_ok) g2)
  have he := encode_any n7 W2 n7_ok
  rw [n7_enc] at he
  have HE := Lib.hid he
  have HD := Lib.hid (fun W => decode_any ⟨(encN n7).toArray⟩ W (by rw [n7_size]; omega))
  rw [n7_dec] at HD
  have hsz := n7_size
  have O2 : Hid (Only (fun _ => False) w W2) := o1.fresh o2 (by intro k hk; omega)
  have G2 := Lib.hid g2
  have HQ := Lib.hid (fun W => nd_eq30 n7_ok n7_ok W)
  rw [show n7.eqv n7 = true from by kernel_rfl] at HQ
  have HB1 := Lib.hid build30t
  have HB2 := Lib.hid build24t
  have HB3 := Lib.hid build27t
  have HF := Lib.hid (fun W => fresh_at W 30 85 (ndA ndZ) (ndA n7) info30s (ndA_size ndZ_ok) (ndA_size n7_ok) (ndA_one _))
  have H85 := Lib.hid (ndA_size n7_ok)
  unfold dcV at HD
  simp only at HD
  clear hst1 g1 o1 s1 hst2 g2 o2 s2 he
  generalize ndA ndZ = Z at *
  generalize ndA n6 = A6 at *
  generalize ndA n7 = A7 at *
  generalize chA c7 = C7 at *
  generalize kyC k7 = K7 at *
  generalize (⟨(encN n7).toArray⟩ : ByteArray) = S at *
  go_enter Try.func10, Try.ntmps10
  go_wp2_with (first | (refine wpList_build_at rfl 30 _ rfl [(0, .bool true)] rfl _ (HB1.out _) ?_) | (refine wpList_build_at rfl 24 _ rfl [(0, .int .u8 7)] rfl _ (HB2.out _) ?_) | (refine wpList_build_at rfl 27 _ rfl [(0, .bool true), (1, .int .i64 5), (2, .int .i64 6), (3, .agg K7), (4, .int .u64 8), (5, .int .u64 9)] rfl _ (HB3.out _) ?_) | (refine wpList_store_at rfl 30 _ _ rfl _ rfl _ rfl HST1.out ?_) | (refine wpList_store_at rfl 27 _ _ rfl _ rfl _ rfl HST2.out ?_) | (refine wpList_load_at rfl 30 _ rfl _ rfl _ HL.out ?_))
  refine HE.out.mono ?_
  rintro e w3 ⟨rfl, h3⟩
  have O3 := Lib.hid (O2.out.trans (Only.of_below h3))
  have G3 := Lib.hid ((Only.of_below (S := fun _ => False) h3).row G2.out (fun x => x))
  clear h3
  go_wp2_with fail
  refine (HD.out _).mono ?_
  rintro e w4 ⟨rfl, h4⟩
  have G4 := (Only.of_below (S := fun _ => False) h4).row G3.out (fun x => x)
  obtain ⟨W5, hst5, g5, o5, s5⟩ := HF.out w4
  have HST5 := Lib.hid hst5
  have HL5 := Lib.hid (load30 H85.out g5)
  have HL6 := Lib.hid (load30 H85.out (o5.row G4 (fun x => x)))
  have HQ5 := Lib.hid (HQ.out W5)
  have O5 := Lib.hid ((O3.out.trans (Only.of_below h4)).trans o5)
  clear h4 G4 hst5 g5 o5 s5
  go_wp2_with (first | (refine wpList_store_at rfl 30 _ _ rfl _ rfl _ rfl HST5.out ?_) | (refine wpList_load_w (by rfl) 30 _ rfl _ rfl _ HL5.out ?_) | (refine wpList_load_w (by rfl) 30 _ rfl _ rfl _ HL6.out ?_) | (refine wpList_eql_w (by rfl) 30 _ _ _ _ _ _ rfl rfl rfl (by kernel_rfl) HQ5.out ?_))
  go_ret
  exact ⟨rfl, O5.out.below0⟩
end Go.Proofs.Ytbmckmlekhkpeaa
