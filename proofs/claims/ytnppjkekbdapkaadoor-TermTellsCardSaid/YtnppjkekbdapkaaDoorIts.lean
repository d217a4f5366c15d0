/-
  The reference: its nodes, right, May.
-/
import Derived.Test.YtnppjkekbdapkaaDoorLst
set_option linter.unusedVariables false
namespace Go.Proofs.YtnppjkekbdapkaaDoor
open Go.RowKit

theorem NL.load55 {w : World} {v : Value} {l : List Nd} (h : NL w v l) {i : Nat} (hi : i < l.length) : ∃ b o cap, v = .slice (some ⟨b, o, none⟩) l.length cap ∧ l.length ≤ cap ∧ (loadVar 53 ⟨b, o + i * 3, none⟩).run Tryd.prog w = .ok (.agg (ndA l[i])) w := by
  obtain ⟨a, cap, rfl, h⟩ := h
  obtain ⟨b, o, rfl, h1, h2⟩ := h.at (by decide) (i := i) (by simpa using hi)
  have hr : (l.map ndL)[i]? = some (ndL l[i]) := by simp [hi]
  exact ⟨b, o, cap, rfl, h2, h.load hr 53 _ Tryd.underlying53 rfl (by kernel_rfl)⟩
/-- The call's own slice of the reference's nodes. -/
def RL (w : World) (base : Nat) (v : Value) (l : List Nd) : Prop := w.ownsRow base 53 3 v l.length (flat l)
theorem RL.keep {w w' : World} {base : Nat} {v : Value} {l : List Nd} (h : RL w base v l) (o : Only (fun _ => False) w w') : RL w' base v l := by
  obtain ⟨h1, h | ⟨g, cap, cur, rfl, hg, hb, rest⟩⟩ := h
  · exact ⟨h1, .inl h⟩
  · exact ⟨h1, .inr ⟨g, cap, cur, rfl, hg, keepRow o hb (fun x => x), rest⟩⟩
theorem RL.base_le {w : World} {base : Nat} {v : Value} {l : List Nd} (h : RL w base v l) {k : Nat} (hk : v.ownBlock = some k) : base ≤ k := by
  obtain ⟨_, ⟨rfl, _⟩ | ⟨g, cap, cur, rfl, hg, _⟩⟩ := h
  · cases hk
  · cases hk
    exact hg
theorem RL.nl {w : World} {base : Nat} {v : Value} {l : List Nd} (h : RL w base v l) : NL w v l := by
  obtain ⟨hl, ⟨rfl, h0⟩ | ⟨g, cap, cur, rfl, hg, hb, h1, h2, h3, h4⟩⟩ := h
  · obtain rfl : l = [] := List.eq_nil_of_length_eq_zero h0
    exact ⟨none, 0, rfl, .inl ⟨rfl, rfl, rfl, rfl⟩⟩
  · refine NL.of_row hb h1 h2 fun i u hu => ?_
    rw [← h4, List.getElem?_take] at hu
    split at hu
    · simpa using hu
    · cases hu
theorem info55 : (Tryd.prog.info? 53).map (fun i => (i.zero, i.size, i.bytes)) = some (some (.agg #[.int .i64 0, .int .i64 0, .int .i64 0]), 3, 24) := by kernel_rfl
theorem rbuild_0 (w : World) : (Instr.buildSlice 35 0 #[]).run Tryd.prog w = .ok (.slice (some ⟨w.heap.size, 0, none⟩) 0 0) (w.alloc (.cells #[] 53)) := by
  obtain ⟨ie, hie, hz, hs, hb⟩ := info_parts info55
  simp [Instr.buildSlice, run_underlying (P := Tryd.prog) Tryd.underlying35, sizeOf, typeInfo, hie, Instr.fill, newRow]
  congr 2
  exact Array.eq_empty_of_size_eq_zero (by simp)
theorem rbuild_1 (x : Nd) (w : World) : (Instr.buildSlice 35 1 #[(0, .agg (ndA x))]).run Tryd.prog w = .ok (.slice (some ⟨w.heap.size, 0, none⟩) 1 1) (w.alloc (.cells (flat [x]).toArray 53)) := by
  obtain ⟨ie, hie, hz, hs, hb⟩ := info_parts info55
  refine run_buildSlice w 35 53 1 _ _ ie _ Tryd.underlying35 hie hz (by omega) (by omega) ?_
  rw [hs]
  kernel_rfl
theorem RL.new (w : World) : RL (w.alloc (.cells #[] 53)) w.heap.size (.slice (some ⟨w.heap.size, 0, none⟩) 0 0) [] :=
  World.ownsRow_lit w #[] 0 (Nat.le_refl _) (Nat.zero_le _) rfl
theorem snoc_r {w : World} {base : Nat} {v : Value} {l : List Nd} (h : RL w base v l) (hb : base ≤ w.heap.size) (x : Nd) (hn : l.length ≤ 1000) :
    ∃ v' w', (∀ ty, (Builtin.append_ #[35, 35] ty #[v, .slice (some ⟨w.heap.size, 0, none⟩) 1 1]).run Tryd.prog (w.alloc (.cells (flat [x]).toArray 53)) = .ok v' w') ∧ RL w' base v' (l ++ [x]) ∧ Only (fun k => base ≤ k) w w' := by
  obtain ⟨ie, hie, hz, hs, hby⟩ := info_parts info55
  have o1 : Only (fun _ => False) w (w.alloc (.cells (flat [x]).toArray 53)) := (Only.refl _ _).alloc _
  have h1 := h.keep o1
  have hrun := fun ty => run_append_own_at (P := Tryd.prog) (w.alloc (.cells (flat [x]).toArray 53)) base 35 ty 53 ie (.agg #[.int .i64 0, .int .i64 0, .int .i64 0]) 3 24 Tryd.underlying35 hie hz hs hby rfl (by decide) v l.length (flat l) h1 ⟨w.heap.size, 0, none⟩ 1 1 (flat [x]) (flat_len [x])
    (by intro j u hu; have := World.news_of_block (heap_alloc_new w (.cells (flat [x]).toArray 53)) j u (by simpa using hu); exact this) (by intro u hu; obtain ⟨x, hx, hu⟩ := List.mem_flatMap.1 hu; simp [ndL] at hu; rcases hu with rfl | rfl | rfl <;> rfl) (by unfold maxLen; omega) (by omega) (Nat.le_trans hb o1.size)
  obtain ⟨v', w', hr, ho, hg, _, hat⟩ := hrun 35
  refine ⟨v', w', fun ty => hr, ?_, (o1.mono (fun _ x => x.elim)).trans ((grown_only hg).mono (fun k hk => h1.base_le hk))⟩
  show w'.ownsRow base 53 3 v' (l ++ [x]).length (flat (l ++ [x]))
  rw [List.length_append, flat_append]
  exact ho
set_option maxHeartbeats 4000000 in
theorem its_any (l : List Nd) (v : Value) (w : World) (hl : NL w v l) (hll : l.length ≤ 1000) : Calls Tryd.prog 13 #[v] w fun e w' => ∃ v', e = .returned v' ∧ NL w' v' l ∧ Only (fun _ => False) w w' := by
  have HL := Lib.hid hl
  obtain ⟨ad, cap, rfl, hrow⟩ := hl
  clear hrow
  have hb0 := rbuild_0 w
  have HR0 := Lib.hid (RL.new w)
  have HV0 : Hid (Only (fun _ => False) w (w.alloc (.cells #[] 53))) := (Only.refl _ _).alloc _
  generalize w.alloc (.cells #[] 53) = V0 at *
  have HB0 := Lib.hid hb0
  clear hb0
  go_enter Tryd.func13, Tryd.ntmps13
  go_wp2_with ((with_reducible refine wpList_bs_g ?_ 35 0 #[] ?_ [] ?_ _ HB0.out ?_); rfl; rfl; rfl)
  go_loopg [3, 4] l.length (fun gg rv i wr => ∃ k : Nat, k ≤ l.length ∧ gg = l.length - k ∧ i = .int .i64 k ∧ Hid (RL wr w.heap.size rv (l.take k)) ∧ Hid (Only (fun _ => False) w wr))
  case atStart => exact ⟨0, by omega, by omega, rfl, HR0.out, HV0.out⟩
  case round =>
    clear HR0 HV0 HB0
    revert wr
    intro wa hrel
    obtain ⟨k, hk, hgk, rfl, hS, hO⟩ := hrel
    by_cases hlt : k < l.length
    · have hlt' : (k : Int) < (l.length : Int) := by omega
      obtain ⟨gb, go, gc, he, hgc, _, _, _, _, hld⟩ := (HL.out.keep hO.out).at hlt
      cases he
      have HLD := Lib.hid hld
      have htk : l.take (k + 1) = l.take k ++ [l[k]] := by rw [List.take_add_one, List.getElem?_eq_getElem hlt]; rfl
      have HTK := Lib.hid htk
      obtain ⟨v2, V2, hr2, hf2, ho2⟩ := snoc_r hS.out hO.out.size l[k] (by rw [List.length_take]; omega)
      have HF2 : Hid (RL V2 w.heap.size v2 (l.take (k + 1))) := by rw [htk]; exact hf2
      have HO2 := Lib.hid (fresh_only hO.out ho2 (fun q hq => hq))
      have HR2 := Lib.hid hr2
      have HB2 := Lib.hid (rbuild_1 l[k] wa)
      clear hld htk hr2 hf2 ho2
      generalize l[k] = x at *
      obtain ⟨op, a, b⟩ := x
      go_wp2_with (first | ((with_reducible refine wpList_load_at ?_ 27 (.tmp 15) ?_ _ ?_ _ HLD.out ?_); rfl; rfl; rfl) | (refine wpList_bs_g rfl 35 1 #[(0, .tmp 16)] (by with_reducible rfl) [(0, .agg (ndA ⟨op, a, b⟩))] rfl _ HB2.out ?_) | (at_builtin; refine wpList_app_g rfl (.tmp 12) (.tmp 17) 35 (by with_reducible rfl) _ _ _ rfl rfl HR2.out ?_))
      go_roundg (l.length - (k + 1))
      case measure => omega
      case rel => exact ⟨k + 1, by omega, by omega, by go_num, HF2.out, HO2.out⟩
    · obtain rfl : k = l.length := by omega
      have HS := hS
      rw [List.take_length] at HS
      clear hS
      go_wp2_with fail
      go_ret
      exact ⟨_, rfl, HS.out.nl, hO.out⟩
end Go.Proofs.YtnppjkekbdapkaaDoor
