/-
  The reference: Knows. (Printed by mkrkn.py.)
-/
import Derived.Test.YtnppjkekbdapkaaRkp
import Derived.Deep.CutBlock
set_option linter.unusedVariables false
namespace Go.Proofs.Ytnppjkekbdapkaa
open Go.RowKit

/-- The call's own slice of bools. -/
def OL (w : World) (base : Nat) (v : Value) (l : List Bool) : Prop := w.ownsRow base 4 1 v l.length (l.map Value.bool)
theorem OL.keep {w w' : World} {base : Nat} {v : Value} {l : List Bool} (h : OL w base v l) (o : Only (fun _ => False) w w') : OL w' base v l := by
  obtain ⟨h1, h | ⟨g, cap, cur, rfl, hg, hb, rest⟩⟩ := h
  · exact ⟨h1, .inl h⟩
  · exact ⟨h1, .inr ⟨g, cap, cur, rfl, hg, keepRow o hb (fun x => x), rest⟩⟩
theorem OL.base_le {w : World} {base : Nat} {v : Value} {l : List Bool} (h : OL w base v l) {k : Nat} (hk : v.ownBlock = some k) : base ≤ k := by
  obtain ⟨_, ⟨rfl, _⟩ | ⟨g, cap, cur, rfl, hg, _⟩⟩ := h
  · cases hk
  · cases hk
    exact hg
theorem OL.bl {w : World} {base : Nat} {v : Value} {l : List Bool} (h : OL w base v l) : BL w v l := by
  obtain ⟨hl, ⟨rfl, h0⟩ | ⟨g, cap, cur, rfl, hg, hb, h1, h2, h3, h4⟩⟩ := h
  · obtain rfl : l = [] := List.eq_nil_of_length_eq_zero h0
    exact ⟨none, 0, rfl, Nat.le_refl _, Nat.zero_le _, fun i u hu => by simp at hu⟩
  · have := VL.of_row (xs := l.map Value.bool) (cap := cap) hb (by simpa using h1) h2 (fun i u hu => by
      rw [← h4, List.getElem?_take] at hu
      split at hu
      · simpa using hu
      · cases hu)
    rw [List.length_map] at this
    exact this
theorem infoB : (Try.prog.info? 4).map (fun i => (i.zero, i.size, i.bytes)) = some (some (.bool false), 1, 1) := by kernel_rfl
theorem bbuild_0 (w : World) : (Instr.buildSlice 25 0 #[]).run Try.prog w = .ok (.slice (some ⟨w.heap.size, 0, none⟩) 0 0) (w.alloc (.cells #[] 4)) := by
  obtain ⟨ie, hie, hz, hs, hb⟩ := info_parts infoB
  simp [Instr.buildSlice, run_underlying (P := Try.prog) Try.underlying25, sizeOf, typeInfo, hie, Instr.fill, newRow]
  congr 2
  exact Array.eq_empty_of_size_eq_zero (by simp)
theorem bbuild_1 (x : Bool) (w : World) : (Instr.buildSlice 25 1 #[(0, .bool x)]).run Try.prog w = .ok (.slice (some ⟨w.heap.size, 0, none⟩) 1 1) (w.alloc (.cells #[.bool x] 4)) := by
  obtain ⟨ie, hie, hz, hs, hb⟩ := info_parts infoB
  refine run_buildSlice w 25 4 1 _ _ ie _ Try.underlying25 hie hz (by omega) (by omega) ?_
  rw [hs]
  kernel_rfl
theorem OL.new (w : World) : OL (w.alloc (.cells #[] 4)) w.heap.size (.slice (some ⟨w.heap.size, 0, none⟩) 0 0) [] :=
  World.ownsRow_lit w #[] 0 (Nat.le_refl _) (Nat.zero_le _) rfl
theorem snoc_b {w : World} {base : Nat} {v : Value} {l : List Bool} (h : OL w base v l) (hb : base ≤ w.heap.size) (x : Bool) (hn : l.length ≤ 1000) :
    ∃ v' w1 w', (Instr.buildSlice 25 1 #[(0, .bool x)]).run Try.prog w = .ok (.slice (some ⟨w.heap.size, 0, none⟩) 1 1) w1 ∧ (∀ ty, (Builtin.append_ #[25, 25] ty #[v, .slice (some ⟨w.heap.size, 0, none⟩) 1 1]).run Try.prog w1 = .ok v' w') ∧ OL w' base v' (l ++ [x]) ∧ Only (fun k => base ≤ k) w w' := by
  obtain ⟨ie, hie, hz, hs, hby⟩ := info_parts infoB
  have o1 : Only (fun _ => False) w (w.alloc (.cells #[.bool x] 4)) := (Only.refl _ _).alloc _
  have h1 := h.keep o1
  have hrun := fun ty => run_append_own_at (P := Try.prog) (w.alloc (.cells #[.bool x] 4)) base 25 ty 4 ie (.bool false) 1 1 Try.underlying25 hie hz hs hby rfl (by decide) v l.length (l.map Value.bool) h1 ⟨w.heap.size, 0, none⟩ 1 1 [.bool x] rfl
    (by intro j u hu; have := World.news_of_block (heap_alloc_new w (.cells #[.bool x] 4)) j u (by simpa using hu); exact this) (by intro u hu; simp at hu; subst hu; rfl) (by unfold maxLen; omega) (by omega) (Nat.le_trans hb o1.size)
  obtain ⟨v', w', hr, ho, hg, _, hat⟩ := hrun 25
  refine ⟨v', _, w', bbuild_1 x w, fun ty => hr, ?_, (o1.mono (fun _ x => x.elim)).trans ((grown_only hg).mono (fun k hk => h1.base_le hk))⟩
  show w'.ownsRow base 4 1 v' (l ++ [x]).length ((l ++ [x]).map Value.bool)
  rw [List.length_append, List.map_append]
  exact ho
def outB (l : List Nd) (f : Nat → Bool) (k : Nat) : List Bool := (List.range k).map fun i => f (cl l i).toNat
theorem outB_next (l : List Nd) (f : Nat → Bool) (k : Nat) : outB l f (k + 1) = outB l f k ++ [f (cl l k).toNat] := by simp [outB, List.range_succ]
theorem outB_knows {l : List Nd} {kn : List Int} (hm : mayB l = true) {f : Nat → Bool} (h1 : ∀ c, Seed l kn c → kf l.length f c) (h2 : ∀ c, kf l.length f c → Der l (Seed l kn) c) (h3 : ∀ c, Step l (kf l.length f) c → kf l.length f c) : knows l kn = outB l f l.length := by
  refine knows_eq hm (by simp [outB]) fun i b hb => ?_
  have hi : i < l.length := by
    have := (List.getElem?_eq_some_iff.1 hb).1
    simpa [outB] using this
  have hc := cl_lt hi
  unfold outB at hb
  rw [List.getElem?_map, List.getElem?_range hi] at hb
  obtain rfl : f (cl l i).toNat = b := by simpa using hb
  constructor
  · intro h
    exact h2 _ ⟨hc.1, hc.2, h⟩
  · intro h
    exact (h.least h1 h3).2.2
/-- Two numbers of classes, as naturals. -/
theorem cl_nat {l : List Nd} {i : Nat} (hi : i < l.length) : ∃ c : Nat, cl l i = (c : Int) ∧ c < l.length := by
  have h := cl_lt hi
  obtain ⟨c, hc⟩ := Int.eq_ofNat_of_zero_le h.1
  exact ⟨c, hc, by omega⟩
section
variable {l : List Nd} {n k : Nat} {x : Nd} {f : Nat → Bool} {cA cB cM : Nat}
theorem kf_nat {c : Nat} (hc : c < n) (hf : f c = true) : kf n f (c : Int) := ⟨by omega, by omega, by rw [Int.toNat_natCast]; exact hf⟩
theorem kf_inv {c : Nat} (h : kf n f (c : Int)) : f c = true := by
  have := h.2.2
  rwa [Int.toNat_natCast] at this
theorem node_shut (hA : cl l x.a.toNat = (cA : Int)) (hB : cl l x.b.toNat = (cB : Int)) (hM : cl l k = (cM : Int)) (lA : cA < n) (lB : cB < n) (lM : cM < n)
    (h1 : f cA = true → f cB = true → f cM = true) (h2 : f cM = true → x.op = 2 → f cA = true ∧ f cB = true) (h3 : f cM = true → x.op = 3 → f cA = true → f cB = true) : ∀ c, At l (kf n f) k x c → kf n f c := by
  rintro c (⟨rfl, a, b⟩ | ⟨a, o, rfl | rfl⟩ | ⟨a, o, b, rfl⟩)
  · rw [hA] at a
    rw [hB] at b
    rw [hM]
    exact kf_nat lM (h1 (kf_inv a) (kf_inv b))
  · rw [hM] at a
    rw [hA]
    exact kf_nat lA (h2 (kf_inv a) o).1
  · rw [hM] at a
    rw [hB]
    exact kf_nat lB (h2 (kf_inv a) o).2
  · rw [hM] at a
    rw [hA] at b
    rw [hB]
    exact kf_nat lB (h3 (kf_inv a) o (kf_inv b))
theorem node_make (hx : l[k]? = some x) (ho : x.op = 2 ∨ x.op = 3) (hA : cl l x.a.toNat = (cA : Int)) (hB : cl l x.b.toNat = (cB : Int)) (hM : cl l k = (cM : Int)) (lA : cA < n) (lB : cB < n) (fA : f cA = true) (fB : f cB = true) : Step l (kf n f) (cM : Int) :=
  ⟨k, x, hx, ho, .inl ⟨hM.symm, by rw [hA]; exact kf_nat lA fA, by rw [hB]; exact kf_nat lB fB⟩⟩
theorem node_fst (hx : l[k]? = some x) (ho : x.op = 2) (hA : cl l x.a.toNat = (cA : Int)) (hM : cl l k = (cM : Int)) (lM : cM < n) (fM : f cM = true) : Step l (kf n f) (cA : Int) :=
  ⟨k, x, hx, .inl ho, .inr (.inl ⟨by rw [hM]; exact kf_nat lM fM, ho, .inl hA.symm⟩)⟩
theorem node_snd (hx : l[k]? = some x) (ho : x.op = 2) (hB : cl l x.b.toNat = (cB : Int)) (hM : cl l k = (cM : Int)) (lM : cM < n) (fM : f cM = true) : Step l (kf n f) (cB : Int) :=
  ⟨k, x, hx, .inl ho, .inr (.inl ⟨by rw [hM]; exact kf_nat lM fM, ho, .inr hB.symm⟩)⟩
theorem node_key (hx : l[k]? = some x) (ho : x.op = 3) (hA : cl l x.a.toNat = (cA : Int)) (hB : cl l x.b.toNat = (cB : Int)) (hM : cl l k = (cM : Int)) (lA : cA < n) (lM : cM < n) (fA : f cA = true) (fM : f cM = true) : Step l (kf n f) (cB : Int) :=
  ⟨k, x, hx, .inr ho, .inr (.inr ⟨by rw [hM]; exact kf_nat lM fM, ho, by rw [hA]; exact kf_nat lA fA, hB.symm⟩)⟩
end
set_option maxHeartbeats 16000000 in
set_option maxRecDepth 100000 in
theorem rknows_any (l : List Nd) (kn : List Int) (v kv : Value) (w : World) (hl : NL w v l) (hkn : IL w kv kn) (hkl : kn.length ≤ 100000) :
    Calls Try.prog 16 #[v, kv] w fun e w' => ∃ bv, e = .returned bv ∧ BL w' bv (knows l kn) ∧ Only (fun _ => False) w w' := by
  have HL := Lib.hid hl
  have HK := Lib.hid hkn
  obtain ⟨ad, cap, rfl, hrow⟩ := hl
  obtain ⟨ka, kcap, rfl, hkc, hkm⟩ := hkn.val
  clear hrow hkn
  have HM := Lib.hid (rmay_any l _ w HL.out)
  cases hm : mayB l
  · have HMB := Lib.hid hm
    rw [hm] at HM
    clear hm
    go_enter Try.func16, Try.ntmps16
    go_wp2_with (go_at_call 30; refine HM.out.mono ?_; rintro e w1 ⟨rfl, h1⟩)
    go_ret
    refine ⟨_, rfl, ?_, h1⟩
    have e : knows l kn = [] := by unfold knows; rw [HMB.out]; rfl
    rw [e]
    exact ⟨none, 0, rfl, Nat.le_refl _, Nat.zero_le _, fun i u hu => by simp at hu⟩
  · have HMB := Lib.hid hm
    have hlen : l.length ≤ 200 := by
      have := hm
      simp [mayB] at this
      exact this.2
    rw [hm] at HM
    clear hm
    go_enter Try.func16, Try.ntmps16
    go_upto_region 4 with (first | (go_at_call 30; refine HM.out.mono ?_; rintro e w1 ⟨rfl, h1⟩; have HCL := Lib.hid (rclasses_any l _ w1 (HL.out.keep h1) HMB.out)) | (go_at_call 31; refine HCL.out.mono ?_; rintro e w2 ⟨cv, rfl, hf2, h2⟩))
    have HO2 := Lib.hid (h1.trans h2)
    have HFC := Lib.hid hf2
    have hfl := firsts_len l
    have HFL := Lib.hid hfl
    clear h1 h2 hf2 HM HCL hfl
    have hmk := madeB l.length w2 (by omega)
    have HBT := Lib.hid (BT.new w2 l.length)
    have HV2 : Hid (Only (fun _ => False) w2 (w2.alloc (.cells (madeCells #[.bool false] l.length) 4))) := (Only.refl _ _).alloc _
    go_wp2_with fail
    generalize w2.alloc (.cells (madeCells #[.bool false] l.length) 4) = V2 at *
    clear hmk
    go_loopg [7] kn.length (fun gg i wr => ∃ (k : Nat) (f : Nat → Bool), k ≤ kn.length ∧ gg = kn.length - k ∧ i = .int .i64 k ∧ Hid (BT wr w2.heap.size l.length f) ∧ Hid (∀ c, kf l.length f c ↔ Seed l (kn.take k) c) ∧ Hid (Only (fun _ => False) w2 wr))
    case atStart => exact ⟨0, _, by omega, by omega, rfl, HBT.out, (fun c => by simp [kf, Seed]), HV2.out⟩
    case round =>
      clear HBT HV2
      revert wr
      intro wa hrel
      obtain ⟨k, f, hk, hgk, rfl, hB, hS, hO⟩ := hrel
      by_cases hlt : k < kn.length
      · have hlt' : (k : Int) < (kn.length : Int) := by omega
        obtain ⟨kb, ko, kc, he, hkc', _, hcx⟩ := (HK.out.keep (HO2.out.trans hO.out)).at hlt
        cases he
        have HX : Hid (kn[k]? = some kn[k]) := List.getElem?_eq_getElem hlt
        generalize kn[k] = x at *
        by_cases hx : 0 ≤ x ∧ x < (l.length : Int)
        · obtain ⟨hx0, hx1⟩ := hx
          obtain ⟨X, rfl⟩ := Int.eq_ofNat_of_zero_le hx0
          have hX : X < l.length := by omega
          obtain ⟨c, hc, hcl⟩ := cl_nat hX
          have hfx := firsts_at hX
          have hXf : X < (firsts l).length := (List.getElem?_eq_some_iff.1 hfx).1
          obtain ⟨gf, fc, cur, rfl, _, _, _, hdrop⟩ := (HFC.out.keep hO.out (fun _ _ x => x)).at hXf
          have q1 := (HFC.out.keep hO.out (fun _ _ x => x)).cell rfl hXf
          rw [List.getD_eq_getElem?_getD, hfx, Option.getD_some, hc] at q1
          have q2 := hB.out.cell hcl
          have q3 := hB.out.froz c
          have hXf' : (X : Int) < ((firsts l).length : Int) := by omega
          have hcl' : (c : Int) < (l.length : Int) := by omega
          have HN : Hid (BT (wa.setCell ⟨w2.heap.size, c, none⟩ (.bool true)) w2.heap.size l.length (putB f c)) := hB.out.put hcl
          have HN2 : Hid (∀ d, kf l.length (putB f c) d ↔ Seed l (kn.take (k + 1)) d) := fun d => by
            rw [kf_put, hS.out d, List.take_add_one, HX.out]
            constructor
            · rintro (⟨y, hy, r⟩ | ⟨rfl, _⟩)
              · exact ⟨y, by simp [hy], r⟩
              · exact ⟨(X : Int), by simp, by omega, by omega, by rw [Int.toNat_natCast, hc]⟩
            · rintro ⟨y, hy, y0, y1, y2⟩
              simp only [Option.toList_some, List.mem_append, List.mem_singleton] at hy
              rcases hy with hy | rfl
              · exact .inl ⟨y, hy, y0, y1, y2⟩
              · rw [Int.toNat_natCast, hc] at y2
                exact .inr ⟨y2, hcl⟩
          have HN3 : Hid (Only (fun _ => False) w2 (wa.setCell ⟨w2.heap.size, c, none⟩ (.bool true))) := fresh_only hO.out ((Only.refl (fun j => j = w2.heap.size) wa).setCell rfl _) (fun j hj => by omega)
          clear hfx hc hdrop hXf
          go_wp2_with fail
          go_roundg (kn.length - (k + 1))
          case measure => omega
          case rel => exact ⟨k + 1, putB f c, by omega, by omega, by go_num, HN.out, HN2.out, HN3.out⟩
        · have HN2 : Hid (∀ d, kf l.length f d ↔ Seed l (kn.take (k + 1)) d) := fun d => by
            rw [hS.out d, List.take_add_one, HX.out]
            constructor
            · rintro ⟨y, hy, r⟩
              exact ⟨y, by simp [hy], r⟩
            · rintro ⟨y, hy, y0, y1, y2⟩
              simp only [Option.toList_some, List.mem_append, List.mem_singleton] at hy
              rcases hy with hy | rfl
              · exact ⟨y, hy, y0, y1, y2⟩
              · exact absurd ⟨y0, y1⟩ hx
          by_cases hx0 : 0 ≤ x
          · have hx1 : ¬ x < (l.length : Int) := fun h => hx ⟨hx0, h⟩
            clear hx
            go_wp2_with fail
            go_roundg (kn.length - (k + 1))
            case measure => omega
            case rel => exact ⟨k + 1, f, by omega, by omega, by go_num, hB.out, HN2.out, hO.out⟩
          · clear hx
            go_wp2_with fail
            go_roundg (kn.length - (k + 1))
            case measure => omega
            case rel => exact ⟨k + 1, f, by omega, by omega, by go_num, hB.out, HN2.out, hO.out⟩
      · obtain rfl : k = kn.length := by omega
        have HS1 : Hid (∀ c, kf l.length f c ↔ Seed l kn c) := by
          have := hS.out
          rwa [List.take_length] at this
        clear hS
        have HSUP : Hid (∀ c, Seed l kn c → kf l.length f c) := fun c hc => (HS1.out c).2 hc
        have HSUB : Hid (∀ c, kf l.length f c → Der l (Seed l kn) c) := fun c hc => Der.of ((HS1.out c).1 hc)
        go_wp2_with fail
        go_loopg [8] (2 * unkB l.length f + 1) (fun gg cv wr => ∃ (f : Nat → Bool) (ch : Bool), cv = .bool ch ∧ gg = 2 * unkB l.length f + (if ch = true then 1 else 0) ∧ Hid (BT wr w2.heap.size l.length f) ∧ Hid (∀ c, Seed l kn c → kf l.length f c) ∧ Hid (∀ c, kf l.length f c → Der l (Seed l kn) c) ∧ Hid (ch = false → ∀ c, Step l (kf l.length f) c → kf l.length f c) ∧ Hid (Only (fun _ => False) w2 wr))
        case atStart => exact ⟨f, true, rfl, rfl, hB.out, HSUP.out, HSUB.out, (fun h => by cases h), hO.out⟩
        case round =>
          clear hB HSUP HSUB HS1 hO
          revert wr
          intro wb hrel
          obtain ⟨f0, ch, rfl, hgk2, hB, hSUP, hSUB, hSH, hO⟩ := hrel
          cases ch
          · have HKN := Lib.hid (outB_knows HMB.out hSUP.out hSUB.out (hSH.out rfl))
            have hb0 := bbuild_0 wb
            have HOL := Lib.hid (OL.new wb)
            have HV4 : Hid (Only (fun _ => False) wb (wb.alloc (.cells #[] 4))) := (Only.refl _ _).alloc _
            generalize wb.alloc (.cells #[] 4) = V4 at *
            have HB0 := Lib.hid hb0
            clear hb0
            go_wp2_with ((with_reducible refine wpList_bs_g ?_ 25 0 #[] ?_ [] ?_ _ HB0.out ?_); rfl; rfl; rfl)
            go_loopg [14, 15] l.length (fun gg ov i wr => ∃ k : Nat, k ≤ l.length ∧ gg = l.length - k ∧ i = .int .i64 k ∧ Hid (OL wr wb.heap.size ov (outB l f0 k)) ∧ Hid (Only (fun _ => False) wb wr))
            case atStart => exact ⟨0, by omega, by omega, rfl, HOL.out, HV4.out⟩
            case round =>
              clear HOL HV4 HB0
              revert wr
              intro wc hrel
              obtain ⟨q, hq, hgq, rfl, hQ, hO3⟩ := hrel
              by_cases hlt2 : q < l.length
              · have hlt2' : (q : Int) < (l.length : Int) := by omega
                obtain ⟨c, hc, hcl⟩ := cl_nat hlt2
                have hfx := firsts_at hlt2
                have hXf : q < (firsts l).length := (List.getElem?_eq_some_iff.1 hfx).1
                obtain ⟨gf, fc, cur, rfl, _, _, _, hdrop⟩ := (HFC.out.keep (hO.out.trans hO3.out) (fun _ _ x => x)).at hXf
                have q1 := (HFC.out.keep (hO.out.trans hO3.out) (fun _ _ x => x)).cell rfl hXf
                rw [List.getD_eq_getElem?_getD, hfx, Option.getD_some, hc] at q1
                have q2 := (hB.out.keep hO3.out (fun x => x)).cell hcl
                have hXf' : (q : Int) < ((firsts l).length : Int) := by omega
                have hcl' : (c : Int) < (l.length : Int) := by omega
                obtain ⟨v6, W6, V6, hb6, hr6, hf6, ho6⟩ := snoc_b hQ.out hO3.out.size (f0 c) (by simp [outB]; omega)
                have HQ6 : Hid (OL V6 wb.heap.size v6 (outB l f0 (q + 1))) := by
                  rw [outB_next, hc]
                  exact hf6
                have HO6 := Lib.hid (fresh_only hO3.out ho6 (fun j hj => hj))
                have HB6 := Lib.hid hb6
                have HR6 := Lib.hid hr6
                clear hfx hc hdrop hXf hb6 hr6 hf6 ho6
                generalize f0 c = bv at *
                go_wp2_with (first | ((with_reducible refine wpList_bs_g ?_ 25 1 #[(0, .tmp 159)] ?_ [(0, .bool bv)] ?_ _ HB6.out ?_); rfl; rfl; rfl) | (at_builtin; ((with_reducible refine wpList_app_g ?_ (.tmp 152) (.tmp 160) 25 ?_ _ _ _ ?_ ?_ HR6.out ?_); rfl; rfl; rfl; rfl)))
                go_roundg (l.length - (q + 1))
                case measure => omega
                case rel => exact ⟨q + 1, by omega, by omega, by go_num, HQ6.out, HO6.out⟩
              · obtain rfl : q = l.length := by omega
                go_wp2_with fail
                go_ret
                exact ⟨_, rfl, by rw [HKN.out]; exact hQ.out.bl, (HO2.out.trans hO.out).trans hO3.out⟩
          · have HPI0 : Hid (PI l kn f0 f0 false 0) := ⟨hSUP.out, hSUB.out, fun _ => ⟨rfl, fun j x hj => absurd hj (Nat.not_lt_zero j)⟩, fun h => by cases h⟩
            obtain ⟨g0, hg0⟩ : ∃ g, g = gk := ⟨_, rfl⟩
            have hgk3 : g0 = 2 * unkB l.length f0 + 1 := by rw [hg0]; simpa using hgk2
            have HG0 := Lib.hid hg0
            clear hg0
            have HGK := Lib.hid hgk3
            clear hgk2 hgk3
            go_wp2_with fail
            go_loopg [8, 9] l.length (fun gg cv i wr => ∃ (k : Nat) (f : Nat → Bool) (ch : Bool), k ≤ l.length ∧ gg = l.length - k ∧ i = .int .i64 k ∧ cv = .bool ch ∧ Hid (BT wr w2.heap.size l.length f) ∧ Hid (PI l kn f0 f ch k) ∧ Hid (Only (fun _ => False) w2 wr))
            case atStart => exact ⟨0, f0, false, by omega, by omega, rfl, rfl, hB.out, HPI0.out, hO.out⟩
            case round =>
              clear HPI0 hB hSUP hSUB hSH hO
              revert wr
              intro wc hrel
              obtain ⟨k, f, ch, hk, hgk, rfl, rfl, hB, hP, hO⟩ := hrel
              by_cases hlt : k < l.length
              · have hlt' : (k : Int) < (l.length : Int) := by omega
                obtain ⟨gb, go, gc, he, hgc, hld⟩ := (HL.out.keep (HO2.out.trans hO.out)).load55 hlt
                cases he
                have HX : Hid (l[k]? = some l[k]) := List.getElem?_eq_getElem hlt
                generalize l[k] = x at *
                obtain ⟨op, xa, xb⟩ := x
                have HLD : Hid ((loadVar 55 ⟨gb, go + k * 3, none⟩).run Try.prog wc = .ok (.agg #[.int .i64 op, .int .i64 xa, .int .i64 xb]) wc) := hld
                have HOX : Hid (Only (fun _ => False) wc (wc.alloc (.cells #[.int .i64 op, .int .i64 xa, .int .i64 xb] 55))) := (Only.refl _ _).alloc _
                have HBX := Lib.hid (hB.out.keep HOX.out (fun x => x))
                have HO3 := Lib.hid (hO.out.trans HOX.out)
                have hop := op_small HMB.out HX.out
                dsimp only at hop
                clear hld
                by_cases ho : op < 2
                · have HP' := Lib.hid (hP.out.next HX.out (fun h => by dsimp only at h; omega))
                  clear hop
                  go_wp2_with ((with_reducible refine wpList_load_at ?_ 55 (.tmp 62) ?_ _ ?_ _ HLD.out ?_); rfl; rfl; rfl)
                  go_roundg (l.length - (k + 1))
                  case measure => omega
                  case rel => exact ⟨k + 1, f, ch, by omega, by omega, by go_num, rfl, HBX.out, HP'.out, HO3.out⟩
                · have hmd : op = 2 ∨ op = 3 := by omega
                  have HMD : Hid ((⟨op, xa, xb⟩ : Nd).op = 2 ∨ (⟨op, xa, xb⟩ : Nd).op = 3) := hmd
                  clear hop
                  obtain ⟨⟨a0, a1⟩, b0, b1⟩ := may_made HMB.out HX.out hmd
                  have hpl := part_lt HMB.out HX.out hmd
                  dsimp only at a0 a1 b0 b1 hpl
                  obtain ⟨A, rfl⟩ := Int.eq_ofNat_of_zero_le a0
                  obtain ⟨B, rfl⟩ := Int.eq_ofNat_of_zero_le b0
                  rw [Int.toNat_natCast, Int.toNat_natCast] at hpl
                  obtain ⟨cA, hA, lA⟩ := cl_nat (l := l) (i := A) (by omega)
                  obtain ⟨cB, hB2, lB⟩ := cl_nat (l := l) (i := B) (by omega)
                  obtain ⟨cM, hM, lM⟩ := cl_nat hlt
                  have fAx : (firsts l)[A]? = some (cl l A) := firsts_at (by omega)
                  have fBx : (firsts l)[B]? = some (cl l B) := firsts_at (by omega)
                  have fMx := firsts_at hlt
                  have nAM : ¬ cA = cM := by omega
                  have nBM : ¬ cB = cM := by omega
                  have nMA : ¬ cM = cA := by omega
                  have nMB : ¬ cM = cB := by omega
                  have zA : A < (firsts l).length := (List.getElem?_eq_some_iff.1 fAx).1
                  have zB : B < (firsts l).length := (List.getElem?_eq_some_iff.1 fBx).1
                  have zM : k < (firsts l).length := (List.getElem?_eq_some_iff.1 fMx).1
                  obtain ⟨gf, fc, cur, rfl, _, _, _, hdrop⟩ := (HFC.out.keep hO.out (fun _ _ x => x)).at zA
                  have HFX := Lib.hid (HFC.out.keep HO3.out (fun _ _ x => x))
                  have qA := HFX.out.cell rfl zA
                  have qB := HFX.out.cell rfl zB
                  have qM := HFX.out.cell rfl zM
                  rw [List.getD_eq_getElem?_getD, fAx, Option.getD_some, hA] at qA
                  rw [List.getD_eq_getElem?_getD, fBx, Option.getD_some, hB2] at qB
                  rw [List.getD_eq_getElem?_getD, fMx, Option.getD_some, hM] at qM
                  have rA := HBX.out.cell lA
                  have rB := HBX.out.cell lB
                  have rM := HBX.out.cell lM
                  have nb1 : ¬ w2.heap.size = wc.heap.size := by have := hB.out.lt; omega
                  have nb2 : ¬ wc.heap.size = w2.heap.size := fun h => nb1 h.symm
                  have sA := HBX.out.froz cA
                  have sB := HBX.out.froz cB
                  have sM := HBX.out.froz cM
                  have zA' : (A : Int) < ((firsts l).length : Int) := by omega
                  have zB' : (B : Int) < ((firsts l).length : Int) := by omega
                  have zM' : (k : Int) < ((firsts l).length : Int) := by omega
                  have lA' : (cA : Int) < (l.length : Int) := by omega
                  have lB' : (cB : Int) < (l.length : Int) := by omega
                  have lM' : (cM : Int) < (l.length : Int) := by omega
                  have HA : Hid (cl l (⟨op, (A : Int), (B : Int)⟩ : Nd).a.toNat = (cA : Int)) := hA
                  have HB2 : Hid (cl l (⟨op, (A : Int), (B : Int)⟩ : Nd).b.toNat = (cB : Int)) := hB2
                  have HM2 := Lib.hid hM
                  have HlA := Lib.hid lA
                  have HlB := Lib.hid lB
                  have HlM := Lib.hid lM
                  clear hA hB2 hM fAx fBx fMx hdrop hpl zA zB zM a0 a1 b0 b1
                  obtain ⟨fA, hfA⟩ : ∃ r, f cA = r := ⟨_, rfl⟩
                  obtain ⟨fB, hfB⟩ : ∃ r, f cB = r := ⟨_, rfl⟩
                  obtain ⟨fM, hfM⟩ : ∃ r, f cM = r := ⟨_, rfl⟩
                  rw [hfA] at rA
                  rw [hfB] at rB
                  rw [hfM] at rM
                  have HfA := Lib.hid hfA
                  have HfB := Lib.hid hfB
                  have HfM := Lib.hid hfM
                  clear hfA hfB hfM
                  have hmd' := hmd
                  rcases hmd' with rfl | rfl
                  · cases fM
                    · cases fA
                      · skip
                        have HP1 := Lib.hid (hP.out.next HX.out (fun _ => node_shut HA.out HB2.out HM2.out HlA.out HlB.out HlM.out (fun h _ => absurd (h.symm.trans HfA.out) (by decide)) (fun h _ => absurd (h.symm.trans HfM.out) (by decide)) (fun h _ _ => absurd (h.symm.trans HfM.out) (by decide))))
                        clear hmd
                        go_wp2_with ((with_reducible refine wpList_load_at ?_ 55 (.tmp 62) ?_ _ ?_ _ HLD.out ?_); rfl; rfl; rfl)
                        go_roundg (l.length - (k + 1))
                        case measure => omega
                        case rel => exact ⟨k + 1, f, ch, by omega, by omega, by go_num, rfl, HBX.out, HP1.out, HO3.out⟩
                      · cases fB
                        · skip
                          have HP1 := Lib.hid (hP.out.next HX.out (fun _ => node_shut HA.out HB2.out HM2.out HlA.out HlB.out HlM.out (fun _ h => absurd (h.symm.trans HfB.out) (by decide)) (fun h _ => absurd (h.symm.trans HfM.out) (by decide)) (fun h _ _ => absurd (h.symm.trans HfM.out) (by decide))))
                          clear hmd
                          go_wp2_with ((with_reducible refine wpList_load_at ?_ 55 (.tmp 62) ?_ _ ?_ _ HLD.out ?_); rfl; rfl; rfl)
                          go_roundg (l.length - (k + 1))
                          case measure => omega
                          case rel => exact ⟨k + 1, f, ch, by omega, by omega, by go_num, rfl, HBX.out, HP1.out, HO3.out⟩
                        · skip
                          have HP1 := Lib.hid (hP.out.put HlM.out HfM.out (node_make HX.out HMD.out HA.out HB2.out HM2.out HlA.out HlB.out HfA.out HfB.out) (k + 1))
                          have HBT1 : Hid (BT ((wc.alloc (.cells #[.int .i64 2, .int .i64 (A : Int), .int .i64 (B : Int)] 55)).setCell ⟨w2.heap.size, cM, none⟩ (.bool true)) w2.heap.size l.length (putB f cM)) := HBX.out.put HlM.out
                          have HON1 : Hid (Only (fun _ => False) w2 ((wc.alloc (.cells #[.int .i64 2, .int .i64 (A : Int), .int .i64 (B : Int)] 55)).setCell ⟨w2.heap.size, cM, none⟩ (.bool true))) := fresh_only HO3.out ((Only.refl (fun j => j = w2.heap.size) _).setCell rfl _) (fun j hj => by omega)
                          clear hmd
                          go_wp2_with ((with_reducible refine wpList_load_at ?_ 55 (.tmp 62) ?_ _ ?_ _ HLD.out ?_); rfl; rfl; rfl)
                          go_roundg (l.length - (k + 1))
                          case measure => omega
                          case rel => exact ⟨k + 1, putB f cM, true, by omega, by omega, by go_num, rfl, HBT1.out, HP1.out, HON1.out⟩
                    · cases fA
                      · cases fB
                        · by_cases hab : cA = cB
                          · subst hab
                            have HP1 := Lib.hid (hP.out.put HlA.out HfA.out (node_fst HX.out rfl HA.out HM2.out HlM.out HfM.out) (k + 1))
                            have HBT1 : Hid (BT ((wc.alloc (.cells #[.int .i64 2, .int .i64 (A : Int), .int .i64 (B : Int)] 55)).setCell ⟨w2.heap.size, cA, none⟩ (.bool true)) w2.heap.size l.length (putB f cA)) := HBX.out.put HlA.out
                            have HON1 : Hid (Only (fun _ => False) w2 ((wc.alloc (.cells #[.int .i64 2, .int .i64 (A : Int), .int .i64 (B : Int)] 55)).setCell ⟨w2.heap.size, cA, none⟩ (.bool true))) := fresh_only HO3.out ((Only.refl (fun j => j = w2.heap.size) _).setCell rfl _) (fun j hj => by omega)
                            clear hmd
                            go_wp2_with ((with_reducible refine wpList_load_at ?_ 55 (.tmp 62) ?_ _ ?_ _ HLD.out ?_); rfl; rfl; rfl)
                            go_roundg (l.length - (k + 1))
                            case measure => omega
                            case rel => exact ⟨k + 1, putB f cA, true, by omega, by omega, by go_num, rfl, HBT1.out, HP1.out, HON1.out⟩
                          · have hne' : ¬ cB = cA := fun e => hab e.symm
                            have HP1 := Lib.hid (hP.out.put HlA.out HfA.out (node_fst HX.out rfl HA.out HM2.out HlM.out HfM.out) (k + 1))
                            have HBT1 : Hid (BT ((wc.alloc (.cells #[.int .i64 2, .int .i64 (A : Int), .int .i64 (B : Int)] 55)).setCell ⟨w2.heap.size, cA, none⟩ (.bool true)) w2.heap.size l.length (putB f cA)) := HBX.out.put HlA.out
                            have HON1 : Hid (Only (fun _ => False) w2 ((wc.alloc (.cells #[.int .i64 2, .int .i64 (A : Int), .int .i64 (B : Int)] 55)).setCell ⟨w2.heap.size, cA, none⟩ (.bool true))) := fresh_only HO3.out ((Only.refl (fun j => j = w2.heap.size) _).setCell rfl _) (fun j hj => by omega)
                            have HP2 := Lib.hid (HP1.out.put HlB.out (by simp [putB, HfB.out, hne'])  (node_snd HX.out rfl HB2.out HM2.out HlM.out (by simp [putB, HfM.out])) (k + 1))
                            have HBT2 : Hid (BT (((wc.alloc (.cells #[.int .i64 2, .int .i64 (A : Int), .int .i64 (B : Int)] 55)).setCell ⟨w2.heap.size, cA, none⟩ (.bool true)).setCell ⟨w2.heap.size, cB, none⟩ (.bool true)) w2.heap.size l.length (putB (putB f cA) cB)) := HBT1.out.put HlB.out
                            have HON2 : Hid (Only (fun _ => False) w2 (((wc.alloc (.cells #[.int .i64 2, .int .i64 (A : Int), .int .i64 (B : Int)] 55)).setCell ⟨w2.heap.size, cA, none⟩ (.bool true)).setCell ⟨w2.heap.size, cB, none⟩ (.bool true))) := fresh_only HON1.out ((Only.refl (fun j => j = w2.heap.size) _).setCell rfl _) (fun j hj => by omega)
                            clear hmd
                            go_wp2_with ((with_reducible refine wpList_load_at ?_ 55 (.tmp 62) ?_ _ ?_ _ HLD.out ?_); rfl; rfl; rfl)
                            go_roundg (l.length - (k + 1))
                            case measure => omega
                            case rel => exact ⟨k + 1, putB (putB f cA) cB, true, by omega, by omega, by go_num, rfl, HBT2.out, HP2.out, HON2.out⟩
                        · have hab : ¬ cA = cB := fun e => by have := HfA.out; rw [e, HfB.out] at this; cases this
                          have hne' : ¬ cB = cA := fun e => hab e.symm
                          have HP1 := Lib.hid (hP.out.put HlA.out HfA.out (node_fst HX.out rfl HA.out HM2.out HlM.out HfM.out) (k + 1))
                          have HBT1 : Hid (BT ((wc.alloc (.cells #[.int .i64 2, .int .i64 (A : Int), .int .i64 (B : Int)] 55)).setCell ⟨w2.heap.size, cA, none⟩ (.bool true)) w2.heap.size l.length (putB f cA)) := HBX.out.put HlA.out
                          have HON1 : Hid (Only (fun _ => False) w2 ((wc.alloc (.cells #[.int .i64 2, .int .i64 (A : Int), .int .i64 (B : Int)] 55)).setCell ⟨w2.heap.size, cA, none⟩ (.bool true))) := fresh_only HO3.out ((Only.refl (fun j => j = w2.heap.size) _).setCell rfl _) (fun j hj => by omega)
                          clear hmd
                          go_wp2_with ((with_reducible refine wpList_load_at ?_ 55 (.tmp 62) ?_ _ ?_ _ HLD.out ?_); rfl; rfl; rfl)
                          go_roundg (l.length - (k + 1))
                          case measure => omega
                          case rel => exact ⟨k + 1, putB f cA, true, by omega, by omega, by go_num, rfl, HBT1.out, HP1.out, HON1.out⟩
                      · cases fB
                        · skip
                          have HP1 := Lib.hid (hP.out.put HlB.out HfB.out (node_snd HX.out rfl HB2.out HM2.out HlM.out HfM.out) (k + 1))
                          have HBT1 : Hid (BT ((wc.alloc (.cells #[.int .i64 2, .int .i64 (A : Int), .int .i64 (B : Int)] 55)).setCell ⟨w2.heap.size, cB, none⟩ (.bool true)) w2.heap.size l.length (putB f cB)) := HBX.out.put HlB.out
                          have HON1 : Hid (Only (fun _ => False) w2 ((wc.alloc (.cells #[.int .i64 2, .int .i64 (A : Int), .int .i64 (B : Int)] 55)).setCell ⟨w2.heap.size, cB, none⟩ (.bool true))) := fresh_only HO3.out ((Only.refl (fun j => j = w2.heap.size) _).setCell rfl _) (fun j hj => by omega)
                          clear hmd
                          go_wp2_with ((with_reducible refine wpList_load_at ?_ 55 (.tmp 62) ?_ _ ?_ _ HLD.out ?_); rfl; rfl; rfl)
                          go_roundg (l.length - (k + 1))
                          case measure => omega
                          case rel => exact ⟨k + 1, putB f cB, true, by omega, by omega, by go_num, rfl, HBT1.out, HP1.out, HON1.out⟩
                        · skip
                          have HP1 := Lib.hid (hP.out.next HX.out (fun _ => node_shut HA.out HB2.out HM2.out HlA.out HlB.out HlM.out (fun _ _ => HfM.out) (fun _ _ => ⟨HfA.out, HfB.out⟩) (fun _ h _ => absurd h (show ¬ (2 : Int) = 3 by decide))))
                          clear hmd
                          go_wp2_with ((with_reducible refine wpList_load_at ?_ 55 (.tmp 62) ?_ _ ?_ _ HLD.out ?_); rfl; rfl; rfl)
                          go_roundg (l.length - (k + 1))
                          case measure => omega
                          case rel => exact ⟨k + 1, f, ch, by omega, by omega, by go_num, rfl, HBX.out, HP1.out, HO3.out⟩
                  · cases fM
                    · cases fA
                      · skip
                        have HP1 := Lib.hid (hP.out.next HX.out (fun _ => node_shut HA.out HB2.out HM2.out HlA.out HlB.out HlM.out (fun h _ => absurd (h.symm.trans HfA.out) (by decide)) (fun h _ => absurd (h.symm.trans HfM.out) (by decide)) (fun h _ _ => absurd (h.symm.trans HfM.out) (by decide))))
                        clear hmd
                        go_wp2_with ((with_reducible refine wpList_load_at ?_ 55 (.tmp 62) ?_ _ ?_ _ HLD.out ?_); rfl; rfl; rfl)
                        go_roundg (l.length - (k + 1))
                        case measure => omega
                        case rel => exact ⟨k + 1, f, ch, by omega, by omega, by go_num, rfl, HBX.out, HP1.out, HO3.out⟩
                      · cases fB
                        · skip
                          have HP1 := Lib.hid (hP.out.next HX.out (fun _ => node_shut HA.out HB2.out HM2.out HlA.out HlB.out HlM.out (fun _ h => absurd (h.symm.trans HfB.out) (by decide)) (fun h _ => absurd (h.symm.trans HfM.out) (by decide)) (fun h _ _ => absurd (h.symm.trans HfM.out) (by decide))))
                          clear hmd
                          go_wp2_with ((with_reducible refine wpList_load_at ?_ 55 (.tmp 62) ?_ _ ?_ _ HLD.out ?_); rfl; rfl; rfl)
                          go_roundg (l.length - (k + 1))
                          case measure => omega
                          case rel => exact ⟨k + 1, f, ch, by omega, by omega, by go_num, rfl, HBX.out, HP1.out, HO3.out⟩
                        · skip
                          have HP1 := Lib.hid (hP.out.put HlM.out HfM.out (node_make HX.out HMD.out HA.out HB2.out HM2.out HlA.out HlB.out HfA.out HfB.out) (k + 1))
                          have HBT1 : Hid (BT ((wc.alloc (.cells #[.int .i64 3, .int .i64 (A : Int), .int .i64 (B : Int)] 55)).setCell ⟨w2.heap.size, cM, none⟩ (.bool true)) w2.heap.size l.length (putB f cM)) := HBX.out.put HlM.out
                          have HON1 : Hid (Only (fun _ => False) w2 ((wc.alloc (.cells #[.int .i64 3, .int .i64 (A : Int), .int .i64 (B : Int)] 55)).setCell ⟨w2.heap.size, cM, none⟩ (.bool true))) := fresh_only HO3.out ((Only.refl (fun j => j = w2.heap.size) _).setCell rfl _) (fun j hj => by omega)
                          clear hmd
                          go_wp2_with ((with_reducible refine wpList_load_at ?_ 55 (.tmp 62) ?_ _ ?_ _ HLD.out ?_); rfl; rfl; rfl)
                          go_roundg (l.length - (k + 1))
                          case measure => omega
                          case rel => exact ⟨k + 1, putB f cM, true, by omega, by omega, by go_num, rfl, HBT1.out, HP1.out, HON1.out⟩
                    · cases fA
                      · skip
                        have HP1 := Lib.hid (hP.out.next HX.out (fun _ => node_shut HA.out HB2.out HM2.out HlA.out HlB.out HlM.out (fun _ _ => HfM.out) (fun _ h => absurd h (show ¬ (3 : Int) = 2 by decide)) (fun _ _ h => absurd (h.symm.trans HfA.out) (by decide))))
                        clear hmd
                        go_wp2_with ((with_reducible refine wpList_load_at ?_ 55 (.tmp 62) ?_ _ ?_ _ HLD.out ?_); rfl; rfl; rfl)
                        go_roundg (l.length - (k + 1))
                        case measure => omega
                        case rel => exact ⟨k + 1, f, ch, by omega, by omega, by go_num, rfl, HBX.out, HP1.out, HO3.out⟩
                      · cases fB
                        · skip
                          have HP1 := Lib.hid (hP.out.put HlB.out HfB.out (node_key HX.out rfl HA.out HB2.out HM2.out HlA.out HlM.out HfA.out HfM.out) (k + 1))
                          have HBT1 : Hid (BT ((wc.alloc (.cells #[.int .i64 3, .int .i64 (A : Int), .int .i64 (B : Int)] 55)).setCell ⟨w2.heap.size, cB, none⟩ (.bool true)) w2.heap.size l.length (putB f cB)) := HBX.out.put HlB.out
                          have HON1 : Hid (Only (fun _ => False) w2 ((wc.alloc (.cells #[.int .i64 3, .int .i64 (A : Int), .int .i64 (B : Int)] 55)).setCell ⟨w2.heap.size, cB, none⟩ (.bool true))) := fresh_only HO3.out ((Only.refl (fun j => j = w2.heap.size) _).setCell rfl _) (fun j hj => by omega)
                          clear hmd
                          go_wp2_with ((with_reducible refine wpList_load_at ?_ 55 (.tmp 62) ?_ _ ?_ _ HLD.out ?_); rfl; rfl; rfl)
                          go_roundg (l.length - (k + 1))
                          case measure => omega
                          case rel => exact ⟨k + 1, putB f cB, true, by omega, by omega, by go_num, rfl, HBT1.out, HP1.out, HON1.out⟩
                        · skip
                          have HP1 := Lib.hid (hP.out.next HX.out (fun _ => node_shut HA.out HB2.out HM2.out HlA.out HlB.out HlM.out (fun _ _ => HfM.out) (fun _ h => absurd h (show ¬ (3 : Int) = 2 by decide)) (fun _ _ _ => HfB.out)))
                          clear hmd
                          go_wp2_with ((with_reducible refine wpList_load_at ?_ 55 (.tmp 62) ?_ _ ?_ _ HLD.out ?_); rfl; rfl; rfl)
                          go_roundg (l.length - (k + 1))
                          case measure => omega
                          case rel => exact ⟨k + 1, f, ch, by omega, by omega, by go_num, rfl, HBX.out, HP1.out, HO3.out⟩
              · obtain rfl : k = l.length := by omega
                have hno := hP.out.no
                have hyes := hP.out.yes
                have HSH : Hid (ch = false → ∀ c, Step l (kf l.length f) c → kf l.length f c) := fun h => shut_all (hno h).2
                have hu : 2 * unkB l.length f + (if ch = true then 1 else 0) < g0 := by
                  rw [HGK.out]
                  cases ch
                  · have := (hno rfl).1
                    simp
                    omega
                  · have := hyes rfl
                    simp
                    omega
                have HU := Lib.hid hu
                clear hno hyes hu
                go_wp2_with fail
                go_roundg (2 * unkB l.length f + (if ch = true then 1 else 0))
                case measure => exact HG0.out ▸ HU.out
                case rel => exact ⟨f, ch, rfl, rfl, hB.out, hP.out.sup, hP.out.sub, HSH.out, hO.out⟩
end Go.Proofs.Ytnppjkekbdapkaa
