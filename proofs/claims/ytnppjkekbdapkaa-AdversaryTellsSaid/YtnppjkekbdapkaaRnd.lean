/-
  round: one term more is learnt, or what is known is closed. (Printed by mkrnd.py.)
-/
import Derived.Test.YtnppjkekbdapkaaThk
import Derived.Deep.LoopGhost
import Derived.WalkMore
set_option linter.unusedVariables false
namespace Go.Proofs.Ytnppjkekbdapkaa
open Go.RowKit

/-- The first place that has the same as place i. -/
def cl (l : List Nd) (i : Nat) : Int := (firsts l).getD i 0
/-- What node x, at k, lets be known by K. -/
def At (l : List Nd) (K : Int → Prop) (k : Nat) (x : Nd) (c : Int) : Prop :=
  (c = cl l k ∧ K (cl l x.a.toNat) ∧ K (cl l x.b.toNat)) ∨ (K (cl l k) ∧ x.op = 2 ∧ (c = cl l x.a.toNat ∨ c = cl l x.b.toNat)) ∨ (K (cl l k) ∧ x.op = 3 ∧ K (cl l x.a.toNat) ∧ c = cl l x.b.toNat)
def Step (l : List Nd) (K : Int → Prop) (c : Int) : Prop := ∃ k x, l[k]? = some x ∧ (x.op = 2 ∨ x.op = 3) ∧ At l K k x c
def ShutTo (l : List Nd) (K : Int → Prop) (k : Nat) : Prop := ∀ j x, j < k → l[j]? = some x → (x.op = 2 ∨ x.op = 3) → ∀ c, At l K j x c → K c
/-- What round answers. -/
def RP (l : List Nd) (f : Int → Int) (r : Bool) (f' : Int → Int) : Prop :=
  (r = false → f' = f ∧ ∀ c, Step l (fun c => 0 < f c) c → 0 < f c) ∧
  (r = true → ∃ i, i < l.length ∧ Step l (fun c => 0 < f c) (cl l i) ∧ ¬ 0 < f (cl l i) ∧ f' = fun j => if j = cl l i then f (cl l i) + 1 else f j)
theorem cl_of {l : List Nd} {i : Nat} {c : Int} (h : (firsts l)[i]? = some c) : cl l i = c := by
  unfold cl
  rw [List.getD_eq_getElem?_getD, h]
  rfl
theorem firsts_len (l : List Nd) : (firsts l).length = l.length := (thS_len l).2
theorem firsts_at {l : List Nd} {i : Nat} (h : i < l.length) : (firsts l)[i]? = some (cl l i) := by
  have h2 : i < (firsts l).length := by rw [firsts_len]; exact h
  rw [List.getElem?_eq_getElem h2, ← cl_of (List.getElem?_eq_getElem h2)]
theorem cl_lt {l : List Nd} {i : Nat} (h : i < l.length) : 0 ≤ cl l i ∧ cl l i < (l.length : Int) := thS_lt l _ (List.mem_of_getElem? (firsts_at h))
theorem shut_next {l : List Nd} {K : Int → Prop} {k : Nat} {x : Nd} (h : ShutTo l K k) (hx : l[k]? = some x) (h2 : (x.op = 2 ∨ x.op = 3) → ∀ c, At l K k x c → K c) : ShutTo l K (k + 1) := by
  intro j y hj hy ho
  by_cases hjk : j < k
  · exact h j y hjk hy ho
  · obtain rfl : j = k := by omega
    rw [hx] at hy
    cases hy
    exact h2 ho
theorem shut_all {l : List Nd} {K : Int → Prop} (h : ShutTo l K l.length) : ∀ c, Step l K c → K c := by
  rintro c ⟨k, x, hx, ho, ha⟩
  exact h k x (List.getElem?_eq_some_iff.1 hx).1 hx ho c ha

section
variable {w X W : World} {base g gm n : Nat} {lv fv : Value} {fs : List Int} {f : Int → Int}
theorem build_f2 (x y : Int) (w : World) : (Instr.buildSlice 23 2 #[(0, .int .i64 x), (1, .int .i64 y)]).run Try.prog w = .ok (.slice (some ⟨w.heap.size, 0, none⟩) 2 2) (w.alloc (.cells #[.int .i64 x, .int .i64 y] 3)) := by
  obtain ⟨ie, hie, hz, hs, hb⟩ := info_parts (show (Try.prog.info? 3).map (fun i => (i.zero, i.size, i.bytes)) = some (some (.int .i64 0), 1, 8) by kernel_rfl)
  refine run_buildSlice w 23 3 2 _ _ ie _ Try.underlying23 hie hz (by omega) (by omega) ?_
  rw [hs]
  kernel_rfl
theorem has_k (h : Mi X base g gm lv fv fs n f) (o : Only (fun _ => False) X W) {i : Nat} {c : Int} (hc : fs[i]? = some c) (hw : wf64 c) {r : Bool} (hr : decide (0 < f c) = r) :
    Calls Try.prog 26 #[.pointer (some ⟨g, 0, none⟩), .int .i64 i] W fun e w' => e = .returned (.bool r) ∧ Only (fun _ => False) X w' := by
  obtain ⟨hi, rfl⟩ := List.getElem?_eq_some_iff.1 hc
  refine (has_any (h.keep o) hi hw).mono ?_
  rintro e w' ⟨rfl, h1⟩
  exact ⟨by rw [hr], o.trans h1⟩
theorem has_k2 (h : Mi X base g gm lv fv fs n f) (o : Only (fun _ => False) X W) {i : Nat} {c : Int} (hc : fs[i]? = some c) (hw : wf64 c) {r : Bool} (hr : decide (0 < f c) = r) :
    Calls Try.prog 26 #[.pointer (some ⟨g, 0, none⟩), .int .i64 i] W fun e w' => e = .returned (.bool r) ∧ Only (fun _ => False) X w' ∧ Only (fun _ => False) W w' := by
  obtain ⟨hi, rfl⟩ := List.getElem?_eq_some_iff.1 hc
  refine (has_any (h.keep o) hi hw).mono ?_
  rintro e w' ⟨rfl, h1⟩
  exact ⟨by rw [hr], o.trans h1, h1⟩
theorem learn_k (h : Mi X base g gm lv fv fs n f) (o : Only (fun _ => False) X W) {i : Nat} {c : Int} (hc : fs[i]? = some c) (hw : wf64 c) (hn : n < maxLen) (hf : ∀ c, 0 ≤ f c ∧ f c ≤ 1000000) :
    Calls Try.prog 24 #[.pointer (some ⟨g, 0, none⟩), .int .i64 i] W fun e w' => e = .returned (.tuple #[]) ∧ Mi w' base g gm lv fv fs (n + 1) (fun j => if j = c then f c + 1 else f j) ∧ Only (fun k => k = gm) X w' := by
  obtain ⟨hi, rfl⟩ := List.getElem?_eq_some_iff.1 hc
  refine (learn_any (h.keep o) hi hw hn (hf _)).mono ?_
  rintro e w' ⟨rfl, h1, h2⟩
  exact ⟨rfl, h1, (o.mono (fun _ x => x.elim)).trans h2⟩

set_option maxHeartbeats 8000000 in
theorem round_any {l : List Nd} (h : Mi w base g gm lv fv (firsts l) n f) (hl : NL w lv l) (hm : mayB l = true) (hn : n < maxLen) (hf : ∀ c, 0 ≤ f c ∧ f c ≤ 1000000) :
    Calls Try.prog 25 #[.pointer (some ⟨g, 0, none⟩)] w fun e w' => ∃ r n' f', e = .returned (.bool r) ∧ Mi w' base g gm lv fv (firsts l) n' f' ∧ Only (fun k => k = gm) w w' ∧ (r = true → n' = n + 1) ∧ RP l f r f' := by
  have HL := Lib.hid hl
  have HMI := Lib.hid h
  obtain ⟨ad, cap, rfl, hrow⟩ := hl
  clear hrow
  have hlen : l.length ≤ 200 := by
    have := hm
    simp [mayB] at this
    exact this.2
  have HW : Hid (∀ i, i < l.length → wf64 (cl l i)) := fun i hi => by
    have := cl_lt hi
    rw [wf64_iff]
    omega
  have q0 : w.cell? ⟨g, 0, none⟩ = some (.slice ad l.length cap) := cell_of_row _ _ _ _ _ _ h.row
  have HS0 : Hid (ShutTo l (fun c => 0 < f c) 0) := fun j x hj => absurd hj (Nat.not_lt_zero j)
  have HR0 : Hid (Only (fun _ => False) w w) := Only.refl _ w
  have HF := Lib.hid hf
  clear h hf
  go_enter Try.func25, Try.ntmps25
  go_wp2_with fail
  go_step3
  go_wp2_with fail
  go_step3
  go_wp2_with fail
  go_loopg [13] l.length (fun gg i wr => ∃ k : Nat, k ≤ l.length ∧ gg = l.length - k ∧ i = .int .i64 k ∧ Hid (ShutTo l (fun c => 0 < f c) k) ∧ Hid (Only (fun _ => False) w wr))
  case atStart => exact ⟨0, by omega, by omega, rfl, HS0.out, HR0.out⟩
  case round =>
    revert wr
    intro wo hrel
    obtain ⟨k, hk, hgk, rfl, hS, hO⟩ := hrel
    clear HS0 HR0 q0
    by_cases hlt : k < l.length
    · have hlt' : (k : Int) < (l.length : Int) := by omega
      have hNL := HL.out.keep hO.out
      obtain ⟨gb, go, gc, he, hgc, _, _, _, _, hld⟩ := hNL.at hlt
      cases he
      have HX : Hid (l[k]? = some l[k]) := List.getElem?_eq_getElem hlt
      generalize l[k] = x at *
      obtain ⟨op, a, b⟩ := x
      have HLD2 : Hid ((loadVar 34 ⟨gb, go + k * 3, none⟩).run Try.prog wo = .ok (.agg #[.int .i64 op, .int .i64 a, .int .i64 b]) wo) := hld
      clear hNL hld
      have HOX : Hid (Only (fun _ => False) w (wo.alloc (.cells #[.int .i64 op, .int .i64 a, .int .i64 b] 34))) := hO.out.alloc _
      have HMX := Lib.hid (HMI.out.keep HOX.out)
      have oXX := Only.refl (fun _ => False) (wo.alloc (.cells #[.int .i64 op, .int .i64 a, .int .i64 b] 34))
      have HBX : Hid (∀ W, Only (fun _ => False) (wo.alloc (.cells #[.int .i64 op, .int .i64 a, .int .i64 b] 34)) W → W.cell? ⟨wo.heap.size, 0, none⟩ = some (.int .i64 op) ∧ W.cell? ⟨wo.heap.size, 1, none⟩ = some (.int .i64 a) ∧ W.cell? ⟨wo.heap.size, 2, none⟩ = some (.int .i64 b)) := fun W o => by
        have hr := keepRow o (heap_alloc_new wo (.cells #[.int .i64 op, .int .i64 a, .int .i64 b] 34)) (fun x => x)
        exact ⟨cell_of_row _ _ _ _ _ _ hr, cell_of_row _ _ _ _ _ _ hr, cell_of_row _ _ _ _ _ _ hr⟩
      by_cases hmd : op = 2 ∨ op = 3
      · have HMD : Hid ((⟨op, a, b⟩ : Nd).op = 2 ∨ (⟨op, a, b⟩ : Nd).op = 3) := hmd
        obtain ⟨⟨ha0, hak⟩, hb0, hbk⟩ := may_made hm HX.out hmd
        dsimp only at ha0 hak hb0 hbk
        obtain ⟨A, rfl⟩ := Int.eq_ofNat_of_zero_le ha0
        obtain ⟨B, rfl⟩ := Int.eq_ofNat_of_zero_le hb0
        have hA : A < l.length := by omega
        have hB : B < l.length := by omega
        have Hck := Lib.hid (firsts_at hlt)
        have HcA := Lib.hid (firsts_at hA)
        have HcB := Lib.hid (firsts_at hB)
        have Hwk := Lib.hid (HW.out k hlt)
        have HwA := Lib.hid (HW.out A hA)
        have HwB := Lib.hid (HW.out B hB)
        obtain ⟨bk, hbk⟩ : ∃ r, decide (0 < f (cl l k)) = r := ⟨_, rfl⟩
        obtain ⟨bA, hbA⟩ : ∃ r, decide (0 < f (cl l A)) = r := ⟨_, rfl⟩
        obtain ⟨bB, hbB⟩ : ∃ r, decide (0 < f (cl l B)) = r := ⟨_, rfl⟩
        have Hbk := Lib.hid hbk
        have HbA := Lib.hid hbA
        have HbB := Lib.hid hbB
        clear hbk hbA hbB
        cases bk
        · cases bA
          · have hmd' := hmd
            rcases hmd' with rfl | rfl
            · go_wp2_with (first | ((with_reducible refine wpList_load_at ?_ 34 (.tmp 17) ?_ _ ?_ _ HLD2.out ?_); rfl; rfl; rfl) | (go_at_call 26; with_reducible refine (has_k HMX.out (by assumption) Hck.out Hwk.out Hbk.out).mono ?_; rintro e w1 ⟨rfl, h1⟩; have q1 := (HBX.out _ h1).1; have q2 := (HBX.out _ h1).2.1; have q3 := (HBX.out _ h1).2.2) | (go_at_call 26; with_reducible refine (has_k HMX.out (by assumption) HcA.out HwA.out HbA.out).mono ?_; rintro e w1 ⟨rfl, h1⟩; have q1 := (HBX.out _ h1).1; have q2 := (HBX.out _ h1).2.1; have q3 := (HBX.out _ h1).2.2))
              have HSH : Hid (ShutTo l (fun c => 0 < f c) (k + 1)) := by
                refine shut_next hS.out HX.out ?_
                rintro - c (⟨rfl, h, -⟩ | ⟨h, -⟩ | ⟨h, -⟩)
                · exact absurd h (of_decide_eq_false HbA.out)
                · exact absurd h (of_decide_eq_false Hbk.out)
                · exact absurd h (of_decide_eq_false Hbk.out)
              go_roundg (l.length - (k + 1))
              case measure => omega
              case rel => exact ⟨k + 1, by omega, by omega, by go_num, HSH.out, HOX.out.trans h1⟩
            · go_wp2_with (first | ((with_reducible refine wpList_load_at ?_ 34 (.tmp 17) ?_ _ ?_ _ HLD2.out ?_); rfl; rfl; rfl) | (go_at_call 26; with_reducible refine (has_k HMX.out (by assumption) Hck.out Hwk.out Hbk.out).mono ?_; rintro e w1 ⟨rfl, h1⟩; have q1 := (HBX.out _ h1).1; have q2 := (HBX.out _ h1).2.1; have q3 := (HBX.out _ h1).2.2) | (go_at_call 26; with_reducible refine (has_k HMX.out (by assumption) HcA.out HwA.out HbA.out).mono ?_; rintro e w1 ⟨rfl, h1⟩; have q1 := (HBX.out _ h1).1; have q2 := (HBX.out _ h1).2.1; have q3 := (HBX.out _ h1).2.2))
              have HSH : Hid (ShutTo l (fun c => 0 < f c) (k + 1)) := by
                refine shut_next hS.out HX.out ?_
                rintro - c (⟨rfl, h, -⟩ | ⟨h, -⟩ | ⟨h, -⟩)
                · exact absurd h (of_decide_eq_false HbA.out)
                · exact absurd h (of_decide_eq_false Hbk.out)
                · exact absurd h (of_decide_eq_false Hbk.out)
              go_roundg (l.length - (k + 1))
              case measure => omega
              case rel => exact ⟨k + 1, by omega, by omega, by go_num, HSH.out, HOX.out.trans h1⟩
          · cases bB
            · have hmd' := hmd
              rcases hmd' with rfl | rfl
              · go_wp2_with (first | ((with_reducible refine wpList_load_at ?_ 34 (.tmp 17) ?_ _ ?_ _ HLD2.out ?_); rfl; rfl; rfl) | (go_at_call 26; with_reducible refine (has_k HMX.out (by assumption) Hck.out Hwk.out Hbk.out).mono ?_; rintro e w1 ⟨rfl, h1⟩; have q1 := (HBX.out _ h1).1; have q2 := (HBX.out _ h1).2.1; have q3 := (HBX.out _ h1).2.2) | (go_at_call 26; with_reducible refine (has_k HMX.out (by assumption) HcA.out HwA.out HbA.out).mono ?_; rintro e w1 ⟨rfl, h1⟩; have q1 := (HBX.out _ h1).1; have q2 := (HBX.out _ h1).2.1; have q3 := (HBX.out _ h1).2.2) | (go_at_call 26; with_reducible refine (has_k HMX.out (by assumption) HcB.out HwB.out HbB.out).mono ?_; rintro e w1 ⟨rfl, h1⟩; have q1 := (HBX.out _ h1).1; have q2 := (HBX.out _ h1).2.1; have q3 := (HBX.out _ h1).2.2))
                have HSH : Hid (ShutTo l (fun c => 0 < f c) (k + 1)) := by
                  refine shut_next hS.out HX.out ?_
                  rintro - c (⟨rfl, -, h⟩ | ⟨h, -⟩ | ⟨h, -⟩)
                  · exact absurd h (of_decide_eq_false HbB.out)
                  · exact absurd h (of_decide_eq_false Hbk.out)
                  · exact absurd h (of_decide_eq_false Hbk.out)
                go_roundg (l.length - (k + 1))
                case measure => omega
                case rel => exact ⟨k + 1, by omega, by omega, by go_num, HSH.out, HOX.out.trans h1⟩
              · go_wp2_with (first | ((with_reducible refine wpList_load_at ?_ 34 (.tmp 17) ?_ _ ?_ _ HLD2.out ?_); rfl; rfl; rfl) | (go_at_call 26; with_reducible refine (has_k HMX.out (by assumption) Hck.out Hwk.out Hbk.out).mono ?_; rintro e w1 ⟨rfl, h1⟩; have q1 := (HBX.out _ h1).1; have q2 := (HBX.out _ h1).2.1; have q3 := (HBX.out _ h1).2.2) | (go_at_call 26; with_reducible refine (has_k HMX.out (by assumption) HcA.out HwA.out HbA.out).mono ?_; rintro e w1 ⟨rfl, h1⟩; have q1 := (HBX.out _ h1).1; have q2 := (HBX.out _ h1).2.1; have q3 := (HBX.out _ h1).2.2) | (go_at_call 26; with_reducible refine (has_k HMX.out (by assumption) HcB.out HwB.out HbB.out).mono ?_; rintro e w1 ⟨rfl, h1⟩; have q1 := (HBX.out _ h1).1; have q2 := (HBX.out _ h1).2.1; have q3 := (HBX.out _ h1).2.2))
                have HSH : Hid (ShutTo l (fun c => 0 < f c) (k + 1)) := by
                  refine shut_next hS.out HX.out ?_
                  rintro - c (⟨rfl, -, h⟩ | ⟨h, -⟩ | ⟨h, -⟩)
                  · exact absurd h (of_decide_eq_false HbB.out)
                  · exact absurd h (of_decide_eq_false Hbk.out)
                  · exact absurd h (of_decide_eq_false Hbk.out)
                go_roundg (l.length - (k + 1))
                case measure => omega
                case rel => exact ⟨k + 1, by omega, by omega, by go_num, HSH.out, HOX.out.trans h1⟩
            · have hmd' := hmd
              rcases hmd' with rfl | rfl
              · go_wp2_with (first | ((with_reducible refine wpList_load_at ?_ 34 (.tmp 17) ?_ _ ?_ _ HLD2.out ?_); rfl; rfl; rfl) | (go_at_call 26; with_reducible refine (has_k HMX.out (by assumption) Hck.out Hwk.out Hbk.out).mono ?_; rintro e w1 ⟨rfl, h1⟩; have q1 := (HBX.out _ h1).1; have q2 := (HBX.out _ h1).2.1; have q3 := (HBX.out _ h1).2.2) | (go_at_call 26; with_reducible refine (has_k HMX.out (by assumption) HcA.out HwA.out HbA.out).mono ?_; rintro e w1 ⟨rfl, h1⟩; have q1 := (HBX.out _ h1).1; have q2 := (HBX.out _ h1).2.1; have q3 := (HBX.out _ h1).2.2) | (go_at_call 26; with_reducible refine (has_k HMX.out (by assumption) HcB.out HwB.out HbB.out).mono ?_; rintro e w1 ⟨rfl, h1⟩; have q1 := (HBX.out _ h1).1; have q2 := (HBX.out _ h1).2.1; have q3 := (HBX.out _ h1).2.2) | (go_at_call 24; with_reducible refine (learn_k HMX.out (by assumption) Hck.out Hwk.out hn HF.out).mono ?_; rintro e w2 ⟨rfl, h2, h3⟩))
                try rw [Exit.noGoto_ret]
                go_ret
                exact ⟨true, n + 1, _, rfl, h2, (HOX.out.mono (fun _ x => x.elim)).trans h3, fun _ => rfl, (fun h => by cases h), fun _ => ⟨k, by omega, ⟨k, _, HX.out, by first | exact .inl rfl | exact .inr rfl, .inl ⟨rfl, of_decide_eq_true HbA.out, of_decide_eq_true HbB.out⟩⟩, of_decide_eq_false Hbk.out, rfl⟩⟩
              · go_wp2_with (first | ((with_reducible refine wpList_load_at ?_ 34 (.tmp 17) ?_ _ ?_ _ HLD2.out ?_); rfl; rfl; rfl) | (go_at_call 26; with_reducible refine (has_k HMX.out (by assumption) Hck.out Hwk.out Hbk.out).mono ?_; rintro e w1 ⟨rfl, h1⟩; have q1 := (HBX.out _ h1).1; have q2 := (HBX.out _ h1).2.1; have q3 := (HBX.out _ h1).2.2) | (go_at_call 26; with_reducible refine (has_k HMX.out (by assumption) HcA.out HwA.out HbA.out).mono ?_; rintro e w1 ⟨rfl, h1⟩; have q1 := (HBX.out _ h1).1; have q2 := (HBX.out _ h1).2.1; have q3 := (HBX.out _ h1).2.2) | (go_at_call 26; with_reducible refine (has_k HMX.out (by assumption) HcB.out HwB.out HbB.out).mono ?_; rintro e w1 ⟨rfl, h1⟩; have q1 := (HBX.out _ h1).1; have q2 := (HBX.out _ h1).2.1; have q3 := (HBX.out _ h1).2.2) | (go_at_call 24; with_reducible refine (learn_k HMX.out (by assumption) Hck.out Hwk.out hn HF.out).mono ?_; rintro e w2 ⟨rfl, h2, h3⟩))
                try rw [Exit.noGoto_ret]
                go_ret
                exact ⟨true, n + 1, _, rfl, h2, (HOX.out.mono (fun _ x => x.elim)).trans h3, fun _ => rfl, (fun h => by cases h), fun _ => ⟨k, by omega, ⟨k, _, HX.out, by first | exact .inl rfl | exact .inr rfl, .inl ⟨rfl, of_decide_eq_true HbA.out, of_decide_eq_true HbB.out⟩⟩, of_decide_eq_false Hbk.out, rfl⟩⟩
        · have hmd' := hmd
          rcases hmd' with rfl | rfl
          · have HBS := Lib.hid (fun W => build_f2 A B W)
            go_wp2_with (first | ((with_reducible refine wpList_load_at ?_ 34 (.tmp 17) ?_ _ ?_ _ HLD2.out ?_); rfl; rfl; rfl) | (go_at_call 26; with_reducible refine (has_k HMX.out (by assumption) Hck.out Hwk.out Hbk.out).mono ?_; rintro e w1 ⟨rfl, h1⟩; have q1 := (HBX.out _ h1).1; have q2 := (HBX.out _ h1).2.1; have q3 := (HBX.out _ h1).2.2) | ((with_reducible refine wpList_bs_at ?_ 23 2 #[(0, .tmp 50), (1, .tmp 52)] ?_ [(0, .int .i64 (A : Int)), (1, .int .i64 (B : Int))] ?_ _ (HBS.out _) ?_); rfl; rfl; rfl))
            obtain ⟨V, hV⟩ : ∃ V, V = w1.alloc (.cells #[.int .i64 (A : Int), .int .i64 (B : Int)] 3) := ⟨_, rfl⟩
            have HV1 : Hid (Only (fun _ => False) (wo.alloc (.cells #[.int .i64 2, .int .i64 (A : Int), .int .i64 (B : Int)] 34)) V) := by rw [hV]; exact h1.alloc _
            have HV2 : Hid (V.heap[w1.heap.size]? = some (.cells #[.int .i64 (A : Int), .int .i64 (B : Int)] 3 (0, 0))) := by rw [hV]; exact heap_alloc_new _ _
            rw [← hV]
            clear hV q1 q2 q3
            go_loopg [64] 2 (fun gj i wr => ∃ m : Nat, (m = 0 ∨ m = 1 ∧ bA = true ∨ m = 2 ∧ bA = true ∧ bB = true) ∧ gj = 2 - m ∧ i = .int .i64 m ∧ Hid (Only (fun _ => False) (wo.alloc (.cells #[.int .i64 2, .int .i64 (A : Int), .int .i64 (B : Int)] 34)) wr) ∧ Hid (wr.heap[w1.heap.size]? = some (.cells #[.int .i64 (A : Int), .int .i64 (B : Int)] 3 (0, 0))))
            case atStart => exact ⟨0, .inl rfl, rfl, rfl, HV1.out, HV2.out⟩
            case round =>
              obtain ⟨m, hmm, hgj, rfl, hO2, hQ2⟩ := hrel
              clear HV1 HV2 h1
              have h1 := hO2.out
              have c0 : wr.cell? ⟨w1.heap.size, 0, none⟩ = some (.int .i64 (A : Int)) := cell_of_row _ _ _ _ _ _ hQ2.out
              have c1 : wr.cell? ⟨w1.heap.size, 1, none⟩ = some (.int .i64 (B : Int)) := cell_of_row _ _ _ _ _ _ hQ2.out
              rcases hmm with rfl | ⟨rfl, rfl⟩ | ⟨rfl, rfl, rfl⟩
              · cases bA
                · go_wp2_with (first | (go_at_call 26; with_reducible refine (has_k HMX.out (by assumption) HcA.out HwA.out HbA.out).mono ?_; rintro e w1 ⟨rfl, h1⟩; have q1 := (HBX.out _ h1).1; have q2 := (HBX.out _ h1).2.1; have q3 := (HBX.out _ h1).2.2) | (go_at_call 24; with_reducible refine (learn_k HMX.out (by assumption) HcA.out HwA.out hn HF.out).mono ?_; rintro e w2 ⟨rfl, h2, h3⟩))
                  try rw [Exit.noGoto_ret]
                  go_ret
                  exact ⟨true, n + 1, _, rfl, h2, (HOX.out.mono (fun _ x => x.elim)).trans h3, fun _ => rfl, (fun h => by cases h), fun _ => ⟨A, by omega, ⟨k, _, HX.out, by first | exact .inl rfl | exact .inr rfl, .inr (.inl ⟨of_decide_eq_true Hbk.out, rfl, .inl rfl⟩)⟩, of_decide_eq_false HbA.out, rfl⟩⟩
                · go_wp2_with (first | (go_at_call 26; with_reducible refine (has_k2 HMX.out (by assumption) HcA.out HwA.out HbA.out).mono ?_; rintro e w3 ⟨rfl, h3, h4⟩))
                  have HQ3 := Lib.hid (keepRow h4 hQ2.out (fun x => x))
                  clear h4
                  go_roundg 1
                  case measure => omega
                  case rel => exact ⟨1, by simp, by omega, by go_num, h3, HQ3.out⟩
              · cases bB
                · go_wp2_with (first | (go_at_call 26; with_reducible refine (has_k HMX.out (by assumption) HcB.out HwB.out HbB.out).mono ?_; rintro e w1 ⟨rfl, h1⟩; have q1 := (HBX.out _ h1).1; have q2 := (HBX.out _ h1).2.1; have q3 := (HBX.out _ h1).2.2) | (go_at_call 24; with_reducible refine (learn_k HMX.out (by assumption) HcB.out HwB.out hn HF.out).mono ?_; rintro e w2 ⟨rfl, h2, h3⟩))
                  try rw [Exit.noGoto_ret]
                  go_ret
                  exact ⟨true, n + 1, _, rfl, h2, (HOX.out.mono (fun _ x => x.elim)).trans h3, fun _ => rfl, (fun h => by cases h), fun _ => ⟨B, by omega, ⟨k, _, HX.out, by first | exact .inl rfl | exact .inr rfl, .inr (.inl ⟨of_decide_eq_true Hbk.out, rfl, .inr rfl⟩)⟩, of_decide_eq_false HbB.out, rfl⟩⟩
                · go_wp2_with (first | (go_at_call 26; with_reducible refine (has_k2 HMX.out (by assumption) HcB.out HwB.out HbB.out).mono ?_; rintro e w3 ⟨rfl, h3, h4⟩))
                  have HQ3 := Lib.hid (keepRow h4 hQ2.out (fun x => x))
                  clear h4
                  go_roundg 0
                  case measure => omega
                  case rel => exact ⟨2, by simp, by omega, by go_num, h3, HQ3.out⟩
              · go_wp2_with fail
                have HSH : Hid (ShutTo l (fun c => 0 < f c) (k + 1)) := by
                  refine shut_next hS.out HX.out ?_
                  rintro - c (⟨rfl, -, -⟩ | ⟨-, -, rfl | rfl⟩ | ⟨-, h, -⟩)
                  · exact of_decide_eq_true Hbk.out
                  · exact of_decide_eq_true HbA.out
                  · exact of_decide_eq_true HbB.out
                  · exact absurd h (show ¬ (2 : Int) = 3 by decide)
                go_roundg (l.length - (k + 1))
                case measure => omega
                case rel => exact ⟨k + 1, by omega, by omega, by go_num, HSH.out, HOX.out.trans h1⟩
          · cases bA
            · go_wp2_with (first | ((with_reducible refine wpList_load_at ?_ 34 (.tmp 17) ?_ _ ?_ _ HLD2.out ?_); rfl; rfl; rfl) | (go_at_call 26; with_reducible refine (has_k HMX.out (by assumption) Hck.out Hwk.out Hbk.out).mono ?_; rintro e w1 ⟨rfl, h1⟩; have q1 := (HBX.out _ h1).1; have q2 := (HBX.out _ h1).2.1; have q3 := (HBX.out _ h1).2.2) | (go_at_call 26; with_reducible refine (has_k HMX.out (by assumption) HcA.out HwA.out HbA.out).mono ?_; rintro e w1 ⟨rfl, h1⟩; have q1 := (HBX.out _ h1).1; have q2 := (HBX.out _ h1).2.1; have q3 := (HBX.out _ h1).2.2))
              go_loopg [64] 1 (fun gj i wr => gj = 1 ∧ i = .int .i64 0 ∧ Hid (Only (fun _ => False) (wo.alloc (.cells #[.int .i64 3, .int .i64 (A : Int), .int .i64 (B : Int)] 34)) wr))
              case atStart => exact ⟨rfl, rfl, h1⟩
              case round =>
                obtain ⟨rfl, rfl, hO2⟩ := hrel
                clear h1
                have h1 := hO2.out
                go_wp2_with fail
                have HSH : Hid (ShutTo l (fun c => 0 < f c) (k + 1)) := by
                  refine shut_next hS.out HX.out ?_
                  rintro - c (⟨rfl, -, -⟩ | ⟨-, h, -⟩ | ⟨-, -, h, -⟩)
                  · exact of_decide_eq_true Hbk.out
                  · exact absurd h (show ¬ (3 : Int) = 2 by decide)
                  · exact absurd h (of_decide_eq_false HbA.out)
                go_roundg (l.length - (k + 1))
                case measure => omega
                case rel => exact ⟨k + 1, by omega, by omega, by go_num, HSH.out, HOX.out.trans h1⟩
            · have HBS := Lib.hid (fun W => build_f B W)
              go_wp2_with (first | ((with_reducible refine wpList_load_at ?_ 34 (.tmp 17) ?_ _ ?_ _ HLD2.out ?_); rfl; rfl; rfl) | (go_at_call 26; with_reducible refine (has_k HMX.out (by assumption) Hck.out Hwk.out Hbk.out).mono ?_; rintro e w1 ⟨rfl, h1⟩; have q1 := (HBX.out _ h1).1; have q2 := (HBX.out _ h1).2.1; have q3 := (HBX.out _ h1).2.2) | (go_at_call 26; with_reducible refine (has_k HMX.out (by assumption) HcA.out HwA.out HbA.out).mono ?_; rintro e w1 ⟨rfl, h1⟩; have q1 := (HBX.out _ h1).1; have q2 := (HBX.out _ h1).2.1; have q3 := (HBX.out _ h1).2.2) | ((with_reducible refine wpList_bs_at ?_ 23 1 #[(0, .tmp 60)] ?_ [(0, .int .i64 (B : Int))] ?_ _ (HBS.out _) ?_); rfl; rfl; rfl))
              obtain ⟨V, hV⟩ : ∃ V, V = w1.alloc (.cells #[.int .i64 (B : Int)] 3) := ⟨_, rfl⟩
              have HV1 : Hid (Only (fun _ => False) (wo.alloc (.cells #[.int .i64 3, .int .i64 (A : Int), .int .i64 (B : Int)] 34)) V) := by rw [hV]; exact h1.alloc _
              have HV2 : Hid (V.heap[w1.heap.size]? = some (.cells #[.int .i64 (B : Int)] 3 (0, 0))) := by rw [hV]; exact heap_alloc_new _ _
              rw [← hV]
              clear hV q1 q2 q3
              go_loopg [64] 1 (fun gj i wr => ∃ m : Nat, (m = 0 ∨ m = 1 ∧ bB = true) ∧ gj = 1 - m ∧ i = .int .i64 m ∧ Hid (Only (fun _ => False) (wo.alloc (.cells #[.int .i64 3, .int .i64 (A : Int), .int .i64 (B : Int)] 34)) wr) ∧ Hid (wr.heap[w1.heap.size]? = some (.cells #[.int .i64 (B : Int)] 3 (0, 0))))
              case atStart => exact ⟨0, .inl rfl, rfl, rfl, HV1.out, HV2.out⟩
              case round =>
                obtain ⟨m, hmm, hgj, rfl, hO2, hQ2⟩ := hrel
                clear HV1 HV2 h1
                have h1 := hO2.out
                have c0 : wr.cell? ⟨w1.heap.size, 0, none⟩ = some (.int .i64 (B : Int)) := cell_of_row _ _ _ _ _ _ hQ2.out
                rcases hmm with rfl | ⟨rfl, rfl⟩
                · cases bB
                  · go_wp2_with (first | (go_at_call 26; with_reducible refine (has_k HMX.out (by assumption) HcB.out HwB.out HbB.out).mono ?_; rintro e w1 ⟨rfl, h1⟩; have q1 := (HBX.out _ h1).1; have q2 := (HBX.out _ h1).2.1; have q3 := (HBX.out _ h1).2.2) | (go_at_call 24; with_reducible refine (learn_k HMX.out (by assumption) HcB.out HwB.out hn HF.out).mono ?_; rintro e w2 ⟨rfl, h2, h3⟩))
                    try rw [Exit.noGoto_ret]
                    go_ret
                    exact ⟨true, n + 1, _, rfl, h2, (HOX.out.mono (fun _ x => x.elim)).trans h3, fun _ => rfl, (fun h => by cases h), fun _ => ⟨B, by omega, ⟨k, _, HX.out, by first | exact .inl rfl | exact .inr rfl, .inr (.inr ⟨of_decide_eq_true Hbk.out, rfl, of_decide_eq_true HbA.out, rfl⟩)⟩, of_decide_eq_false HbB.out, rfl⟩⟩
                  · go_wp2_with (first | (go_at_call 26; refine (has_k2 HMX.out (by assumption) HcB.out HwB.out HbB.out).mono ?_; rintro e w3 ⟨rfl, h3, h4⟩))
                    have HQ3 := Lib.hid (keepRow h4 hQ2.out (fun x => x))
                    clear h4
                    go_roundg 0
                    case measure => omega
                    case rel => exact ⟨1, by simp, by omega, by go_num, h3, HQ3.out⟩
                · go_wp2_with fail
                  have HSH : Hid (ShutTo l (fun c => 0 < f c) (k + 1)) := by
                    refine shut_next hS.out HX.out ?_
                    rintro - c (⟨rfl, -, -⟩ | ⟨-, h, -⟩ | ⟨-, -, -, rfl⟩)
                    · exact of_decide_eq_true Hbk.out
                    · exact absurd h (show ¬ (3 : Int) = 2 by decide)
                    · exact of_decide_eq_true HbB.out
                  go_roundg (l.length - (k + 1))
                  case measure => omega
                  case rel => exact ⟨k + 1, by omega, by omega, by go_num, HSH.out, HOX.out.trans h1⟩
      · have e2 : ((op : Int) == 2) = false := by simp at hmd; simp [hmd.1]
        have e3 : ((op : Int) == 3) = false := by simp at hmd; simp [hmd.2]
        have n2 : ((op : Int) != 2) = true := by simp [bne, e2]
        have n3 : ((op : Int) != 3) = true := by simp [bne, e3]
        go_wp2_with (first | ((with_reducible refine wpList_load_at ?_ 34 (.tmp 17) ?_ _ ?_ _ HLD2.out ?_); rfl; rfl; rfl))
        go_roundg (l.length - (k + 1))
        case measure => omega
        case rel => exact ⟨k + 1, by omega, by omega, by go_num, shut_next hS.out HX.out (fun h => absurd h hmd), HOX.out⟩
    · obtain rfl : k = l.length := by omega
      go_wp2_with fail
      try rw [Exit.noGoto_ret]
      go_ret
      exact ⟨false, n, f, rfl, HMI.out.keep hO.out, hO.out.mono (fun _ x => x.elim), (fun h => by cases h), fun _ => ⟨rfl, shut_all hS.out⟩, fun h => by cases h⟩
end
end Go.Proofs.Ytnppjkekbdapkaa
