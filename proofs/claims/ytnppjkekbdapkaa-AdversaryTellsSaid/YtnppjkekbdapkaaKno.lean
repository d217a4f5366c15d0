/-
  Knows.
-/
import Derived.Test.YtnppjkekbdapkaaRnd
import Derived.Deep.CutBlock
set_option linter.unusedVariables false
namespace Go.Proofs.Ytnppjkekbdapkaa
open Go.RowKit

/-- The value v is a slice of these. -/
def VL (w : World) (v : Value) (xs : List Value) : Prop := ∃ a cap, v = .slice a xs.length cap ∧ xs.length ≤ cap ∧ cap ≤ maxLen ∧ ∀ i u, xs[i]? = some u → ∃ b o, a = some ⟨b, o, none⟩ ∧ w.cell? ⟨b, o + i, none⟩ = some u
def IL (w : World) (v : Value) (l : List Int) : Prop := VL w v (l.map (Value.int .i64))
def BL (w : World) (v : Value) (l : List Bool) : Prop := VL w v (l.map Value.bool)
theorem VL.keep {w w' : World} {v : Value} {l : List Value} (h : VL w v l) (o : Only (fun _ => False) w w') : VL w' v l := by
  obtain ⟨a, cap, rfl, h1, h2, h3⟩ := h
  refine ⟨a, cap, rfl, h1, h2, fun i u hu => ?_⟩
  obtain ⟨b, q, rfl, hc⟩ := h3 i u hu
  refine ⟨b, q, rfl, ?_⟩
  rw [← hc]
  exact World.cell?_of_block (o.block _ (World.block_lt_of_cell? w _ hc) (fun h => h))
theorem IL.keep {w w' : World} {v : Value} {l : List Int} (h : IL w v l) (o : Only (fun _ => False) w w') : IL w' v l := VL.keep h o
theorem BL.keep {w w' : World} {v : Value} {l : List Bool} (h : BL w v l) (o : Only (fun _ => False) w w') : BL w' v l := VL.keep h o
theorem IL.at {w : World} {v : Value} {l : List Int} (h : IL w v l) {i : Nat} (hi : i < l.length) : ∃ b o cap, v = .slice (some ⟨b, o, none⟩) l.length cap ∧ l.length ≤ cap ∧ cap ≤ maxLen ∧ w.cell? ⟨b, o + i, none⟩ = some (.int .i64 l[i]) := by
  obtain ⟨a, cap, rfl, h1, h2, h3⟩ := h
  obtain ⟨b, o, rfl, hc⟩ := h3 i (.int .i64 l[i]) (by simp [hi])
  rw [List.length_map] at *
  exact ⟨b, o, cap, rfl, h1, h2, hc⟩
theorem BL.at {w : World} {v : Value} {l : List Bool} (h : BL w v l) {i : Nat} (hi : i < l.length) : ∃ b o cap, v = .slice (some ⟨b, o, none⟩) l.length cap ∧ l.length ≤ cap ∧ cap ≤ maxLen ∧ w.cell? ⟨b, o + i, none⟩ = some (.bool l[i]) := by
  obtain ⟨a, cap, rfl, h1, h2, h3⟩ := h
  obtain ⟨b, o, rfl, hc⟩ := h3 i (.bool l[i]) (by simp [hi])
  rw [List.length_map] at *
  exact ⟨b, o, cap, rfl, h1, h2, hc⟩
theorem IL.val {w : World} {v : Value} {l : List Int} (h : IL w v l) : ∃ a cap, v = .slice a l.length cap ∧ l.length ≤ cap ∧ cap ≤ maxLen := by
  obtain ⟨a, cap, rfl, h1, h2, h3⟩ := h
  rw [List.length_map] at *
  exact ⟨a, cap, rfl, h1, h2⟩
theorem BL.val {w : World} {v : Value} {l : List Bool} (h : BL w v l) : ∃ a cap, v = .slice a l.length cap ∧ l.length ≤ cap ∧ cap ≤ maxLen := by
  obtain ⟨a, cap, rfl, h1, h2, h3⟩ := h
  rw [List.length_map] at *
  exact ⟨a, cap, rfl, h1, h2⟩
theorem VL.of_row {w : World} {g cap : Nat} {cs : Array Value} {t : TypeId} {xs : List Value} (hg : w.heap[g]? = some (.cells cs t (0, 0))) (hl : xs.length ≤ cap) (hc : cap ≤ maxLen) (h : ∀ (i : Nat) (u : Value), xs[i]? = some u → cs[i]? = some u) : VL w (.slice (some ⟨g, 0, none⟩) xs.length cap) xs := by
  refine ⟨_, cap, rfl, hl, hc, fun i u hu => ⟨g, 0, rfl, ?_⟩⟩
  rw [Nat.zero_add, cell_of_row w g i _ _ _ hg]
  exact h i u hu

/-- The least set that holds S and is shut. -/
def Der (l : List Nd) (S : Int → Prop) (c : Int) : Prop := ∀ K : Int → Prop, (∀ c, S c → K c) → (∀ c, Step l K c → K c) → K c
theorem At.mono {l : List Nd} {K K' : Int → Prop} (h : ∀ c, K c → K' c) {k : Nat} {x : Nd} {c : Int} (a : At l K k x c) : At l K' k x c := by
  rcases a with ⟨h1, h2, h3⟩ | ⟨h1, h2⟩ | ⟨h1, h2, h3, h4⟩
  · exact .inl ⟨h1, h _ h2, h _ h3⟩
  · exact .inr (.inl ⟨h _ h1, h2⟩)
  · exact .inr (.inr ⟨h _ h1, h2, h _ h3, h4⟩)
theorem Step.mono {l : List Nd} {K K' : Int → Prop} (h : ∀ c, K c → K' c) {c : Int} (s : Step l K c) : Step l K' c := by
  obtain ⟨k, x, h1, h2, h3⟩ := s
  exact ⟨k, x, h1, h2, h3.mono h⟩
theorem Der.of {l : List Nd} {S : Int → Prop} {c : Int} (h : S c) : Der l S c := fun K h1 _ => h1 c h
theorem Der.step {l : List Nd} {S : Int → Prop} {c : Int} (h : Step l (Der l S) c) : Der l S c := fun K h1 h2 => h2 c (h.mono fun c hc => hc K h1 h2)
theorem Der.least {l : List Nd} {S : Int → Prop} {c : Int} (h : Der l S c) {K : Int → Prop} (h1 : ∀ c, S c → K c) (h2 : ∀ c, Step l K c → K c) : K c := h K h1 h2
theorem Der.sub {l : List Nd} {S T : Int → Prop} (h : ∀ c, S c → Der l T c) {c : Int} (hc : Der l S c) : Der l T c := hc _ h fun c hs => Der.step hs
theorem Der.mono {l : List Nd} {S T : Int → Prop} (h : ∀ c, S c → T c) {c : Int} (hc : Der l S c) : Der l T c := hc.sub fun c hs => Der.of (h c hs)
/-- The classes of what is known at first. -/
def Seed (l : List Nd) (kn : List Int) (c : Int) : Prop := ∃ x ∈ kn, 0 ≤ x ∧ x < (l.length : Int) ∧ c = cl l x.toNat
def DerK (l : List Nd) (kn : List Int) (i : Nat) : Prop := Der l (Seed l kn) (cl l i)
open Classical in
noncomputable def knows (l : List Nd) (kn : List Int) : List Bool := if mayB l = true then (List.range l.length).map (fun i => decide (DerK l kn i)) else []

/-- How many classes are not known. -/
def unk (l : List Nd) (f : Int → Int) : Nat := (List.range l.length).countP fun i : Nat => !decide (0 < f (i : Int))
theorem countP_lt {α : Type} {p q : α → Bool} {l : List α} (h : ∀ x, q x = true → p x = true) {a : α} (ha : a ∈ l) (hp : p a = true) (hq : q a = false) : l.countP q + 1 ≤ l.countP p := by
  induction l with
  | nil => cases ha
  | cons b l ih =>
    have hle : l.countP q ≤ l.countP p := List.countP_mono_left fun x _ hx => h x hx
    rcases List.mem_cons.1 ha with rfl | ha
    · rw [List.countP_cons, List.countP_cons, hp, hq]
      simp
      omega
    · have := ih ha
      rw [List.countP_cons, List.countP_cons]
      by_cases hb : q b = true
      · simp [hb, h b hb]
        omega
      · simp only [hb]
        simp
        omega
theorem unk_lt {l : List Nd} {f : Int → Int} {i : Nat} (hi : i < l.length) (hf : ∀ c, 0 ≤ f c) (hn : ¬ 0 < f (cl l i)) : unk l (fun j => if j = cl l i then f (cl l i) + 1 else f j) + 1 ≤ unk l f := by
  have hc := cl_lt hi
  obtain ⟨C, hC⟩ := Int.eq_ofNat_of_zero_le hc.1
  rw [hC] at hc hn ⊢
  refine countP_lt (a := C) ?_ (List.mem_range.2 (by omega)) (by simpa using hn) ?_
  · intro x hx
    by_cases h : (x : Int) = (C : Int)
    · simp only [h]
      have hn' : f (C : Int) ≤ 0 := by simpa using hn
      simpa using hn'
    · simpa [h] using hx
  · have := hf (C : Int)
    simp
    omega
theorem unk_le (l : List Nd) (f : Int → Int) : unk l f ≤ l.length := by
  have := List.countP_le_length (p := fun i : Nat => !decide (0 < f (i : Int))) (l := List.range l.length)
  rwa [List.length_range] at this

/-- Behind k of the known places. -/
structure Kn (w : World) (G : Nat) (v fv : Value) (l : List Nd) (kn : List Int) (k n : Nat) (f : Int → Int) (wr : World) : Prop where
  mi : Mi wr G (G + 1) G v fv (firsts l) n f
  le : n ≤ k
  bd : ∀ c, 0 ≤ f c ∧ f c ≤ (n : Int)
  at' : ∀ c, 0 < f c ↔ Seed l (kn.take k) c
  only : Only (fun _ => False) w wr
theorem Kn.skip {w wr : World} {G : Nat} {v fv : Value} {l : List Nd} {kn : List Int} {k n : Nat} {f : Int → Int} (h : Kn w G v fv l kn k n f wr) {x : Int} (hx : kn[k]? = some x) (hn : ¬ (0 ≤ x ∧ x < (l.length : Int))) : Kn w G v fv l kn (k + 1) n f wr := by
  refine ⟨h.mi, by have := h.le; omega, h.bd, fun c => (h.at' c).trans ?_, h.only⟩
  rw [List.take_add_one, hx]
  constructor
  · rintro ⟨y, hy, h1, h2, h3⟩
    exact ⟨y, by simp [hy], h1, h2, h3⟩
  · rintro ⟨y, hy, h1, h2, h3⟩
    simp only [Option.toList_some, List.mem_append, List.mem_singleton] at hy
    rcases hy with hy | rfl
    · exact ⟨y, hy, h1, h2, h3⟩
    · exact absurd ⟨h1, h2⟩ hn
theorem Kn.next {w wr w' : World} {G : Nat} {v fv : Value} {l : List Nd} {kn : List Int} {k n : Nat} {f : Int → Int} (h : Kn w G v fv l kn k n f wr) {X : Nat} (hx : kn[k]? = some (X : Int)) (hX : X < l.length) (hg : w.heap.size ≤ G)
    (hm : Mi w' G (G + 1) G v fv (firsts l) (n + 1) (fun j => if j = cl l X then f (cl l X) + 1 else f j)) (ho : Only (fun k => k = G) wr w') : Kn w G v fv l kn (k + 1) (n + 1) (fun j => if j = cl l X then f (cl l X) + 1 else f j) w' := by
  refine ⟨hm, by have := h.le; omega, fun c => ?_, fun c => ?_, fresh_only h.only ho (fun j hj => by omega)⟩
  · have h1 := h.bd (cl l X)
    have h2 := h.bd c
    by_cases hc : c = cl l X
    · simp only [hc, if_pos]
      omega
    · rw [if_neg hc]
      omega
  · rw [List.take_add_one, hx]
    by_cases hc : c = cl l X
    · have h1 := h.bd (cl l X)
      simp only [hc, if_pos]
      refine ⟨fun _ => ⟨(X : Int), by simp, by omega, by omega, rfl⟩, fun _ => by omega⟩
    · rw [if_neg hc, h.at' c]
      constructor
      · rintro ⟨y, hy, h1, h2, h3⟩
        exact ⟨y, by simp [hy], h1, h2, h3⟩
      · rintro ⟨y, hy, h1, h2, h3⟩
        simp only [Option.toList_some, List.mem_append, List.mem_singleton] at hy
        rcases hy with hy | rfl
        · exact ⟨y, hy, h1, h2, h3⟩
        · exact absurd h3 hc
/-- Between the rounds. -/
structure Kr (w : World) (G : Nat) (v fv : Value) (l : List Nd) (kn : List Int) (n : Nat) (f : Int → Int) (wr : World) : Prop where
  mi : Mi wr G (G + 1) G v fv (firsts l) n f
  le : n + unk l f ≤ kn.length + l.length
  bd : ∀ c, 0 ≤ f c ∧ f c ≤ (n : Int)
  sup : ∀ c, Seed l kn c → 0 < f c
  sub : ∀ c, 0 < f c → Der l (Seed l kn) c
  only : Only (fun _ => False) w wr
theorem Kn.done {w wr : World} {G : Nat} {v fv : Value} {l : List Nd} {kn : List Int} {n : Nat} {f : Int → Int} (h : Kn w G v fv l kn kn.length n f wr) : Kr w G v fv l kn n f wr := by
  have ha := h.at'
  rw [List.take_length] at ha
  exact ⟨h.mi, by have := h.le; have := unk_le l f; omega, h.bd, fun c hc => (ha c).2 hc, fun c hc => Der.of ((ha c).1 hc), h.only⟩
theorem Kr.next {w wr w' : World} {G : Nat} {v fv : Value} {l : List Nd} {kn : List Int} {n n' : Nat} {f f' : Int → Int} (h : Kr w G v fv l kn n f wr) (hg : w.heap.size ≤ G) (hm : Mi w' G (G + 1) G v fv (firsts l) n' f') (ho : Only (fun k => k = G) wr w') (hn : n' = n + 1) (hr : RP l f true f') :
    Kr w G v fv l kn n' f' w' ∧ unk l f' < unk l f := by
  obtain ⟨i, hi, hs, hk, rfl⟩ := hr.2 rfl
  have hu := unk_lt hi (fun c => (h.bd c).1) hk
  subst hn
  have hb := h.bd (cl l i)
  have hle := h.le
  refine ⟨⟨hm, by omega, fun c => ?_, fun c hc => ?_, fun c hc => ?_, fresh_only h.only ho (fun j hj => by omega)⟩, by omega⟩
  · have h2 := h.bd c
    by_cases hc : c = cl l i
    · simp only [hc, if_pos]
      omega
    · rw [if_neg hc]
      omega
  · have h2 := h.sup c hc
    by_cases hc : c = cl l i
    · simp only [hc, if_pos]
      omega
    · rw [if_neg hc]
      exact h2
  · by_cases he : c = cl l i
    · rw [he]
      exact Der.step (hs.mono h.sub)
    · rw [if_neg he] at hc
      exact h.sub c hc
theorem Kr.shut {w wr : World} {G : Nat} {v fv : Value} {l : List Nd} {kn : List Int} {n : Nat} {f f' : Int → Int} (h : Kr w G v fv l kn n f wr) (hr : RP l f false f') (c : Int) : 0 < f c ↔ Der l (Seed l kn) c :=
  ⟨h.sub c, fun hd => hd.least (K := fun c => 0 < f c) h.sup (hr.1 rfl).2⟩

theorem madeB (n : Nat) (w : World) (hn : n ≤ 1000000) : (Instr.makeSlice 25 (.int .i64 (n : Int)) (.int .i64 (n : Int))).run Try.prog w = .ok (.slice (some ⟨w.heap.size, 0, none⟩) n n) (w.alloc (.cells (madeCells #[.bool false] n) 4)) :=
  run_make_row' (P := Try.prog) 25 4 (.bool false) 1 Try.underlying25 (by kernel_rfl) rfl .i64 .i64 n (by omega) (by omega) w
theorem knows_len {l : List Nd} {kn : List Int} (h : mayB l = true) : (knows l kn).length = l.length := by
  unfold knows
  rw [if_pos h]
  simp
theorem knows_row {l : List Nd} {kn : List Int} (h : mayB l = true) {f : Int → Int} (hf : ∀ c, 0 < f c ↔ Der l (Seed l kn) c) {w : World} {g : Nat} {cur : Array Value} {t : TypeId} (hg : w.heap[g]? = some (.cells cur t (0, 0))) (hlen : l.length ≤ 200)
    (hc : ∀ j, j < l.length → cur[j]? = some (.bool (decide (0 < f (cl l j))))) : BL w (.slice (some ⟨g, 0, none⟩) l.length l.length) (knows l kn) := by
  have e : l.length = ((knows l kn).map Value.bool).length := by rw [List.length_map, knows_len h]
  have := VL.of_row (xs := (knows l kn).map Value.bool) (cap := l.length) hg (by omega) (by unfold maxLen; omega) (by
    intro i u hu
    have hi : i < l.length := by
      have := (List.getElem?_eq_some_iff.1 hu).1
      omega
    rw [hc i hi, ← hu, List.getElem?_map]
    unfold knows
    rw [if_pos h, List.getElem?_map, List.getElem?_range hi]
    have : decide (0 < f (cl l i)) = @decide (DerK l kn i) (Classical.propDecidable _) := by
      rw [decide_eq_decide]
      exact hf _
    simp [this])
  unfold BL
  rw [← e] at this
  exact this
set_option maxHeartbeats 8000000 in
theorem knows_any (l : List Nd) (kn : List Int) (v kv : Value) (w : World) (hl : NL w v l) (hkn : IL w kv kn) (hwf : ∀ x ∈ l, x.Wf) (hll : l.length ≤ 1000000) (hkl : kn.length ≤ 100000) :
    Calls Try.prog 10 #[v, kv] w fun e w' => ∃ bv, e = .returned bv ∧ BL w' bv (knows l kn) ∧ Only (fun _ => False) w w' := by
  have HL := Lib.hid hl
  have HK := Lib.hid hkn
  have HWF := Lib.hid hwf
  obtain ⟨ad, cap, rfl, hrow⟩ := hl
  obtain ⟨ka, kcap, rfl, hkc, hkm⟩ := hkn.val
  clear hrow hkn hwf
  have HM := Lib.hid (may_any l _ w HL.out hll)
  cases hm : mayB l
  · have HMB := Lib.hid hm
    rw [hm] at HM
    clear hm
    go_enter Try.func10, Try.ntmps10
    go_wp2_with (go_at_call 12; refine HM.out.mono ?_; rintro e w1 ⟨rfl, h1⟩)
    go_ret
    exact ⟨_, rfl, ⟨none, 0, by unfold knows; rw [HMB.out]; rfl, by unfold knows; rw [HMB.out]; exact Nat.le_refl _, by unfold maxLen; omega, by unfold knows; rw [HMB.out]; intro i u hu; cases hu⟩, Only.of_below h1⟩
  · have HMB := Lib.hid hm
    have hlen : l.length ≤ 200 := by
      have := hm
      simp [mayB] at this
      exact this.2
    rw [hm] at HM
    clear hm
    go_enter Try.func10, Try.ntmps10
    go_wp2_with (first | (go_at_call 12; refine HM.out.mono ?_; rintro e w1 ⟨rfl, h1⟩) | (go_at_call 23; refine (think_any l _ _ (HL.out.keep (Only.of_below h1)) HMB.out HWF.out).mono ?_; rintro e w2 ⟨fv, rfl, hmi, h2⟩))
    obtain ⟨G, hG⟩ : ∃ G, G = w1.heap.size := ⟨_, rfl⟩
    rw [← hG] at hmi ⊢
    have hGw : w.heap.size ≤ G := by rw [hG]; exact (Only.of_below h1 : Only (fun _ => False) w w1).size
    have HK0 : Hid (Kn w G (.slice ad l.length cap) fv l kn 0 0 (fun _ => 0) w2) := ⟨hmi, Nat.le_refl _, fun _ => by simp, fun c => by simp [Seed], (Only.of_below h1).trans h2⟩
    have HW : Hid (∀ i, i < l.length → wf64 (cl l i)) := fun i hi => by
      have := cl_lt hi
      rw [wf64_iff]
      omega
    clear hmi h1 h2 hG HM HWF
    go_loopg [17] kn.length (fun gg i wr => ∃ (k n : Nat) (f : Int → Int), k ≤ kn.length ∧ gg = kn.length - k ∧ i = .int .i64 k ∧ Hid (Kn w G (.slice ad l.length cap) fv l kn k n f wr))
    case atStart => exact ⟨0, 0, fun _ => 0, by omega, by omega, rfl, HK0.out⟩
    case round =>
      revert wr
      intro wa hrel
      obtain ⟨k, n, f, hk, hgk, rfl, hS⟩ := hrel
      clear HK0
      by_cases hlt : k < kn.length
      · have hlt' : (k : Int) < (kn.length : Int) := by omega
        obtain ⟨kb, ko, kc, he, hkc', _, hcx⟩ := (HK.out.keep hS.out.only).at hlt
        cases he
        have HX : Hid (kn[k]? = some kn[k]) := List.getElem?_eq_getElem hlt
        generalize kn[k] = x at *
        by_cases hx : 0 ≤ x ∧ x < (l.length : Int)
        · obtain ⟨hx0, hx1⟩ := hx
          obtain ⟨X, rfl⟩ := Int.eq_ofNat_of_zero_le hx0
          have hX : X < l.length := by omega
          have HLN := Lib.hid (learn_k hS.out.mi (Only.refl _ _) (firsts_at hX) (HW.out X hX) (by have := hS.out.le; unfold maxLen; omega) (fun c => by have := hS.out.bd c; have := hS.out.le; omega))
          go_wp2_with (go_at_call 24; refine HLN.out.mono ?_; rintro e w3 ⟨rfl, h3, h4⟩)
          have HN := Lib.hid (hS.out.next HX.out hX hGw h3 h4)
          go_roundg (kn.length - (k + 1))
          case measure => omega
          case rel => exact ⟨k + 1, n + 1, _, by omega, by omega, by go_num, HN.out⟩
        · have HN := Lib.hid (hS.out.skip HX.out hx)
          by_cases hx0 : 0 ≤ x
          · have hx1 : ¬ x < (l.length : Int) := fun h => hx ⟨hx0, h⟩
            clear hx
            go_wp2_with fail
            go_roundg (kn.length - (k + 1))
            case measure => omega
            case rel => exact ⟨k + 1, n, f, by omega, by omega, by go_num, HN.out⟩
          · clear hx
            go_wp2_with fail
            go_roundg (kn.length - (k + 1))
            case measure => omega
            case rel => exact ⟨k + 1, n, f, by omega, by omega, by go_num, HN.out⟩
      · obtain rfl : k = kn.length := by omega
        have HR := Lib.hid hS.out.done
        go_wp2_with fail
        go_loopg [34] (unk l f) (fun gg i wr => ∃ (n : Nat) (f : Int → Int), gg = unk l f ∧ Hid (Kr w G (.slice ad l.length cap) fv l kn n f wr))
        case atStart => exact ⟨n, f, rfl, HR.out⟩
        case round =>
          clear hS HR
          revert wr
          intro wb hrel
          obtain ⟨n2, f2, hgk2, hS2⟩ := hrel
          have HRD := Lib.hid (round_any hS2.out.mi (HL.out.keep hS2.out.only) HMB.out (by have := hS2.out.le; unfold maxLen; omega) (fun c => by have := hS2.out.bd c; have := hS2.out.le; omega))
          go_upto_if 34 with (go_at_call 25; refine HRD.out.mono ?_; rintro e w4 ⟨r, n4, f4, rfl, h4, h5, h6, h7⟩)
          cases r
          · have HMI := Lib.hid h4
            have HSH := Lib.hid (hS2.out.shut h7)
            obtain rfl := (h7.1 rfl).1
            have HO4 := Lib.hid (fresh_only hS2.out.only h5 (fun j hj => by omega))
            have hmk := madeB l.length w4 (by omega)
            clear h4 h5 h6 h7
            have HB0 : Hid ((w4.alloc (.cells (madeCells #[.bool false] l.length) 4)).heap[w4.heap.size]? = some (.cells (madeCells #[.bool false] l.length) 4 (0, 0))) := heap_alloc_new _ _
            have HB1 : Hid (Only (fun _ => False) w4 (w4.alloc (.cells (madeCells #[.bool false] l.length) 4))) := (Only.refl _ _).alloc _
            go_wp2_with fail
            generalize w4.alloc (.cells (madeCells #[.bool false] l.length) 4) = V at *
            clear hmk
            have hms : (madeCells #[Value.bool false] l.length).size = l.length := by simp [madeCells]
            go_loopg [40] l.length (fun gg i wr => ∃ (k : Nat) (cur : Array Value), k ≤ l.length ∧ gg = l.length - k ∧ i = .int .i64 k ∧ Hid (wr.heap[w4.heap.size]? = some (.cells cur 4 (0, 0)) ∧ cur.size = l.length ∧ ∀ j, j < k → cur[j]? = some (.bool (decide (0 < f4 (cl l j))))) ∧ Hid (Only (fun _ => False) w4 wr))
            case atStart => exact ⟨0, _, by omega, by omega, rfl, ⟨HB0.out, hms, fun j hj => absurd hj (Nat.not_lt_zero j)⟩, HB1.out⟩
            case round =>
              clear HB0 HB1 hms
              revert wr
              intro wc hrel
              obtain ⟨k, cur, hk, hgk, rfl, hQ, hO⟩ := hrel
              by_cases hlt : k < l.length
              · have hlt' : (k : Int) < (l.length : Int) := by omega
                have HHK := Lib.hid (has_k2 HMI.out hO.out (firsts_at hlt) (HW.out k hlt) (r := decide (0 < f4 (cl l k))) rfl)
                obtain ⟨old, hold⟩ : ∃ old, cur[k]? = some old := ⟨_, Array.getElem?_eq_getElem (by have := hQ.out.2.1; omega)⟩
                have HOLD := Lib.hid hold
                clear hold
                obtain ⟨rk, hrk⟩ : ∃ r, decide (0 < f4 (cl l k)) = r := ⟨_, rfl⟩
                have HRK := Lib.hid hrk
                rw [hrk] at HHK
                clear hrk
                go_wp2_with (go_at_call 26; refine HHK.out.mono ?_; rintro e w5 ⟨rfl, h5, h6⟩; have hr5 := keepRow h6 hQ.out.1 (fun x => x); have q1 := cell_of_row w5 w4.heap.size k _ _ _ hr5; rw [HOLD.out] at q1; have q2 := frozen_of_row w5 w4.heap.size k _ _ hr5)
                have HR5 := Lib.hid hr5
                have HN : Hid (∃ cur' : Array Value, (w5.setCell ⟨w4.heap.size, k, none⟩ (.bool rk)).heap[w4.heap.size]? = some (.cells cur' 4 (0, 0)) ∧ cur'.size = l.length ∧ ∀ j, j < k + 1 → cur'[j]? = some (.bool (decide (0 < f4 (cl l j))))) := by
                  refine ⟨_, heap_setCell_same _ _ _ _ _ _ hr5, by simp [hQ.out.2.1], fun j hj => ?_⟩
                  have hks : k < cur.size := by have := hQ.out.2.1; omega
                  by_cases hjk : j = k
                  · subst hjk
                    rw [HRK.out]
                    simp [hks]
                  · have := hQ.out.2.2 j (by omega)
                    rw [← this]
                    simp [Ne.symm hjk]
                have HON : Hid (Only (fun _ => False) w4 (w5.setCell ⟨w4.heap.size, k, none⟩ (.bool rk))) := fresh_only h5 ((Only.refl (fun j => j = w4.heap.size) w5).setCell rfl _) (fun j hj => by omega)
                obtain ⟨cur', hN⟩ := HN.out
                have HN' := Lib.hid hN
                clear hr5 q1 q2 hN h5 h6
                go_roundg (l.length - (k + 1))
                case measure => omega
                case rel => exact ⟨k + 1, cur', by omega, by omega, by go_num, HN'.out, HON.out⟩
              · obtain rfl : k = l.length := by omega
                go_wp2_with fail
                go_ret
                exact ⟨_, rfl, knows_row HMB.out HSH.out hQ.out.1 hlen hQ.out.2.2, HO4.out.trans hO.out⟩
          · obtain ⟨hn1, hn2⟩ := hS2.out.next hGw h4 h5 (h6 rfl) h7
            have HN := Lib.hid hn1
            clear h4 h5 h6 h7 hn1
            go_wp2_with fail
            go_roundg (unk l f4)
            case measure => omega
            case rel => exact ⟨n4, f4, rfl, HN.out⟩
end Go.Proofs.Ytnppjkekbdapkaa
