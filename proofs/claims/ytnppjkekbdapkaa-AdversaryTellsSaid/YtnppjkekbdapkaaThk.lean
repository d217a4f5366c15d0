/-
  think.
-/
import Derived.Test.YtnppjkekbdapkaaMnd
import Derived.Test.YtnppjkekbdapkaaHle
import Derived.Deep.AppendLies
import Derived.Deep.CutBlock
set_option linter.unusedVariables false
namespace Go.Proofs.Ytnppjkekbdapkaa
open Go.RowKit

def normAt (fs : List Int) (x : Nd) : Nd := if x.op = 2 ∨ x.op = 3 then ⟨x.op, fs.getD x.a.toNat 0, fs.getD x.b.toNat 0⟩ else x
/-- What think has behind some nodes: their normal forms, and of each place the first one that has the same. -/
def thStep (s : List Nd × List Int) (x : Nd) : List Nd × List Int := (s.1 ++ [normAt s.2 x], s.2 ++ [(((s.1 ++ [normAt s.2 x]).idxOf (normAt s.2 x) : Nat) : Int)])
def thS (l : List Nd) : List Nd × List Int := l.foldl thStep ([], [])
def firsts (l : List Nd) : List Int := (thS l).2
def seenOf (ks : List Nd) (y : Nd) : Option Int := if y ∈ ks then some ((ks.idxOf y : Nat) : Int) else none
theorem thS_snoc (l : List Nd) (x : Nd) : thS (l ++ [x]) = thStep (thS l) x := by simp [thS]
theorem snoc_ind {α : Type} {Q : List α → Prop} (h0 : Q []) (h1 : ∀ l x, Q l → Q (l ++ [x])) (l : List α) : Q l := by
  have : ∀ r : List α, Q r.reverse := by
    intro r
    induction r with
    | nil => exact h0
    | cons x r ih => rw [List.reverse_cons]; exact h1 _ _ ih
  have := this l.reverse
  rwa [List.reverse_reverse] at this
theorem thS_len (l : List Nd) : (thS l).1.length = l.length ∧ (thS l).2.length = l.length := by
  induction l using snoc_ind with
  | h0 => exact ⟨rfl, rfl⟩
  | h1 l x ih =>
    rw [thS_snoc, thStep]
    simp [ih.1, ih.2]
theorem thS_lt (l : List Nd) : ∀ c ∈ (thS l).2, 0 ≤ c ∧ c < (l.length : Int) := by
  induction l using snoc_ind with
  | h0 => intro c hc; cases hc
  | h1 l x ih =>
    intro c hc
    rw [thS_snoc, thStep] at hc
    simp only [List.mem_append, List.mem_singleton] at hc
    rcases hc with hc | rfl
    · have := ih c hc
      simp
      omega
    · have h1 : ((thS l).1 ++ [normAt (thS l).2 x]).idxOf (normAt (thS l).2 x) < ((thS l).1 ++ [normAt (thS l).2 x]).length := List.idxOf_lt_length_of_mem (by simp)
      simp [(thS_len l).1] at h1 ⊢
      omega

theorem make_map (t : TypeId) (w : World) : (Instr.makeMap t none).run Try.prog w = .ok (.map (some w.heap.size)) (w.alloc (.map #[] 0)) := by simp [Instr.makeMap]
theorem build60 (ad : Option Addr) (n cap : Nat) (m : Nat) (w : World) : (Instr.build 60 #[(0, .slice ad n cap), (2, .map (some m))]).run Try.prog w = .ok (.agg #[.slice ad n cap, .slice none 0 0, .map (some m)]) w := run_build w 60 _ _ (by kernel_rfl)
/-- think's state behind k nodes. -/
structure Th (w : World) (lv fv : Value) (l : List Nd) (k n : Nat) (wr : World) : Prop where
  mi : Mi wr w.heap.size (w.heap.size + 1) w.heap.size lv fv (thS (l.take k)).2 0 (fun _ => 0)
  seen : NM wr (w.heap.size + 1 + 1) n (seenOf (thS (l.take k)).1)
  le : n ≤ k
  only : Only (fun _ => False) w wr

theorem may_at {l : List Nd} (h : mayB l = true) {k : Nat} {x : Nd} (hk : l[k]? = some x) : rightB (l.take k) x = true := by
  simp [mayB] at h
  obtain ⟨hlt, hx⟩ := List.getElem?_eq_some_iff.1 hk
  have := h.1 k hlt
  unfold rightAt at this
  rw [List.getD_eq_getElem?_getD, hk] at this
  exact this
theorem may_made {l : List Nd} (h : mayB l = true) {k : Nat} {x : Nd} (hk : l[k]? = some x) (hm : x.op = 2 ∨ x.op = 3) : (0 ≤ x.a ∧ x.a < (k : Int)) ∧ (0 ≤ x.b ∧ x.b < (k : Int)) := by
  have := may_at h hk
  have hlt := (List.getElem?_eq_some_iff.1 hk).1
  unfold rightB at this
  rw [if_neg (by omega)] at this
  split at this
  · cases this
  · rename_i hn
    simp at hn
    omega

theorem build_f (x : Int) (w : World) : (Instr.buildSlice 23 1 #[(0, .int .i64 x)]).run Try.prog w = .ok (.slice (some ⟨w.heap.size, 0, none⟩) 1 1) (w.alloc (.cells #[.int .i64 x] 3)) := by
  obtain ⟨ie, hie, hz, hs, hb⟩ := info_parts (show (Try.prog.info? 3).map (fun i => (i.zero, i.size, i.bytes)) = some (some (.int .i64 0), 1, 8) by kernel_rfl)
  refine run_buildSlice w 23 3 1 _ _ ie _ Try.underlying23 hie hz (by omega) (by omega) ?_
  rw [hs]
  kernel_rfl
theorem seen_old {ks : List Nd} {y : Nd} (h : y ∈ ks) : seenOf (ks ++ [y]) = seenOf ks := by
  funext z
  unfold seenOf
  by_cases hz : z ∈ ks
  · rw [if_pos hz, if_pos (by simp [hz]), List.idxOf_append, if_pos hz]
  · rw [if_neg hz, if_neg (by simp [hz]; rintro rfl; exact hz h)]
theorem seen_new {ks : List Nd} {y : Nd} (h : ¬ y ∈ ks) : seenOf (ks ++ [y]) = fun z => if z = y then some ((ks.length : Nat) : Int) else seenOf ks z := by
  funext z
  unfold seenOf
  by_cases hz : z ∈ ks
  · rw [if_pos hz, if_pos (by simp [hz]), List.idxOf_append, if_pos hz, if_neg (by rintro rfl; exact h hz)]
  · by_cases hzy : z = y
    · subst hzy
      rw [if_pos (by simp), if_pos rfl, List.idxOf_append, if_neg hz]
      simp
    · rw [if_neg (by simp [hz, hzy]), if_neg hzy, if_neg hz]
/-- Behind the look-up: the mind as it was, the map with y. -/
structure Pt (w : World) (lv fv : Value) (fs : List Int) (ks : List Nd) (n bx : Nat) (row : Array Value) (W : World) : Prop where
  mi : Mi W w.heap.size (w.heap.size + 1) w.heap.size lv fv fs 0 (fun _ => 0)
  seen : NM W (w.heap.size + 1 + 1) n (seenOf ks)
  box : W.heap[bx]? = some (.cells row 34 (0, 0))
  only : Only (fun _ => False) w W
theorem Pt.drew {w W : World} {lv fv : Value} {fs : List Int} {ks : List Nd} {n bx : Nat} {row : Array Value} (h : Pt w lv fv fs ks n bx row W) : Pt w lv fv fs ks n bx row (World.drew W) := ⟨h.mi.keep (Only.refl _ W).drew, h.seen, h.box, h.only.drew⟩
/-- Behind the append: the row of the mind still has the slice as it was. -/
structure Pu (w : World) (lv fvO fv : Value) (fs : List Int) (ks : List Nd) (n bx : Nat) (row : Array Value) (W : World) : Prop where
  mrow : W.heap[w.heap.size + 1]? = some (.cells #[lv, fvO, .map (some w.heap.size)] 60 (0, 0))
  fst : FL W w.heap.size fv fs
  mp : IM W w.heap.size 0 (fun _ => 0)
  seen : NM W (w.heap.size + 1 + 1) n (seenOf ks)
  box : W.heap[bx]? = some (.cells row 34 (0, 0))
  only : Only (fun _ => False) w W
theorem FL.one {w : World} {base : Nat} {v : Value} {fs : List Int} (h : FL w base v fs) : v.oneCell' = true := by
  obtain ⟨_, ⟨rfl, _⟩ | ⟨g, cap, cur, rfl, _⟩⟩ := h <;> rfl
theorem Pt.grow {w V V2 : World} {lv fv fv2 : Value} {fs : List Int} {ks : List Nd} {n bx : Nat} {row : Array Value} {d : Int} (h : Pt w lv fv fs ks n bx row V) (own : V2.ownsRow w.heap.size 3 1 fv2 (fs.length + 1) (fs.map (Value.int .i64) ++ [.int .i64 d])) (gro : V.grownBy V2 fv.ownBlock) (hat : fv2.ownBlock = fv.ownBlock ∨ fv2.ownBlock = some V.heap.size) :
    Pu w lv fv fv2 (fs ++ [d]) ks n bx row V2 := by
  have o := grown_only gro
  have hb : ∀ k, fv.ownBlock = some k → w.heap.size ≤ k ∧ ∃ cur, V.heap[k]? = some (.cells cur 3 (0, 0)) := by
    intro k hk
    obtain ⟨_, ⟨rfl, _⟩ | ⟨g, cap, cur, rfl, hg1, hg, _⟩⟩ := h.mi.fst
    · cases hk
    · cases hk; exact ⟨hg1, cur, hg⟩
  refine ⟨keepRow o h.mi.row ?_, ?_, h.mi.mp.keep o ?_, h.seen.keep o ?_, keepRow o h.box ?_, fresh_only h.only o (fun j hj => (hb j hj).1)⟩
  · intro e
    obtain ⟨_, cur, hc⟩ := hb _ e
    rw [h.mi.row] at hc
    cases hc
  · show V2.ownsRow w.heap.size 3 1 fv2 (fs ++ [d]).length ((fs ++ [d]).map (Value.int .i64))
    rw [List.length_append, List.map_append]
    exact own
  · intro e
    obtain ⟨_, cur, hc⟩ := hb _ e
    obtain ⟨es, clock, hm⟩ := h.mi.mp.row
    rw [hm] at hc
    cases hc
  · intro e
    obtain ⟨_, cur, hc⟩ := hb _ e
    obtain ⟨es, clock, hm⟩ := h.seen.row
    rw [hm] at hc
    cases hc
  · intro e
    obtain ⟨_, cur, hc⟩ := hb _ e
    rw [h.box] at hc
    cases hc
theorem Pu.done {w V2 V3 : World} {lv fvO fv : Value} {l : List Nd} {k n bx : Nat} {row : Array Value} {x y : Nd} {d : Int} {KS : List Nd} (h : Pu w lv fvO fv ((thS (l.take k)).2 ++ [d]) KS n bx row V2) (hKS : (thS (l.take k)).1 ++ [y] = KS) (hx : l[k]? = some x) (hy : normAt (thS (l.take k)).2 x = y) (hd : (seenOf KS y).getD 0 = d) (hn : n ≤ k + 1)
    (hr3 : V3.heap[w.heap.size + 1]? = some (.cells (#[lv, fvO, .map (some w.heap.size)].setIfInBounds 1 fv) 60 (0, 0))) (ho3 : Only (fun j => j = w.heap.size + 1) V2 V3) : Th w lv fv l (k + 1) n V3 := by
  have hlt := (List.getElem?_eq_some_iff.1 hx).1
  have e1 : thS (l.take (k + 1)) = (KS, (thS (l.take k)).2 ++ [d]) := by
    rw [List.take_add_one, hx]
    show thS (l.take k ++ [x]) = _
    rw [thS_snoc, thStep, hy, hKS]
    have : y ∈ KS := by rw [← hKS]; simp
    unfold seenOf at hd
    rw [if_pos this] at hd
    rw [← hd]
    rfl
  have hfl : ¬ fv.ownBlock = some (w.heap.size + 1) := by
    intro e
    obtain ⟨_, ⟨rfl, _⟩ | ⟨g, cap, cur, rfl, hg1, hg, _⟩⟩ := h.fst
    · cases e
    · cases e
      rw [h.mrow] at hg
      cases hg
  refine ⟨⟨?_, ?_, h.mp.keep ho3 (by omega)⟩, ?_, by omega, fresh_only h.only ho3 (fun j hj => by omega)⟩
  · rw [hr3]
    rfl
  · rw [e1]
    exact h.fst.keep ho3 (fun j hj e => hfl (by rw [hj, e]))
  · rw [e1]
    exact h.seen.keep ho3 (by omega)
theorem pt_old {w wr Z : World} {lv fv : Value} {l : List Nd} {k n : Nat} {row : Array Value} {y : Nd} (h : Th w lv fv l k n wr) (oZ : Only (fun _ => False) wr Z) (gZ : Z.heap[wr.heap.size]? = some (.cells row 34 (0, 0))) (hy : y ∈ (thS (l.take k)).1) :
    Pt w lv fv (thS (l.take k)).2 ((thS (l.take k)).1 ++ [y]) n wr.heap.size row Z :=
  ⟨h.mi.keep oZ, by rw [seen_old hy]; exact h.seen.keep oZ (fun x => x), gZ, h.only.trans oZ⟩
theorem pt_new {w wr Z Z2 : World} {lv fv : Value} {l : List Nd} {k n n2 : Nat} {row : Array Value} {y : Nd} (h : Th w lv fv l k n wr) (hk : k ≤ l.length) (oZ : Only (fun _ => False) wr Z) (gZ : Z.heap[wr.heap.size]? = some (.cells row 34 (0, 0))) (hy : ¬ y ∈ (thS (l.take k)).1)
    (ho : Only (fun j => j = w.heap.size + 1 + 1) Z Z2) (hm : NM Z2 (w.heap.size + 1 + 1) n2 (fun z => if z = y then some (k : Int) else seenOf (thS (l.take k)).1 z)) :
    Pt w lv fv (thS (l.take k)).2 ((thS (l.take k)).1 ++ [y]) n2 wr.heap.size row Z2 := by
  have hlen : (thS (l.take k)).1.length = k := by rw [(thS_len _).1, List.length_take]; omega
  have hmi := h.mi.keep oZ
  obtain ⟨es, clock, hb⟩ := (h.seen.keep oZ (fun x => x)).row
  refine ⟨⟨keepRow ho hmi.row (by omega), hmi.fst.keep ho ?_, hmi.mp.keep ho (by omega)⟩, by rw [seen_new hy, hlen]; exact hm, keepRow ho gZ ?_, fresh_only (h.only.trans oZ) ho (fun j hj => by omega)⟩
  · rintro j hj rfl
    obtain ⟨_, ⟨rfl, _⟩ | ⟨g', cap, cur, rfl, hg, hb', rest⟩⟩ := hmi.fst
    · cases hj
    · cases hj
      rw [hb'] at hb
      cases hb
  · intro e
    rw [e] at gZ
    rw [gZ] at hb
    cases hb

set_option maxHeartbeats 4000000 in
theorem think_any (l : List Nd) (v : Value) (w : World) (hl : NL w v l) (hm : mayB l = true) (hwf : ∀ x ∈ l, x.Wf) : Calls Try.prog 23 #[v] w fun e w' => ∃ fv, e = .returned (.pointer (some ⟨w.heap.size + 1, 0, none⟩)) ∧ Mi w' w.heap.size (w.heap.size + 1) w.heap.size v fv (firsts l) 0 (fun _ => 0) ∧ Only (fun _ => False) w w' := by
  have HL := Lib.hid hl
  obtain ⟨ad, cap, rfl, hrow⟩ := hl
  clear hrow
  have hlen : l.length ≤ 200 := by
    have := hm
    simp [mayB] at this
    exact this.2
  have M1 := Lib.hid (make_map 31 w)
  have M2 := Lib.hid (make_map 61 ((w.alloc (.map #[] 0)).alloc (.cells #[.slice ad l.length cap, .slice none 0 0, .map (some w.heap.size)] 60)))
  have HB := Lib.hid (build60 ad l.length cap w.heap.size (w.alloc (.map #[] 0)))
  have m1 := M1.out
  have m2 := M2.out
  have hb := HB.out
  have HS0 : Hid (Th w (.slice ad l.length cap) (.slice none 0 0) l 0 0 (((w.alloc (.map #[] 0)).alloc (.cells #[.slice ad l.length cap, .slice none 0 0, .map (some w.heap.size)] 60)).alloc (.map #[] 0))) := by
    obtain ⟨X, hX⟩ : ∃ X, X = w.alloc (.map #[] 0) := ⟨_, rfl⟩
    have i1 : IM X w.heap.size 0 (fun _ => 0) := by rw [hX]; exact IM.new w
    have s1 : X.heap.size = w.heap.size + 1 := by rw [hX]; simp
    have o1 : Only (fun _ => False) w X := by rw [hX]; exact (Only.refl _ w).alloc _
    rw [← hX]
    clear hX
    obtain ⟨Y, hY⟩ : ∃ Y, Y = X.alloc (.cells #[.slice ad l.length cap, .slice none 0 0, .map (some w.heap.size)] 60) := ⟨_, rfl⟩
    have r2 : Y.heap[w.heap.size + 1]? = some (.cells #[.slice ad l.length cap, .slice none 0 0, .map (some w.heap.size)] 60 (0, 0)) := by
      rw [hY, ← s1]
      exact heap_alloc_new _ _
    have s2 : Y.heap.size = w.heap.size + 2 := by
      have : (X.alloc (.cells #[.slice ad l.length cap, .slice none 0 0, .map (some w.heap.size)] 60)).heap.size = X.heap.size + 1 := by simp
      rw [hY, this, s1]
    have o2 : Only (fun _ => False) X Y := by rw [hY]; exact (Only.refl _ X).alloc _
    rw [← hY]
    clear hY
    have o3 : Only (fun _ => False) Y (Y.alloc (.map #[] 0)) := (Only.refl _ Y).alloc _
    refine ⟨⟨keepRow o3 r2 (fun x => x), World.ownsRow_nil _ _ _ _, i1.keep (o2.trans o3) (fun x => x)⟩, ?_, Nat.le_refl _, (o1.trans o2).trans o3⟩
    rw [← s2]
    exact NM.new Y
  go_enter Try.func23, Try.ntmps23
  go_wp2_with fail
  go_loopw [16] (fun i wr => ∃ (k n : Nat) (fv : Value), k ≤ l.length ∧ i = .int .i64 k ∧ Hid (Th w (.slice ad l.length cap) fv l k n wr)) (fun i _ => l.length - (intOf i).toNat)
  case atStart => exact ⟨0, 0, _, by omega, rfl, HS0.out⟩
  case round =>
    obtain ⟨k, n, fv, hk, rfl, hS⟩ := hrel
    clear HS0 m1 m2 hb M1 M2 HB
    by_cases hlt : k < l.length
    · have hlt' : (k : Int) < (l.length : Int) := by omega
      have hNL := HL.out.keep hS.out.only
      obtain ⟨gb, go, gc, he, hgc, _, _, _, _, hld⟩ := hNL.at hlt
      cases he
      have HX : Hid (l[k]? = some l[k]) := List.getElem?_eq_getElem hlt
      generalize l[k] = x at *
      obtain ⟨op, a, b⟩ := x
      have HLD2 : Hid ((loadVar 34 ⟨gb, go + k * 3, none⟩).run Try.prog wr = .ok (.agg #[.int .i64 op, .int .i64 a, .int .i64 b]) wr) := hld
      clear hNL hld
      by_cases h2 : op = 2
      · subst h2
        go_wp2_with (((with_reducible refine wpList_load_at ?_ 34 (.tmp 19) ?_ _ ?_ _ HLD2.out ?_); rfl; rfl; rfl))
        obtain ⟨⟨ha0, hak⟩, hb0, hbk⟩ := may_made hm HX.out (.inl rfl)
        dsimp only at ha0 hak hb0 hbk
        obtain ⟨A, rfl⟩ := Int.eq_ofNat_of_zero_le ha0
        obtain ⟨B, rfl⟩ := Int.eq_ofNat_of_zero_le hb0
        have hA : A < (thS (l.take k)).2.length := by rw [(thS_len _).2, List.length_take]; omega
        have hB : B < (thS (l.take k)).2.length := by rw [(thS_len _).2, List.length_take]; omega
        obtain ⟨gf, fc, cur, rfl, hfc, hgl, hgf, hcA⟩ := hS.out.mi.fst.at hA
        obtain ⟨gf2, fc2, cur2, he, _, _, _, hcB⟩ := hS.out.mi.fst.at hB
        cases he
        obtain ⟨fA, hfA⟩ : ∃ y, (thS (l.take k)).2[A] = y := ⟨_, rfl⟩
        obtain ⟨fB, hfB⟩ : ∃ y, (thS (l.take k)).2[B] = y := ⟨_, rfl⟩
        have hfl : (thS (l.take k)).2.length = k := by rw [(thS_len _).2, List.length_take]; omega
        rw [hfA] at hcA
        rw [hfB] at hcB
        obtain ⟨X, hX⟩ : ∃ X, X = wr.alloc (.cells #[.int .i64 2, .int .i64 (A : Int), .int .i64 (B : Int)] 34) := ⟨_, rfl⟩
        have hO1 : Only (fun _ => False) wr X := by rw [hX]; exact (Only.refl _ _).alloc _
        have hg1 : X.heap[wr.heap.size]? = some (.cells #[.int .i64 2, .int .i64 (A : Int), .int .i64 (B : Int)] 34 (0, 0)) := by rw [hX]; exact heap_alloc_new _ _
        have q1 : X.cell? ⟨w.heap.size + 1, 1, none⟩ = some (.slice (some ⟨gf, 0, none⟩) k fc) := by
          rw [← hfl]
          exact cell_of_row _ _ _ _ _ _ (keepRow hO1 hS.out.mi.row (fun x => x))
        have q2 : X.cell? ⟨gf, A, none⟩ = some (.int .i64 fA) := by
          rw [cell_of_row _ _ _ _ _ _ (keepRow hO1 hgf (fun x => x)), ← cell_of_row wr gf A _ _ _ hgf]
          exact hcA
        have q3 : X.cell? ⟨gf, B, none⟩ = some (.int .i64 fB) := by
          rw [cell_of_row _ _ _ _ _ _ (keepRow hO1 hgf (fun x => x)), ← cell_of_row wr gf B _ _ _ hgf]
          exact hcB
        have q4 : X.cell? ⟨wr.heap.size, 1, none⟩ = some (.int .i64 (A : Int)) := cell_of_row _ _ _ _ _ _ hg1
        have q5 : X.cell? ⟨wr.heap.size, 2, none⟩ = some (.int .i64 (B : Int)) := cell_of_row _ _ _ _ _ _ hg1
        have q6 : X.frozen? ⟨wr.heap.size, 1, none⟩ = false := frozen_of_row _ _ _ _ _ hg1
        have q7 : X.frozen? ⟨wr.heap.size, 2, none⟩ = false := frozen_of_row _ _ _ _ _ hg1
        have n1 : ¬ gf = wr.heap.size := by have := (Array.getElem?_eq_some_iff.1 hgf).1; omega
        have n2 : ¬ w.heap.size + 1 = wr.heap.size := by have := (Array.getElem?_eq_some_iff.1 hS.out.mi.row).1; omega
        have n3 : ¬ wr.heap.size = gf := fun h => n1 h.symm
        have n4 : ¬ wr.heap.size = w.heap.size + 1 := fun h => n2 h.symm
        rw [← hX]
        have HO1 := Lib.hid hO1
        have HG1 := Lib.hid hg1
        clear hX hcA hcB hgf hO1 hg1
        go_region
        obtain ⟨Y, hY⟩ : ∃ Y, Y = (X.setCell ⟨wr.heap.size, 1, none⟩ (.int .i64 fA)).setCell ⟨wr.heap.size, 2, none⟩ (.int .i64 fB) := ⟨_, rfl⟩
        have gY : Y.heap[wr.heap.size]? = some (.cells #[.int .i64 2, .int .i64 fA, .int .i64 fB] 34 (0, 0)) := by
          rw [hY]
          exact heap_setCell_same _ _ _ _ _ _ (heap_setCell_same _ _ _ _ _ _ HG1.out)
        have oY : Only (fun _ => False) wr Y := by
          rw [hY]
          exact fresh_only HO1.out (((Only.refl (fun k => k = wr.heap.size) X).setCell rfl _).setCell rfl _) (fun k hk => by omega)
        rw [← hY]
        clear hY q1 q2 q3 q4 q5 q6 q7
        obtain ⟨Z, hZ⟩ : ∃ Z, Z = World.drew Y := ⟨_, rfl⟩
        have gZ : Z.heap[wr.heap.size]? = some (.cells #[.int .i64 2, .int .i64 fA, .int .i64 fB] 34 (0, 0)) := by rw [hZ]; exact gY
        have oZ : Only (fun _ => False) wr Z := by rw [hZ]; exact oY.drew
        rw [← hZ]
        clear hZ gY oY HG1 HO1
        have hy : normAt (thS (l.take k)).2 ⟨2, (A : Int), (B : Int)⟩ = ⟨2, fA, fB⟩ := by
          show (⟨2, (thS (l.take k)).2.getD A 0, (thS (l.take k)).2.getD B 0⟩ : Nd) = _
          rw [List.getD_eq_getElem?_getD, List.getD_eq_getElem?_getD, List.getElem?_eq_getElem hA, List.getElem?_eq_getElem hB, ← hfA, ← hfB]
          rfl
        have wy : (⟨2, fA, fB⟩ : Nd).Wf := by
          have h1 := thS_lt (l.take k) _ (List.getElem_mem hA)
          have h2 := thS_lt (l.take k) _ (List.getElem_mem hB)
          rw [hfA] at h1
          rw [hfB] at h2
          have h3 : (l.take k).length ≤ 200 := by rw [List.length_take]; omega
          exact ⟨by show wf64 2; rw [wf64_iff]; omega, by show wf64 fA; rw [wf64_iff]; omega, by show wf64 fB; rw [wf64_iff]; omega⟩
        have HY := Lib.hid hy
        clear hy
        have hlk := (hS.out.seen.keep oZ (fun x => x)).lookOk wy
        have HLZ := Lib.hid (load34 gZ)
        by_cases hmem : (⟨2, fA, fB⟩ : Nd) ∈ (thS (l.take k)).1
        · have hs : seenOf (thS (l.take k)).1 ⟨2, fA, fB⟩ = some (((thS (l.take k)).1.idxOf ⟨2, fA, fB⟩ : Nat) : Int) := if_pos hmem
          rw [hs] at hlk
          have HLK : Hid ((Instr.lookup 61 (.map (some (w.heap.size + 1 + 1))) (.agg #[.int .i64 2, .int .i64 fA, .int .i64 fB]) true).run Try.prog Z = .ok (.tuple #[.int .i64 (((thS (l.take k)).1.idxOf ⟨2, fA, fB⟩ : Nat) : Int), .bool true]) Z) := hlk
          clear hlk
          have hlk2 := HLK.out
          go_wp2_with (((with_reducible refine wpList_load_at ?_ 34 (.tmp 6) ?_ _ ?_ _ HLZ.out ?_); rfl; rfl; rfl))
          have hp := Lib.hid (pt_old hS.out oZ gZ hmem)
          clear hs hlk2 gZ oZ
          generalize hKS : (thS (l.take k)).1 ++ [⟨2, fA, fB⟩] = KS at *
          have HKS := Lib.hid hKS
          clear hKS
          obtain ⟨d, hd⟩ : ∃ d, (seenOf KS ⟨2, fA, fB⟩).getD 0 = d := ⟨_, rfl⟩
          have HLA : Hid (∀ V : World, (V.heap[wr.heap.size]? = some (.cells #[.int .i64 2, .int .i64 fA, .int .i64 fB] 34 (0, 0)) ∧ ∃ n2, NM V (w.heap.size + 1 + 1) n2 (seenOf KS)) → (loadVar 34 ⟨wr.heap.size, 0, none⟩).run Try.prog V = .ok (.agg #[.int .i64 2, .int .i64 fA, .int .i64 fB]) V) := fun V h => load34 h.1
          have HLB : Hid (∀ V : World, (V.heap[wr.heap.size]? = some (.cells #[.int .i64 2, .int .i64 fA, .int .i64 fB] 34 (0, 0)) ∧ ∃ n2, NM V (w.heap.size + 1 + 1) n2 (seenOf KS)) → (Instr.lookup 61 (.map (some (w.heap.size + 1 + 1))) (.agg #[.int .i64 2, .int .i64 fA, .int .i64 fB]) false).run Try.prog V = .ok (.int .i64 d) V) := fun V h => by
            obtain ⟨n2, hn2⟩ := h.2
            have := hn2.look wy
            rw [hd] at this
            exact this
          refine wp_region_held (S := fun W => W.heap[wr.heap.size]? = some (.cells #[.int .i64 2, .int .i64 fA, .int .i64 fB] 34 (0, 0)) ∧ ∃ n2, NM W (w.heap.size + 1 + 1) n2 (seenOf KS)) (by kernel_rfl) ?_
          change wpAnyH _ _ _ _ _ _ _ _ (World.drew _)
          have hpd := Lib.hid hp.out.drew
          have HSA : Hid ((World.drew Z).heap[wr.heap.size]? = some (.cells #[.int .i64 2, .int .i64 fA, .int .i64 fB] 34 (0, 0)) ∧ ∃ n2, NM (World.drew Z) (w.heap.size + 1 + 1) n2 (seenOf KS)) := ⟨hpd.out.box, _, hpd.out.seen⟩
          refine held_pure (i := 0) (v := (.pointer (some ⟨w.heap.size + 1, 0, none⟩))) rfl rfl (by kernel_rfl) (by kernel_rfl) (by kernel_rfl) (fun _ _ _ h => h) (Or.inl ⟨by rfl, fun w => by go_simp⟩) HSA.out ?_
          simp only [List.setIfInBounds_toArray, List.set]
          refine held_pure (i := 1) (v := (.pointer (some ⟨w.heap.size + 1, 0, none⟩))) rfl rfl (by kernel_rfl) (by kernel_rfl) (by kernel_rfl) (fun _ _ _ h => h) (Or.inl ⟨by rfl, fun w => by go_simp⟩) HSA.out ?_
          simp only [List.setIfInBounds_toArray, List.set]
          refine held_pure (i := 2) (v := (.pointer (some ⟨w.heap.size + 1, 0, none⟩))) rfl rfl (by kernel_rfl) (by kernel_rfl) (by kernel_rfl) (fun _ _ _ h => h) (Or.inl ⟨by rfl, fun w => by go_simp⟩) HSA.out ?_
          simp only [List.setIfInBounds_toArray, List.set]
          refine held_pure (i := 3) (v := (.pointer (some ⟨w.heap.size + 1, 1, none⟩))) rfl rfl (by kernel_rfl) (by kernel_rfl) (by kernel_rfl) (fun _ _ _ h => h) (Or.inl ⟨by rfl, fun w => by go_simp⟩) HSA.out ?_
          simp only [List.setIfInBounds_toArray, List.set]
          refine held_pure (i := 5) (v := (.map (some (w.heap.size + 1 + 1)))) rfl rfl (by kernel_rfl) (by kernel_rfl) (by kernel_rfl) (fun _ _ _ h => h) (Or.inl ⟨by rfl, fun w => by go_simp⟩) HSA.out ?_
          simp only [List.setIfInBounds_toArray, List.set]
          refine held_take (i := 6) (v := (.agg #[.int .i64 2, .int .i64 fA, .int .i64 fB])) rfl rfl (by kernel_rfl) (by kernel_rfl) (by kernel_rfl) (fun _ _ _ h => h) (yields_load_w (by rfl) 34 (.tmp 6) rfl _ rfl _ HLA.out) HSA.out ?_
          simp only [List.setIfInBounds_toArray, List.set]
          refine held_take (i := 7) (v := .int .i64 d) rfl rfl (by kernel_rfl) (by kernel_rfl) (by kernel_rfl) (fun _ _ _ h => h) (Or.inl ⟨by rfl, fun w hS => by have hc := HLB.out w hS; go_simp⟩) HSA.out ?_
          simp only [List.setIfInBounds_toArray, List.set]
          obtain ⟨i3, hi3, hz3, hz31, hz32⟩ := info_parts (show (Try.prog.info? 3).map (fun i => (i.zero, i.size, i.bytes)) = some (some (.int .i64 0), 1, 8) by kernel_rfl)
          have HLF : Hid ((loadVar 23 ⟨w.heap.size + 1, 1, none⟩).run Try.prog (World.drew Z) = .ok (.slice (some ⟨gf, 0, none⟩) (thS (l.take k)).2.length fc) (World.drew Z)) := load_one 23 _ Try.underlying23 rfl (cell_of_row _ _ _ _ _ _ hpd.out.mi.row)
          have hbs := build_f d (World.drew Z)
          have hnw : ∀ (j : Nat) u, ([.int .i64 d] : List Value)[j]? = some u → ((World.drew Z).alloc (.cells #[.int .i64 d] 3)).cell? ((⟨(World.drew Z).heap.size, 0, none⟩ : Addr).add j) = some u := by exact World.news_of_block (heap_alloc_new _ _)
          have o1 : Only (fun _ => False) (World.drew Z) ((World.drew Z).alloc (.cells #[.int .i64 d] 3)) := (Only.refl _ _).alloc _
          generalize (World.drew Z).alloc (.cells #[.int .i64 d] 3) = V1 at *
          have HBS := Lib.hid hbs
          have HNW := Lib.hid hnw
          have HP1 := Lib.hid (show Pt w _ _ _ _ _ _ _ V1 from ⟨hpd.out.mi.keep o1, hpd.out.seen.keep o1 (fun x => x), keepRow o1 hpd.out.box (fun x => x), hpd.out.only.trans o1⟩)
          have HLF1 : Hid ((loadVar 23 ⟨w.heap.size + 1, 1, none⟩).run Try.prog V1 = .ok (.slice (some ⟨gf, 0, none⟩) (thS (l.take k)).2.length fc) V1) := load_one 23 _ Try.underlying23 rfl (cell_of_row _ _ _ _ _ _ HP1.out.mi.row)
          clear hbs hnw o1
          refine held_two (j := 4) (k := 8) (by kernel_rfl) ?_ ?_
          · refine op_exec (j := 4) rfl rfl (by rfl) _ (exec_load 23 (.tmp 61) rfl ⟨w.heap.size + 1, 1, none⟩ rfl _ HLF.out) ?_
            refine ⟨HSA.out, ?_⟩
            simp only [List.setIfInBounds_toArray, List.set]
            refine held_bs (j := 8) (by kernel_rfl) rfl rfl rfl 23 1 #[(0, .tmp 65)] rfl [(0, .int .i64 d)] rfl _ HBS.out ⟨HP1.out.box, _, HP1.out.seen⟩ ?_
            simp only [List.setIfInBounds_toArray, List.set]
            refine held_append (j := 9) (by kernel_rfl) rfl rfl rfl (.tmp 62) (.tmp 66) 23 rfl w.heap.size 3 i3 (.int .i64 0) 1 8 Try.underlying23 hi3 hz3 hz31 hz32 rfl (by decide) (.slice (some ⟨gf, 0, none⟩) (thS (l.take k)).2.length fc) _ _ rfl HP1.out.mi.fst ⟨(World.drew Z).heap.size, 0, none⟩ 1 1 [.int .i64 d] rfl rfl HNW.out (by intro u hu; simp at hu; subst hu; rfl) (by unfold maxLen; omega) (by omega) (by have := HP1.out.only.size; omega) ?_
            intro fv2 V2 own2 gro2 hat2
            have hp2 := Lib.hid (HP1.out.grow own2 gro2 hat2)
            clear own2 gro2 hat2
            refine ⟨⟨hp2.out.box, _, hp2.out.seen⟩, ?_⟩
            simp only [List.setIfInBounds_toArray, List.set]
            have HSV : Hid (V2.heap[wr.heap.size]? = some (.cells #[.int .i64 2, .int .i64 fA, .int .i64 fB] 34 (0, 0)) ∧ ∃ n2, NM V2 (w.heap.size + 1 + 1) n2 (seenOf KS)) := ⟨hp2.out.box, _, hp2.out.seen⟩
            refine held_pure (i := 10) (v := (.pointer (some ⟨w.heap.size + 1, 0, none⟩))) rfl rfl (by kernel_rfl) (by kernel_rfl) (by kernel_rfl) (fun _ _ _ h => h) (Or.inl ⟨by rfl, fun w => by go_simp⟩) HSV.out ?_
            simp only [List.setIfInBounds_toArray, List.set]
            refine held_pure (i := 11) (v := (.pointer (some ⟨w.heap.size + 1, 1, none⟩))) rfl rfl (by kernel_rfl) (by kernel_rfl) (by kernel_rfl) (fun _ _ _ h => h) (Or.inl ⟨by rfl, fun w => by go_simp⟩) HSV.out ?_
            simp only [List.setIfInBounds_toArray, List.set]
            obtain ⟨V3, hst, hr3, ho3, hs3⟩ := one_at V2 (o := 1) (ty := 23) (v := fv2) hp2.out.mrow (by kernel_rfl) hp2.out.fst.one (by show 1 < 3; decide)
            have HTH := Lib.hid (hp2.out.done HKS.out HX.out HY.out hd (by have := hS.out.le; omega) hr3 ho3)
            have hsv3 : V3.heap[wr.heap.size]? = some (.cells #[.int .i64 2, .int .i64 fA, .int .i64 fB] 34 (0, 0)) ∧ ∃ n2, NM V3 (w.heap.size + 1 + 1) n2 (seenOf KS) := ⟨keepRow ho3 hp2.out.box (by have := hS.out.only.size; intro e; have := (Array.getElem?_eq_some_iff.1 hS.out.mi.row).1; omega), _, hp2.out.seen.keep ho3 (by omega)⟩
            refine held_store (j := 12) (by kernel_rfl) rfl rfl rfl 23 (.tmp 69) (.tmp 67) rfl _ rfl _ rfl hst hsv3 ?_
            clear hst hr3 ho3 hs3 hsv3 HSV hp2
            refine wpAnyH_done (by kernel_rfl) ?_ _
            go_wp2_with fail
            go_roundw
            case rel => exact ⟨k + 1, _, fv2, by omega, by go_num, HTH.out⟩
            case measure => simp [intOf]; omega
          · refine op_exec (j := 8) rfl rfl (by rfl) _ (exec_bs 23 1 #[(0, .tmp 65)] rfl [(0, .int .i64 d)] rfl _ HBS.out) ?_
            refine ⟨⟨HP1.out.box, _, HP1.out.seen⟩, ?_⟩
            simp only [List.setIfInBounds_toArray, List.set]
            refine held_execd (j := 4) (by kernel_rfl) rfl rfl (by rfl) _ (exec_load 23 (.tmp 61) rfl ⟨w.heap.size + 1, 1, none⟩ rfl _ HLF1.out) ⟨HP1.out.box, _, HP1.out.seen⟩ ?_
            simp only [List.setIfInBounds_toArray, List.set]
            refine held_append (j := 9) (by kernel_rfl) rfl rfl rfl (.tmp 62) (.tmp 66) 23 rfl w.heap.size 3 i3 (.int .i64 0) 1 8 Try.underlying23 hi3 hz3 hz31 hz32 rfl (by decide) (.slice (some ⟨gf, 0, none⟩) (thS (l.take k)).2.length fc) _ _ rfl HP1.out.mi.fst ⟨(World.drew Z).heap.size, 0, none⟩ 1 1 [.int .i64 d] rfl rfl HNW.out (by intro u hu; simp at hu; subst hu; rfl) (by unfold maxLen; omega) (by omega) (by have := HP1.out.only.size; omega) ?_
            intro fv2 V2 own2 gro2 hat2
            have hp2 := Lib.hid (HP1.out.grow own2 gro2 hat2)
            clear own2 gro2 hat2
            refine ⟨⟨hp2.out.box, _, hp2.out.seen⟩, ?_⟩
            simp only [List.setIfInBounds_toArray, List.set]
            have HSV : Hid (V2.heap[wr.heap.size]? = some (.cells #[.int .i64 2, .int .i64 fA, .int .i64 fB] 34 (0, 0)) ∧ ∃ n2, NM V2 (w.heap.size + 1 + 1) n2 (seenOf KS)) := ⟨hp2.out.box, _, hp2.out.seen⟩
            refine held_pure (i := 10) (v := (.pointer (some ⟨w.heap.size + 1, 0, none⟩))) rfl rfl (by kernel_rfl) (by kernel_rfl) (by kernel_rfl) (fun _ _ _ h => h) (Or.inl ⟨by rfl, fun w => by go_simp⟩) HSV.out ?_
            simp only [List.setIfInBounds_toArray, List.set]
            refine held_pure (i := 11) (v := (.pointer (some ⟨w.heap.size + 1, 1, none⟩))) rfl rfl (by kernel_rfl) (by kernel_rfl) (by kernel_rfl) (fun _ _ _ h => h) (Or.inl ⟨by rfl, fun w => by go_simp⟩) HSV.out ?_
            simp only [List.setIfInBounds_toArray, List.set]
            obtain ⟨V3, hst, hr3, ho3, hs3⟩ := one_at V2 (o := 1) (ty := 23) (v := fv2) hp2.out.mrow (by kernel_rfl) hp2.out.fst.one (by show 1 < 3; decide)
            have HTH := Lib.hid (hp2.out.done HKS.out HX.out HY.out hd (by have := hS.out.le; omega) hr3 ho3)
            have hsv3 : V3.heap[wr.heap.size]? = some (.cells #[.int .i64 2, .int .i64 fA, .int .i64 fB] 34 (0, 0)) ∧ ∃ n2, NM V3 (w.heap.size + 1 + 1) n2 (seenOf KS) := ⟨keepRow ho3 hp2.out.box (by have := hS.out.only.size; intro e; have := (Array.getElem?_eq_some_iff.1 hS.out.mi.row).1; omega), _, hp2.out.seen.keep ho3 (by omega)⟩
            refine held_store (j := 12) (by kernel_rfl) rfl rfl rfl 23 (.tmp 69) (.tmp 67) rfl _ rfl _ rfl hst hsv3 ?_
            clear hst hr3 ho3 hs3 hsv3 HSV hp2
            refine wpAnyH_done (by kernel_rfl) ?_ _
            go_wp2_with fail
            go_roundw
            case rel => exact ⟨k + 1, _, fv2, by omega, by go_num, HTH.out⟩
            case measure => simp [intOf]; omega
        · have hs : seenOf (thS (l.take k)).1 ⟨2, fA, fB⟩ = none := if_neg hmem
          rw [hs] at hlk
          have hlk2 : (Instr.lookup 61 (.map (some (w.heap.size + 1 + 1))) (.agg #[.int .i64 2, .int .i64 fA, .int .i64 fB]) true).run Try.prog Z = .ok (.tuple #[.int .i64 0, .bool false]) Z := hlk
          clear hlk
          obtain ⟨Z2, hrun, hnm, ho2⟩ := (hS.out.seen.keep oZ (fun x => x)).put (by have := hS.out.le; unfold maxLen; omega) wy (v := (k : Int)) (by rw [wf64_iff]; omega)
          have hrun2 : (Instr.mapUpdate 61 (.map (some (w.heap.size + 1 + 1))) (.agg #[.int .i64 2, .int .i64 fA, .int .i64 fB]) (.int .i64 (k : Int))).run Try.prog Z = .ok () Z2 := hrun
          go_wp2_with (((with_reducible refine wpList_load_at ?_ 34 (.tmp 6) ?_ _ ?_ _ HLZ.out ?_); rfl; rfl; rfl))
          have hp := Lib.hid (pt_new hS.out hk oZ gZ hmem ho2 hnm)
          clear hs hlk2 gZ oZ hrun hrun2 ho2 hnm
          generalize hKS : (thS (l.take k)).1 ++ [⟨2, fA, fB⟩] = KS at *
          have HKS := Lib.hid hKS
          clear hKS
          obtain ⟨d, hd⟩ : ∃ d, (seenOf KS ⟨2, fA, fB⟩).getD 0 = d := ⟨_, rfl⟩
          have HLA : Hid (∀ V : World, (V.heap[wr.heap.size]? = some (.cells #[.int .i64 2, .int .i64 fA, .int .i64 fB] 34 (0, 0)) ∧ ∃ n2, NM V (w.heap.size + 1 + 1) n2 (seenOf KS)) → (loadVar 34 ⟨wr.heap.size, 0, none⟩).run Try.prog V = .ok (.agg #[.int .i64 2, .int .i64 fA, .int .i64 fB]) V) := fun V h => load34 h.1
          have HLB : Hid (∀ V : World, (V.heap[wr.heap.size]? = some (.cells #[.int .i64 2, .int .i64 fA, .int .i64 fB] 34 (0, 0)) ∧ ∃ n2, NM V (w.heap.size + 1 + 1) n2 (seenOf KS)) → (Instr.lookup 61 (.map (some (w.heap.size + 1 + 1))) (.agg #[.int .i64 2, .int .i64 fA, .int .i64 fB]) false).run Try.prog V = .ok (.int .i64 d) V) := fun V h => by
            obtain ⟨n2, hn2⟩ := h.2
            have := hn2.look wy
            rw [hd] at this
            exact this
          refine wp_region_held (S := fun W => W.heap[wr.heap.size]? = some (.cells #[.int .i64 2, .int .i64 fA, .int .i64 fB] 34 (0, 0)) ∧ ∃ n2, NM W (w.heap.size + 1 + 1) n2 (seenOf KS)) (by kernel_rfl) ?_
          change wpAnyH _ _ _ _ _ _ _ _ (World.drew _)
          have hpd := Lib.hid hp.out.drew
          have HSA : Hid ((World.drew Z2).heap[wr.heap.size]? = some (.cells #[.int .i64 2, .int .i64 fA, .int .i64 fB] 34 (0, 0)) ∧ ∃ n2, NM (World.drew Z2) (w.heap.size + 1 + 1) n2 (seenOf KS)) := ⟨hpd.out.box, _, hpd.out.seen⟩
          refine held_pure (i := 0) (v := (.pointer (some ⟨w.heap.size + 1, 0, none⟩))) rfl rfl (by kernel_rfl) (by kernel_rfl) (by kernel_rfl) (fun _ _ _ h => h) (Or.inl ⟨by rfl, fun w => by go_simp⟩) HSA.out ?_
          simp only [List.setIfInBounds_toArray, List.set]
          refine held_pure (i := 1) (v := (.pointer (some ⟨w.heap.size + 1, 0, none⟩))) rfl rfl (by kernel_rfl) (by kernel_rfl) (by kernel_rfl) (fun _ _ _ h => h) (Or.inl ⟨by rfl, fun w => by go_simp⟩) HSA.out ?_
          simp only [List.setIfInBounds_toArray, List.set]
          refine held_pure (i := 2) (v := (.pointer (some ⟨w.heap.size + 1, 0, none⟩))) rfl rfl (by kernel_rfl) (by kernel_rfl) (by kernel_rfl) (fun _ _ _ h => h) (Or.inl ⟨by rfl, fun w => by go_simp⟩) HSA.out ?_
          simp only [List.setIfInBounds_toArray, List.set]
          refine held_pure (i := 3) (v := (.pointer (some ⟨w.heap.size + 1, 1, none⟩))) rfl rfl (by kernel_rfl) (by kernel_rfl) (by kernel_rfl) (fun _ _ _ h => h) (Or.inl ⟨by rfl, fun w => by go_simp⟩) HSA.out ?_
          simp only [List.setIfInBounds_toArray, List.set]
          refine held_pure (i := 5) (v := (.map (some (w.heap.size + 1 + 1)))) rfl rfl (by kernel_rfl) (by kernel_rfl) (by kernel_rfl) (fun _ _ _ h => h) (Or.inl ⟨by rfl, fun w => by go_simp⟩) HSA.out ?_
          simp only [List.setIfInBounds_toArray, List.set]
          refine held_take (i := 6) (v := (.agg #[.int .i64 2, .int .i64 fA, .int .i64 fB])) rfl rfl (by kernel_rfl) (by kernel_rfl) (by kernel_rfl) (fun _ _ _ h => h) (yields_load_w (by rfl) 34 (.tmp 6) rfl _ rfl _ HLA.out) HSA.out ?_
          simp only [List.setIfInBounds_toArray, List.set]
          refine held_take (i := 7) (v := .int .i64 d) rfl rfl (by kernel_rfl) (by kernel_rfl) (by kernel_rfl) (fun _ _ _ h => h) (Or.inl ⟨by rfl, fun w hS => by have hc := HLB.out w hS; go_simp⟩) HSA.out ?_
          simp only [List.setIfInBounds_toArray, List.set]
          obtain ⟨i3, hi3, hz3, hz31, hz32⟩ := info_parts (show (Try.prog.info? 3).map (fun i => (i.zero, i.size, i.bytes)) = some (some (.int .i64 0), 1, 8) by kernel_rfl)
          have HLF : Hid ((loadVar 23 ⟨w.heap.size + 1, 1, none⟩).run Try.prog (World.drew Z2) = .ok (.slice (some ⟨gf, 0, none⟩) (thS (l.take k)).2.length fc) (World.drew Z2)) := load_one 23 _ Try.underlying23 rfl (cell_of_row _ _ _ _ _ _ hpd.out.mi.row)
          have hbs := build_f d (World.drew Z2)
          have hnw : ∀ (j : Nat) u, ([.int .i64 d] : List Value)[j]? = some u → ((World.drew Z2).alloc (.cells #[.int .i64 d] 3)).cell? ((⟨(World.drew Z2).heap.size, 0, none⟩ : Addr).add j) = some u := by exact World.news_of_block (heap_alloc_new _ _)
          have o1 : Only (fun _ => False) (World.drew Z2) ((World.drew Z2).alloc (.cells #[.int .i64 d] 3)) := (Only.refl _ _).alloc _
          generalize (World.drew Z2).alloc (.cells #[.int .i64 d] 3) = V1 at *
          have HBS := Lib.hid hbs
          have HNW := Lib.hid hnw
          have HP1 := Lib.hid (show Pt w _ _ _ _ _ _ _ V1 from ⟨hpd.out.mi.keep o1, hpd.out.seen.keep o1 (fun x => x), keepRow o1 hpd.out.box (fun x => x), hpd.out.only.trans o1⟩)
          have HLF1 : Hid ((loadVar 23 ⟨w.heap.size + 1, 1, none⟩).run Try.prog V1 = .ok (.slice (some ⟨gf, 0, none⟩) (thS (l.take k)).2.length fc) V1) := load_one 23 _ Try.underlying23 rfl (cell_of_row _ _ _ _ _ _ HP1.out.mi.row)
          clear hbs hnw o1
          refine held_two (j := 4) (k := 8) (by kernel_rfl) ?_ ?_
          · refine op_exec (j := 4) rfl rfl (by rfl) _ (exec_load 23 (.tmp 61) rfl ⟨w.heap.size + 1, 1, none⟩ rfl _ HLF.out) ?_
            refine ⟨HSA.out, ?_⟩
            simp only [List.setIfInBounds_toArray, List.set]
            refine held_bs (j := 8) (by kernel_rfl) rfl rfl rfl 23 1 #[(0, .tmp 65)] rfl [(0, .int .i64 d)] rfl _ HBS.out ⟨HP1.out.box, _, HP1.out.seen⟩ ?_
            simp only [List.setIfInBounds_toArray, List.set]
            refine held_append (j := 9) (by kernel_rfl) rfl rfl rfl (.tmp 62) (.tmp 66) 23 rfl w.heap.size 3 i3 (.int .i64 0) 1 8 Try.underlying23 hi3 hz3 hz31 hz32 rfl (by decide) (.slice (some ⟨gf, 0, none⟩) (thS (l.take k)).2.length fc) _ _ rfl HP1.out.mi.fst ⟨(World.drew Z2).heap.size, 0, none⟩ 1 1 [.int .i64 d] rfl rfl HNW.out (by intro u hu; simp at hu; subst hu; rfl) (by unfold maxLen; omega) (by omega) (by have := HP1.out.only.size; omega) ?_
            intro fv2 V2 own2 gro2 hat2
            have hp2 := Lib.hid (HP1.out.grow own2 gro2 hat2)
            clear own2 gro2 hat2
            refine ⟨⟨hp2.out.box, _, hp2.out.seen⟩, ?_⟩
            simp only [List.setIfInBounds_toArray, List.set]
            have HSV : Hid (V2.heap[wr.heap.size]? = some (.cells #[.int .i64 2, .int .i64 fA, .int .i64 fB] 34 (0, 0)) ∧ ∃ n2, NM V2 (w.heap.size + 1 + 1) n2 (seenOf KS)) := ⟨hp2.out.box, _, hp2.out.seen⟩
            refine held_pure (i := 10) (v := (.pointer (some ⟨w.heap.size + 1, 0, none⟩))) rfl rfl (by kernel_rfl) (by kernel_rfl) (by kernel_rfl) (fun _ _ _ h => h) (Or.inl ⟨by rfl, fun w => by go_simp⟩) HSV.out ?_
            simp only [List.setIfInBounds_toArray, List.set]
            refine held_pure (i := 11) (v := (.pointer (some ⟨w.heap.size + 1, 1, none⟩))) rfl rfl (by kernel_rfl) (by kernel_rfl) (by kernel_rfl) (fun _ _ _ h => h) (Or.inl ⟨by rfl, fun w => by go_simp⟩) HSV.out ?_
            simp only [List.setIfInBounds_toArray, List.set]
            obtain ⟨V3, hst, hr3, ho3, hs3⟩ := one_at V2 (o := 1) (ty := 23) (v := fv2) hp2.out.mrow (by kernel_rfl) hp2.out.fst.one (by show 1 < 3; decide)
            have HTH := Lib.hid (hp2.out.done HKS.out HX.out HY.out hd (by have := hS.out.le; omega) hr3 ho3)
            have hsv3 : V3.heap[wr.heap.size]? = some (.cells #[.int .i64 2, .int .i64 fA, .int .i64 fB] 34 (0, 0)) ∧ ∃ n2, NM V3 (w.heap.size + 1 + 1) n2 (seenOf KS) := ⟨keepRow ho3 hp2.out.box (by have := hS.out.only.size; intro e; have := (Array.getElem?_eq_some_iff.1 hS.out.mi.row).1; omega), _, hp2.out.seen.keep ho3 (by omega)⟩
            refine held_store (j := 12) (by kernel_rfl) rfl rfl rfl 23 (.tmp 69) (.tmp 67) rfl _ rfl _ rfl hst hsv3 ?_
            clear hst hr3 ho3 hs3 hsv3 HSV hp2
            refine wpAnyH_done (by kernel_rfl) ?_ _
            go_wp2_with fail
            go_roundw
            case rel => exact ⟨k + 1, _, fv2, by omega, by go_num, HTH.out⟩
            case measure => simp [intOf]; omega
          · refine op_exec (j := 8) rfl rfl (by rfl) _ (exec_bs 23 1 #[(0, .tmp 65)] rfl [(0, .int .i64 d)] rfl _ HBS.out) ?_
            refine ⟨⟨HP1.out.box, _, HP1.out.seen⟩, ?_⟩
            simp only [List.setIfInBounds_toArray, List.set]
            refine held_execd (j := 4) (by kernel_rfl) rfl rfl (by rfl) _ (exec_load 23 (.tmp 61) rfl ⟨w.heap.size + 1, 1, none⟩ rfl _ HLF1.out) ⟨HP1.out.box, _, HP1.out.seen⟩ ?_
            simp only [List.setIfInBounds_toArray, List.set]
            refine held_append (j := 9) (by kernel_rfl) rfl rfl rfl (.tmp 62) (.tmp 66) 23 rfl w.heap.size 3 i3 (.int .i64 0) 1 8 Try.underlying23 hi3 hz3 hz31 hz32 rfl (by decide) (.slice (some ⟨gf, 0, none⟩) (thS (l.take k)).2.length fc) _ _ rfl HP1.out.mi.fst ⟨(World.drew Z2).heap.size, 0, none⟩ 1 1 [.int .i64 d] rfl rfl HNW.out (by intro u hu; simp at hu; subst hu; rfl) (by unfold maxLen; omega) (by omega) (by have := HP1.out.only.size; omega) ?_
            intro fv2 V2 own2 gro2 hat2
            have hp2 := Lib.hid (HP1.out.grow own2 gro2 hat2)
            clear own2 gro2 hat2
            refine ⟨⟨hp2.out.box, _, hp2.out.seen⟩, ?_⟩
            simp only [List.setIfInBounds_toArray, List.set]
            have HSV : Hid (V2.heap[wr.heap.size]? = some (.cells #[.int .i64 2, .int .i64 fA, .int .i64 fB] 34 (0, 0)) ∧ ∃ n2, NM V2 (w.heap.size + 1 + 1) n2 (seenOf KS)) := ⟨hp2.out.box, _, hp2.out.seen⟩
            refine held_pure (i := 10) (v := (.pointer (some ⟨w.heap.size + 1, 0, none⟩))) rfl rfl (by kernel_rfl) (by kernel_rfl) (by kernel_rfl) (fun _ _ _ h => h) (Or.inl ⟨by rfl, fun w => by go_simp⟩) HSV.out ?_
            simp only [List.setIfInBounds_toArray, List.set]
            refine held_pure (i := 11) (v := (.pointer (some ⟨w.heap.size + 1, 1, none⟩))) rfl rfl (by kernel_rfl) (by kernel_rfl) (by kernel_rfl) (fun _ _ _ h => h) (Or.inl ⟨by rfl, fun w => by go_simp⟩) HSV.out ?_
            simp only [List.setIfInBounds_toArray, List.set]
            obtain ⟨V3, hst, hr3, ho3, hs3⟩ := one_at V2 (o := 1) (ty := 23) (v := fv2) hp2.out.mrow (by kernel_rfl) hp2.out.fst.one (by show 1 < 3; decide)
            have HTH := Lib.hid (hp2.out.done HKS.out HX.out HY.out hd (by have := hS.out.le; omega) hr3 ho3)
            have hsv3 : V3.heap[wr.heap.size]? = some (.cells #[.int .i64 2, .int .i64 fA, .int .i64 fB] 34 (0, 0)) ∧ ∃ n2, NM V3 (w.heap.size + 1 + 1) n2 (seenOf KS) := ⟨keepRow ho3 hp2.out.box (by have := hS.out.only.size; intro e; have := (Array.getElem?_eq_some_iff.1 hS.out.mi.row).1; omega), _, hp2.out.seen.keep ho3 (by omega)⟩
            refine held_store (j := 12) (by kernel_rfl) rfl rfl rfl 23 (.tmp 69) (.tmp 67) rfl _ rfl _ rfl hst hsv3 ?_
            clear hst hr3 ho3 hs3 hsv3 HSV hp2
            refine wpAnyH_done (by kernel_rfl) ?_ _
            go_wp2_with fail
            go_roundw
            case rel => exact ⟨k + 1, _, fv2, by omega, by go_num, HTH.out⟩
            case measure => simp [intOf]; omega
      · by_cases h3 : op = 3
        · subst h3
          go_wp2_with (((with_reducible refine wpList_load_at ?_ 34 (.tmp 19) ?_ _ ?_ _ HLD2.out ?_); rfl; rfl; rfl))
          obtain ⟨⟨ha0, hak⟩, hb0, hbk⟩ := may_made hm HX.out (.inr rfl)
          dsimp only at ha0 hak hb0 hbk
          obtain ⟨A, rfl⟩ := Int.eq_ofNat_of_zero_le ha0
          obtain ⟨B, rfl⟩ := Int.eq_ofNat_of_zero_le hb0
          have hA : A < (thS (l.take k)).2.length := by rw [(thS_len _).2, List.length_take]; omega
          have hB : B < (thS (l.take k)).2.length := by rw [(thS_len _).2, List.length_take]; omega
          obtain ⟨gf, fc, cur, rfl, hfc, hgl, hgf, hcA⟩ := hS.out.mi.fst.at hA
          obtain ⟨gf2, fc2, cur2, he, _, _, _, hcB⟩ := hS.out.mi.fst.at hB
          cases he
          obtain ⟨fA, hfA⟩ : ∃ y, (thS (l.take k)).2[A] = y := ⟨_, rfl⟩
          obtain ⟨fB, hfB⟩ : ∃ y, (thS (l.take k)).2[B] = y := ⟨_, rfl⟩
          have hfl : (thS (l.take k)).2.length = k := by rw [(thS_len _).2, List.length_take]; omega
          rw [hfA] at hcA
          rw [hfB] at hcB
          obtain ⟨X, hX⟩ : ∃ X, X = wr.alloc (.cells #[.int .i64 3, .int .i64 (A : Int), .int .i64 (B : Int)] 34) := ⟨_, rfl⟩
          have hO1 : Only (fun _ => False) wr X := by rw [hX]; exact (Only.refl _ _).alloc _
          have hg1 : X.heap[wr.heap.size]? = some (.cells #[.int .i64 3, .int .i64 (A : Int), .int .i64 (B : Int)] 34 (0, 0)) := by rw [hX]; exact heap_alloc_new _ _
          have q1 : X.cell? ⟨w.heap.size + 1, 1, none⟩ = some (.slice (some ⟨gf, 0, none⟩) k fc) := by
            rw [← hfl]
            exact cell_of_row _ _ _ _ _ _ (keepRow hO1 hS.out.mi.row (fun x => x))
          have q2 : X.cell? ⟨gf, A, none⟩ = some (.int .i64 fA) := by
            rw [cell_of_row _ _ _ _ _ _ (keepRow hO1 hgf (fun x => x)), ← cell_of_row wr gf A _ _ _ hgf]
            exact hcA
          have q3 : X.cell? ⟨gf, B, none⟩ = some (.int .i64 fB) := by
            rw [cell_of_row _ _ _ _ _ _ (keepRow hO1 hgf (fun x => x)), ← cell_of_row wr gf B _ _ _ hgf]
            exact hcB
          have q4 : X.cell? ⟨wr.heap.size, 1, none⟩ = some (.int .i64 (A : Int)) := cell_of_row _ _ _ _ _ _ hg1
          have q5 : X.cell? ⟨wr.heap.size, 2, none⟩ = some (.int .i64 (B : Int)) := cell_of_row _ _ _ _ _ _ hg1
          have q6 : X.frozen? ⟨wr.heap.size, 1, none⟩ = false := frozen_of_row _ _ _ _ _ hg1
          have q7 : X.frozen? ⟨wr.heap.size, 2, none⟩ = false := frozen_of_row _ _ _ _ _ hg1
          have n1 : ¬ gf = wr.heap.size := by have := (Array.getElem?_eq_some_iff.1 hgf).1; omega
          have n2 : ¬ w.heap.size + 1 = wr.heap.size := by have := (Array.getElem?_eq_some_iff.1 hS.out.mi.row).1; omega
          have n3 : ¬ wr.heap.size = gf := fun h => n1 h.symm
          have n4 : ¬ wr.heap.size = w.heap.size + 1 := fun h => n2 h.symm
          rw [← hX]
          have HO1 := Lib.hid hO1
          have HG1 := Lib.hid hg1
          clear hX hcA hcB hgf hO1 hg1
          go_region
          obtain ⟨Y, hY⟩ : ∃ Y, Y = (X.setCell ⟨wr.heap.size, 1, none⟩ (.int .i64 fA)).setCell ⟨wr.heap.size, 2, none⟩ (.int .i64 fB) := ⟨_, rfl⟩
          have gY : Y.heap[wr.heap.size]? = some (.cells #[.int .i64 3, .int .i64 fA, .int .i64 fB] 34 (0, 0)) := by
            rw [hY]
            exact heap_setCell_same _ _ _ _ _ _ (heap_setCell_same _ _ _ _ _ _ HG1.out)
          have oY : Only (fun _ => False) wr Y := by
            rw [hY]
            exact fresh_only HO1.out (((Only.refl (fun k => k = wr.heap.size) X).setCell rfl _).setCell rfl _) (fun k hk => by omega)
          rw [← hY]
          clear hY q1 q2 q3 q4 q5 q6 q7
          obtain ⟨Z, hZ⟩ : ∃ Z, Z = World.drew Y := ⟨_, rfl⟩
          have gZ : Z.heap[wr.heap.size]? = some (.cells #[.int .i64 3, .int .i64 fA, .int .i64 fB] 34 (0, 0)) := by rw [hZ]; exact gY
          have oZ : Only (fun _ => False) wr Z := by rw [hZ]; exact oY.drew
          rw [← hZ]
          clear hZ gY oY HG1 HO1
          have hy : normAt (thS (l.take k)).2 ⟨3, (A : Int), (B : Int)⟩ = ⟨3, fA, fB⟩ := by
            show (⟨3, (thS (l.take k)).2.getD A 0, (thS (l.take k)).2.getD B 0⟩ : Nd) = _
            rw [List.getD_eq_getElem?_getD, List.getD_eq_getElem?_getD, List.getElem?_eq_getElem hA, List.getElem?_eq_getElem hB, ← hfA, ← hfB]
            rfl
          have wy : (⟨3, fA, fB⟩ : Nd).Wf := by
            have h1 := thS_lt (l.take k) _ (List.getElem_mem hA)
            have h2 := thS_lt (l.take k) _ (List.getElem_mem hB)
            rw [hfA] at h1
            rw [hfB] at h2
            have h3 : (l.take k).length ≤ 200 := by rw [List.length_take]; omega
            exact ⟨by show wf64 3; rw [wf64_iff]; omega, by show wf64 fA; rw [wf64_iff]; omega, by show wf64 fB; rw [wf64_iff]; omega⟩
          have HY := Lib.hid hy
          clear hy
          have hlk := (hS.out.seen.keep oZ (fun x => x)).lookOk wy
          have HLZ := Lib.hid (load34 gZ)
          by_cases hmem : (⟨3, fA, fB⟩ : Nd) ∈ (thS (l.take k)).1
          · have hs : seenOf (thS (l.take k)).1 ⟨3, fA, fB⟩ = some (((thS (l.take k)).1.idxOf ⟨3, fA, fB⟩ : Nat) : Int) := if_pos hmem
            rw [hs] at hlk
            have HLK : Hid ((Instr.lookup 61 (.map (some (w.heap.size + 1 + 1))) (.agg #[.int .i64 3, .int .i64 fA, .int .i64 fB]) true).run Try.prog Z = .ok (.tuple #[.int .i64 (((thS (l.take k)).1.idxOf ⟨3, fA, fB⟩ : Nat) : Int), .bool true]) Z) := hlk
            clear hlk
            have hlk2 := HLK.out
            go_wp2_with (((with_reducible refine wpList_load_at ?_ 34 (.tmp 6) ?_ _ ?_ _ HLZ.out ?_); rfl; rfl; rfl))
            have hp := Lib.hid (pt_old hS.out oZ gZ hmem)
            clear hs hlk2 gZ oZ
            generalize hKS : (thS (l.take k)).1 ++ [⟨3, fA, fB⟩] = KS at *
            have HKS := Lib.hid hKS
            clear hKS
            obtain ⟨d, hd⟩ : ∃ d, (seenOf KS ⟨3, fA, fB⟩).getD 0 = d := ⟨_, rfl⟩
            have HLA : Hid (∀ V : World, (V.heap[wr.heap.size]? = some (.cells #[.int .i64 3, .int .i64 fA, .int .i64 fB] 34 (0, 0)) ∧ ∃ n2, NM V (w.heap.size + 1 + 1) n2 (seenOf KS)) → (loadVar 34 ⟨wr.heap.size, 0, none⟩).run Try.prog V = .ok (.agg #[.int .i64 3, .int .i64 fA, .int .i64 fB]) V) := fun V h => load34 h.1
            have HLB : Hid (∀ V : World, (V.heap[wr.heap.size]? = some (.cells #[.int .i64 3, .int .i64 fA, .int .i64 fB] 34 (0, 0)) ∧ ∃ n2, NM V (w.heap.size + 1 + 1) n2 (seenOf KS)) → (Instr.lookup 61 (.map (some (w.heap.size + 1 + 1))) (.agg #[.int .i64 3, .int .i64 fA, .int .i64 fB]) false).run Try.prog V = .ok (.int .i64 d) V) := fun V h => by
              obtain ⟨n2, hn2⟩ := h.2
              have := hn2.look wy
              rw [hd] at this
              exact this
            refine wp_region_held (S := fun W => W.heap[wr.heap.size]? = some (.cells #[.int .i64 3, .int .i64 fA, .int .i64 fB] 34 (0, 0)) ∧ ∃ n2, NM W (w.heap.size + 1 + 1) n2 (seenOf KS)) (by kernel_rfl) ?_
            change wpAnyH _ _ _ _ _ _ _ _ (World.drew _)
            have hpd := Lib.hid hp.out.drew
            have HSA : Hid ((World.drew Z).heap[wr.heap.size]? = some (.cells #[.int .i64 3, .int .i64 fA, .int .i64 fB] 34 (0, 0)) ∧ ∃ n2, NM (World.drew Z) (w.heap.size + 1 + 1) n2 (seenOf KS)) := ⟨hpd.out.box, _, hpd.out.seen⟩
            refine held_pure (i := 0) (v := (.pointer (some ⟨w.heap.size + 1, 0, none⟩))) rfl rfl (by kernel_rfl) (by kernel_rfl) (by kernel_rfl) (fun _ _ _ h => h) (Or.inl ⟨by rfl, fun w => by go_simp⟩) HSA.out ?_
            simp only [List.setIfInBounds_toArray, List.set]
            refine held_pure (i := 1) (v := (.pointer (some ⟨w.heap.size + 1, 0, none⟩))) rfl rfl (by kernel_rfl) (by kernel_rfl) (by kernel_rfl) (fun _ _ _ h => h) (Or.inl ⟨by rfl, fun w => by go_simp⟩) HSA.out ?_
            simp only [List.setIfInBounds_toArray, List.set]
            refine held_pure (i := 2) (v := (.pointer (some ⟨w.heap.size + 1, 0, none⟩))) rfl rfl (by kernel_rfl) (by kernel_rfl) (by kernel_rfl) (fun _ _ _ h => h) (Or.inl ⟨by rfl, fun w => by go_simp⟩) HSA.out ?_
            simp only [List.setIfInBounds_toArray, List.set]
            refine held_pure (i := 3) (v := (.pointer (some ⟨w.heap.size + 1, 1, none⟩))) rfl rfl (by kernel_rfl) (by kernel_rfl) (by kernel_rfl) (fun _ _ _ h => h) (Or.inl ⟨by rfl, fun w => by go_simp⟩) HSA.out ?_
            simp only [List.setIfInBounds_toArray, List.set]
            refine held_pure (i := 5) (v := (.map (some (w.heap.size + 1 + 1)))) rfl rfl (by kernel_rfl) (by kernel_rfl) (by kernel_rfl) (fun _ _ _ h => h) (Or.inl ⟨by rfl, fun w => by go_simp⟩) HSA.out ?_
            simp only [List.setIfInBounds_toArray, List.set]
            refine held_take (i := 6) (v := (.agg #[.int .i64 3, .int .i64 fA, .int .i64 fB])) rfl rfl (by kernel_rfl) (by kernel_rfl) (by kernel_rfl) (fun _ _ _ h => h) (yields_load_w (by rfl) 34 (.tmp 6) rfl _ rfl _ HLA.out) HSA.out ?_
            simp only [List.setIfInBounds_toArray, List.set]
            refine held_take (i := 7) (v := .int .i64 d) rfl rfl (by kernel_rfl) (by kernel_rfl) (by kernel_rfl) (fun _ _ _ h => h) (Or.inl ⟨by rfl, fun w hS => by have hc := HLB.out w hS; go_simp⟩) HSA.out ?_
            simp only [List.setIfInBounds_toArray, List.set]
            obtain ⟨i3, hi3, hz3, hz31, hz32⟩ := info_parts (show (Try.prog.info? 3).map (fun i => (i.zero, i.size, i.bytes)) = some (some (.int .i64 0), 1, 8) by kernel_rfl)
            have HLF : Hid ((loadVar 23 ⟨w.heap.size + 1, 1, none⟩).run Try.prog (World.drew Z) = .ok (.slice (some ⟨gf, 0, none⟩) (thS (l.take k)).2.length fc) (World.drew Z)) := load_one 23 _ Try.underlying23 rfl (cell_of_row _ _ _ _ _ _ hpd.out.mi.row)
            have hbs := build_f d (World.drew Z)
            have hnw : ∀ (j : Nat) u, ([.int .i64 d] : List Value)[j]? = some u → ((World.drew Z).alloc (.cells #[.int .i64 d] 3)).cell? ((⟨(World.drew Z).heap.size, 0, none⟩ : Addr).add j) = some u := by exact World.news_of_block (heap_alloc_new _ _)
            have o1 : Only (fun _ => False) (World.drew Z) ((World.drew Z).alloc (.cells #[.int .i64 d] 3)) := (Only.refl _ _).alloc _
            generalize (World.drew Z).alloc (.cells #[.int .i64 d] 3) = V1 at *
            have HBS := Lib.hid hbs
            have HNW := Lib.hid hnw
            have HP1 := Lib.hid (show Pt w _ _ _ _ _ _ _ V1 from ⟨hpd.out.mi.keep o1, hpd.out.seen.keep o1 (fun x => x), keepRow o1 hpd.out.box (fun x => x), hpd.out.only.trans o1⟩)
            have HLF1 : Hid ((loadVar 23 ⟨w.heap.size + 1, 1, none⟩).run Try.prog V1 = .ok (.slice (some ⟨gf, 0, none⟩) (thS (l.take k)).2.length fc) V1) := load_one 23 _ Try.underlying23 rfl (cell_of_row _ _ _ _ _ _ HP1.out.mi.row)
            clear hbs hnw o1
            refine held_two (j := 4) (k := 8) (by kernel_rfl) ?_ ?_
            · refine op_exec (j := 4) rfl rfl (by rfl) _ (exec_load 23 (.tmp 61) rfl ⟨w.heap.size + 1, 1, none⟩ rfl _ HLF.out) ?_
              refine ⟨HSA.out, ?_⟩
              simp only [List.setIfInBounds_toArray, List.set]
              refine held_bs (j := 8) (by kernel_rfl) rfl rfl rfl 23 1 #[(0, .tmp 65)] rfl [(0, .int .i64 d)] rfl _ HBS.out ⟨HP1.out.box, _, HP1.out.seen⟩ ?_
              simp only [List.setIfInBounds_toArray, List.set]
              refine held_append (j := 9) (by kernel_rfl) rfl rfl rfl (.tmp 62) (.tmp 66) 23 rfl w.heap.size 3 i3 (.int .i64 0) 1 8 Try.underlying23 hi3 hz3 hz31 hz32 rfl (by decide) (.slice (some ⟨gf, 0, none⟩) (thS (l.take k)).2.length fc) _ _ rfl HP1.out.mi.fst ⟨(World.drew Z).heap.size, 0, none⟩ 1 1 [.int .i64 d] rfl rfl HNW.out (by intro u hu; simp at hu; subst hu; rfl) (by unfold maxLen; omega) (by omega) (by have := HP1.out.only.size; omega) ?_
              intro fv2 V2 own2 gro2 hat2
              have hp2 := Lib.hid (HP1.out.grow own2 gro2 hat2)
              clear own2 gro2 hat2
              refine ⟨⟨hp2.out.box, _, hp2.out.seen⟩, ?_⟩
              simp only [List.setIfInBounds_toArray, List.set]
              have HSV : Hid (V2.heap[wr.heap.size]? = some (.cells #[.int .i64 3, .int .i64 fA, .int .i64 fB] 34 (0, 0)) ∧ ∃ n2, NM V2 (w.heap.size + 1 + 1) n2 (seenOf KS)) := ⟨hp2.out.box, _, hp2.out.seen⟩
              refine held_pure (i := 10) (v := (.pointer (some ⟨w.heap.size + 1, 0, none⟩))) rfl rfl (by kernel_rfl) (by kernel_rfl) (by kernel_rfl) (fun _ _ _ h => h) (Or.inl ⟨by rfl, fun w => by go_simp⟩) HSV.out ?_
              simp only [List.setIfInBounds_toArray, List.set]
              refine held_pure (i := 11) (v := (.pointer (some ⟨w.heap.size + 1, 1, none⟩))) rfl rfl (by kernel_rfl) (by kernel_rfl) (by kernel_rfl) (fun _ _ _ h => h) (Or.inl ⟨by rfl, fun w => by go_simp⟩) HSV.out ?_
              simp only [List.setIfInBounds_toArray, List.set]
              obtain ⟨V3, hst, hr3, ho3, hs3⟩ := one_at V2 (o := 1) (ty := 23) (v := fv2) hp2.out.mrow (by kernel_rfl) hp2.out.fst.one (by show 1 < 3; decide)
              have HTH := Lib.hid (hp2.out.done HKS.out HX.out HY.out hd (by have := hS.out.le; omega) hr3 ho3)
              have hsv3 : V3.heap[wr.heap.size]? = some (.cells #[.int .i64 3, .int .i64 fA, .int .i64 fB] 34 (0, 0)) ∧ ∃ n2, NM V3 (w.heap.size + 1 + 1) n2 (seenOf KS) := ⟨keepRow ho3 hp2.out.box (by have := hS.out.only.size; intro e; have := (Array.getElem?_eq_some_iff.1 hS.out.mi.row).1; omega), _, hp2.out.seen.keep ho3 (by omega)⟩
              refine held_store (j := 12) (by kernel_rfl) rfl rfl rfl 23 (.tmp 69) (.tmp 67) rfl _ rfl _ rfl hst hsv3 ?_
              clear hst hr3 ho3 hs3 hsv3 HSV hp2
              refine wpAnyH_done (by kernel_rfl) ?_ _
              go_wp2_with fail
              go_roundw
              case rel => exact ⟨k + 1, _, fv2, by omega, by go_num, HTH.out⟩
              case measure => simp [intOf]; omega
            · refine op_exec (j := 8) rfl rfl (by rfl) _ (exec_bs 23 1 #[(0, .tmp 65)] rfl [(0, .int .i64 d)] rfl _ HBS.out) ?_
              refine ⟨⟨HP1.out.box, _, HP1.out.seen⟩, ?_⟩
              simp only [List.setIfInBounds_toArray, List.set]
              refine held_execd (j := 4) (by kernel_rfl) rfl rfl (by rfl) _ (exec_load 23 (.tmp 61) rfl ⟨w.heap.size + 1, 1, none⟩ rfl _ HLF1.out) ⟨HP1.out.box, _, HP1.out.seen⟩ ?_
              simp only [List.setIfInBounds_toArray, List.set]
              refine held_append (j := 9) (by kernel_rfl) rfl rfl rfl (.tmp 62) (.tmp 66) 23 rfl w.heap.size 3 i3 (.int .i64 0) 1 8 Try.underlying23 hi3 hz3 hz31 hz32 rfl (by decide) (.slice (some ⟨gf, 0, none⟩) (thS (l.take k)).2.length fc) _ _ rfl HP1.out.mi.fst ⟨(World.drew Z).heap.size, 0, none⟩ 1 1 [.int .i64 d] rfl rfl HNW.out (by intro u hu; simp at hu; subst hu; rfl) (by unfold maxLen; omega) (by omega) (by have := HP1.out.only.size; omega) ?_
              intro fv2 V2 own2 gro2 hat2
              have hp2 := Lib.hid (HP1.out.grow own2 gro2 hat2)
              clear own2 gro2 hat2
              refine ⟨⟨hp2.out.box, _, hp2.out.seen⟩, ?_⟩
              simp only [List.setIfInBounds_toArray, List.set]
              have HSV : Hid (V2.heap[wr.heap.size]? = some (.cells #[.int .i64 3, .int .i64 fA, .int .i64 fB] 34 (0, 0)) ∧ ∃ n2, NM V2 (w.heap.size + 1 + 1) n2 (seenOf KS)) := ⟨hp2.out.box, _, hp2.out.seen⟩
              refine held_pure (i := 10) (v := (.pointer (some ⟨w.heap.size + 1, 0, none⟩))) rfl rfl (by kernel_rfl) (by kernel_rfl) (by kernel_rfl) (fun _ _ _ h => h) (Or.inl ⟨by rfl, fun w => by go_simp⟩) HSV.out ?_
              simp only [List.setIfInBounds_toArray, List.set]
              refine held_pure (i := 11) (v := (.pointer (some ⟨w.heap.size + 1, 1, none⟩))) rfl rfl (by kernel_rfl) (by kernel_rfl) (by kernel_rfl) (fun _ _ _ h => h) (Or.inl ⟨by rfl, fun w => by go_simp⟩) HSV.out ?_
              simp only [List.setIfInBounds_toArray, List.set]
              obtain ⟨V3, hst, hr3, ho3, hs3⟩ := one_at V2 (o := 1) (ty := 23) (v := fv2) hp2.out.mrow (by kernel_rfl) hp2.out.fst.one (by show 1 < 3; decide)
              have HTH := Lib.hid (hp2.out.done HKS.out HX.out HY.out hd (by have := hS.out.le; omega) hr3 ho3)
              have hsv3 : V3.heap[wr.heap.size]? = some (.cells #[.int .i64 3, .int .i64 fA, .int .i64 fB] 34 (0, 0)) ∧ ∃ n2, NM V3 (w.heap.size + 1 + 1) n2 (seenOf KS) := ⟨keepRow ho3 hp2.out.box (by have := hS.out.only.size; intro e; have := (Array.getElem?_eq_some_iff.1 hS.out.mi.row).1; omega), _, hp2.out.seen.keep ho3 (by omega)⟩
              refine held_store (j := 12) (by kernel_rfl) rfl rfl rfl 23 (.tmp 69) (.tmp 67) rfl _ rfl _ rfl hst hsv3 ?_
              clear hst hr3 ho3 hs3 hsv3 HSV hp2
              refine wpAnyH_done (by kernel_rfl) ?_ _
              go_wp2_with fail
              go_roundw
              case rel => exact ⟨k + 1, _, fv2, by omega, by go_num, HTH.out⟩
              case measure => simp [intOf]; omega
          · have hs : seenOf (thS (l.take k)).1 ⟨3, fA, fB⟩ = none := if_neg hmem
            rw [hs] at hlk
            have hlk2 : (Instr.lookup 61 (.map (some (w.heap.size + 1 + 1))) (.agg #[.int .i64 3, .int .i64 fA, .int .i64 fB]) true).run Try.prog Z = .ok (.tuple #[.int .i64 0, .bool false]) Z := hlk
            clear hlk
            obtain ⟨Z2, hrun, hnm, ho2⟩ := (hS.out.seen.keep oZ (fun x => x)).put (by have := hS.out.le; unfold maxLen; omega) wy (v := (k : Int)) (by rw [wf64_iff]; omega)
            have hrun2 : (Instr.mapUpdate 61 (.map (some (w.heap.size + 1 + 1))) (.agg #[.int .i64 3, .int .i64 fA, .int .i64 fB]) (.int .i64 (k : Int))).run Try.prog Z = .ok () Z2 := hrun
            go_wp2_with (((with_reducible refine wpList_load_at ?_ 34 (.tmp 6) ?_ _ ?_ _ HLZ.out ?_); rfl; rfl; rfl))
            have hp := Lib.hid (pt_new hS.out hk oZ gZ hmem ho2 hnm)
            clear hs hlk2 gZ oZ hrun hrun2 ho2 hnm
            generalize hKS : (thS (l.take k)).1 ++ [⟨3, fA, fB⟩] = KS at *
            have HKS := Lib.hid hKS
            clear hKS
            obtain ⟨d, hd⟩ : ∃ d, (seenOf KS ⟨3, fA, fB⟩).getD 0 = d := ⟨_, rfl⟩
            have HLA : Hid (∀ V : World, (V.heap[wr.heap.size]? = some (.cells #[.int .i64 3, .int .i64 fA, .int .i64 fB] 34 (0, 0)) ∧ ∃ n2, NM V (w.heap.size + 1 + 1) n2 (seenOf KS)) → (loadVar 34 ⟨wr.heap.size, 0, none⟩).run Try.prog V = .ok (.agg #[.int .i64 3, .int .i64 fA, .int .i64 fB]) V) := fun V h => load34 h.1
            have HLB : Hid (∀ V : World, (V.heap[wr.heap.size]? = some (.cells #[.int .i64 3, .int .i64 fA, .int .i64 fB] 34 (0, 0)) ∧ ∃ n2, NM V (w.heap.size + 1 + 1) n2 (seenOf KS)) → (Instr.lookup 61 (.map (some (w.heap.size + 1 + 1))) (.agg #[.int .i64 3, .int .i64 fA, .int .i64 fB]) false).run Try.prog V = .ok (.int .i64 d) V) := fun V h => by
              obtain ⟨n2, hn2⟩ := h.2
              have := hn2.look wy
              rw [hd] at this
              exact this
            refine wp_region_held (S := fun W => W.heap[wr.heap.size]? = some (.cells #[.int .i64 3, .int .i64 fA, .int .i64 fB] 34 (0, 0)) ∧ ∃ n2, NM W (w.heap.size + 1 + 1) n2 (seenOf KS)) (by kernel_rfl) ?_
            change wpAnyH _ _ _ _ _ _ _ _ (World.drew _)
            have hpd := Lib.hid hp.out.drew
            have HSA : Hid ((World.drew Z2).heap[wr.heap.size]? = some (.cells #[.int .i64 3, .int .i64 fA, .int .i64 fB] 34 (0, 0)) ∧ ∃ n2, NM (World.drew Z2) (w.heap.size + 1 + 1) n2 (seenOf KS)) := ⟨hpd.out.box, _, hpd.out.seen⟩
            refine held_pure (i := 0) (v := (.pointer (some ⟨w.heap.size + 1, 0, none⟩))) rfl rfl (by kernel_rfl) (by kernel_rfl) (by kernel_rfl) (fun _ _ _ h => h) (Or.inl ⟨by rfl, fun w => by go_simp⟩) HSA.out ?_
            simp only [List.setIfInBounds_toArray, List.set]
            refine held_pure (i := 1) (v := (.pointer (some ⟨w.heap.size + 1, 0, none⟩))) rfl rfl (by kernel_rfl) (by kernel_rfl) (by kernel_rfl) (fun _ _ _ h => h) (Or.inl ⟨by rfl, fun w => by go_simp⟩) HSA.out ?_
            simp only [List.setIfInBounds_toArray, List.set]
            refine held_pure (i := 2) (v := (.pointer (some ⟨w.heap.size + 1, 0, none⟩))) rfl rfl (by kernel_rfl) (by kernel_rfl) (by kernel_rfl) (fun _ _ _ h => h) (Or.inl ⟨by rfl, fun w => by go_simp⟩) HSA.out ?_
            simp only [List.setIfInBounds_toArray, List.set]
            refine held_pure (i := 3) (v := (.pointer (some ⟨w.heap.size + 1, 1, none⟩))) rfl rfl (by kernel_rfl) (by kernel_rfl) (by kernel_rfl) (fun _ _ _ h => h) (Or.inl ⟨by rfl, fun w => by go_simp⟩) HSA.out ?_
            simp only [List.setIfInBounds_toArray, List.set]
            refine held_pure (i := 5) (v := (.map (some (w.heap.size + 1 + 1)))) rfl rfl (by kernel_rfl) (by kernel_rfl) (by kernel_rfl) (fun _ _ _ h => h) (Or.inl ⟨by rfl, fun w => by go_simp⟩) HSA.out ?_
            simp only [List.setIfInBounds_toArray, List.set]
            refine held_take (i := 6) (v := (.agg #[.int .i64 3, .int .i64 fA, .int .i64 fB])) rfl rfl (by kernel_rfl) (by kernel_rfl) (by kernel_rfl) (fun _ _ _ h => h) (yields_load_w (by rfl) 34 (.tmp 6) rfl _ rfl _ HLA.out) HSA.out ?_
            simp only [List.setIfInBounds_toArray, List.set]
            refine held_take (i := 7) (v := .int .i64 d) rfl rfl (by kernel_rfl) (by kernel_rfl) (by kernel_rfl) (fun _ _ _ h => h) (Or.inl ⟨by rfl, fun w hS => by have hc := HLB.out w hS; go_simp⟩) HSA.out ?_
            simp only [List.setIfInBounds_toArray, List.set]
            obtain ⟨i3, hi3, hz3, hz31, hz32⟩ := info_parts (show (Try.prog.info? 3).map (fun i => (i.zero, i.size, i.bytes)) = some (some (.int .i64 0), 1, 8) by kernel_rfl)
            have HLF : Hid ((loadVar 23 ⟨w.heap.size + 1, 1, none⟩).run Try.prog (World.drew Z2) = .ok (.slice (some ⟨gf, 0, none⟩) (thS (l.take k)).2.length fc) (World.drew Z2)) := load_one 23 _ Try.underlying23 rfl (cell_of_row _ _ _ _ _ _ hpd.out.mi.row)
            have hbs := build_f d (World.drew Z2)
            have hnw : ∀ (j : Nat) u, ([.int .i64 d] : List Value)[j]? = some u → ((World.drew Z2).alloc (.cells #[.int .i64 d] 3)).cell? ((⟨(World.drew Z2).heap.size, 0, none⟩ : Addr).add j) = some u := by exact World.news_of_block (heap_alloc_new _ _)
            have o1 : Only (fun _ => False) (World.drew Z2) ((World.drew Z2).alloc (.cells #[.int .i64 d] 3)) := (Only.refl _ _).alloc _
            generalize (World.drew Z2).alloc (.cells #[.int .i64 d] 3) = V1 at *
            have HBS := Lib.hid hbs
            have HNW := Lib.hid hnw
            have HP1 := Lib.hid (show Pt w _ _ _ _ _ _ _ V1 from ⟨hpd.out.mi.keep o1, hpd.out.seen.keep o1 (fun x => x), keepRow o1 hpd.out.box (fun x => x), hpd.out.only.trans o1⟩)
            have HLF1 : Hid ((loadVar 23 ⟨w.heap.size + 1, 1, none⟩).run Try.prog V1 = .ok (.slice (some ⟨gf, 0, none⟩) (thS (l.take k)).2.length fc) V1) := load_one 23 _ Try.underlying23 rfl (cell_of_row _ _ _ _ _ _ HP1.out.mi.row)
            clear hbs hnw o1
            refine held_two (j := 4) (k := 8) (by kernel_rfl) ?_ ?_
            · refine op_exec (j := 4) rfl rfl (by rfl) _ (exec_load 23 (.tmp 61) rfl ⟨w.heap.size + 1, 1, none⟩ rfl _ HLF.out) ?_
              refine ⟨HSA.out, ?_⟩
              simp only [List.setIfInBounds_toArray, List.set]
              refine held_bs (j := 8) (by kernel_rfl) rfl rfl rfl 23 1 #[(0, .tmp 65)] rfl [(0, .int .i64 d)] rfl _ HBS.out ⟨HP1.out.box, _, HP1.out.seen⟩ ?_
              simp only [List.setIfInBounds_toArray, List.set]
              refine held_append (j := 9) (by kernel_rfl) rfl rfl rfl (.tmp 62) (.tmp 66) 23 rfl w.heap.size 3 i3 (.int .i64 0) 1 8 Try.underlying23 hi3 hz3 hz31 hz32 rfl (by decide) (.slice (some ⟨gf, 0, none⟩) (thS (l.take k)).2.length fc) _ _ rfl HP1.out.mi.fst ⟨(World.drew Z2).heap.size, 0, none⟩ 1 1 [.int .i64 d] rfl rfl HNW.out (by intro u hu; simp at hu; subst hu; rfl) (by unfold maxLen; omega) (by omega) (by have := HP1.out.only.size; omega) ?_
              intro fv2 V2 own2 gro2 hat2
              have hp2 := Lib.hid (HP1.out.grow own2 gro2 hat2)
              clear own2 gro2 hat2
              refine ⟨⟨hp2.out.box, _, hp2.out.seen⟩, ?_⟩
              simp only [List.setIfInBounds_toArray, List.set]
              have HSV : Hid (V2.heap[wr.heap.size]? = some (.cells #[.int .i64 3, .int .i64 fA, .int .i64 fB] 34 (0, 0)) ∧ ∃ n2, NM V2 (w.heap.size + 1 + 1) n2 (seenOf KS)) := ⟨hp2.out.box, _, hp2.out.seen⟩
              refine held_pure (i := 10) (v := (.pointer (some ⟨w.heap.size + 1, 0, none⟩))) rfl rfl (by kernel_rfl) (by kernel_rfl) (by kernel_rfl) (fun _ _ _ h => h) (Or.inl ⟨by rfl, fun w => by go_simp⟩) HSV.out ?_
              simp only [List.setIfInBounds_toArray, List.set]
              refine held_pure (i := 11) (v := (.pointer (some ⟨w.heap.size + 1, 1, none⟩))) rfl rfl (by kernel_rfl) (by kernel_rfl) (by kernel_rfl) (fun _ _ _ h => h) (Or.inl ⟨by rfl, fun w => by go_simp⟩) HSV.out ?_
              simp only [List.setIfInBounds_toArray, List.set]
              obtain ⟨V3, hst, hr3, ho3, hs3⟩ := one_at V2 (o := 1) (ty := 23) (v := fv2) hp2.out.mrow (by kernel_rfl) hp2.out.fst.one (by show 1 < 3; decide)
              have HTH := Lib.hid (hp2.out.done HKS.out HX.out HY.out hd (by have := hS.out.le; omega) hr3 ho3)
              have hsv3 : V3.heap[wr.heap.size]? = some (.cells #[.int .i64 3, .int .i64 fA, .int .i64 fB] 34 (0, 0)) ∧ ∃ n2, NM V3 (w.heap.size + 1 + 1) n2 (seenOf KS) := ⟨keepRow ho3 hp2.out.box (by have := hS.out.only.size; intro e; have := (Array.getElem?_eq_some_iff.1 hS.out.mi.row).1; omega), _, hp2.out.seen.keep ho3 (by omega)⟩
              refine held_store (j := 12) (by kernel_rfl) rfl rfl rfl 23 (.tmp 69) (.tmp 67) rfl _ rfl _ rfl hst hsv3 ?_
              clear hst hr3 ho3 hs3 hsv3 HSV hp2
              refine wpAnyH_done (by kernel_rfl) ?_ _
              go_wp2_with fail
              go_roundw
              case rel => exact ⟨k + 1, _, fv2, by omega, by go_num, HTH.out⟩
              case measure => simp [intOf]; omega
            · refine op_exec (j := 8) rfl rfl (by rfl) _ (exec_bs 23 1 #[(0, .tmp 65)] rfl [(0, .int .i64 d)] rfl _ HBS.out) ?_
              refine ⟨⟨HP1.out.box, _, HP1.out.seen⟩, ?_⟩
              simp only [List.setIfInBounds_toArray, List.set]
              refine held_execd (j := 4) (by kernel_rfl) rfl rfl (by rfl) _ (exec_load 23 (.tmp 61) rfl ⟨w.heap.size + 1, 1, none⟩ rfl _ HLF1.out) ⟨HP1.out.box, _, HP1.out.seen⟩ ?_
              simp only [List.setIfInBounds_toArray, List.set]
              refine held_append (j := 9) (by kernel_rfl) rfl rfl rfl (.tmp 62) (.tmp 66) 23 rfl w.heap.size 3 i3 (.int .i64 0) 1 8 Try.underlying23 hi3 hz3 hz31 hz32 rfl (by decide) (.slice (some ⟨gf, 0, none⟩) (thS (l.take k)).2.length fc) _ _ rfl HP1.out.mi.fst ⟨(World.drew Z2).heap.size, 0, none⟩ 1 1 [.int .i64 d] rfl rfl HNW.out (by intro u hu; simp at hu; subst hu; rfl) (by unfold maxLen; omega) (by omega) (by have := HP1.out.only.size; omega) ?_
              intro fv2 V2 own2 gro2 hat2
              have hp2 := Lib.hid (HP1.out.grow own2 gro2 hat2)
              clear own2 gro2 hat2
              refine ⟨⟨hp2.out.box, _, hp2.out.seen⟩, ?_⟩
              simp only [List.setIfInBounds_toArray, List.set]
              have HSV : Hid (V2.heap[wr.heap.size]? = some (.cells #[.int .i64 3, .int .i64 fA, .int .i64 fB] 34 (0, 0)) ∧ ∃ n2, NM V2 (w.heap.size + 1 + 1) n2 (seenOf KS)) := ⟨hp2.out.box, _, hp2.out.seen⟩
              refine held_pure (i := 10) (v := (.pointer (some ⟨w.heap.size + 1, 0, none⟩))) rfl rfl (by kernel_rfl) (by kernel_rfl) (by kernel_rfl) (fun _ _ _ h => h) (Or.inl ⟨by rfl, fun w => by go_simp⟩) HSV.out ?_
              simp only [List.setIfInBounds_toArray, List.set]
              refine held_pure (i := 11) (v := (.pointer (some ⟨w.heap.size + 1, 1, none⟩))) rfl rfl (by kernel_rfl) (by kernel_rfl) (by kernel_rfl) (fun _ _ _ h => h) (Or.inl ⟨by rfl, fun w => by go_simp⟩) HSV.out ?_
              simp only [List.setIfInBounds_toArray, List.set]
              obtain ⟨V3, hst, hr3, ho3, hs3⟩ := one_at V2 (o := 1) (ty := 23) (v := fv2) hp2.out.mrow (by kernel_rfl) hp2.out.fst.one (by show 1 < 3; decide)
              have HTH := Lib.hid (hp2.out.done HKS.out HX.out HY.out hd (by have := hS.out.le; omega) hr3 ho3)
              have hsv3 : V3.heap[wr.heap.size]? = some (.cells #[.int .i64 3, .int .i64 fA, .int .i64 fB] 34 (0, 0)) ∧ ∃ n2, NM V3 (w.heap.size + 1 + 1) n2 (seenOf KS) := ⟨keepRow ho3 hp2.out.box (by have := hS.out.only.size; intro e; have := (Array.getElem?_eq_some_iff.1 hS.out.mi.row).1; omega), _, hp2.out.seen.keep ho3 (by omega)⟩
              refine held_store (j := 12) (by kernel_rfl) rfl rfl rfl 23 (.tmp 69) (.tmp 67) rfl _ rfl _ rfl hst hsv3 ?_
              clear hst hr3 ho3 hs3 hsv3 HSV hp2
              refine wpAnyH_done (by kernel_rfl) ?_ _
              go_wp2_with fail
              go_roundw
              case rel => exact ⟨k + 1, _, fv2, by omega, by go_num, HTH.out⟩
              case measure => simp [intOf]; omega
        · have e2 : ((op : Int) == 2) = false := by simpa using h2
          have e3 : ((op : Int) == 3) = false := by simpa using h3
          go_upto_region 8 with (((with_reducible refine wpList_load_at ?_ 34 (.tmp 19) ?_ _ ?_ _ HLD2.out ?_); rfl; rfl; rfl))
          obtain ⟨Z, hZ⟩ : ∃ Z, Z = wr.alloc (.cells #[.int .i64 op, .int .i64 a, .int .i64 b] 34) := ⟨_, rfl⟩
          have gZ : Z.heap[wr.heap.size]? = some (.cells #[.int .i64 op, .int .i64 a, .int .i64 b] 34 (0, 0)) := by rw [hZ]; exact heap_alloc_new _ _
          have oZ : Only (fun _ => False) wr Z := by rw [hZ]; exact (Only.refl _ _).alloc _
          rw [← hZ]
          clear hZ e2 e3
          have hy : normAt (thS (l.take k)).2 ⟨op, a, b⟩ = ⟨op, a, b⟩ := by
            unfold normAt
            rw [if_neg (by simp [h2, h3])]
          have wy : (⟨op, a, b⟩ : Nd).Wf := hwf _ (List.mem_of_getElem? HX.out)
          clear h2 h3
          have hfl : (thS (l.take k)).2.length = k := by rw [(thS_len _).2, List.length_take]; omega
          have HY := Lib.hid hy
          clear hy
          have hlk := (hS.out.seen.keep oZ (fun x => x)).lookOk wy
          have HLZ := Lib.hid (load34 gZ)
          by_cases hmem : (⟨op, a, b⟩ : Nd) ∈ (thS (l.take k)).1
          · have hs : seenOf (thS (l.take k)).1 ⟨op, a, b⟩ = some (((thS (l.take k)).1.idxOf ⟨op, a, b⟩ : Nat) : Int) := if_pos hmem
            rw [hs] at hlk
            have HLK : Hid ((Instr.lookup 61 (.map (some (w.heap.size + 1 + 1))) (.agg #[.int .i64 op, .int .i64 a, .int .i64 b]) true).run Try.prog Z = .ok (.tuple #[.int .i64 (((thS (l.take k)).1.idxOf ⟨op, a, b⟩ : Nat) : Int), .bool true]) Z) := hlk
            clear hlk
            have hlk2 := HLK.out
            go_wp2_with (((with_reducible refine wpList_load_at ?_ 34 (.tmp 6) ?_ _ ?_ _ HLZ.out ?_); rfl; rfl; rfl))
            have hp := Lib.hid (pt_old hS.out oZ gZ hmem)
            clear hs hlk2 gZ oZ
            generalize hKS : (thS (l.take k)).1 ++ [⟨op, a, b⟩] = KS at *
            have HKS := Lib.hid hKS
            clear hKS
            obtain ⟨d, hd⟩ : ∃ d, (seenOf KS ⟨op, a, b⟩).getD 0 = d := ⟨_, rfl⟩
            have HLA : Hid (∀ V : World, (V.heap[wr.heap.size]? = some (.cells #[.int .i64 op, .int .i64 a, .int .i64 b] 34 (0, 0)) ∧ ∃ n2, NM V (w.heap.size + 1 + 1) n2 (seenOf KS)) → (loadVar 34 ⟨wr.heap.size, 0, none⟩).run Try.prog V = .ok (.agg #[.int .i64 op, .int .i64 a, .int .i64 b]) V) := fun V h => load34 h.1
            have HLB : Hid (∀ V : World, (V.heap[wr.heap.size]? = some (.cells #[.int .i64 op, .int .i64 a, .int .i64 b] 34 (0, 0)) ∧ ∃ n2, NM V (w.heap.size + 1 + 1) n2 (seenOf KS)) → (Instr.lookup 61 (.map (some (w.heap.size + 1 + 1))) (.agg #[.int .i64 op, .int .i64 a, .int .i64 b]) false).run Try.prog V = .ok (.int .i64 d) V) := fun V h => by
              obtain ⟨n2, hn2⟩ := h.2
              have := hn2.look wy
              rw [hd] at this
              exact this
            refine wp_region_held (S := fun W => W.heap[wr.heap.size]? = some (.cells #[.int .i64 op, .int .i64 a, .int .i64 b] 34 (0, 0)) ∧ ∃ n2, NM W (w.heap.size + 1 + 1) n2 (seenOf KS)) (by kernel_rfl) ?_
            change wpAnyH _ _ _ _ _ _ _ _ (World.drew _)
            have hpd := Lib.hid hp.out.drew
            have HSA : Hid ((World.drew Z).heap[wr.heap.size]? = some (.cells #[.int .i64 op, .int .i64 a, .int .i64 b] 34 (0, 0)) ∧ ∃ n2, NM (World.drew Z) (w.heap.size + 1 + 1) n2 (seenOf KS)) := ⟨hpd.out.box, _, hpd.out.seen⟩
            refine held_pure (i := 0) (v := (.pointer (some ⟨w.heap.size + 1, 0, none⟩))) rfl rfl (by kernel_rfl) (by kernel_rfl) (by kernel_rfl) (fun _ _ _ h => h) (Or.inl ⟨by rfl, fun w => by go_simp⟩) HSA.out ?_
            simp only [List.setIfInBounds_toArray, List.set]
            refine held_pure (i := 1) (v := (.pointer (some ⟨w.heap.size + 1, 0, none⟩))) rfl rfl (by kernel_rfl) (by kernel_rfl) (by kernel_rfl) (fun _ _ _ h => h) (Or.inl ⟨by rfl, fun w => by go_simp⟩) HSA.out ?_
            simp only [List.setIfInBounds_toArray, List.set]
            refine held_pure (i := 2) (v := (.pointer (some ⟨w.heap.size + 1, 0, none⟩))) rfl rfl (by kernel_rfl) (by kernel_rfl) (by kernel_rfl) (fun _ _ _ h => h) (Or.inl ⟨by rfl, fun w => by go_simp⟩) HSA.out ?_
            simp only [List.setIfInBounds_toArray, List.set]
            refine held_pure (i := 3) (v := (.pointer (some ⟨w.heap.size + 1, 1, none⟩))) rfl rfl (by kernel_rfl) (by kernel_rfl) (by kernel_rfl) (fun _ _ _ h => h) (Or.inl ⟨by rfl, fun w => by go_simp⟩) HSA.out ?_
            simp only [List.setIfInBounds_toArray, List.set]
            refine held_pure (i := 5) (v := (.map (some (w.heap.size + 1 + 1)))) rfl rfl (by kernel_rfl) (by kernel_rfl) (by kernel_rfl) (fun _ _ _ h => h) (Or.inl ⟨by rfl, fun w => by go_simp⟩) HSA.out ?_
            simp only [List.setIfInBounds_toArray, List.set]
            refine held_take (i := 6) (v := (.agg #[.int .i64 op, .int .i64 a, .int .i64 b])) rfl rfl (by kernel_rfl) (by kernel_rfl) (by kernel_rfl) (fun _ _ _ h => h) (yields_load_w (by rfl) 34 (.tmp 6) rfl _ rfl _ HLA.out) HSA.out ?_
            simp only [List.setIfInBounds_toArray, List.set]
            refine held_take (i := 7) (v := .int .i64 d) rfl rfl (by kernel_rfl) (by kernel_rfl) (by kernel_rfl) (fun _ _ _ h => h) (Or.inl ⟨by rfl, fun w hS => by have hc := HLB.out w hS; go_simp⟩) HSA.out ?_
            simp only [List.setIfInBounds_toArray, List.set]
            obtain ⟨i3, hi3, hz3, hz31, hz32⟩ := info_parts (show (Try.prog.info? 3).map (fun i => (i.zero, i.size, i.bytes)) = some (some (.int .i64 0), 1, 8) by kernel_rfl)
            have HLF : Hid ((loadVar 23 ⟨w.heap.size + 1, 1, none⟩).run Try.prog (World.drew Z) = .ok fv (World.drew Z)) := load_one 23 _ Try.underlying23 rfl (cell_of_row _ _ _ _ _ _ hpd.out.mi.row)
            have hbs := build_f d (World.drew Z)
            have hnw : ∀ (j : Nat) u, ([.int .i64 d] : List Value)[j]? = some u → ((World.drew Z).alloc (.cells #[.int .i64 d] 3)).cell? ((⟨(World.drew Z).heap.size, 0, none⟩ : Addr).add j) = some u := by exact World.news_of_block (heap_alloc_new _ _)
            have o1 : Only (fun _ => False) (World.drew Z) ((World.drew Z).alloc (.cells #[.int .i64 d] 3)) := (Only.refl _ _).alloc _
            generalize (World.drew Z).alloc (.cells #[.int .i64 d] 3) = V1 at *
            have HBS := Lib.hid hbs
            have HNW := Lib.hid hnw
            have HP1 := Lib.hid (show Pt w _ _ _ _ _ _ _ V1 from ⟨hpd.out.mi.keep o1, hpd.out.seen.keep o1 (fun x => x), keepRow o1 hpd.out.box (fun x => x), hpd.out.only.trans o1⟩)
            have HLF1 : Hid ((loadVar 23 ⟨w.heap.size + 1, 1, none⟩).run Try.prog V1 = .ok fv V1) := load_one 23 _ Try.underlying23 rfl (cell_of_row _ _ _ _ _ _ HP1.out.mi.row)
            clear hbs hnw o1
            refine held_two (j := 4) (k := 8) (by kernel_rfl) ?_ ?_
            · refine op_exec (j := 4) rfl rfl (by rfl) _ (exec_load 23 (.tmp 61) rfl ⟨w.heap.size + 1, 1, none⟩ rfl _ HLF.out) ?_
              refine ⟨HSA.out, ?_⟩
              simp only [List.setIfInBounds_toArray, List.set]
              refine held_bs (j := 8) (by kernel_rfl) rfl rfl rfl 23 1 #[(0, .tmp 65)] rfl [(0, .int .i64 d)] rfl _ HBS.out ⟨HP1.out.box, _, HP1.out.seen⟩ ?_
              simp only [List.setIfInBounds_toArray, List.set]
              refine held_append (j := 9) (by kernel_rfl) rfl rfl rfl (.tmp 62) (.tmp 66) 23 rfl w.heap.size 3 i3 (.int .i64 0) 1 8 Try.underlying23 hi3 hz3 hz31 hz32 rfl (by decide) fv _ _ rfl HP1.out.mi.fst ⟨(World.drew Z).heap.size, 0, none⟩ 1 1 [.int .i64 d] rfl rfl HNW.out (by intro u hu; simp at hu; subst hu; rfl) (by unfold maxLen; omega) (by omega) (by have := HP1.out.only.size; omega) ?_
              intro fv2 V2 own2 gro2 hat2
              have hp2 := Lib.hid (HP1.out.grow own2 gro2 hat2)
              clear own2 gro2 hat2
              refine ⟨⟨hp2.out.box, _, hp2.out.seen⟩, ?_⟩
              simp only [List.setIfInBounds_toArray, List.set]
              have HSV : Hid (V2.heap[wr.heap.size]? = some (.cells #[.int .i64 op, .int .i64 a, .int .i64 b] 34 (0, 0)) ∧ ∃ n2, NM V2 (w.heap.size + 1 + 1) n2 (seenOf KS)) := ⟨hp2.out.box, _, hp2.out.seen⟩
              refine held_pure (i := 10) (v := (.pointer (some ⟨w.heap.size + 1, 0, none⟩))) rfl rfl (by kernel_rfl) (by kernel_rfl) (by kernel_rfl) (fun _ _ _ h => h) (Or.inl ⟨by rfl, fun w => by go_simp⟩) HSV.out ?_
              simp only [List.setIfInBounds_toArray, List.set]
              refine held_pure (i := 11) (v := (.pointer (some ⟨w.heap.size + 1, 1, none⟩))) rfl rfl (by kernel_rfl) (by kernel_rfl) (by kernel_rfl) (fun _ _ _ h => h) (Or.inl ⟨by rfl, fun w => by go_simp⟩) HSV.out ?_
              simp only [List.setIfInBounds_toArray, List.set]
              obtain ⟨V3, hst, hr3, ho3, hs3⟩ := one_at V2 (o := 1) (ty := 23) (v := fv2) hp2.out.mrow (by kernel_rfl) hp2.out.fst.one (by show 1 < 3; decide)
              have HTH := Lib.hid (hp2.out.done HKS.out HX.out HY.out hd (by have := hS.out.le; omega) hr3 ho3)
              have hsv3 : V3.heap[wr.heap.size]? = some (.cells #[.int .i64 op, .int .i64 a, .int .i64 b] 34 (0, 0)) ∧ ∃ n2, NM V3 (w.heap.size + 1 + 1) n2 (seenOf KS) := ⟨keepRow ho3 hp2.out.box (by have := hS.out.only.size; intro e; have := (Array.getElem?_eq_some_iff.1 hS.out.mi.row).1; omega), _, hp2.out.seen.keep ho3 (by omega)⟩
              refine held_store (j := 12) (by kernel_rfl) rfl rfl rfl 23 (.tmp 69) (.tmp 67) rfl _ rfl _ rfl hst hsv3 ?_
              clear hst hr3 ho3 hs3 hsv3 HSV hp2
              refine wpAnyH_done (by kernel_rfl) ?_ _
              go_wp2_with fail
              go_roundw
              case rel => exact ⟨k + 1, _, fv2, by omega, by go_num, HTH.out⟩
              case measure => simp [intOf]; omega
            · refine op_exec (j := 8) rfl rfl (by rfl) _ (exec_bs 23 1 #[(0, .tmp 65)] rfl [(0, .int .i64 d)] rfl _ HBS.out) ?_
              refine ⟨⟨HP1.out.box, _, HP1.out.seen⟩, ?_⟩
              simp only [List.setIfInBounds_toArray, List.set]
              refine held_execd (j := 4) (by kernel_rfl) rfl rfl (by rfl) _ (exec_load 23 (.tmp 61) rfl ⟨w.heap.size + 1, 1, none⟩ rfl _ HLF1.out) ⟨HP1.out.box, _, HP1.out.seen⟩ ?_
              simp only [List.setIfInBounds_toArray, List.set]
              refine held_append (j := 9) (by kernel_rfl) rfl rfl rfl (.tmp 62) (.tmp 66) 23 rfl w.heap.size 3 i3 (.int .i64 0) 1 8 Try.underlying23 hi3 hz3 hz31 hz32 rfl (by decide) fv _ _ rfl HP1.out.mi.fst ⟨(World.drew Z).heap.size, 0, none⟩ 1 1 [.int .i64 d] rfl rfl HNW.out (by intro u hu; simp at hu; subst hu; rfl) (by unfold maxLen; omega) (by omega) (by have := HP1.out.only.size; omega) ?_
              intro fv2 V2 own2 gro2 hat2
              have hp2 := Lib.hid (HP1.out.grow own2 gro2 hat2)
              clear own2 gro2 hat2
              refine ⟨⟨hp2.out.box, _, hp2.out.seen⟩, ?_⟩
              simp only [List.setIfInBounds_toArray, List.set]
              have HSV : Hid (V2.heap[wr.heap.size]? = some (.cells #[.int .i64 op, .int .i64 a, .int .i64 b] 34 (0, 0)) ∧ ∃ n2, NM V2 (w.heap.size + 1 + 1) n2 (seenOf KS)) := ⟨hp2.out.box, _, hp2.out.seen⟩
              refine held_pure (i := 10) (v := (.pointer (some ⟨w.heap.size + 1, 0, none⟩))) rfl rfl (by kernel_rfl) (by kernel_rfl) (by kernel_rfl) (fun _ _ _ h => h) (Or.inl ⟨by rfl, fun w => by go_simp⟩) HSV.out ?_
              simp only [List.setIfInBounds_toArray, List.set]
              refine held_pure (i := 11) (v := (.pointer (some ⟨w.heap.size + 1, 1, none⟩))) rfl rfl (by kernel_rfl) (by kernel_rfl) (by kernel_rfl) (fun _ _ _ h => h) (Or.inl ⟨by rfl, fun w => by go_simp⟩) HSV.out ?_
              simp only [List.setIfInBounds_toArray, List.set]
              obtain ⟨V3, hst, hr3, ho3, hs3⟩ := one_at V2 (o := 1) (ty := 23) (v := fv2) hp2.out.mrow (by kernel_rfl) hp2.out.fst.one (by show 1 < 3; decide)
              have HTH := Lib.hid (hp2.out.done HKS.out HX.out HY.out hd (by have := hS.out.le; omega) hr3 ho3)
              have hsv3 : V3.heap[wr.heap.size]? = some (.cells #[.int .i64 op, .int .i64 a, .int .i64 b] 34 (0, 0)) ∧ ∃ n2, NM V3 (w.heap.size + 1 + 1) n2 (seenOf KS) := ⟨keepRow ho3 hp2.out.box (by have := hS.out.only.size; intro e; have := (Array.getElem?_eq_some_iff.1 hS.out.mi.row).1; omega), _, hp2.out.seen.keep ho3 (by omega)⟩
              refine held_store (j := 12) (by kernel_rfl) rfl rfl rfl 23 (.tmp 69) (.tmp 67) rfl _ rfl _ rfl hst hsv3 ?_
              clear hst hr3 ho3 hs3 hsv3 HSV hp2
              refine wpAnyH_done (by kernel_rfl) ?_ _
              go_wp2_with fail
              go_roundw
              case rel => exact ⟨k + 1, _, fv2, by omega, by go_num, HTH.out⟩
              case measure => simp [intOf]; omega
          · have hs : seenOf (thS (l.take k)).1 ⟨op, a, b⟩ = none := if_neg hmem
            rw [hs] at hlk
            have hlk2 : (Instr.lookup 61 (.map (some (w.heap.size + 1 + 1))) (.agg #[.int .i64 op, .int .i64 a, .int .i64 b]) true).run Try.prog Z = .ok (.tuple #[.int .i64 0, .bool false]) Z := hlk
            clear hlk
            obtain ⟨Z2, hrun, hnm, ho2⟩ := (hS.out.seen.keep oZ (fun x => x)).put (by have := hS.out.le; unfold maxLen; omega) wy (v := (k : Int)) (by rw [wf64_iff]; omega)
            have hrun2 : (Instr.mapUpdate 61 (.map (some (w.heap.size + 1 + 1))) (.agg #[.int .i64 op, .int .i64 a, .int .i64 b]) (.int .i64 (k : Int))).run Try.prog Z = .ok () Z2 := hrun
            go_wp2_with (((with_reducible refine wpList_load_at ?_ 34 (.tmp 6) ?_ _ ?_ _ HLZ.out ?_); rfl; rfl; rfl))
            have hp := Lib.hid (pt_new hS.out hk oZ gZ hmem ho2 hnm)
            clear hs hlk2 gZ oZ hrun hrun2 ho2 hnm
            generalize hKS : (thS (l.take k)).1 ++ [⟨op, a, b⟩] = KS at *
            have HKS := Lib.hid hKS
            clear hKS
            obtain ⟨d, hd⟩ : ∃ d, (seenOf KS ⟨op, a, b⟩).getD 0 = d := ⟨_, rfl⟩
            have HLA : Hid (∀ V : World, (V.heap[wr.heap.size]? = some (.cells #[.int .i64 op, .int .i64 a, .int .i64 b] 34 (0, 0)) ∧ ∃ n2, NM V (w.heap.size + 1 + 1) n2 (seenOf KS)) → (loadVar 34 ⟨wr.heap.size, 0, none⟩).run Try.prog V = .ok (.agg #[.int .i64 op, .int .i64 a, .int .i64 b]) V) := fun V h => load34 h.1
            have HLB : Hid (∀ V : World, (V.heap[wr.heap.size]? = some (.cells #[.int .i64 op, .int .i64 a, .int .i64 b] 34 (0, 0)) ∧ ∃ n2, NM V (w.heap.size + 1 + 1) n2 (seenOf KS)) → (Instr.lookup 61 (.map (some (w.heap.size + 1 + 1))) (.agg #[.int .i64 op, .int .i64 a, .int .i64 b]) false).run Try.prog V = .ok (.int .i64 d) V) := fun V h => by
              obtain ⟨n2, hn2⟩ := h.2
              have := hn2.look wy
              rw [hd] at this
              exact this
            refine wp_region_held (S := fun W => W.heap[wr.heap.size]? = some (.cells #[.int .i64 op, .int .i64 a, .int .i64 b] 34 (0, 0)) ∧ ∃ n2, NM W (w.heap.size + 1 + 1) n2 (seenOf KS)) (by kernel_rfl) ?_
            change wpAnyH _ _ _ _ _ _ _ _ (World.drew _)
            have hpd := Lib.hid hp.out.drew
            have HSA : Hid ((World.drew Z2).heap[wr.heap.size]? = some (.cells #[.int .i64 op, .int .i64 a, .int .i64 b] 34 (0, 0)) ∧ ∃ n2, NM (World.drew Z2) (w.heap.size + 1 + 1) n2 (seenOf KS)) := ⟨hpd.out.box, _, hpd.out.seen⟩
            refine held_pure (i := 0) (v := (.pointer (some ⟨w.heap.size + 1, 0, none⟩))) rfl rfl (by kernel_rfl) (by kernel_rfl) (by kernel_rfl) (fun _ _ _ h => h) (Or.inl ⟨by rfl, fun w => by go_simp⟩) HSA.out ?_
            simp only [List.setIfInBounds_toArray, List.set]
            refine held_pure (i := 1) (v := (.pointer (some ⟨w.heap.size + 1, 0, none⟩))) rfl rfl (by kernel_rfl) (by kernel_rfl) (by kernel_rfl) (fun _ _ _ h => h) (Or.inl ⟨by rfl, fun w => by go_simp⟩) HSA.out ?_
            simp only [List.setIfInBounds_toArray, List.set]
            refine held_pure (i := 2) (v := (.pointer (some ⟨w.heap.size + 1, 0, none⟩))) rfl rfl (by kernel_rfl) (by kernel_rfl) (by kernel_rfl) (fun _ _ _ h => h) (Or.inl ⟨by rfl, fun w => by go_simp⟩) HSA.out ?_
            simp only [List.setIfInBounds_toArray, List.set]
            refine held_pure (i := 3) (v := (.pointer (some ⟨w.heap.size + 1, 1, none⟩))) rfl rfl (by kernel_rfl) (by kernel_rfl) (by kernel_rfl) (fun _ _ _ h => h) (Or.inl ⟨by rfl, fun w => by go_simp⟩) HSA.out ?_
            simp only [List.setIfInBounds_toArray, List.set]
            refine held_pure (i := 5) (v := (.map (some (w.heap.size + 1 + 1)))) rfl rfl (by kernel_rfl) (by kernel_rfl) (by kernel_rfl) (fun _ _ _ h => h) (Or.inl ⟨by rfl, fun w => by go_simp⟩) HSA.out ?_
            simp only [List.setIfInBounds_toArray, List.set]
            refine held_take (i := 6) (v := (.agg #[.int .i64 op, .int .i64 a, .int .i64 b])) rfl rfl (by kernel_rfl) (by kernel_rfl) (by kernel_rfl) (fun _ _ _ h => h) (yields_load_w (by rfl) 34 (.tmp 6) rfl _ rfl _ HLA.out) HSA.out ?_
            simp only [List.setIfInBounds_toArray, List.set]
            refine held_take (i := 7) (v := .int .i64 d) rfl rfl (by kernel_rfl) (by kernel_rfl) (by kernel_rfl) (fun _ _ _ h => h) (Or.inl ⟨by rfl, fun w hS => by have hc := HLB.out w hS; go_simp⟩) HSA.out ?_
            simp only [List.setIfInBounds_toArray, List.set]
            obtain ⟨i3, hi3, hz3, hz31, hz32⟩ := info_parts (show (Try.prog.info? 3).map (fun i => (i.zero, i.size, i.bytes)) = some (some (.int .i64 0), 1, 8) by kernel_rfl)
            have HLF : Hid ((loadVar 23 ⟨w.heap.size + 1, 1, none⟩).run Try.prog (World.drew Z2) = .ok fv (World.drew Z2)) := load_one 23 _ Try.underlying23 rfl (cell_of_row _ _ _ _ _ _ hpd.out.mi.row)
            have hbs := build_f d (World.drew Z2)
            have hnw : ∀ (j : Nat) u, ([.int .i64 d] : List Value)[j]? = some u → ((World.drew Z2).alloc (.cells #[.int .i64 d] 3)).cell? ((⟨(World.drew Z2).heap.size, 0, none⟩ : Addr).add j) = some u := by exact World.news_of_block (heap_alloc_new _ _)
            have o1 : Only (fun _ => False) (World.drew Z2) ((World.drew Z2).alloc (.cells #[.int .i64 d] 3)) := (Only.refl _ _).alloc _
            generalize (World.drew Z2).alloc (.cells #[.int .i64 d] 3) = V1 at *
            have HBS := Lib.hid hbs
            have HNW := Lib.hid hnw
            have HP1 := Lib.hid (show Pt w _ _ _ _ _ _ _ V1 from ⟨hpd.out.mi.keep o1, hpd.out.seen.keep o1 (fun x => x), keepRow o1 hpd.out.box (fun x => x), hpd.out.only.trans o1⟩)
            have HLF1 : Hid ((loadVar 23 ⟨w.heap.size + 1, 1, none⟩).run Try.prog V1 = .ok fv V1) := load_one 23 _ Try.underlying23 rfl (cell_of_row _ _ _ _ _ _ HP1.out.mi.row)
            clear hbs hnw o1
            refine held_two (j := 4) (k := 8) (by kernel_rfl) ?_ ?_
            · refine op_exec (j := 4) rfl rfl (by rfl) _ (exec_load 23 (.tmp 61) rfl ⟨w.heap.size + 1, 1, none⟩ rfl _ HLF.out) ?_
              refine ⟨HSA.out, ?_⟩
              simp only [List.setIfInBounds_toArray, List.set]
              refine held_bs (j := 8) (by kernel_rfl) rfl rfl rfl 23 1 #[(0, .tmp 65)] rfl [(0, .int .i64 d)] rfl _ HBS.out ⟨HP1.out.box, _, HP1.out.seen⟩ ?_
              simp only [List.setIfInBounds_toArray, List.set]
              refine held_append (j := 9) (by kernel_rfl) rfl rfl rfl (.tmp 62) (.tmp 66) 23 rfl w.heap.size 3 i3 (.int .i64 0) 1 8 Try.underlying23 hi3 hz3 hz31 hz32 rfl (by decide) fv _ _ rfl HP1.out.mi.fst ⟨(World.drew Z2).heap.size, 0, none⟩ 1 1 [.int .i64 d] rfl rfl HNW.out (by intro u hu; simp at hu; subst hu; rfl) (by unfold maxLen; omega) (by omega) (by have := HP1.out.only.size; omega) ?_
              intro fv2 V2 own2 gro2 hat2
              have hp2 := Lib.hid (HP1.out.grow own2 gro2 hat2)
              clear own2 gro2 hat2
              refine ⟨⟨hp2.out.box, _, hp2.out.seen⟩, ?_⟩
              simp only [List.setIfInBounds_toArray, List.set]
              have HSV : Hid (V2.heap[wr.heap.size]? = some (.cells #[.int .i64 op, .int .i64 a, .int .i64 b] 34 (0, 0)) ∧ ∃ n2, NM V2 (w.heap.size + 1 + 1) n2 (seenOf KS)) := ⟨hp2.out.box, _, hp2.out.seen⟩
              refine held_pure (i := 10) (v := (.pointer (some ⟨w.heap.size + 1, 0, none⟩))) rfl rfl (by kernel_rfl) (by kernel_rfl) (by kernel_rfl) (fun _ _ _ h => h) (Or.inl ⟨by rfl, fun w => by go_simp⟩) HSV.out ?_
              simp only [List.setIfInBounds_toArray, List.set]
              refine held_pure (i := 11) (v := (.pointer (some ⟨w.heap.size + 1, 1, none⟩))) rfl rfl (by kernel_rfl) (by kernel_rfl) (by kernel_rfl) (fun _ _ _ h => h) (Or.inl ⟨by rfl, fun w => by go_simp⟩) HSV.out ?_
              simp only [List.setIfInBounds_toArray, List.set]
              obtain ⟨V3, hst, hr3, ho3, hs3⟩ := one_at V2 (o := 1) (ty := 23) (v := fv2) hp2.out.mrow (by kernel_rfl) hp2.out.fst.one (by show 1 < 3; decide)
              have HTH := Lib.hid (hp2.out.done HKS.out HX.out HY.out hd (by have := hS.out.le; omega) hr3 ho3)
              have hsv3 : V3.heap[wr.heap.size]? = some (.cells #[.int .i64 op, .int .i64 a, .int .i64 b] 34 (0, 0)) ∧ ∃ n2, NM V3 (w.heap.size + 1 + 1) n2 (seenOf KS) := ⟨keepRow ho3 hp2.out.box (by have := hS.out.only.size; intro e; have := (Array.getElem?_eq_some_iff.1 hS.out.mi.row).1; omega), _, hp2.out.seen.keep ho3 (by omega)⟩
              refine held_store (j := 12) (by kernel_rfl) rfl rfl rfl 23 (.tmp 69) (.tmp 67) rfl _ rfl _ rfl hst hsv3 ?_
              clear hst hr3 ho3 hs3 hsv3 HSV hp2
              refine wpAnyH_done (by kernel_rfl) ?_ _
              go_wp2_with fail
              go_roundw
              case rel => exact ⟨k + 1, _, fv2, by omega, by go_num, HTH.out⟩
              case measure => simp [intOf]; omega
            · refine op_exec (j := 8) rfl rfl (by rfl) _ (exec_bs 23 1 #[(0, .tmp 65)] rfl [(0, .int .i64 d)] rfl _ HBS.out) ?_
              refine ⟨⟨HP1.out.box, _, HP1.out.seen⟩, ?_⟩
              simp only [List.setIfInBounds_toArray, List.set]
              refine held_execd (j := 4) (by kernel_rfl) rfl rfl (by rfl) _ (exec_load 23 (.tmp 61) rfl ⟨w.heap.size + 1, 1, none⟩ rfl _ HLF1.out) ⟨HP1.out.box, _, HP1.out.seen⟩ ?_
              simp only [List.setIfInBounds_toArray, List.set]
              refine held_append (j := 9) (by kernel_rfl) rfl rfl rfl (.tmp 62) (.tmp 66) 23 rfl w.heap.size 3 i3 (.int .i64 0) 1 8 Try.underlying23 hi3 hz3 hz31 hz32 rfl (by decide) fv _ _ rfl HP1.out.mi.fst ⟨(World.drew Z2).heap.size, 0, none⟩ 1 1 [.int .i64 d] rfl rfl HNW.out (by intro u hu; simp at hu; subst hu; rfl) (by unfold maxLen; omega) (by omega) (by have := HP1.out.only.size; omega) ?_
              intro fv2 V2 own2 gro2 hat2
              have hp2 := Lib.hid (HP1.out.grow own2 gro2 hat2)
              clear own2 gro2 hat2
              refine ⟨⟨hp2.out.box, _, hp2.out.seen⟩, ?_⟩
              simp only [List.setIfInBounds_toArray, List.set]
              have HSV : Hid (V2.heap[wr.heap.size]? = some (.cells #[.int .i64 op, .int .i64 a, .int .i64 b] 34 (0, 0)) ∧ ∃ n2, NM V2 (w.heap.size + 1 + 1) n2 (seenOf KS)) := ⟨hp2.out.box, _, hp2.out.seen⟩
              refine held_pure (i := 10) (v := (.pointer (some ⟨w.heap.size + 1, 0, none⟩))) rfl rfl (by kernel_rfl) (by kernel_rfl) (by kernel_rfl) (fun _ _ _ h => h) (Or.inl ⟨by rfl, fun w => by go_simp⟩) HSV.out ?_
              simp only [List.setIfInBounds_toArray, List.set]
              refine held_pure (i := 11) (v := (.pointer (some ⟨w.heap.size + 1, 1, none⟩))) rfl rfl (by kernel_rfl) (by kernel_rfl) (by kernel_rfl) (fun _ _ _ h => h) (Or.inl ⟨by rfl, fun w => by go_simp⟩) HSV.out ?_
              simp only [List.setIfInBounds_toArray, List.set]
              obtain ⟨V3, hst, hr3, ho3, hs3⟩ := one_at V2 (o := 1) (ty := 23) (v := fv2) hp2.out.mrow (by kernel_rfl) hp2.out.fst.one (by show 1 < 3; decide)
              have HTH := Lib.hid (hp2.out.done HKS.out HX.out HY.out hd (by have := hS.out.le; omega) hr3 ho3)
              have hsv3 : V3.heap[wr.heap.size]? = some (.cells #[.int .i64 op, .int .i64 a, .int .i64 b] 34 (0, 0)) ∧ ∃ n2, NM V3 (w.heap.size + 1 + 1) n2 (seenOf KS) := ⟨keepRow ho3 hp2.out.box (by have := hS.out.only.size; intro e; have := (Array.getElem?_eq_some_iff.1 hS.out.mi.row).1; omega), _, hp2.out.seen.keep ho3 (by omega)⟩
              refine held_store (j := 12) (by kernel_rfl) rfl rfl rfl 23 (.tmp 69) (.tmp 67) rfl _ rfl _ rfl hst hsv3 ?_
              clear hst hr3 ho3 hs3 hsv3 HSV hp2
              refine wpAnyH_done (by kernel_rfl) ?_ _
              go_wp2_with fail
              go_roundw
              case rel => exact ⟨k + 1, _, fv2, by omega, by go_num, HTH.out⟩
              case measure => simp [intOf]; omega
    · obtain rfl : k = l.length := by omega
      have HT := Lib.hid hS.out
      go_wp2_with fail
      go_ret
      have h := HT.out.mi
      rw [List.take_length] at h
      exact ⟨fv, rfl, h, HT.out.only⟩
end Go.Proofs.Ytnppjkekbdapkaa
