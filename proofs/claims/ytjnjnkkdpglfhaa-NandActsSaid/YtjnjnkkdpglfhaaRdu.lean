/-
  NandActs: the chip and the reference's chip, side by side.
-/
import Derived.Test.YtjnjnkkdpglfhaaRne
set_option linter.unusedVariables false
namespace Go.Proofs.Ytjnjnkkdpglfhaa
open Go.RowKit

abbrev Rws := List (Nat × Array Value × TypeId)
section
variable {B gc gl gp g : Nat} {pg : Nat → Nat} {pv : Value} {st : Cp} {p : Pw} {a w w' : World} {T T' : Rws} {A A' : Array Value} {ty : TypeId}
theorem Chip.other (h : Chip B gc gl gp pg pv st p w) (o : Only (fun k => k = g) w w') (hg : w.heap[g]? = some (.cells A ty (0, 0))) (h9 : ty ≠ 9) (hm : ¬ Mine gc gl gp pg pv st.segs g) : Chip B gc gl gp pg pv st p w' :=
  ⟨keepRow o h.chip (fun e => hm (.inl e.symm)), keepSegs o h.segs (fun e => hm (.inr (.inl e.symm))),
   fun i hi => keepPages o (h.page i hi) (fun e => hm (.inr (.inr (.inr (.inl ⟨i, hi, e.symm⟩))))) (fun b s hb _ => heap_ne hb hg (fun e => h9 e.symm)),
   keepRow o h.pw (fun e => hm (.inr (.inr (.inl e.symm)))), keepOwn o h.past (fun k hk e => hm (.inr (.inr (.inr (.inr (e ▸ hk)))))), h.inj, h.lens, h.base⟩
theorem On.turn (h : On T a B gc gl gp pg st p w) (i : Nat) (hi : T[i]? = some (g, A, ty)) (h9 : ty ≠ 9) (o : Only (fun k => k = g) w w') (hg : w'.heap[g]? = some (.cells A' ty (0, 0))) : On (T.set i (g, A', ty)) a B gc gl gp pg st p w' := by
  obtain ⟨pv, hc, hh⟩ := h
  have hno := hh.no _ (List.mem_of_getElem? hi)
  refine ⟨pv, hc.other o (hh.tab.get i hi) h9 hno, hh.tab.turn i hi o hg, fun q hq => ?_, hh.base⟩
  rcases List.mem_or_eq_of_mem_set hq with hq | rfl
  · exact hh.no q hq
  · exact hno
theorem On.cons (h : On T a B gc gl gp pg st p w) (o : Only (fun _ => False) w w') (hg : w'.heap[g]? = some (.cells A ty (0, 0))) (hgs : w.heap.size ≤ g) : On ((g, A, ty) :: T) a B gc gl gp pg st p w' := by
  obtain ⟨pv, hc, hh⟩ := h
  refine ⟨pv, hc.keep o, hh.tab.cons o hg hgs, fun q hq => ?_, hh.base⟩
  rcases List.mem_cons.1 hq with rfl | hq
  · intro hm
    have := hc.mine_lt hm
    simp only at this
    omega
  · exact hh.no q hq
theorem On.sub (h : On T a B gc gl gp pg st p w) (hm : ∀ q ∈ T', q ∈ T) (hn : (T'.map (·.1)).Nodup) : On T' a B gc gl gp pg st p w := by
  obtain ⟨pv, hc, hh⟩ := h
  exact ⟨pv, hc, ⟨fun q hq => hh.tab.rows q (hm q hq), fun q hq => hh.tab.new q (hm q hq), hn, hh.tab.only⟩, fun q hq => hh.no q (hm q hq), hh.base⟩
theorem On.perm (h : On T a B gc gl gp pg st p w) (hp : T.Perm T') : On T' a B gc gl gp pg st p w :=
  h.sub (fun q hq => hp.mem_iff.2 hq) ((hp.map _).nodup_iff.1 h.tab.nd)
theorem On.less (h : On T a B gc gl gp pg st p w) (hs : T'.Sublist T) : On T' a B gc gl gp pg st p w :=
  h.sub (fun q hq => hs.subset hq) (h.tab.nd.sublist (hs.map _))
/-- A new row, filled. -/
theorem On.fresh {n : Nat} (h : On T a B gc gl gp pg st p w) (Z : Array Value) (ty : TypeId) (hf : (Try.prog.info? ty).map (·.size) = some n) (hn : A.size = n) (hZ : Z.size = n) (h1 : ∀ v ∈ A.toList, v.oneCell' = true) :
    ∃ W, (storeVar ty ⟨w.heap.size, 0, none⟩ (.agg A)).run Try.prog (w.alloc (.cells Z ty)) = .ok () W ∧ On ((w.heap.size, A, ty) :: T) a B gc gl gp pg st p W := by
  obtain ⟨W, hs, ht, hz, ho⟩ := h.tab.fresh (B := A) Z ty hf hn hZ h1
  exact ⟨W, hs, h.cons ho (ht.get 0 rfl) (Nat.le_refl _)⟩
end
/-- The rows hold the slice of the pages' cells. -/
def LT (T : Rws) (v : Value) (st : Cp) : Prop := ∃ b cap cur, v = .slice (some ⟨b, 0, none⟩) (st.segs * st.pages) cap ∧ st.segs * st.pages ≤ cap ∧ cap ≤ maxLen ∧ (b, cur, 97) ∈ T ∧ LR cur st
/-- .. of these texts. -/
def ST (T : Rws) (v : Value) (xs : List ByteArray) : Prop := (v = .slice none 0 0 ∧ xs = []) ∨ ∃ b cap cur, v = .slice (some ⟨b, 0, none⟩) xs.length cap ∧ xs.length ≤ cap ∧ cap ≤ maxLen ∧ (b, cur, 9) ∈ T ∧ ∀ (i : Nat) (u : ByteArray), xs[i]? = some u → cur[i]? = some (.string u)
section
variable {a w : World} {T T' : Rws} {v : Value} {st : Cp} {xs : List ByteArray}
theorem LT.lc (h : LT T v st) (t : Tab T a w) : LC w v st := by
  obtain ⟨b, cap, cur, rfl, h1, h2, h3, h4⟩ := h
  refine ⟨b, cap, rfl, h1, h2, fun k u hu => ?_⟩
  rw [cell_of_row _ _ _ _ _ _ (t.rows _ h3)]
  exact h4.2 k u hu
theorem ST.sl (h : ST T v xs) (t : Tab T a w) : SL w v xs := by
  rcases h with ⟨rfl, rfl⟩ | ⟨b, cap, cur, rfl, h1, h2, h3, h4⟩
  · exact ⟨none, 0, rfl, by simp, by unfold maxLen; omega, fun i u hu => by simp at hu⟩
  · refine ⟨_, cap, rfl, h1, h2, fun i u hu => ⟨b, 0, rfl, ?_⟩⟩
    rw [Nat.zero_add, cell_of_row _ _ _ _ _ _ (t.rows _ h3)]
    exact h4 i u hu
theorem LT.mono (h : LT T v st) (hs : ∀ q ∈ T, q ∈ T') : LT T' v st := by
  obtain ⟨b, cap, cur, rfl, h1, h2, h3, h4⟩ := h
  exact ⟨b, cap, cur, rfl, h1, h2, hs _ h3, h4⟩
theorem ST.mono (h : ST T v xs) (hs : ∀ q ∈ T, q ∈ T') : ST T' v xs := by
  rcases h with ⟨rfl, rfl⟩ | ⟨b, cap, cur, rfl, h1, h2, h3, h4⟩
  · exact .inl ⟨rfl, rfl⟩
  · exact .inr ⟨b, cap, cur, rfl, h1, h2, hs _ h3, h4⟩
end
/-- The chip, in st and p; the reference's, in the box br: in sr and pr. R: the caller's rows besides. -/
def Du (R : Rws) (br : Nat) (a : World) (B gc gl gp : Nat) (pg : Nat → Nat) (st : Cp) (p : Pw) (sr : Cp) (pr : Pw) (A : Array Value) (w : World) : Prop :=
  ∃ T lv pv, On (R ++ (br, A, 53) :: T) a B gc gl gp pg st p w ∧ RA A lv pv sr pr ∧ LT T lv sr ∧ ST T pv sr.past
section
variable {B gc gl gp g br : Nat} {pg : Nat → Nat} {st sr s2 : Cp} {p pr p2 : Pw} {a w w' : World} {R T : Rws} {A A' X : Array Value} {ty : TypeId}
theorem mid (R T : Rws) (x : Nat × Array Value × TypeId) : (R ++ x :: T)[R.length]? = some x := by simp
theorem midset (R T : Rws) (x y : Nat × Array Value × TypeId) : (R ++ x :: T).set R.length y = R ++ y :: T := by
  rw [List.set_append_right _ _ (Nat.le_refl _)]
  simp
theorem Du.on (h : Du R br a B gc gl gp pg st p sr pr A w) (o : Only (fun _ => False) w w') : Du R br a B gc gl gp pg st p sr pr A w' := by
  obtain ⟨T, lv, pv, h1, h2⟩ := h
  exact ⟨T, lv, pv, h1.on o, h2⟩
theorem Du.call (h : Du R br a B gc gl gp pg st p sr pr A w) (o : Below w.heap.size w w') : Du R br a B gc gl gp pg st p sr pr A w' := h.on (Only.of_below o)
theorem Du.below (h : Du R br a B gc gl gp pg st p sr pr A w) : Below a.heap.size a w := by
  obtain ⟨T, lv, pv, h1, h2⟩ := h
  exact h1.below
theorem Du.ra (h : Du R br a B gc gl gp pg st p sr pr A w) : ∃ lv pv, RA A lv pv sr pr ∧ LC w lv sr ∧ SL w pv sr.past := by
  obtain ⟨T, lv, pv, h1, h2, h3, h4⟩ := h
  have t := h1.tab
  have t2 : Tab T a w := (h1.less (T' := T) (by
    refine (List.sublist_cons_self _ _).trans (List.sublist_append_right _ _))).tab
  exact ⟨lv, pv, h2, h3.lc t2, h4.sl t2⟩
theorem Du.c (h : Du R br a B gc gl gp pg st p sr pr A w) (o : Nat) {v : Value} (hv : A[o]? = some v) : w.cell? ⟨br, o, none⟩ = some v := by
  obtain ⟨T, lv, pv, h1, h2⟩ := h
  exact h1.tab.c R.length (mid _ _ _) o hv
theorem Du.x (h : Du ((g, X, ty) :: R) br a B gc gl gp pg st p sr pr A w) (o : Nat) {v : Value} (hv : X[o]? = some v) : w.cell? ⟨g, o, none⟩ = some v := by
  obtain ⟨T, lv, pv, h1, h2⟩ := h
  exact h1.tab.c 0 rfl o hv
theorem Du.x1 {q : Nat × Array Value × TypeId} (h : Du (q :: (g, X, ty) :: R) br a B gc gl gp pg st p sr pr A w) (o : Nat) {v : Value} (hv : X[o]? = some v) : w.cell? ⟨g, o, none⟩ = some v := by
  obtain ⟨T, lv, pv, h1, h2⟩ := h
  exact h1.tab.c 1 rfl o hv
theorem Du.load (h : Du R br a B gc gl gp pg st p sr pr A w) : (loadVar 53 ⟨br, 0, none⟩).run Try.prog w = .ok (.agg A) w := by
  obtain ⟨T, lv, pv, h1, h2, _⟩ := h
  exact h1.tab.loadAll R.length (mid _ _ _) 53 _ Try.underlying53 rfl info53s h2.size
theorem Du.load48 (h : Du R br a B gc gl gp pg st p sr pr A w) : (loadVar 48 ⟨br, 0, none⟩).run Try.prog w = .ok (.agg pr.cells) w := by
  obtain ⟨T, lv, pv, h1, h2, _⟩ := h
  have := h1.tab.load R.length (mid _ _ _) 48 _ Try.underlying48 rfl 0 info48s (by rw [h2.size]; decide)
  rw [Nat.zero_add, h2.pw] at this
  exact this
theorem Du.xload (h : Du ((g, X, ty) :: R) br a B gc gl gp pg st p sr pr A w) (t : TypeId) (d : TypeDesc) (hu : Try.prog.underlying t = some d) (hd : isAggD d = true) (hf : (Try.prog.info? t).map (·.size) = some X.size) : (loadVar t ⟨g, 0, none⟩).run Try.prog w = .ok (.agg X) w := by
  obtain ⟨T, lv, pv, h1, h2, _⟩ := h
  exact h1.tab.loadAll 0 rfl t d hu hd hf rfl
theorem Du.fresh {n : Nat} (h : Du R br a B gc gl gp pg st p sr pr A w) (Z : Array Value) (ty : TypeId) (hf : (Try.prog.info? ty).map (·.size) = some n) (hn : X.size = n) (hZ : Z.size = n) (h1 : ∀ v ∈ X.toList, v.oneCell' = true) :
    ∃ W, (storeVar ty ⟨w.heap.size, 0, none⟩ (.agg X)).run Try.prog (w.alloc (.cells Z ty)) = .ok () W ∧ Du ((w.heap.size, X, ty) :: R) br a B gc gl gp pg st p sr pr A W := by
  obtain ⟨T, lv, pv, k1, k2⟩ := h
  obtain ⟨W, hs, ho⟩ := k1.fresh Z ty hf hn hZ h1
  exact ⟨W, hs, T, lv, pv, ho, k2⟩
theorem Du.drop {q : Nat × Array Value × TypeId} (h : Du (q :: R) br a B gc gl gp pg st p sr pr A w) : Du R br a B gc gl gp pg st p sr pr A w := by
  obtain ⟨T, lv, pv, k1, k2⟩ := h
  exact ⟨T, lv, pv, k1.less (List.sublist_cons_self _ _), k2⟩
/-- The reference's cells, stored. -/
theorem Du.store (h : Du R br a B gc gl gp pg st p sr pr A w) (o : Only (fun _ => False) w w') {pv : Value} {lv : Value} (hra : RA A lv pv sr pr) (hout : Out w w' A pv sr pr A' s2 p2) :
    ∃ W, (storeVar 53 ⟨br, 0, none⟩ (.agg A')).run Try.prog w' = .ok () W ∧ Du R br a B gc gl gp pg st p s2 p2 A' W := by
  obtain ⟨T, lv0, pv0, k1, k2, k3, k4⟩ := h
  obtain rfl : lv0 = lv := Option.some.inj (k2.l.symm.trans hra.l)
  obtain rfl : pv0 = pv := Option.some.inj (k2.past.symm.trans hra.past)
  rcases hout with ⟨rfl, rfl, rfl⟩ | ⟨lv', pv', m1, m2, m3⟩
  · have k5 := k1.on o
    obtain ⟨W, hs, ht, hz, ho⟩ := k5.tab.whole (B := A') R.length (mid _ _ _) 53 info53s k2.size k2.size k2.one
    rw [midset] at ht
    have k6 := k5.turn R.length (mid _ _ _) (by decide) ho (ht.get R.length (mid _ _ _))
    rw [midset] at k6
    exact ⟨W, hs, T, lv0, pv0, k6, k2, k3, k4⟩
  · obtain ⟨b, cap, cur, rfl, n1, n2, n3, n4, n5⟩ := m2
    have k5 := k1.cons o n3 n4
    rcases m3 with ⟨rfl, e2⟩ | m3
    · have k6 : On (R ++ (br, A, 53) :: ((b, cur, 97) :: T)) a B gc gl gp pg st p w' := by
        refine k5.perm ?_
        have : ((b, cur, 97) :: (R ++ (br, A, 53) :: T)).Perm (R ++ (b, cur, 97) :: (br, A, 53) :: T) := List.perm_middle.symm
        refine this.trans (List.Perm.append_left R (List.Perm.swap ..))
      obtain ⟨W, hs, ht, hz, ho⟩ := k6.tab.whole (B := A') R.length (mid _ _ _) 53 info53s m1.size k2.size m1.one
      rw [midset] at ht
      have k7 := k6.turn R.length (mid _ _ _) (by decide) ho (ht.get R.length (mid _ _ _))
      rw [midset] at k7
      refine ⟨W, hs, _, _, pv', k7, m1, ⟨b, cap, cur, rfl, n1, n2, by simp, n5⟩, ?_⟩
      rw [e2]
      exact k4.mono (fun q hq => by simp [hq])
    · have hcase : (pv' = .slice none 0 0 ∧ s2.past = []) ∨ ∃ b2 cap2 cur2, pv' = .slice (some ⟨b2, 0, none⟩) s2.past.length cap2 ∧ s2.past.length ≤ cap2 ∧ cap2 ≤ maxLen ∧ w'.heap[b2]? = some (.cells cur2 9 (0, 0)) ∧ w.heap.size ≤ b2 ∧ ∀ (i : Nat) (u : ByteArray), s2.past[i]? = some u → cur2[i]? = some (.string u) := by
        obtain ⟨_, ⟨rfl, h0⟩ | ⟨g, c2, cur2, rfl, hb, hg, h1, h2, h3, h4⟩⟩ := m3
        · exact .inl ⟨rfl, List.eq_nil_of_length_eq_zero h0⟩
        · refine .inr ⟨g, c2, cur2, rfl, h1, h2, hg, hb, fun i u hu => ?_⟩
          have e : (s2.past.map Value.string)[i]? = some (.string u) := by simp [hu]
          rw [← h4, List.getElem?_take] at e
          split at e
          · simpa using e
          · cases e
      rcases hcase with ⟨rfl, e2⟩ | ⟨b2, cap2, cur2, rfl, q1, q2, q3, q4, q5⟩
      · have k6 : On (R ++ (br, A, 53) :: ((b, cur, 97) :: T)) a B gc gl gp pg st p w' := by
          refine k5.perm ?_
          have : ((b, cur, 97) :: (R ++ (br, A, 53) :: T)).Perm (R ++ (b, cur, 97) :: (br, A, 53) :: T) := List.perm_middle.symm
          refine this.trans (List.Perm.append_left R (List.Perm.swap ..))
        obtain ⟨W, hs, ht, hz, ho⟩ := k6.tab.whole (B := A') R.length (mid _ _ _) 53 info53s m1.size k2.size m1.one
        rw [midset] at ht
        have k7 := k6.turn R.length (mid _ _ _) (by decide) ho (ht.get R.length (mid _ _ _))
        rw [midset] at k7
        exact ⟨W, hs, _, _, _, k7, m1, ⟨b, cap, cur, rfl, n1, n2, by simp, n5⟩, .inl ⟨rfl, e2⟩⟩
      · have hne : b2 ≠ b := heap_ne q3 n3 (by decide)
        have k5' : On ((b2, cur2, 9) :: (b, cur, 97) :: (R ++ (br, A, 53) :: T)) a B gc gl gp pg st p w' := by
          have k8 := k1.cons o q3 q4
          obtain ⟨pv3, hc3, hh3⟩ := k5
          obtain ⟨pv4, hc4, hh4⟩ := k8
          refine ⟨pv3, hc3, ⟨?_, ?_, ?_, hh3.tab.only⟩, ?_, hh3.base⟩
          · intro q hq
            rcases List.mem_cons.1 hq with rfl | hq
            · exact q3
            · exact hh3.tab.rows q hq
          · intro q hq
            rcases List.mem_cons.1 hq with rfl | hq
            · exact hh4.tab.new _ (by simp)
            · exact hh3.tab.new q hq
          · rw [List.map_cons, List.nodup_cons]
            refine ⟨fun hm => ?_, hh3.tab.nd⟩
            rw [List.map_cons, List.mem_cons] at hm
            rcases hm with e | hm
            · exact hne e
            · have := hh4.tab.nd
              rw [List.map_cons, List.nodup_cons] at this
              exact this.1 hm
          · intro q hq
            rcases List.mem_cons.1 hq with rfl | hq
            · intro hm
              obtain ⟨pv1, hc1, hh1⟩ := k1
              have e1 : pv3 = pv1 := Option.some.inj (hc3.c5.symm.trans (hc1.keep o).c5)
              subst e1
              have := hc1.mine_lt hm
              simp only at this
              omega
            · exact hh3.no q hq
        have k6 : On (R ++ (br, A, 53) :: ((b2, cur2, 9) :: (b, cur, 97) :: T)) a B gc gl gp pg st p w' := by
          refine k5'.perm ?_
          have t1 : ((b2, cur2, 9) :: (b, cur, 97) :: (R ++ (br, A, 53) :: T)).Perm ((R ++ (br, A, 53) :: T) ++ [(b2, cur2, 9), (b, cur, 97)]) := by
            have := List.perm_append_comm (l₁ := [((b2, cur2, 9) : Nat × Array Value × TypeId), (b, cur, 97)]) (l₂ := R ++ (br, A, 53) :: T)
            simpa using this
          refine t1.trans ?_
          rw [List.append_assoc]
          refine List.Perm.append_left R ?_
          rw [List.cons_append]
          refine List.Perm.cons _ ?_
          have := List.perm_append_comm (l₁ := T) (l₂ := [((b2, cur2, 9) : Nat × Array Value × TypeId), (b, cur, 97)])
          simpa using this
        obtain ⟨W, hs, ht, hz, ho⟩ := k6.tab.whole (B := A') R.length (mid _ _ _) 53 info53s m1.size k2.size m1.one
        rw [midset] at ht
        have k7 := k6.turn R.length (mid _ _ _) (by decide) ho (ht.get R.length (mid _ _ _))
        rw [midset] at k7
        exact ⟨W, hs, _, _, _, k7, m1, ⟨b, cap, cur, rfl, n1, n2, by simp, n5⟩, .inr ⟨b2, cap2, cur2, rfl, q1, q2, by simp, q5⟩⟩
/-- The reference's power, stored. -/
theorem Du.power (h : Du R br a B gc gl gp pg st p sr pr A w) (q : Pw) : ∃ W, (storeVar 48 ⟨br, 0, none⟩ (.agg q.cells)).run Try.prog w = .ok () W ∧ ∃ A', Du R br a B gc gl gp pg st p sr q A' W := by
  obtain ⟨T, lv, pv, k1, k2, k3, k4⟩ := h
  obtain ⟨W, hs, ht, hz, ho⟩ := k1.tab.part (B := q.cells) R.length (mid _ _ _) 48 0 info48s rfl (by rw [k2.size]; decide) (p4_one _ _ _ _)
  rw [midset] at ht
  have k6 := k1.turn R.length (mid _ _ _) (by decide) ho (ht.get R.length (mid _ _ _))
  rw [midset] at k6
  exact ⟨W, hs, _, T, lv, pv, k6, k2.setPw q, k3, k4⟩
theorem RA.set0 {lv pv : Value} (h : RA A lv pv st p) (b : Bool) : RA (A.setIfInBounds 0 (.bool b)) lv pv st { p with off := b } := by
  obtain ⟨a1, a2, k, a4, a5⟩ := h.set1 (o := 0) (v := .bool b) (by omega) rfl
  refine ⟨a1, ?_, by rw [k _ (by omega)]; exact h.segs, by rw [k _ (by omega)]; exact h.pages, by rw [k _ (by omega)]; exact h.rated, fun i hi => by rw [k _ (by omega)]; exact h.bad i hi, by rw [k _ (by omega)]; exact h.l, fun i hi => by rw [k _ (by omega)]; exact h.worn i hi, by rw [k _ (by omega)]; exact h.past, by rw [k _ (by omega)]; exact h.programs, by rw [k _ (by omega)]; exact h.erases, h.lens, a4⟩
  obtain ⟨p0, p1, p2, p3⟩ := h.p0
  apply Array.ext_getElem?
  intro j
  rw [Array.getElem?_extract]
  by_cases hj : j < 4
  · rw [if_pos (by omega), Nat.zero_add]
    rcases (by omega : j = 0 ∨ j = 1 ∨ j = 2 ∨ j = 3) with rfl | rfl | rfl | rfl
    · exact a2
    · rw [k _ (by omega), p1]; rfl
    · rw [k _ (by omega), p2]; rfl
    · rw [k _ (by omega), p3]; rfl
  · rw [if_neg (by omega), Array.getElem?_eq_none (by show 4 ≤ j; omega)]
theorem RA.setLeft {lv pv : Value} (h : RA A lv pv st p) (x : Int) : RA (A.setIfInBounds 1 (.int .i64 x)) lv pv st { p with left := x } := by
  obtain ⟨a1, a2, k, a4, a5⟩ := h.set1 (o := 1) (v := .int .i64 x) (by omega) rfl
  refine ⟨a1, ?_, by rw [k _ (by omega)]; exact h.segs, by rw [k _ (by omega)]; exact h.pages, by rw [k _ (by omega)]; exact h.rated, fun i hi => by rw [k _ (by omega)]; exact h.bad i hi, by rw [k _ (by omega)]; exact h.l, fun i hi => by rw [k _ (by omega)]; exact h.worn i hi, by rw [k _ (by omega)]; exact h.past, by rw [k _ (by omega)]; exact h.programs, by rw [k _ (by omega)]; exact h.erases, h.lens, a4⟩
  obtain ⟨p0, p1, p2, p3⟩ := h.p0
  apply Array.ext_getElem?
  intro j
  rw [Array.getElem?_extract]
  by_cases hj : j < 4
  · rw [if_pos (by omega), Nat.zero_add]
    rcases (by omega : j = 0 ∨ j = 1 ∨ j = 2 ∨ j = 3) with rfl | rfl | rfl | rfl
    · rw [k _ (by omega), p0]; rfl
    · exact a2
    · rw [k _ (by omega), p2]; rfl
    · rw [k _ (by omega), p3]; rfl
  · rw [if_neg (by omega), Array.getElem?_eq_none (by show 4 ≤ j; omega)]
theorem Du.off (h : Du R br a B gc gl gp pg st p sr pr A w) (b : Bool) : ∃ W, (storeVar 4 ⟨br, 0, none⟩ (.bool b)).run Try.prog w = .ok () W ∧ ∃ A', Du R br a B gc gl gp pg st p sr { pr with off := b } A' W := by
  obtain ⟨T, lv, pv, k1, k2, k3, k4⟩ := h
  obtain ⟨W, hs, ht, hz, ho⟩ := k1.tab.one R.length (mid _ _ _) 4 0 (.bool b) info4s rfl (by rw [k2.size]; decide)
  rw [midset] at ht
  have k6 := k1.turn R.length (mid _ _ _) (by decide) ho (ht.get R.length (mid _ _ _))
  rw [midset] at k6
  exact ⟨W, hs, _, T, lv, pv, k6, k2.set0 b, k3, k4⟩
theorem Du.left (h : Du R br a B gc gl gp pg st p sr pr A w) (x : Int) : ∃ W, (storeVar 3 ⟨br, 1, none⟩ (.int .i64 x)).run Try.prog w = .ok () W ∧ ∃ A', Du R br a B gc gl gp pg st p sr { pr with left := x } A' W := by
  obtain ⟨T, lv, pv, k1, k2, k3, k4⟩ := h
  obtain ⟨W, hs, ht, hz, ho⟩ := k1.tab.one R.length (mid _ _ _) 3 1 (.int .i64 x) info3s rfl (by rw [k2.size]; decide)
  rw [midset] at ht
  have k6 := k1.turn R.length (mid _ _ _) (by decide) ho (ht.get R.length (mid _ _ _))
  rw [midset] at k6
  exact ⟨W, hs, _, T, lv, pv, k6, k2.setLeft x, k3, k4⟩
end
end Go.Proofs.Ytjnjnkkdpglfhaa
