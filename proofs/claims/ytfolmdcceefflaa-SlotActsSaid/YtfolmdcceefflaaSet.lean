/-
  The slot: set, Write, Erase.
-/
import Derived.Test.YtfolmdcceefflaaSlo
set_option linter.unusedVariables false
namespace Go.Proofs.Ytfolmdcceefflaa
open Go.RowKit

def Two (gs gp : Nat) (k : Nat) : Prop := k = gp ∨ k = gs
theorem IsSl.keep {gs gp : Nat} {c d : Ce} {w w' : World} {S : Nat → Prop} (h : IsSl gs gp c d w) (o : Only S w w') (hn : ¬ S gs) : IsSl gs gp c d w' := by
  have hlt : gs < w.heap.size := by
    have := h
    unfold IsSl at this
    exact (Array.getElem?_eq_some_iff.1 this).1
  exact (o.block gs hlt hn).trans h
theorem IsPw.keep {g : Nat} {p : Pw} {w w' : World} {S : Nat → Prop} (h : IsPw g p w) (o : Only S w w') (hn : ¬ S g) : IsPw g p w' := by
  have hlt : g < w.heap.size := by
    have := h
    unfold IsPw at this
    exact (Array.getElem?_eq_some_iff.1 this).1
  exact (o.block g hlt hn).trans h
theorem IsSl.drewN {gs gp : Nat} {c d : Ce} {w : World} (h : IsSl gs gp c d w) (n : Nat) : IsSl gs gp c d (w.drewN n) := h
theorem IsPw.drewN {g : Nat} {p : Pw} {w : World} (h : IsPw g p w) (n : Nat) : IsPw g p (w.drewN n) := h

/-- The place of a cell. -/
def pl (i : Int) : Nat := if i = 0 then 1 else 19

theorem store_c {gs gp : Nat} {c d e : Ce} {w : World} (h : IsSl gs gp c d w) (hc : c.Ok) (hd : d.Ok) (he : e.Ok) :
    (storeVar 64 ⟨gs, 1, none⟩ (.agg (ceA e))).run Try.prog w = .ok () (w.setRow gs (slA gp e d)) := by
  have := storeVar_at (P := Try.prog) w gs 1 67 64 (slA gp c d) (ceA e) 18 h info64s (ceA_size he) (by rw [slA_size hc hd]; omega) (ceL_one e)
  rw [splice_c hc he] at this
  exact this
theorem store_d {gs gp : Nat} {c d e : Ce} {w : World} (h : IsSl gs gp c d w) (hc : c.Ok) (hd : d.Ok) (he : e.Ok) :
    (storeVar 64 ⟨gs, 19, none⟩ (.agg (ceA e))).run Try.prog w = .ok () (w.setRow gs (slA gp c e)) := by
  have := storeVar_at (P := Try.prog) w gs 19 67 64 (slA gp c d) (ceA e) 18 h info64s (ceA_size he) (by rw [slA_size hc hd]; omega) (ceL_one e)
  rw [splice_d hc hd he] at this
  exact this
theorem load_c {gs gp : Nat} {c d : Ce} {w : World} (h : IsSl gs gp c d w) (hc : c.Ok) (hd : d.Ok) :
    (loadVar 64 ⟨gs, 1, none⟩).run Try.prog w = .ok (.agg (ceA c)) w := by
  have := loadVar_at (P := Try.prog) w gs 1 67 64 (slA gp c d) (0, 0) _ 18 h Try.underlying64 rfl info64s (by rw [slA_size hc hd]; omega)
  rw [sl_c hc] at this
  exact this
theorem load_d {gs gp : Nat} {c d : Ce} {w : World} (h : IsSl gs gp c d w) (hc : c.Ok) (hd : d.Ok) :
    (loadVar 64 ⟨gs, 19, none⟩).run Try.prog w = .ok (.agg (ceA d)) w := by
  have := loadVar_at (P := Try.prog) w gs 19 67 64 (slA gp c d) (0, 0) _ 18 h Try.underlying64 rfl info64s (by rw [slA_size hc hd]; omega)
  rw [sl_d hc hd] at this
  exact this
theorem sl_row {gs gp : Nat} {c d e f : Ce} {w : World} (h : IsSl gs gp c d w) : IsSl gs gp e f (w.setRow gs (slA gp e f)) := setRow_heap _ _ _ _ _ _ h
theorem only_row {S : Nat → Prop} {w0 w : World} (o : Only S w0 w) {g : Nat} (hg : S g) (cs : Array Value) : Only S w0 (w.setRow g cs) :=
  o.trans ⟨rfl, rfl, rfl, by simp, fun k hk hs => setRow_other w g k cs (by rintro rfl; exact hs hg)⟩

/-- What is left of an act: its error, and what a cell is behind it. -/
def Pw.err (p : Pw) : Int := if p.whole = true then 0 else 4
def Pw.set (p : Pw) (c e : Ce) : Ce := if p.whole = true ∨ p.keep.tmod 2 = 1 then e else c
theorem Pw.next_keep (p : Pw) : p.next.keep = p.keep := by
  unfold Pw.next
  split
  · rfl
  · split <;> rfl
theorem Pw.set_ok {p : Pw} {c e : Ce} (hc : c.Ok) (he : e.Ok) : (p.set c e).Ok := by
  unfold Pw.set
  split <;> assumption

set_option maxHeartbeats 1000000 in
theorem set_c (gs gp : Nat) (p : Pw) (c d e : Ce) (w : World) (hs : IsSl gs gp c d w) (hp : IsPw gp p w) (hok : p.Ok) (hc : c.Ok) (hd : d.Ok) (he : e.Ok) (hne : gs ≠ gp) :
    Calls Try.prog 29 #[.pointer (some ⟨gs, 0, none⟩), .int .i64 0, .agg (ceA e)] w fun x w' => x = .returned (.int .i64 p.err) ∧ IsPw gp p.next w' ∧ IsSl gs gp (p.set c e) d w' ∧ Only (Two gs gp) w w' := by
  have oa : Only (Two gs gp) w (w.alloc (.cells (ceA e) 64)) := (Only.refl _ w).alloc _
  have hsa : IsSl gs gp c d (w.alloc (.cells (ceA e) 64)) := hs.keep ((Only.refl (fun _ => False) w).alloc _) (fun h => h)
  have hpa : IsPw gp p (w.alloc (.cells (ceA e) 64)) := hp.keep ((Only.refl (fun _ => False) w).alloc _) (fun h => h)
  have hg0 : (w.alloc (.cells (ceA e) 64)).heap[w.heap.size]? = some (.cells (ceA e) 64 (0, 0)) := heap_alloc_new w _
  have hlp : gp < w.heap.size := (Array.getElem?_eq_some_iff.1 hp).1
  have hgl : w.heap.size < (w.alloc (.cells (ceA e) 64)).heap.size := by simp
  have hesz := ceA_size he
  have HG := Lib.hid hg0
  have HOA := Lib.hid oa
  have c0 := sl_p hsa
  have hact := Lib.hid (act_any gp p _ hpa hok)
  have HS := Lib.hid hsa
  have HLP := Lib.hid hlp
  have HGL := Lib.hid hgl
  clear hs hsa hpa hp hg0 oa hlp hgl
  have herr : p.err = if p.whole = true then 0 else 4 := rfl
  have hset : (if p.whole = true ∨ p.next.keep.tmod 2 = 1 then e else c) = p.set c e := by rw [Pw.next_keep]; rfl
  have hset' : (if p.whole = true ∨ p.next.keep.tmod 2 = 1 then e else d) = p.set d e := by rw [Pw.next_keep]; rfl
  generalize p.err = er at *
  generalize p.set c e = ce' at *
  generalize p.set d e = de' at *
  go_enter Try.func29, Try.ntmps29
  go_wp2_with fail
  refine hact.out.mono ?_
  rintro x w1 ⟨rfl, hp1, o1⟩
  have hs1 := Lib.hid (HS.out.keep o1 hne)
  have hkept := Lib.hid (kept_any gp p.next w1 hp1)
  have c1 := sl_p hs1.out
  have hg1 : Hid (w1.heap[w.heap.size]? = some (.cells (ceA e) 64 (0, 0))) := (o1.block w.heap.size HGL.out (fun h => by have := HLP.out; omega)).trans HG.out
  have HP1 := Lib.hid hp1
  have HO1 := Lib.hid (HOA.out.trans (o1.mono fun k hk => Or.inl hk))
  clear hp1 o1
  cases hb : p.whole
  · by_cases hk : p.next.keep.tmod 2 = 1
    · have hk' : (p.next.keep.tmod 2 == 1) = true := by rw [hk]; rfl
      rw [hb, hk] at hset hset'
      rw [hb] at herr
      simp only [or_true, if_true] at hset hset'
      simp only [Bool.false_eq_true, if_false] at herr
      subst herr
      subst hset
      clear hset'
      go_wp2_with fail
      refine hkept.out.mono ?_
      rintro x w2 ⟨rfl, n, rfl⟩
      have HL : Hid ((loadVar 64 ⟨w.heap.size, 0, none⟩).run Try.prog (w1.drewN n).drew = .ok (.agg (ceA e)) (w1.drewN n).drew) :=
        run_loadVar_row (P := Try.prog) _ w.heap.size 64 64 _ (0, 0) _ hg1.out Try.underlying64 rfl (by rw [info64s, hesz])
      have HST : Hid ((storeVar 64 ⟨gs, 1, none⟩ (.agg (ceA e))).run Try.prog (w1.drewN n).drew = .ok () ((w1.drewN n).drew.setRow gs (slA gp e d))) := store_c (w := (w1.drewN n).drew) (hs1.out.drewN (n + 1)) hc hd he
      go_wp2_with fail
      refine wp_region_any (by kernel_rfl) ?_
      change wpAny _ _ _ _ _ _ _ (World.drew _)
      refine take_at (i := 0) (v := .pointer (some ⟨gs, 0, none⟩)) rfl rfl (by kernel_rfl) (by kernel_rfl) (by kernel_rfl) (fun _ _ _ h => h) (Or.inl ⟨by rfl, fun w => by go_simp⟩) ?_
      simp only [List.setIfInBounds_toArray, List.set]
      refine take_at (i := 1) (v := .int .i64 0) rfl rfl (by kernel_rfl) (by kernel_rfl) (by kernel_rfl) (fun _ _ _ h => h) (Or.inl ⟨by rfl, fun w => by go_simp⟩) ?_
      simp only [List.setIfInBounds_toArray, List.set]
      refine take_at (i := 3) (v := .pointer (some ⟨gs, 0, none⟩)) rfl rfl (by kernel_rfl) (by kernel_rfl) (by kernel_rfl) (fun _ _ _ h => h) (Or.inl ⟨by rfl, fun w => by go_simp⟩) ?_
      simp only [List.setIfInBounds_toArray, List.set]
      refine take_at (i := 4) (v := .pointer (some ⟨gs, 1, none⟩)) rfl rfl (by kernel_rfl) (by kernel_rfl) (by kernel_rfl) (fun _ _ _ h => h) (Or.inl ⟨by rfl, fun w => by go_simp⟩) ?_
      simp only [List.setIfInBounds_toArray, List.set]
      refine wpAny_ready (rs := [2]) (by kernel_rfl) (by simp) ?_
      refine AllReady.cons rfl (fun K0 hK0 => ?_) AllReady.nil
      refine load_take rfl rfl 64 (.tmp 5) rfl _ rfl _ HL.out ?_
      refine hK0 _ _ ?_
      clear hK0 K0
      simp only [List.setIfInBounds_toArray, List.set]
      refine take_at (i := 5) (v := .pointer (some ⟨gs, 1, none⟩)) rfl rfl (by kernel_rfl) (by kernel_rfl) (by kernel_rfl) (fun _ _ _ h => h) (Or.inl ⟨by rfl, fun w => by go_simp⟩) ?_
      simp only [List.setIfInBounds_toArray, List.set]
      refine wpAny_ready (rs := [6]) (by kernel_rfl) (by simp) ?_
      refine AllReady.cons rfl (fun K0 hK0 => ?_) AllReady.nil
      refine store_take rfl rfl 64 (.tmp 38) (.tmp 35) rfl ⟨gs, 1, none⟩ rfl (.agg (ceA e)) rfl HST.out ?_
      refine hK0 _ _ ?_
      clear hK0 K0
      refine wpAny_done (by kernel_rfl) ?_ _
      go_wp2_with fail
      go_ret
      exact ⟨rfl, IsPw.keep (S := fun k => k = gs) (HP1.out.drewN (n + 1)) (only_row (S := fun k => k = gs) (Only.refl _ _) (g := gs) rfl _) (Ne.symm hne), sl_row (hs1.out.drewN (n + 1)), only_row (HO1.out.drewN (n + 1)) (Or.inr rfl) _⟩
    · have hk' : (p.next.keep.tmod 2 == 1) = false := by simpa using hk
      rw [hb, if_neg (by simp [hk])] at hset hset'
      rw [hb] at herr
      simp only [Bool.false_eq_true, if_false] at herr
      subst herr
      subst hset
      clear hset'
      go_wp2_with fail
      refine hkept.out.mono ?_
      rintro x w2 ⟨rfl, n, rfl⟩
      go_wp2_with fail
      go_ret
      exact ⟨rfl, HP1.out.drewN n, hs1.out.drewN n, HO1.out.drewN n⟩
  · rw [hb, if_pos (by simp)] at hset hset'
    rw [hb] at herr
    simp only [if_true] at herr
    subst herr
    subst hset
    clear hset'
    go_wp2_with fail
    refine hkept.out.mono ?_
    rintro x w2 ⟨rfl, n, rfl⟩
    have HL : Hid ((loadVar 64 ⟨w.heap.size, 0, none⟩).run Try.prog (w1.drewN n).drew = .ok (.agg (ceA e)) (w1.drewN n).drew) :=
      run_loadVar_row (P := Try.prog) _ w.heap.size 64 64 _ (0, 0) _ hg1.out Try.underlying64 rfl (by rw [info64s, hesz])
    have HST : Hid ((storeVar 64 ⟨gs, 1, none⟩ (.agg (ceA e))).run Try.prog (w1.drewN n).drew = .ok () ((w1.drewN n).drew.setRow gs (slA gp e d))) := store_c (w := (w1.drewN n).drew) (hs1.out.drewN (n + 1)) hc hd he
    go_wp2_with fail
    refine wp_region_any (by kernel_rfl) ?_
    change wpAny _ _ _ _ _ _ _ (World.drew _)
    refine take_at (i := 0) (v := .pointer (some ⟨gs, 0, none⟩)) rfl rfl (by kernel_rfl) (by kernel_rfl) (by kernel_rfl) (fun _ _ _ h => h) (Or.inl ⟨by rfl, fun w => by go_simp⟩) ?_
    simp only [List.setIfInBounds_toArray, List.set]
    refine take_at (i := 1) (v := .int .i64 0) rfl rfl (by kernel_rfl) (by kernel_rfl) (by kernel_rfl) (fun _ _ _ h => h) (Or.inl ⟨by rfl, fun w => by go_simp⟩) ?_
    simp only [List.setIfInBounds_toArray, List.set]
    refine take_at (i := 3) (v := .pointer (some ⟨gs, 0, none⟩)) rfl rfl (by kernel_rfl) (by kernel_rfl) (by kernel_rfl) (fun _ _ _ h => h) (Or.inl ⟨by rfl, fun w => by go_simp⟩) ?_
    simp only [List.setIfInBounds_toArray, List.set]
    refine take_at (i := 4) (v := .pointer (some ⟨gs, 1, none⟩)) rfl rfl (by kernel_rfl) (by kernel_rfl) (by kernel_rfl) (fun _ _ _ h => h) (Or.inl ⟨by rfl, fun w => by go_simp⟩) ?_
    simp only [List.setIfInBounds_toArray, List.set]
    refine wpAny_ready (rs := [2]) (by kernel_rfl) (by simp) ?_
    refine AllReady.cons rfl (fun K0 hK0 => ?_) AllReady.nil
    refine load_take rfl rfl 64 (.tmp 5) rfl _ rfl _ HL.out ?_
    refine hK0 _ _ ?_
    clear hK0 K0
    simp only [List.setIfInBounds_toArray, List.set]
    refine take_at (i := 5) (v := .pointer (some ⟨gs, 1, none⟩)) rfl rfl (by kernel_rfl) (by kernel_rfl) (by kernel_rfl) (fun _ _ _ h => h) (Or.inl ⟨by rfl, fun w => by go_simp⟩) ?_
    simp only [List.setIfInBounds_toArray, List.set]
    refine wpAny_ready (rs := [6]) (by kernel_rfl) (by simp) ?_
    refine AllReady.cons rfl (fun K0 hK0 => ?_) AllReady.nil
    refine store_take rfl rfl 64 (.tmp 38) (.tmp 35) rfl ⟨gs, 1, none⟩ rfl (.agg (ceA e)) rfl HST.out ?_
    refine hK0 _ _ ?_
    clear hK0 K0
    refine wpAny_done (by kernel_rfl) ?_ _
    go_wp2_with fail
    go_ret
    exact ⟨rfl, IsPw.keep (S := fun k => k = gs) (HP1.out.drewN (n + 1)) (only_row (S := fun k => k = gs) (Only.refl _ _) (g := gs) rfl _) (Ne.symm hne), sl_row (hs1.out.drewN (n + 1)), only_row (HO1.out.drewN (n + 1)) (Or.inr rfl) _⟩

set_option maxHeartbeats 1000000 in
theorem set_d (gs gp : Nat) (p : Pw) (c d e : Ce) (w : World) (hs : IsSl gs gp c d w) (hp : IsPw gp p w) (hok : p.Ok) (hc : c.Ok) (hd : d.Ok) (he : e.Ok) (hne : gs ≠ gp) :
    Calls Try.prog 29 #[.pointer (some ⟨gs, 0, none⟩), .int .i64 1, .agg (ceA e)] w fun x w' => x = .returned (.int .i64 p.err) ∧ IsPw gp p.next w' ∧ IsSl gs gp c (p.set d e) w' ∧ Only (Two gs gp) w w' := by
  have oa : Only (Two gs gp) w (w.alloc (.cells (ceA e) 64)) := (Only.refl _ w).alloc _
  have hsa : IsSl gs gp c d (w.alloc (.cells (ceA e) 64)) := hs.keep ((Only.refl (fun _ => False) w).alloc _) (fun h => h)
  have hpa : IsPw gp p (w.alloc (.cells (ceA e) 64)) := hp.keep ((Only.refl (fun _ => False) w).alloc _) (fun h => h)
  have hg0 : (w.alloc (.cells (ceA e) 64)).heap[w.heap.size]? = some (.cells (ceA e) 64 (0, 0)) := heap_alloc_new w _
  have hlp : gp < w.heap.size := (Array.getElem?_eq_some_iff.1 hp).1
  have hgl : w.heap.size < (w.alloc (.cells (ceA e) 64)).heap.size := by simp
  have hesz := ceA_size he
  have HG := Lib.hid hg0
  have HOA := Lib.hid oa
  have c0 := sl_p hsa
  have hact := Lib.hid (act_any gp p _ hpa hok)
  have HS := Lib.hid hsa
  have HLP := Lib.hid hlp
  have HGL := Lib.hid hgl
  clear hs hsa hpa hp hg0 oa hlp hgl
  have herr : p.err = if p.whole = true then 0 else 4 := rfl
  have hset : (if p.whole = true ∨ p.next.keep.tmod 2 = 1 then e else c) = p.set c e := by rw [Pw.next_keep]; rfl
  have hset' : (if p.whole = true ∨ p.next.keep.tmod 2 = 1 then e else d) = p.set d e := by rw [Pw.next_keep]; rfl
  generalize p.err = er at *
  generalize p.set c e = ce' at *
  generalize p.set d e = de' at *
  go_enter Try.func29, Try.ntmps29
  go_wp2_with fail
  refine hact.out.mono ?_
  rintro x w1 ⟨rfl, hp1, o1⟩
  have hs1 := Lib.hid (HS.out.keep o1 hne)
  have hkept := Lib.hid (kept_any gp p.next w1 hp1)
  have c1 := sl_p hs1.out
  have hg1 : Hid (w1.heap[w.heap.size]? = some (.cells (ceA e) 64 (0, 0))) := (o1.block w.heap.size HGL.out (fun h => by have := HLP.out; omega)).trans HG.out
  have HP1 := Lib.hid hp1
  have HO1 := Lib.hid (HOA.out.trans (o1.mono fun k hk => Or.inl hk))
  clear hp1 o1
  cases hb : p.whole
  · by_cases hk : p.next.keep.tmod 2 = 1
    · have hk' : (p.next.keep.tmod 2 == 1) = true := by rw [hk]; rfl
      rw [hb, hk] at hset hset'
      rw [hb] at herr
      simp only [or_true, if_true] at hset hset'
      simp only [Bool.false_eq_true, if_false] at herr
      subst herr
      subst hset'
      clear hset
      go_wp2_with fail
      refine hkept.out.mono ?_
      rintro x w2 ⟨rfl, n, rfl⟩
      have HL : Hid ((loadVar 64 ⟨w.heap.size, 0, none⟩).run Try.prog (w1.drewN n).drew = .ok (.agg (ceA e)) (w1.drewN n).drew) :=
        run_loadVar_row (P := Try.prog) _ w.heap.size 64 64 _ (0, 0) _ hg1.out Try.underlying64 rfl (by rw [info64s, hesz])
      have HST : Hid ((storeVar 64 ⟨gs, 19, none⟩ (.agg (ceA e))).run Try.prog (w1.drewN n).drew = .ok () ((w1.drewN n).drew.setRow gs (slA gp c e))) := store_d (w := (w1.drewN n).drew) (hs1.out.drewN (n + 1)) hc hd he
      go_wp2_with fail
      refine wp_region_any (by kernel_rfl) ?_
      change wpAny _ _ _ _ _ _ _ (World.drew _)
      refine take_at (i := 0) (v := .pointer (some ⟨gs, 0, none⟩)) rfl rfl (by kernel_rfl) (by kernel_rfl) (by kernel_rfl) (fun _ _ _ h => h) (Or.inl ⟨by rfl, fun w => by go_simp⟩) ?_
      simp only [List.setIfInBounds_toArray, List.set]
      refine take_at (i := 1) (v := .int .i64 1) rfl rfl (by kernel_rfl) (by kernel_rfl) (by kernel_rfl) (fun _ _ _ h => h) (Or.inl ⟨by rfl, fun w => by go_simp⟩) ?_
      simp only [List.setIfInBounds_toArray, List.set]
      refine take_at (i := 3) (v := .pointer (some ⟨gs, 0, none⟩)) rfl rfl (by kernel_rfl) (by kernel_rfl) (by kernel_rfl) (fun _ _ _ h => h) (Or.inl ⟨by rfl, fun w => by go_simp⟩) ?_
      simp only [List.setIfInBounds_toArray, List.set]
      refine take_at (i := 4) (v := .pointer (some ⟨gs, 1, none⟩)) rfl rfl (by kernel_rfl) (by kernel_rfl) (by kernel_rfl) (fun _ _ _ h => h) (Or.inl ⟨by rfl, fun w => by go_simp⟩) ?_
      simp only [List.setIfInBounds_toArray, List.set]
      refine wpAny_ready (rs := [2]) (by kernel_rfl) (by simp) ?_
      refine AllReady.cons rfl (fun K0 hK0 => ?_) AllReady.nil
      refine load_take rfl rfl 64 (.tmp 5) rfl _ rfl _ HL.out ?_
      refine hK0 _ _ ?_
      clear hK0 K0
      simp only [List.setIfInBounds_toArray, List.set]
      refine take_at (i := 5) (v := .pointer (some ⟨gs, 19, none⟩)) rfl rfl (by kernel_rfl) (by kernel_rfl) (by kernel_rfl) (fun _ _ _ h => h) (Or.inl ⟨by rfl, fun w => by go_simp⟩) ?_
      simp only [List.setIfInBounds_toArray, List.set]
      refine wpAny_ready (rs := [6]) (by kernel_rfl) (by simp) ?_
      refine AllReady.cons rfl (fun K0 hK0 => ?_) AllReady.nil
      refine store_take rfl rfl 64 (.tmp 38) (.tmp 35) rfl ⟨gs, 19, none⟩ rfl (.agg (ceA e)) rfl HST.out ?_
      refine hK0 _ _ ?_
      clear hK0 K0
      refine wpAny_done (by kernel_rfl) ?_ _
      go_wp2_with fail
      go_ret
      exact ⟨rfl, IsPw.keep (S := fun k => k = gs) (HP1.out.drewN (n + 1)) (only_row (S := fun k => k = gs) (Only.refl _ _) (g := gs) rfl _) (Ne.symm hne), sl_row (hs1.out.drewN (n + 1)), only_row (HO1.out.drewN (n + 1)) (Or.inr rfl) _⟩
    · have hk' : (p.next.keep.tmod 2 == 1) = false := by simpa using hk
      rw [hb, if_neg (by simp [hk])] at hset hset'
      rw [hb] at herr
      simp only [Bool.false_eq_true, if_false] at herr
      subst herr
      subst hset'
      clear hset
      go_wp2_with fail
      refine hkept.out.mono ?_
      rintro x w2 ⟨rfl, n, rfl⟩
      go_wp2_with fail
      go_ret
      exact ⟨rfl, HP1.out.drewN n, hs1.out.drewN n, HO1.out.drewN n⟩
  · rw [hb, if_pos (by simp)] at hset hset'
    rw [hb] at herr
    simp only [if_true] at herr
    subst herr
    subst hset'
    clear hset
    go_wp2_with fail
    refine hkept.out.mono ?_
    rintro x w2 ⟨rfl, n, rfl⟩
    have HL : Hid ((loadVar 64 ⟨w.heap.size, 0, none⟩).run Try.prog (w1.drewN n).drew = .ok (.agg (ceA e)) (w1.drewN n).drew) :=
      run_loadVar_row (P := Try.prog) _ w.heap.size 64 64 _ (0, 0) _ hg1.out Try.underlying64 rfl (by rw [info64s, hesz])
    have HST : Hid ((storeVar 64 ⟨gs, 19, none⟩ (.agg (ceA e))).run Try.prog (w1.drewN n).drew = .ok () ((w1.drewN n).drew.setRow gs (slA gp c e))) := store_d (w := (w1.drewN n).drew) (hs1.out.drewN (n + 1)) hc hd he
    go_wp2_with fail
    refine wp_region_any (by kernel_rfl) ?_
    change wpAny _ _ _ _ _ _ _ (World.drew _)
    refine take_at (i := 0) (v := .pointer (some ⟨gs, 0, none⟩)) rfl rfl (by kernel_rfl) (by kernel_rfl) (by kernel_rfl) (fun _ _ _ h => h) (Or.inl ⟨by rfl, fun w => by go_simp⟩) ?_
    simp only [List.setIfInBounds_toArray, List.set]
    refine take_at (i := 1) (v := .int .i64 1) rfl rfl (by kernel_rfl) (by kernel_rfl) (by kernel_rfl) (fun _ _ _ h => h) (Or.inl ⟨by rfl, fun w => by go_simp⟩) ?_
    simp only [List.setIfInBounds_toArray, List.set]
    refine take_at (i := 3) (v := .pointer (some ⟨gs, 0, none⟩)) rfl rfl (by kernel_rfl) (by kernel_rfl) (by kernel_rfl) (fun _ _ _ h => h) (Or.inl ⟨by rfl, fun w => by go_simp⟩) ?_
    simp only [List.setIfInBounds_toArray, List.set]
    refine take_at (i := 4) (v := .pointer (some ⟨gs, 1, none⟩)) rfl rfl (by kernel_rfl) (by kernel_rfl) (by kernel_rfl) (fun _ _ _ h => h) (Or.inl ⟨by rfl, fun w => by go_simp⟩) ?_
    simp only [List.setIfInBounds_toArray, List.set]
    refine wpAny_ready (rs := [2]) (by kernel_rfl) (by simp) ?_
    refine AllReady.cons rfl (fun K0 hK0 => ?_) AllReady.nil
    refine load_take rfl rfl 64 (.tmp 5) rfl _ rfl _ HL.out ?_
    refine hK0 _ _ ?_
    clear hK0 K0
    simp only [List.setIfInBounds_toArray, List.set]
    refine take_at (i := 5) (v := .pointer (some ⟨gs, 19, none⟩)) rfl rfl (by kernel_rfl) (by kernel_rfl) (by kernel_rfl) (fun _ _ _ h => h) (Or.inl ⟨by rfl, fun w => by go_simp⟩) ?_
    simp only [List.setIfInBounds_toArray, List.set]
    refine wpAny_ready (rs := [6]) (by kernel_rfl) (by simp) ?_
    refine AllReady.cons rfl (fun K0 hK0 => ?_) AllReady.nil
    refine store_take rfl rfl 64 (.tmp 38) (.tmp 35) rfl ⟨gs, 19, none⟩ rfl (.agg (ceA e)) rfl HST.out ?_
    refine hK0 _ _ ?_
    clear hK0 K0
    refine wpAny_done (by kernel_rfl) ?_ _
    go_wp2_with fail
    go_ret
    exact ⟨rfl, IsPw.keep (S := fun k => k = gs) (HP1.out.drewN (n + 1)) (only_row (S := fun k => k = gs) (Only.refl _ _) (g := gs) rfl _) (Ne.symm hne), sl_row (hs1.out.drewN (n + 1)), only_row (HO1.out.drewN (n + 1)) (Or.inr rfl) _⟩

end Go.Proofs.Ytfolmdcceefflaa
