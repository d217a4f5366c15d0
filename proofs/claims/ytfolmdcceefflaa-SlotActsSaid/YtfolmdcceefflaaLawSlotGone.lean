/-
  SlotGone: the walk.
-/
import Derived.Test.YtfolmdcceefflaaSho
import Derived.Test.YtfolmdcceefflaaOpn
set_option linter.unusedVariables false
namespace Go.Proofs.Ytfolmdcceefflaa
open Go.RowKit

theorem row_keep {g : Nat} {o : Obj} {w w' : World} {S : Nat → Prop} (h : w.heap[g]? = some o) (k : Only S w w') (hn : ¬ S g) : w'.heap[g]? = some o :=
  (k.block g (Array.getElem?_eq_some_iff.1 h).1 hn).trans h

theorem flat_at {ks : List (List UInt8)} (hk : ∀ k ∈ ks, k.length = 16) {i : Nat} {k : List UInt8} (hi : ks[i]? = some k) (j : Nat) (hj : j < 16) : (flatK ks)[i * 16 + j]? = (kyL k)[j]? := by
  induction ks generalizing i with
  | nil => simp at hi
  | cons a l ih =>
    have ha : (kyL a).length = 16 := kyL_len (hk a (by simp))
    cases i with
    | zero =>
      simp at hi
      subst hi
      have : flatK (a :: l) = kyL a ++ flatK l := by simp [flatK]
      rw [this, Nat.zero_mul, Nat.zero_add, List.getElem?_append_left (by omega)]
    | succ i =>
      have : flatK (a :: l) = kyL a ++ flatK l := by simp [flatK]
      rw [this, List.getElem?_append_right (by omega), ha, show (i + 1) * 16 + j - 16 = i * 16 + j by omega]
      exact ih (fun k h => hk k (by simp [h])) (by simpa using hi)

/-- A key, loaded out of a row that is owned. -/
theorem own_load {w : World} {b g cap n : Nat} {ks : List (List UInt8)} (h : w.ownsRow b 23 16 (.slice (some ⟨g, 0, none⟩) n cap) n (flatK ks)) (hk : ∀ k ∈ ks, k.length = 16) {i : Nat} {k : List UInt8} (hi : ks[i]? = some k) :
    (loadVar 23 ⟨g, i * 16, none⟩).run Try.prog w = .ok (.agg (kyA k)) w := by
  have hkl : k.length = 16 := hk k (List.mem_of_getElem? hi)
  have hl := run_loadCells_list (P := Try.prog) w ⟨g, i * 16, none⟩ (kyL k) (fun j v hv => by
    have hj : j < 16 := by
      have := kyL_len hkl
      have := (List.getElem?_eq_some_iff.1 hv).1
      omega
    have hadd : (⟨g, i * 16, none⟩ : Addr).add j = ⟨g, i * 16 + j, none⟩ := by unfold Addr.add; split <;> simp_all
    have hadd2 : (⟨g, 0, none⟩ : Addr).add (i * 16 + j) = ⟨g, i * 16 + j, none⟩ := by unfold Addr.add; split <;> simp_all
    have := h.cells (g := g) rfl (i * 16 + j) v (by rw [flat_at hk hi j hj]; exact hv)
    rw [hadd, ← hadd2]
    exact this)
  rw [kyL_len hkl] at hl
  cases hq : Try.prog.info? 23 with
  | none => have := info23s; simp [hq] at this
  | some i =>
    have hs : i.size = 16 := by have := info23s; simpa [hq] using this
    simp [loadVar, Sem.run_bind, isAgg_run (P := Try.prog) (Try.underlying23.trans (show _ = some (TypeDesc.array 16 5) by kernel_rfl)) rfl, sizeOf, typeInfo, hq, hs, hl, kyA]

theorem hold_one {w : World} {b : Nat} {v : Value} {k : List UInt8} (h : w.ownsRow b 23 16 v [k].length (flatK [k])) (hk : k.length = 16) :
    ∃ g cap, v = .slice (some ⟨g, 0, none⟩) 1 cap ∧ (loadVar 23 ⟨g, 0, none⟩).run Try.prog w = .ok (.agg (kyA k)) w := by
  rcases h.2 with ⟨_, h0⟩ | ⟨g, cap, cur, hv, _⟩
  · simp at h0
  · refine ⟨g, cap, hv, ?_⟩
    subst hv
    exact own_load (i := 0) h (by simpa using hk) rfl
theorem hold_none {w : World} {b : Nat} {v : Value} (h : w.ownsRow b 23 16 v ([] : List (List UInt8)).length (flatK [])) : ∃ a cap, v = .slice a 0 cap := by
  rcases h.2 with ⟨hv, _⟩ | ⟨g, cap, cur, hv, _⟩
  · exact ⟨_, _, hv⟩
  · exact ⟨_, _, hv⟩

/-- Two keys, boxed: what is known of the world behind. -/
structure Keys2 (w : World) (a b : Nat) (k l : List UInt8) : Prop where
  k : w.heap[a]? = some (.cells (kyA k) 23 (0, 0))
  l : w.heap[b]? = some (.cells (kyA l) 23 (0, 0))
theorem Keys2.keep {w w' : World} {a b : Nat} {k l : List UInt8} {S : Nat → Prop} (h : Keys2 w a b k l) (o : Only S w w') (h1 : ¬ S a) (h2 : ¬ S b) : Keys2 w' a b k l := ⟨row_keep h.k o h1, row_keep h.l o h2⟩

theorem Only.next {S : Nat → Prop} {w a b : World} (h : Only (fun _ => False) w a) (o : Only S a b) (hs : ∀ k, S k → w.heap.size ≤ k) : Only (fun _ => False) w b := (h.any.trans o).fresh hs

/-- What a law knows of a world: its two keys' boxes, its slot and power, and that nothing older has turned. -/
structure Env (w : World) (gs gp a b : Nat) (k l : List UInt8) (s : St) (X : World) : Prop where
  is : Is gs gp s X
  keys : Keys2 X a b k l
  only : Only (fun _ => False) w X
structure Far (w : World) (gs gp a b : Nat) : Prop where
  low : ∀ k, Two gs gp k → w.heap.size ≤ k
  a : ¬ Two gs gp a
  b : ¬ Two gs gp b
theorem Env.step {w X Y : World} {gs gp a b : Nat} {k l : List UInt8} {s s' : St} (e : Env w gs gp a b k l s X) (f : Far w gs gp a b) (h : Is gs gp s' Y) (o : Only (Two gs gp) X Y) : Env w gs gp a b k l s' Y :=
  ⟨h, e.keys.keep o f.a f.b, e.only.next o f.low⟩
theorem Env.still {w X Y : World} {gs gp a b : Nat} {k l : List UInt8} {s : St} (e : Env w gs gp a b k l s X) (o : Only (fun _ => False) X Y) : Env w gs gp a b k l s Y :=
  ⟨e.is.keep o (fun h => h) (fun h => h), e.keys.keep o (fun h => h) (fun h => h), e.only.trans o⟩
theorem Only.below0 {w w' : World} (h : Only (fun _ => False) w w') : Below w.heap.size w w' := ⟨h.os, h.tape, h.output, h.size, fun k hk => h.block k hk (fun x => x)⟩

def B2 (w : World) (k l : List UInt8) : World := (w.alloc (.cells (kyA k) 23)).alloc (.cells (kyA l) 23)
theorem b2_env (w : World) (k l : List UInt8) : Env w (w.heap.size + 3) (w.heap.size + 2) w.heap.size (w.heap.size + 1) k l st0 (W0 (B2 w k l)) := by
  have hsz : (B2 w k l).heap.size = w.heap.size + 2 := by simp [B2]
  have h1 := w0_is (B2 w k l)
  rw [hsz] at h1
  have h2 : Keys2 (B2 w k l) w.heap.size (w.heap.size + 1) k l := ⟨heap_alloc2_old w _ _, heap_alloc2_new w _ _⟩
  exact ⟨h1, h2.keep (w0_only _) (fun h => h) (fun h => h), (((Only.refl _ w).alloc _).alloc _).trans (w0_only _)⟩
theorem b2_far (w : World) : Far w (w.heap.size + 3) (w.heap.size + 2) w.heap.size (w.heap.size + 1) := by
  refine ⟨?_, ?_, ?_⟩ <;> simp only [Two] <;> omega
theorem b2_power (w : World) (k l : List UInt8) : Calls Try.prog 9 #[] (B2 w k l) fun e w' => e = .returned (.pointer (some ⟨w.heap.size + 2, 0, none⟩)) ∧ (B2 w k l).alloc (.cells #[.bool false, .int .i64 0, .int .i64 0, .int .u8 0] 74) = w' := by
  have := newPower_any (B2 w k l)
  rw [show (B2 w k l).heap.size = w.heap.size + 2 by simp [B2]] at this
  exact this
theorem b2_new (w : World) (k l : List UInt8) : Calls Try.prog 8 #[.pointer (some ⟨w.heap.size + 2, 0, none⟩)] ((B2 w k l).alloc (.cells #[.bool false, .int .i64 0, .int .i64 0, .int .u8 0] 74)) fun e w' => e = .returned (.pointer (some ⟨w.heap.size + 3, 0, none⟩)) ∧ W0 (B2 w k l) = w' := by
  have := new_there (B2 w k l)
  rw [show (B2 w k l).heap.size = w.heap.size + 2 by simp [B2]] at this
  exact this

set_option maxHeartbeats 2000000 in
theorem gone_same (w : World) (k : List UInt8) (hk : k.length = 16) (i : Int) (n : Int) :
    Calls Try.prog 3 #[.agg (kyA k), .agg (kyA k), .int .u8 i, .int .u64 n] w fun e w' => e = .returned (.bool true) ∧ Below w.heap.size w w' := by
  have hpw := Lib.hid (b2_power w k k)
  have hnw := Lib.hid (b2_new w k k)
  have HE := Lib.hid (b2_env w k k)
  have hl := Lib.hid (fun (g : Nat) (W : World) (h : W.heap[g]? = some (Obj.cells (kyA k) 23 (0, 0))) => load_ky (k := k) h hk)
  have hke := Lib.hid (fun W => key_eq 9998 k k hk hk W)
  rw [beq_self_eq_true] at hke
  go_enter Try.func3, Try.ntmps3
  go_wp2_with fail
  refine hpw.out.mono ?_
  rintro e w1 ⟨rfl, rfl⟩
  go_wp2_with fail
  refine hnw.out.mono ?_
  rintro e w1 ⟨rfl, rfl⟩
  generalize W0 (B2 w k k) = X at *
  have L1 := Lib.hid (hl.out _ X HE.out.keys.k)
  have L2 := Lib.hid (hl.out _ X HE.out.keys.l)
  have E1 := Lib.hid (hke.out X)
  go_wp2_with (first | (refine wpList_load_w (by rfl) 23 _ rfl _ rfl _ L1.out ?_) | (refine wpList_load_w (by rfl) 23 _ rfl _ rfl _ L2.out ?_) | (refine wpList_eql_w (by rfl) 23 _ _ _ _ _ _ rfl rfl rfl (by kernel_rfl) E1.out ?_))
  refine (shown_any X).mono ?_
  rintro e w1 ⟨rfl, o1⟩
  have HE1 := Lib.hid (HE.out.still o1)
  have L1 := Lib.hid (hl.out _ w1 HE1.out.keys.k)
  have L2 := Lib.hid (hl.out _ w1 HE1.out.keys.l)
  have E1 := Lib.hid (hke.out w1)
  go_wp2_with (first | (refine wpList_load_w (by rfl) 23 _ rfl _ rfl _ L1.out ?_) | (refine wpList_load_w (by rfl) 23 _ rfl _ rfl _ L2.out ?_) | (refine wpList_eql_w (by rfl) 23 _ _ _ _ _ _ rfl rfl rfl (by kernel_rfl) E1.out ?_))
  go_ret
  exact ⟨rfl, HE1.out.only.below0⟩

theorem own_kept {w w' : World} {b n : Nat} {v : Value} {xs : List Value} (h : w.ownsRow b 23 16 v n xs) (o : Only (fun _ => False) w w') : w'.ownsRow b 23 16 v n xs :=
  h.kept (row := none) ⟨o.os, o.tape, o.output, o.size, fun k hk _ => o.block k hk (fun h => h)⟩ own_none
theorem hone_keep {w w' : World} {b g cap : Nat} {l : List UInt8} (hl : l.length = 16) (h : w.ownsRow b 23 16 (.slice (some ⟨g, 0, none⟩) 1 cap) [l].length (flatK [l])) (o : Only (fun _ => False) w w') (n : Nat) :
    (loadVar 23 ⟨g, 0, none⟩).run Try.prog (w'.drewN n) = .ok (.agg (kyA l)) (w'.drewN n) :=
  own_load (w := w'.drewN n) (i := 0) (own_kept h (o.drewN n)) (by simpa using hl) rfl

set_option maxHeartbeats 4000000 in
theorem gone_c (w : World) (k l : List UInt8) (hk : k.length = 16) (hl' : l.length = 16) (hkl : k ≠ l) (i : Int) (hw : (Lit.int .u8 i).wf = true) (hi : i.tmod 2 = 0) (n : Int) :
    Calls Try.prog 3 #[.agg (kyA k), .agg (kyA l), .int .u8 i, .int .u64 n] w fun e w' => e = .returned (.bool true) ∧ Below w.heap.size w w' := by
  have hpw := Lib.hid (b2_power w k l)
  have hnw := Lib.hid (b2_new w k l)
  have HE := Lib.hid (b2_env w k l)
  have HF := Lib.hid (b2_far w)
  have hne : w.heap.size + 3 ≠ w.heap.size + 2 := by omega
  have hlk := Lib.hid (fun (g : Nat) (W : World) (h : W.heap[g]? = some (Obj.cells (kyA k) 23 (0, 0))) => load_ky (k := k) h hk)
  have hll := Lib.hid (fun (g : Nat) (W : World) (h : W.heap[g]? = some (Obj.cells (kyA l) 23 (0, 0))) => load_ky (k := l) h hl')
  have hke := Lib.hid (fun W => key_eq 9998 k l hk hl' W)
  have hkb : (k == l) = false := by simpa using hkl
  rw [hkb] at hke
  have hke2 := Lib.hid (fun W => key_eq 9998 l l hl' hl' W)
  rw [beq_self_eq_true] at hke2
  have hs1 : Hid (∀ W, Is (w.heap.size + 3) (w.heap.size + 2) st0 W → Calls Try.prog 11 #[.pointer (some ⟨w.heap.size + 3, 0, none⟩), .int .i64 0, .agg (kyA k), .int .u64 n] W fun e w' => e = .returned (.int .i64 0) ∧ Is (w.heap.size + 3) (w.heap.size + 2) ⟨p0, ⟨true, k, n⟩, Ce.zero⟩ w' ∧ Only (Two (w.heap.size + 3) (w.heap.size + 2)) W w') :=
    fun W h => write_any _ _ st0 0 n k W h st0_ok hne hk
  have ok1 : St.Ok ⟨p0, ⟨true, k, n⟩, Ce.zero⟩ := ⟨p0_ok, made_ok k hk n, ce_zero_ok⟩
  have hs2 : Hid (∀ m W, Is (w.heap.size + 3) (w.heap.size + 2) ⟨p0, ⟨true, k, n⟩, Ce.zero⟩ W → Calls Try.prog 11 #[.pointer (some ⟨w.heap.size + 3, 0, none⟩), .int .i64 1, .agg (kyA l), .int .u64 m] W fun e w' => e = .returned (.int .i64 0) ∧ Is (w.heap.size + 3) (w.heap.size + 2) ⟨p0, ⟨true, k, n⟩, ⟨true, l, m⟩⟩ w' ∧ Only (Two (w.heap.size + 3) (w.heap.size + 2)) W w') :=
    fun m W h => write_any _ _ ⟨p0, ⟨true, k, n⟩, Ce.zero⟩ 1 m l W h ok1 hne hl'
  have ok2 : ∀ m, St.Ok ⟨p0, ⟨true, k, n⟩, ⟨true, l, m⟩⟩ := fun m => ⟨p0_ok, made_ok k hk n, made_ok l hl' m⟩
  have hs3 : Hid (∀ m W, Is (w.heap.size + 3) (w.heap.size + 2) ⟨p0, ⟨true, k, n⟩, ⟨true, l, m⟩⟩ W → Calls Try.prog 11 #[.pointer (some ⟨w.heap.size + 3, 0, none⟩), .int .i64 0, .agg (kyA l), .int .u64 9] W fun e w' => e = .returned (.int .i64 100) ∧ Is (w.heap.size + 3) (w.heap.size + 2) ⟨p0, ⟨true, k, n⟩, ⟨true, l, m⟩⟩ w' ∧ Only (Two (w.heap.size + 3) (w.heap.size + 2)) W w') :=
    fun m W h => write_any _ _ ⟨p0, ⟨true, k, n⟩, ⟨true, l, m⟩⟩ 0 9 l W h (ok2 m) hne hl'
  have hs4 : Hid (∀ m W, Is (w.heap.size + 3) (w.heap.size + 2) ⟨p0, ⟨true, k, n⟩, ⟨true, l, m⟩⟩ W → Calls Try.prog 12 #[.pointer (some ⟨w.heap.size + 3, 0, none⟩), .int .i64 0] W fun e w' => e = .returned (.int .i64 0) ∧ Is (w.heap.size + 3) (w.heap.size + 2) ⟨p0, Ce.zero, ⟨true, l, m⟩⟩ w' ∧ Only (Two (w.heap.size + 3) (w.heap.size + 2)) W w') :=
    fun m W h => erase_any _ _ ⟨p0, ⟨true, k, n⟩, ⟨true, l, m⟩⟩ 0 W h (ok2 m) hne
  have ok3 : ∀ m, St.Ok ⟨p0, Ce.zero, ⟨true, l, m⟩⟩ := fun m => ⟨p0_ok, ce_zero_ok, made_ok l hl' m⟩
  have hs5 : Hid (∀ m W, Is (w.heap.size + 3) (w.heap.size + 2) ⟨p0, Ce.zero, ⟨true, l, m⟩⟩ W → Calls Try.prog 13 #[.pointer (some ⟨w.heap.size + 3, 0, none⟩)] W fun x w' => ∃ v, x = .returned v ∧ w'.ownsRow W.heap.size 23 16 v [l].length (flatK [l]) ∧ Only (fun _ => False) W w') :=
    fun m W h => holds_any _ _ ⟨p0, Ce.zero, ⟨true, l, m⟩⟩ W h (ok3 m)
  have hs6 : Hid (∀ m W, Is (w.heap.size + 3) (w.heap.size + 2) ⟨p0, Ce.zero, ⟨true, l, m⟩⟩ W → Calls Try.prog 14 #[.pointer (some ⟨w.heap.size + 3, 0, none⟩), .int .i64 0] W fun x w' => x = .returned (.tuple #[.agg (kyA ky0), .int .u64 0, .int .i64 110]) ∧ Only (fun _ => False) W w') :=
    fun m W h => read_any _ _ ⟨p0, Ce.zero, ⟨true, l, m⟩⟩ 0 W h (ok3 m)
  have hone := Lib.hid (fun W b v (h : World.ownsRow W b 23 16 v [l].length (flatK [l])) => hold_one h hl')
  have hkc := Lib.hid (fun W => key_cell W (k := ky0) rfl)
  rw [kyA_zero] at hs6 hkc
  have hwb : 0 ≤ i ∧ i ≤ 255 := by
    simp [Lit.wf, IntKind.min, IntKind.max, IntKind.signed, IntKind.bits] at hw
    omega
  have h0 := hwb.1
  have h255 := hwb.2
  clear hwb hw hkb hkl ok1 ok2 ok3 hne
  go_enter Try.func3, Try.ntmps3
  go_wp2_with fail
  refine hpw.out.mono ?_
  rintro e w1 ⟨rfl, rfl⟩
  go_wp2_with fail
  refine hnw.out.mono ?_
  rintro e w1 ⟨rfl, rfl⟩
  generalize W0 (B2 w k l) = X at *
  have L1 := Lib.hid (hlk.out _ X HE.out.keys.k)
  have L2 := Lib.hid (hll.out _ X HE.out.keys.l)
  have E1 := Lib.hid (hke.out X)
  go_wp2_with (first | (refine wpList_load_w (by rfl) 23 _ rfl _ rfl _ L1.out ?_) | (refine wpList_load_w (by rfl) 23 _ rfl _ rfl _ L2.out ?_) | (refine wpList_eql_w (by rfl) 23 _ _ _ _ _ _ rfl rfl rfl (by kernel_rfl) E1.out ?_))
  refine (shown_any X).mono ?_
  rintro e x1 ⟨rfl, o1⟩
  have HE1 := Lib.hid (HE.out.still o1)
  clear o1
  have L3 := Lib.hid (hlk.out _ x1 HE1.out.keys.k)
  go_wp2_with (refine wpList_load_w (by rfl) 23 _ rfl _ rfl _ L3.out ?_)
  refine (hs1.out x1 HE1.out.is).mono ?_
  rintro e x2 ⟨rfl, i2, o2⟩
  have HE2 := Lib.hid (HE1.out.step HF.out i2 o2)
  clear i2 o2
  have L4 := Lib.hid (hll.out _ x2 HE2.out.keys.l)
  go_wp2_with (refine wpList_load_w (by rfl) 23 _ rfl _ rfl _ L4.out ?_)
  refine (hs2.out _ x2 HE2.out.is).mono ?_
  rintro e x3 ⟨rfl, i3, o3⟩
  have HE3 := Lib.hid (HE2.out.step HF.out i3 o3)
  clear i3 o3
  have L5 := Lib.hid (hll.out _ x3 HE3.out.keys.l)
  go_wp2_with (refine wpList_load_w (by rfl) 23 _ rfl _ rfl _ L5.out ?_)
  refine (hs3.out _ x3 HE3.out.is).mono ?_
  rintro e x4 ⟨rfl, i4, o4⟩
  have HE4 := Lib.hid (HE3.out.step HF.out i4 o4)
  clear i4 o4
  go_wp2_with fail
  refine (hs4.out _ x4 HE4.out.is).mono ?_
  rintro e x5 ⟨rfl, i5, o5⟩
  have HE5 := Lib.hid (HE4.out.step HF.out i5 o5)
  clear i5 o5
  go_wp2_with fail
  refine (hs5.out _ x5 HE5.out.is).mono ?_
  rintro e x6 ⟨v, rfl, hown, o6⟩
  obtain ⟨g, cap, rfl, hlv⟩ := hone.out _ _ _ hown
  have HE6 := Lib.hid (HE5.out.still o6)
  go_wp2_with fail
  refine (hs6.out _ x6 HE6.out.is).mono ?_
  rintro e x7 ⟨rfl, o7⟩
  obtain ⟨x8, hst, hg8, o8⟩ := hkc.out x7
  have HST := Lib.hid hst
  have HE8 := Lib.hid (HE6.out.still (o7.trans o8))
  have HL8 := Lib.hid (hone_keep hl' hown (o7.trans o8))
  clear hst hg8 o7 o8 hown hlv o6
  go_wp2_with (refine wpList_store_at rfl 23 _ _ rfl _ rfl _ rfl HST.out ?_)
  have Q1 : Hid (∀ W, (∃ n, W = x8.drewN n) → (loadVar 23 ⟨g, 0, none⟩).run Try.prog W = .ok (.agg (kyA l)) W) := by
    rintro _ ⟨n, rfl⟩
    exact HL8.out n
  have Q2 : Hid (∀ W, (∃ n, W = x8.drewN n) → (loadVar 23 ⟨w.heap.size + 1, 0, none⟩).run Try.prog W = .ok (.agg (kyA l)) W) := by
    rintro _ ⟨n, rfl⟩
    exact hll.out _ (x8.drewN n) HE8.out.keys.l
  have Q3 := Lib.hid (fun W (_ : ∃ n, W = x8.drewN n) => hke2.out W)
  refine wp_region_quiet_lit (by kernel_rfl) (by kernel_rfl) ?_
  repeat (first | (refine quiet_load_w (by rfl) 23 _ rfl _ rfl _ Q1.out ?_) | (refine quiet_load_w (by rfl) 23 _ rfl _ rfl _ Q2.out ?_) | (refine quiet_eql_w (by rfl) 23 _ _ _ _ _ _ rfl rfl rfl (by kernel_rfl) Q3.out ?_) | quiet_step (fail))
  refine wpQuiet_nil ?_
  rintro _ ⟨nq, rfl⟩
  go_wp2_with fail
  go_ret
  exact ⟨rfl, (HE8.out.only.drewN nq).below0⟩

set_option maxHeartbeats 4000000 in
theorem gone_d (w : World) (k l : List UInt8) (hk : k.length = 16) (hl' : l.length = 16) (hkl : k ≠ l) (i : Int) (hw : (Lit.int .u8 i).wf = true) (hi : i.tmod 2 = 1) (n : Int) :
    Calls Try.prog 3 #[.agg (kyA k), .agg (kyA l), .int .u8 i, .int .u64 n] w fun e w' => e = .returned (.bool true) ∧ Below w.heap.size w w' := by
  have hpw := Lib.hid (b2_power w k l)
  have hnw := Lib.hid (b2_new w k l)
  have HE := Lib.hid (b2_env w k l)
  have HF := Lib.hid (b2_far w)
  have hne : w.heap.size + 3 ≠ w.heap.size + 2 := by omega
  have hlk := Lib.hid (fun (g : Nat) (W : World) (h : W.heap[g]? = some (Obj.cells (kyA k) 23 (0, 0))) => load_ky (k := k) h hk)
  have hll := Lib.hid (fun (g : Nat) (W : World) (h : W.heap[g]? = some (Obj.cells (kyA l) 23 (0, 0))) => load_ky (k := l) h hl')
  have hke := Lib.hid (fun W => key_eq 9998 k l hk hl' W)
  have hkb : (k == l) = false := by simpa using hkl
  rw [hkb] at hke
  have hke2 := Lib.hid (fun W => key_eq 9998 l l hl' hl' W)
  rw [beq_self_eq_true] at hke2
  have hs1 : Hid (∀ W, Is (w.heap.size + 3) (w.heap.size + 2) st0 W → Calls Try.prog 11 #[.pointer (some ⟨w.heap.size + 3, 0, none⟩), .int .i64 1, .agg (kyA k), .int .u64 n] W fun e w' => e = .returned (.int .i64 0) ∧ Is (w.heap.size + 3) (w.heap.size + 2) ⟨p0, Ce.zero, ⟨true, k, n⟩⟩ w' ∧ Only (Two (w.heap.size + 3) (w.heap.size + 2)) W w') :=
    fun W h => write_any _ _ st0 1 n k W h st0_ok hne hk
  have ok1 : St.Ok ⟨p0, Ce.zero, ⟨true, k, n⟩⟩ := ⟨p0_ok, ce_zero_ok, made_ok k hk n⟩
  have hs2 : Hid (∀ m W, Is (w.heap.size + 3) (w.heap.size + 2) ⟨p0, Ce.zero, ⟨true, k, n⟩⟩ W → Calls Try.prog 11 #[.pointer (some ⟨w.heap.size + 3, 0, none⟩), .int .i64 0, .agg (kyA l), .int .u64 m] W fun e w' => e = .returned (.int .i64 0) ∧ Is (w.heap.size + 3) (w.heap.size + 2) ⟨p0, ⟨true, l, m⟩, ⟨true, k, n⟩⟩ w' ∧ Only (Two (w.heap.size + 3) (w.heap.size + 2)) W w') :=
    fun m W h => write_any _ _ ⟨p0, Ce.zero, ⟨true, k, n⟩⟩ 0 m l W h ok1 hne hl'
  have ok2 : ∀ m, St.Ok ⟨p0, ⟨true, l, m⟩, ⟨true, k, n⟩⟩ := fun m => ⟨p0_ok, made_ok l hl' m, made_ok k hk n⟩
  have hs3 : Hid (∀ m W, Is (w.heap.size + 3) (w.heap.size + 2) ⟨p0, ⟨true, l, m⟩, ⟨true, k, n⟩⟩ W → Calls Try.prog 11 #[.pointer (some ⟨w.heap.size + 3, 0, none⟩), .int .i64 1, .agg (kyA l), .int .u64 9] W fun e w' => e = .returned (.int .i64 100) ∧ Is (w.heap.size + 3) (w.heap.size + 2) ⟨p0, ⟨true, l, m⟩, ⟨true, k, n⟩⟩ w' ∧ Only (Two (w.heap.size + 3) (w.heap.size + 2)) W w') :=
    fun m W h => write_any _ _ ⟨p0, ⟨true, l, m⟩, ⟨true, k, n⟩⟩ 1 9 l W h (ok2 m) hne hl'
  have hs4 : Hid (∀ m W, Is (w.heap.size + 3) (w.heap.size + 2) ⟨p0, ⟨true, l, m⟩, ⟨true, k, n⟩⟩ W → Calls Try.prog 12 #[.pointer (some ⟨w.heap.size + 3, 0, none⟩), .int .i64 1] W fun e w' => e = .returned (.int .i64 0) ∧ Is (w.heap.size + 3) (w.heap.size + 2) ⟨p0, ⟨true, l, m⟩, Ce.zero⟩ w' ∧ Only (Two (w.heap.size + 3) (w.heap.size + 2)) W w') :=
    fun m W h => erase_any _ _ ⟨p0, ⟨true, l, m⟩, ⟨true, k, n⟩⟩ 1 W h (ok2 m) hne
  have ok3 : ∀ m, St.Ok ⟨p0, ⟨true, l, m⟩, Ce.zero⟩ := fun m => ⟨p0_ok, made_ok l hl' m, ce_zero_ok⟩
  have hs5 : Hid (∀ m W, Is (w.heap.size + 3) (w.heap.size + 2) ⟨p0, ⟨true, l, m⟩, Ce.zero⟩ W → Calls Try.prog 13 #[.pointer (some ⟨w.heap.size + 3, 0, none⟩)] W fun x w' => ∃ v, x = .returned v ∧ w'.ownsRow W.heap.size 23 16 v [l].length (flatK [l]) ∧ Only (fun _ => False) W w') :=
    fun m W h => holds_any _ _ ⟨p0, ⟨true, l, m⟩, Ce.zero⟩ W h (ok3 m)
  have hs6 : Hid (∀ m W, Is (w.heap.size + 3) (w.heap.size + 2) ⟨p0, ⟨true, l, m⟩, Ce.zero⟩ W → Calls Try.prog 14 #[.pointer (some ⟨w.heap.size + 3, 0, none⟩), .int .i64 1] W fun x w' => x = .returned (.tuple #[.agg (kyA ky0), .int .u64 0, .int .i64 110]) ∧ Only (fun _ => False) W w') :=
    fun m W h => read_any _ _ ⟨p0, ⟨true, l, m⟩, Ce.zero⟩ 1 W h (ok3 m)
  have hone := Lib.hid (fun W b v (h : World.ownsRow W b 23 16 v [l].length (flatK [l])) => hold_one h hl')
  have hkc := Lib.hid (fun W => key_cell W (k := ky0) rfl)
  rw [kyA_zero] at hs6 hkc
  have hwb : 0 ≤ i ∧ i ≤ 255 := by
    simp [Lit.wf, IntKind.min, IntKind.max, IntKind.signed, IntKind.bits] at hw
    omega
  have h0 := hwb.1
  have h255 := hwb.2
  clear hwb hw hkb hkl ok1 ok2 ok3 hne
  go_enter Try.func3, Try.ntmps3
  go_wp2_with fail
  refine hpw.out.mono ?_
  rintro e w1 ⟨rfl, rfl⟩
  go_wp2_with fail
  refine hnw.out.mono ?_
  rintro e w1 ⟨rfl, rfl⟩
  generalize W0 (B2 w k l) = X at *
  have L1 := Lib.hid (hlk.out _ X HE.out.keys.k)
  have L2 := Lib.hid (hll.out _ X HE.out.keys.l)
  have E1 := Lib.hid (hke.out X)
  go_wp2_with (first | (refine wpList_load_w (by rfl) 23 _ rfl _ rfl _ L1.out ?_) | (refine wpList_load_w (by rfl) 23 _ rfl _ rfl _ L2.out ?_) | (refine wpList_eql_w (by rfl) 23 _ _ _ _ _ _ rfl rfl rfl (by kernel_rfl) E1.out ?_))
  refine (shown_any X).mono ?_
  rintro e x1 ⟨rfl, o1⟩
  have HE1 := Lib.hid (HE.out.still o1)
  clear o1
  have L3 := Lib.hid (hlk.out _ x1 HE1.out.keys.k)
  go_wp2_with (refine wpList_load_w (by rfl) 23 _ rfl _ rfl _ L3.out ?_)
  refine (hs1.out x1 HE1.out.is).mono ?_
  rintro e x2 ⟨rfl, i2, o2⟩
  have HE2 := Lib.hid (HE1.out.step HF.out i2 o2)
  clear i2 o2
  have L4 := Lib.hid (hll.out _ x2 HE2.out.keys.l)
  go_wp2_with (refine wpList_load_w (by rfl) 23 _ rfl _ rfl _ L4.out ?_)
  refine (hs2.out _ x2 HE2.out.is).mono ?_
  rintro e x3 ⟨rfl, i3, o3⟩
  have HE3 := Lib.hid (HE2.out.step HF.out i3 o3)
  clear i3 o3
  have L5 := Lib.hid (hll.out _ x3 HE3.out.keys.l)
  go_wp2_with (refine wpList_load_w (by rfl) 23 _ rfl _ rfl _ L5.out ?_)
  refine (hs3.out _ x3 HE3.out.is).mono ?_
  rintro e x4 ⟨rfl, i4, o4⟩
  have HE4 := Lib.hid (HE3.out.step HF.out i4 o4)
  clear i4 o4
  go_wp2_with fail
  refine (hs4.out _ x4 HE4.out.is).mono ?_
  rintro e x5 ⟨rfl, i5, o5⟩
  have HE5 := Lib.hid (HE4.out.step HF.out i5 o5)
  clear i5 o5
  go_wp2_with fail
  refine (hs5.out _ x5 HE5.out.is).mono ?_
  rintro e x6 ⟨v, rfl, hown, o6⟩
  obtain ⟨g, cap, rfl, hlv⟩ := hone.out _ _ _ hown
  have HE6 := Lib.hid (HE5.out.still o6)
  go_wp2_with fail
  refine (hs6.out _ x6 HE6.out.is).mono ?_
  rintro e x7 ⟨rfl, o7⟩
  obtain ⟨x8, hst, hg8, o8⟩ := hkc.out x7
  have HST := Lib.hid hst
  have HE8 := Lib.hid (HE6.out.still (o7.trans o8))
  have HL8 := Lib.hid (hone_keep hl' hown (o7.trans o8))
  clear hst hg8 o7 o8 hown hlv o6
  go_wp2_with (refine wpList_store_at rfl 23 _ _ rfl _ rfl _ rfl HST.out ?_)
  have Q1 : Hid (∀ W, (∃ n, W = x8.drewN n) → (loadVar 23 ⟨g, 0, none⟩).run Try.prog W = .ok (.agg (kyA l)) W) := by
    rintro _ ⟨n, rfl⟩
    exact HL8.out n
  have Q2 : Hid (∀ W, (∃ n, W = x8.drewN n) → (loadVar 23 ⟨w.heap.size + 1, 0, none⟩).run Try.prog W = .ok (.agg (kyA l)) W) := by
    rintro _ ⟨n, rfl⟩
    exact hll.out _ (x8.drewN n) HE8.out.keys.l
  have Q3 := Lib.hid (fun W (_ : ∃ n, W = x8.drewN n) => hke2.out W)
  refine wp_region_quiet_lit (by kernel_rfl) (by kernel_rfl) ?_
  repeat (first | (refine quiet_load_w (by rfl) 23 _ rfl _ rfl _ Q1.out ?_) | (refine quiet_load_w (by rfl) 23 _ rfl _ rfl _ Q2.out ?_) | (refine quiet_eql_w (by rfl) 23 _ _ _ _ _ _ rfl rfl rfl (by kernel_rfl) Q3.out ?_) | quiet_step (fail))
  refine wpQuiet_nil ?_
  rintro _ ⟨nq, rfl⟩
  go_wp2_with fail
  go_ret
  exact ⟨rfl, (HE8.out.only.drewN nq).below0⟩

theorem slotGone_walk (w : World) (k : List UInt8) (hk : k.length = 16) (l : List UInt8) (hl : l.length = 16) (i : Int) (hi : (Lit.int .u8 i).wf = true) (n : Int) (hn : (Lit.int .u64 n).wf = true) :
    Calls Try.prog 3 #[.agg (kyA k), .agg (kyA l), .int .u8 i, .int .u64 n] w fun e w' => e = .returned (.bool true) ∧ Below w.heap.size w w' := by
  by_cases hkl : k = l
  · subst hkl
    exact gone_same w k hk i n
  · have hwb : 0 ≤ i ∧ i ≤ 255 := by
      simp [Lit.wf, IntKind.min, IntKind.max, IntKind.signed, IntKind.bits] at hi
      omega
    rcases (by rw [Int.tmod_eq_emod_of_nonneg hwb.1]; omega : i.tmod 2 = 0 ∨ i.tmod 2 = 1) with h | h
    · exact gone_c w k l hk hl hkl i hi h n
    · exact gone_d w k l hk hl hkl i hi h n
end Go.Proofs.Ytfolmdcceefflaa
