/-
  The slot: its block of 37 cells, and walks of check, blank, set.
-/
import Derived.Test.YtfolmdcceefflaaPow
import Derived.Test.YtfolmdcceefflaaBlk
import Derived.Stop.BytesEq
import Derived.Laws.StructEq
import Derived.Deep.WholeRow
set_option linter.unusedVariables false
namespace Go.Proofs.Ytfolmdcceefflaa
open Go.RowKit

/-- The cells of a key, of a slot's cell (none: blank), of a slot. -/
def kyL (l : List UInt8) : List Value := l.map fun b => Value.int .u8 b.toNat
def ky0 : List UInt8 := [0,0,0,0,0,0,0,0,0,0,0,0,0,0,0,0]
structure Ce where
  is : Bool
  key : List UInt8
  epoch : Int
def Ce.zero : Ce := ⟨false, ky0, 0⟩
def ceL (c : Ce) : List Value := .bool c.is :: (kyL c.key ++ [.int .u64 c.epoch])
structure Ce.Ok (c : Ce) : Prop where
  len : c.key.length = 16
  no : c.is = false → c = Ce.zero
def kyA (l : List UInt8) : Array Value := (kyL l).toArray
def ceA (c : Ce) : Array Value := (ceL c).toArray
def slA (gp : Nat) (c d : Ce) : Array Value := (.pointer (some ⟨gp, 0, none⟩) :: (ceL c ++ ceL d)).toArray
def IsSl (gs gp : Nat) (c d : Ce) (w : World) : Prop := w.heap[gs]? = some (.cells (slA gp c d) 67 (0, 0))

theorem kyL_len {l : List UInt8} (h : l.length = 16) : (kyL l).length = 16 := by simp [kyL, h]
theorem ceL_len {c : Ce} (h : c.Ok) : (ceL c).length = 18 := by simp [ceL, kyL_len h.len]
theorem ce_zero_ok : Ce.zero.Ok := ⟨rfl, fun _ => rfl⟩
theorem kyA_size {l : List UInt8} (h : l.length = 16) : (kyA l).size = 16 := by simp [kyA, kyL_len h]
theorem ceA_size {c : Ce} (h : c.Ok) : (ceA c).size = 18 := by simp [ceA, ceL_len h]
theorem slA_size {gp : Nat} {c d : Ce} (h : c.Ok) (k : d.Ok) : (slA gp c d).size = 37 := by simp [slA, ceL_len h, ceL_len k]
theorem kyL_one (l : List UInt8) : ∀ v ∈ kyL l, v.oneCell' = true := by
  intro v hv
  simp only [kyL, List.mem_map] at hv
  obtain ⟨b, _, rfl⟩ := hv
  rfl
theorem ceL_one (c : Ce) : ∀ v ∈ ceL c, v.oneCell' = true := by
  intro v hv
  simp only [ceL, List.mem_cons, List.mem_append, List.not_mem_nil, or_false] at hv
  rcases hv with rfl | h | rfl
  · rfl
  · exact kyL_one _ _ h
  · rfl

theorem ext_toArray (l : List Value) (i j : Nat) : (l.toArray).extract i j = ((l.drop i).take (j - i)).toArray := by
  simp [List.extract]

theorem sl_c {gp : Nat} {c d : Ce} (h : c.Ok) : (slA gp c d).extract 1 (1 + 18) = ceA c := by
  rw [slA, ext_toArray, ceA]
  congr 1
  have := ceL_len h
  rw [List.drop_succ_cons, List.drop_zero, List.take_append_of_le_length (by omega), List.take_of_length_le (by omega)]
theorem sl_d {gp : Nat} {c d : Ce} (h : c.Ok) (k : d.Ok) : (slA gp c d).extract 19 (19 + 18) = ceA d := by
  rw [slA, ext_toArray, ceA]
  congr 1
  have e1 := ceL_len h
  have e2 := ceL_len k
  rw [List.drop_succ_cons, List.drop_append_of_le_length (by omega), List.drop_of_length_le (by omega), List.nil_append, List.take_of_length_le (by omega)]
theorem splice_c {gp : Nat} {c d e : Ce} (h : c.Ok) (k : e.Ok) : splice (slA gp c d) 1 (ceA e) = slA gp e d := by
  have e1 := ceL_len h
  have e2 := ceL_len k
  simp only [splice, slA, ceA, List.size_toArray, e2]
  congr 1
  simp [e1]
theorem splice_d {gp : Nat} {c d e : Ce} (h : c.Ok) (k : d.Ok) (n : e.Ok) : splice (slA gp c d) 19 (ceA e) = slA gp c e := by
  have e1 := ceL_len h
  have e2 := ceL_len k
  have e3 := ceL_len n
  simp only [splice, slA, ceA, List.size_toArray, e3]
  congr 1
  simp [e1, e2, List.drop_of_length_le]

theorem size5 (w : World) : (sizeOf 5).run Try.prog w = .ok 1 w := by
  simp [sizeOf, typeInfo]
  rfl
theorem info23s : (Try.prog.info? 23).map (·.size) = some 16 := by kernel_rfl
theorem info64s : (Try.prog.info? 64).map (·.size) = some 18 := by kernel_rfl
theorem info65s : (Try.prog.info? 65).map (·.size) = some 36 := by kernel_rfl
theorem info67s : (Try.prog.info? 67).map (·.size) = some 37 := by kernel_rfl

/-- Two keys compared. -/
theorem key_eq (d : Nat) (k l : List UInt8) (h : k.length = 16) (h' : l.length = 16) (w : World) : (Op.equalIn (d + 2) 23 (.agg (kyA k)) (.agg (kyA l))).run Try.prog w = .ok (k == l) w :=
  run_equalIn_bytes (P := Try.prog) w d 23 5 16 (Try.underlying23.trans (by kernel_rfl)) Try.underlying5 size5 k l h h'

section
variable {P : Program} {d : Nat} {xs ys : Array Value} {f : Field} {fs : List Field} {a b : Value} {r s : Bool} {w : World}
theorem eqf_nil : (Op.eqFields d xs ys []).run P w = .ok true w := by simp [Op.eqFields]
theorem eqf_cons (hn : (f.name == "_") = false) (ha : (part f.type xs f.offset).run P w = .ok a w) (hb : (part f.type ys f.offset).run P w = .ok b w) (he : (Op.equalIn d f.type a b).run P w = .ok r w) (hr : (Op.eqFields d xs ys fs).run P w = .ok s w) : (Op.eqFields d xs ys (f :: fs)).run P w = .ok (r && s) w := by
  have hn' : f.name ≠ "_" := by simpa using hn
  rw [Op.eqFields]
  simp only [if_pos hn', Sem.run_bind, ha, hb, he, Result.andThen_ok]
  cases r
  · simp
  · simpa using hr
theorem eqA_of {t : TypeId} {fs : Array Field} (hu : P.underlying t = some (.struct fs)) (hp : P.stoodInHeld t = false) (h : (Op.eqFields d xs ys fs.toList).run P w = .ok r w) : (Op.equalIn (d + 1) t (.agg xs) (.agg ys)).run P w = .ok r w := by
  have hf : P.fieldsOf t = fs := by simp [Program.fieldsOf, hu]
  rw [run_equalIn_struct (P := P) w d t xs ys (by rw [hf]; exact hu) hp, hf]
  exact h
end

theorem part_plain (ty : TypeId) (d : TypeDesc) (xs : Array Value) (o : Nat) (v : Value) (hu : Try.prog.underlying ty = some d) (hd : (match d with | .struct _ | .array _ _ => false | _ => true) = true) (hv : xs[o]? = some v) (w : World) :
    (part ty xs o).run Try.prog w = .ok v w := by
  unfold part isAgg
  rw [Sem.run_bind, Sem.run_bind, run_underlying hu w]
  cases d <;> simp_all
theorem part_agg (ty : TypeId) (d : TypeDesc) (xs : Array Value) (o n : Nat) (hu : Try.prog.underlying ty = some d) (hd : (match d with | .struct _ | .array _ _ => true | _ => false) = true) (hi : (Try.prog.info? ty).map (·.size) = some n) (w : World) :
    (part ty xs o).run Try.prog w = .ok (.agg (xs.extract o (o + n))) w := by
  unfold part isAgg
  rw [Sem.run_bind, Sem.run_bind, run_underlying hu w]
  cases hq : Try.prog.info? ty with
  | none => simp [hq] at hi
  | some i =>
    have hs : i.size = n := by simpa [hq] using hi
    cases d <;> simp_all [sizeOf, typeInfo]

theorem ce_is (c : Ce) : (ceA c)[0]? = some (.bool c.is) := by simp [ceA, ceL]
theorem ce_key {c : Ce} (h : c.Ok) : (ceA c).extract 1 (1 + 16) = kyA c.key := by
  have := kyL_len h.len
  rw [ceA, ext_toArray, ceL, kyA]
  congr 1
  rw [List.drop_succ_cons, List.drop_zero, List.take_append_of_le_length (by omega), List.take_of_length_le (by omega)]
theorem ce_epoch {c : Ce} (h : c.Ok) : (ceA c)[17]? = some (.int .u64 c.epoch) := by
  have := kyL_len h.len
  simp [ceA, ceL, this]

/-- A cell against the blank one. -/
theorem ce_eq {c : Ce} (h : c.Ok) (w : World) : (Op.equalIn 10000 64 (.agg (ceA c)) (.agg (ceA Ce.zero))).run Try.prog w = .ok (!c.is) w := by
  have hk := key_eq 9997 c.key Ce.zero.key h.len rfl w
  have hh := eqA_of (P := Try.prog) (d := 9999) (xs := ceA c) (ys := ceA Ce.zero) (w := w) Try.underlying64 (by kernel_rfl)
    (eqf_cons (by rfl) (part_plain _ _ _ 0 _ Try.underlying4 rfl (ce_is c) w) (part_plain _ _ _ 0 _ Try.underlying4 rfl (ce_is Ce.zero) w) (run_equalIn_bool' w 9998 4 _ _ Try.underlying4)
      (eqf_cons (by rfl) (part_agg _ _ _ 1 16 Try.underlying23 rfl info23s w) (part_agg _ _ _ 1 16 Try.underlying23 rfl info23s w) (by rw [ce_key h, ce_key ce_zero_ok]; exact hk)
        (eqf_cons (by rfl) (part_plain _ _ _ 17 _ Try.underlying24 rfl (ce_epoch h) w) (part_plain _ _ _ 17 _ Try.underlying24 rfl (ce_epoch ce_zero_ok) w) (run_equalIn_int w 9998 24 .u64 .u64 _ _ Try.underlying24) eqf_nil)))
  rw [hh]
  cases hi : c.is with
  | true => simp [Ce.zero]
  | false =>
    have := h.no hi
    subst this
    simp [hi]

/-- The blank cell, written out. -/
theorem ce_zero_is : ceA Ce.zero = #[.bool false, .int .u8 0, .int .u8 0, .int .u8 0, .int .u8 0, .int .u8 0, .int .u8 0, .int .u8 0, .int .u8 0, .int .u8 0, .int .u8 0, .int .u8 0, .int .u8 0, .int .u8 0, .int .u8 0, .int .u8 0, .int .u8 0, .int .u64 0] := rfl

theorem blank_any (c : Ce) (h : c.Ok) (w : World) :
    Calls Try.prog 28 #[.agg (ceA c)] w fun e w' => e = .returned (.bool (!c.is)) ∧ w.alloc (.cells (ceA c) 64) = w' := by
  have he := ce_eq h (w.alloc (.cells (ceA c) 64))
  have hl : (loadVar 64 ⟨w.heap.size, 0, none⟩).run Try.prog (w.alloc (.cells (ceA c) 64)) = .ok (.agg (ceA c)) (w.alloc (.cells (ceA c) 64)) :=
    run_loadVar_row (P := Try.prog) _ w.heap.size 64 64 _ (0, 0) _ (heap_alloc_new w _) Try.underlying64 rfl (by rw [info64s, ceA_size h])
  rw [ce_zero_is] at he
  have HL := Lib.hid hl
  clear h hl
  generalize ceA c = A at *
  generalize c.is = b at *
  go_enter Try.func28, Try.ntmps28
  go_wp2_with (first | (refine wpList_load_at rfl 64 _ rfl _ rfl _ HL.out ?_) | (refine wpList_eql_at rfl 64 _ _ _ _ _ _ rfl rfl rfl (by kernel_rfl) he ?_))
  go_ret
  exact ⟨rfl, rfl⟩

/-- check: as the power is, and the place. -/
theorem sl_p {gs gp : Nat} {c d : Ce} {w : World} (h : IsSl gs gp c d w) : w.cell? ⟨gs, 0, none⟩ = some (.pointer (some ⟨gp, 0, none⟩)) := cell_of_row w gs 0 _ _ _ h

theorem check_off (gs gp : Nat) (p : Pw) (c d : Ce) (i : Int) (w : World) (hs : IsSl gs gp c d w) (hp : IsPw gp p w) (ho : p.off = true) :
    Calls Try.prog 27 #[.pointer (some ⟨gs, 0, none⟩), .int .i64 i] w fun e w' => e = .returned (.int .i64 4) ∧ w = w' := by
  have c0 := sl_p hs
  have hu := Lib.hid (up_any gp p w hp)
  rw [ho] at hu
  clear hs hp ho
  go_enter Try.func27, Try.ntmps27
  go_wp2_with fail
  refine hu.out.mono ?_
  rintro e w1 ⟨rfl, rfl⟩
  go_wp2_with fail
  go_ret
  exact ⟨rfl, rfl⟩

theorem check_arg (gs gp : Nat) (p : Pw) (c d : Ce) (i : Int) (w : World) (hs : IsSl gs gp c d w) (hp : IsPw gp p w) (ho : p.off = false) (hi : i < 0 ∨ 2 ≤ i) :
    Calls Try.prog 27 #[.pointer (some ⟨gs, 0, none⟩), .int .i64 i] w fun e w' => e = .returned (.int .i64 1) ∧ w = w' := by
  have c0 := sl_p hs
  have hu := Lib.hid (up_any gp p w hp)
  rw [ho] at hu
  clear hs hp ho
  rcases hi with hi | hi <;>
  · go_enter Try.func27, Try.ntmps27
    go_wp2_with fail
    refine hu.out.mono ?_
    rintro e w1 ⟨rfl, rfl⟩
    go_wp2_with fail
    go_ret
    exact ⟨rfl, rfl⟩

theorem check_ok (gs gp : Nat) (p : Pw) (c d : Ce) (i : Int) (w : World) (hs : IsSl gs gp c d w) (hp : IsPw gp p w) (ho : p.off = false) (hi : 0 ≤ i) (hi' : i < 2) :
    Calls Try.prog 27 #[.pointer (some ⟨gs, 0, none⟩), .int .i64 i] w fun e w' => e = .returned (.int .i64 0) ∧ w = w' := by
  have c0 := sl_p hs
  have hu := Lib.hid (up_any gp p w hp)
  rw [ho] at hu
  clear hs hp ho
  go_enter Try.func27, Try.ntmps27
  go_wp2_with fail
  refine hu.out.mono ?_
  rintro e w1 ⟨rfl, rfl⟩
  go_wp2_with fail
  go_ret
  exact ⟨rfl, rfl⟩
end Go.Proofs.Ytfolmdcceefflaa
