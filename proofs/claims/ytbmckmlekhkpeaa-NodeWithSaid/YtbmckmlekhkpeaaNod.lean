/-
  A node's cells: a child has 21 of them, a node 85; parts of them, and whether two are the same.
-/
import Derived.Test.YtbmckmlekhkpeaaKey
import Derived.ChangeKeysEq
import Derived.Deep.WholeRow
set_option linter.unusedVariables false
namespace Go.Proofs.Ytbmckmlekhkpeaa
open Go.RowKit

/-- Only blocks of S have turned, and what is new. -/
structure Only (S : Nat → Prop) (w w' : World) : Prop where
  os : w'.os = w.os
  tape : w'.tape = w.tape
  output : w'.output = w.output
  size : w.heap.size ≤ w'.heap.size
  block : ∀ k, k < w.heap.size → ¬ S k → w'.heap[k]? = w.heap[k]?

theorem Only.refl (S : Nat → Prop) (w : World) : Only S w w := ⟨rfl, rfl, rfl, Nat.le_refl _, fun _ _ _ => rfl⟩
theorem Only.trans {S : Nat → Prop} {a b c : World} (h : Only S a b) (k : Only S b c) : Only S a c :=
  ⟨k.os.trans h.os, k.tape.trans h.tape, k.output.trans h.output, Nat.le_trans h.size k.size, fun i hi hs => (k.block i (Nat.lt_of_lt_of_le hi h.size) hs).trans (h.block i hi hs)⟩
theorem Only.mono {S T : Nat → Prop} {a b : World} (h : Only S a b) (hs : ∀ k, S k → T k) : Only T a b := ⟨h.os, h.tape, h.output, h.size, fun k hk ht => h.block k hk fun x => ht (hs k x)⟩
theorem Only.drew {S : Nat → Prop} {a b : World} (h : Only S a b) : Only S a b.drew := ⟨h.os, h.tape, h.output, h.size, h.block⟩
theorem Only.drewN {S : Nat → Prop} {a b : World} (h : Only S a b) (n : Nat) : Only S a (b.drewN n) := ⟨h.os, h.tape, h.output, h.size, h.block⟩
theorem Only.alloc {S : Nat → Prop} {a b : World} (h : Only S a b) (o : Obj) : Only S a (b.alloc o) :=
  h.trans ⟨rfl, rfl, rfl, by simp, fun k hk _ => Below.heap_alloc _ _ _ hk⟩
theorem Only.setCell {S : Nat → Prop} {a b : World} (h : Only S a b) {p : Addr} (hp : S p.block) (u : Value) : Only S a (b.setCell p u) :=
  h.trans ⟨rfl, rfl, rfl, by simp [World.setCell], fun k hk hs => Below.heap_setCell _ _ _ _ (by rintro rfl; exact hs hp)⟩
theorem Only.setRow {S : Nat → Prop} {a b : World} (h : Only S a b) {g : Nat} (hp : S g) (cs : Array Value) : Only S a (b.setRow g cs) :=
  h.trans ⟨rfl, rfl, rfl, by simp, fun k hk hs => setRow_other b g k cs (by rintro rfl; exact hs hp)⟩
theorem Only.below {S : Nat → Prop} {a b : World} {B : Nat} (h : Only S a b) (hB : B ≤ a.heap.size) (hs : ∀ k, S k → B ≤ k) : Below B a b :=
  ⟨h.os, h.tape, h.output, h.size, fun k hk => h.block k (by omega) fun x => by have := hs k x; omega⟩
theorem Only.of_below {S : Nat → Prop} {a b : World} (h : Below a.heap.size a b) : Only S a b := ⟨h.os, h.tape, h.output, h.size, fun k hk _ => h.block k hk⟩
theorem Only.fresh {S : Nat → Prop} {a b c : World} (h : Only (fun _ => False) a b) (k : Only S b c) (hs : ∀ k, S k → a.heap.size ≤ k) : Only (fun _ => False) a c :=
  ⟨k.os.trans h.os, k.tape.trans h.tape, k.output.trans h.output, Nat.le_trans h.size k.size, fun i hi hf => (k.block i (Nat.lt_of_lt_of_le hi h.size) fun x => by have := hs i x; omega).trans (h.block i hi hf)⟩
theorem Only.row {S : Nat → Prop} {a b : World} (h : Only S a b) {g : Nat} {o : Obj} (hg : a.heap[g]? = some o) (hs : ¬ S g) : b.heap[g]? = some o := (h.block g (lt_of_heap hg) hs).trans hg
theorem Only.below0 {a b : World} (h : Only (fun _ => False) a b) : Below a.heap.size a b := h.below (Nat.le_refl _) (fun _ x => x.elim)

/-- The midst of a row. -/
theorem ext_mid (A B C : List Value) {o n : Nat} (ho : A.length = o) (hn : B.length = n) : ((A ++ B ++ C).toArray).extract o (o + n) = B.toArray := by
  have e : ((A ++ B ++ C).toArray).extract o (o + n) = (((A ++ B ++ C).drop o).take n).toArray := by simp [List.extract]
  rw [e]
  congr 1
  rw [List.append_assoc, ← ho, List.drop_left, ← hn, List.take_left]
theorem splice_mid (A B C D : List Value) {o : Nat} (ho : A.length = o) (hn : B.length = D.length) : splice (A ++ B ++ C).toArray o D.toArray = (A ++ D ++ C).toArray := by
  subst ho
  simp only [splice, List.size_toArray]
  congr 1
  have e1 : (A ++ B ++ C).take A.length = A := by rw [List.append_assoc, List.take_left]
  have e2 : (A ++ B ++ C).drop (A.length + D.length) = C := by rw [← hn, ← List.length_append, List.drop_left]
  rw [e1, e2]
theorem set_mid (A C : List Value) (b d : Value) {o : Nat} (ho : A.length = o) : ((A ++ [b] ++ C).toArray).setIfInBounds o d = (A ++ [d] ++ C).toArray := by
  subst ho
  simp
theorem get_mid (A C : List Value) (b : Value) {o : Nat} (ho : A.length = o) : ((A ++ [b] ++ C).toArray)[o]? = some b := by
  subst ho
  simp

def kyL (l : List UInt8) : List Value := l.map fun b => Value.int .u8 b.toNat
def kz : List UInt8 := [0,0,0,0,0,0,0,0,0,0,0,0,0,0,0,0]
theorem kyL_len {l : List UInt8} (h : l.length = 16) : (kyL l).length = 16 := by simp [kyL, h]
theorem kyL_arr (l : List UInt8) : (kyL l).toArray = kyC l := rfl
theorem kyL_one (l : List UInt8) : ∀ v ∈ kyL l, v.oneCell' = true := by
  intro v hv
  simp only [kyL, List.mem_map] at hv
  obtain ⟨b, _, rfl⟩ := hv
  rfl
structure Ch where
  has : Bool
  seg : Int
  page : Int
  key : List UInt8
  ex : Int
  ver : Int
def chZ : Ch := ⟨false, 0, 0, kz, 0, 0⟩
structure Ch.Ok (c : Ch) : Prop where
  len : c.key.length = 16
  seg : -9223372036854775808 ≤ c.seg ∧ c.seg ≤ 9223372036854775807
  page : -9223372036854775808 ≤ c.page ∧ c.page ≤ 9223372036854775807
  ex : 0 ≤ c.ex ∧ c.ex ≤ 18446744073709551615
  ver : 0 ≤ c.ver ∧ c.ver ≤ 18446744073709551615
theorem chZ_ok : chZ.Ok := ⟨rfl, by decide, by decide, by decide, by decide⟩
def chL (c : Ch) : List Value := [.bool c.has, .int .i64 c.seg, .int .i64 c.page] ++ kyL c.key ++ [.int .u64 c.ex, .int .u64 c.ver]
def chA (c : Ch) : Array Value := (chL c).toArray
theorem chL_len {c : Ch} (h : c.Ok) : (chL c).length = 21 := by simp [chL, kyL_len h.len]
theorem chA_size {c : Ch} (h : c.Ok) : (chA c).size = 21 := by simp [chA, chL_len h]
theorem chL_one (c : Ch) : ∀ v ∈ chL c, v.oneCell' = true := by
  intro v hv
  simp only [chL, List.mem_append, List.mem_cons, List.not_mem_nil, or_false] at hv
  rcases hv with ((rfl | rfl | rfl) | h) | rfl | rfl
  all_goals first | rfl | exact kyL_one _ _ h
theorem chA_one (c : Ch) : ∀ v ∈ (chA c).toList, v.oneCell' = true := chL_one c
theorem ch_has (c : Ch) : (chA c)[0]? = some (.bool c.has) := by simp [chA, chL]
theorem ch_seg (c : Ch) : (chA c)[1]? = some (.int .i64 c.seg) := by simp [chA, chL]
theorem ch_page (c : Ch) : (chA c)[2]? = some (.int .i64 c.page) := by simp [chA, chL]
theorem ch_key {c : Ch} (h : c.Ok) : (chA c).extract 3 (3 + 16) = kyC c.key := ext_mid _ _ _ rfl (kyL_len h.len)
theorem ch_ex {c : Ch} (h : c.Ok) : (chA c)[19]? = some (.int .u64 c.ex) := by simp [chA, chL, kyL_len h.len]
theorem ch_ver {c : Ch} (h : c.Ok) : (chA c)[20]? = some (.int .u64 c.ver) := by simp [chA, chL, kyL_len h.len]

structure Nd where
  leaf : Bool
  cs : List Ch
structure Nd.Ok (n : Nd) : Prop where
  len : n.cs.length = 4
  ok : ∀ c ∈ n.cs, c.Ok
def Nd.get (n : Nd) (i : Nat) : Ch := n.cs.getD i chZ
def Nd.put (n : Nd) (i : Nat) (c : Ch) : Nd := ⟨n.leaf, n.cs.set i c⟩
def csL (l : List Ch) : List Value := l.flatMap chL
def ndL (n : Nd) : List Value := [.bool n.leaf] ++ csL n.cs
def ndA (n : Nd) : Array Value := (ndL n).toArray
def csA (n : Nd) : Array Value := (csL n.cs).toArray
def ndZ : Nd := ⟨false, [chZ, chZ, chZ, chZ]⟩
theorem ndZ_ok : ndZ.Ok := ⟨rfl, by intro c hc; simp [ndZ] at hc; subst hc; exact chZ_ok⟩
theorem Nd.Ok.get_ok {n : Nd} (h : n.Ok) (i : Nat) : (n.get i).Ok := by
  unfold Nd.get
  rw [List.getD_eq_getElem?_getD]
  cases hc : n.cs[i]? with
  | none => exact chZ_ok
  | some c => exact h.ok c (List.mem_of_getElem? hc)
theorem Nd.Ok.put_ok {n : Nd} (h : n.Ok) (i : Nat) {c : Ch} (hc : c.Ok) : (n.put i c).Ok :=
  ⟨by simp [Nd.put, h.len], fun d hd => by
    rcases List.mem_or_eq_of_mem_set hd with hd | rfl
    · exact h.ok d hd
    · exact hc⟩
theorem csL_len {l : List Ch} (h : ∀ c ∈ l, c.Ok) : (csL l).length = l.length * 21 := by
  induction l with
  | nil => rfl
  | cons c l ih =>
    have := ih fun d hd => h d (by simp [hd])
    simp only [csL, List.flatMap_cons, List.length_append, List.length_cons] at this ⊢
    rw [this, chL_len (h c (by simp))]
    omega
theorem csL_one (l : List Ch) : ∀ v ∈ csL l, v.oneCell' = true := by
  intro v hv
  obtain ⟨c, _, hv⟩ := List.mem_flatMap.1 hv
  exact chL_one c v hv
theorem ndA_one (n : Nd) : ∀ v ∈ (ndA n).toList, v.oneCell' = true := by
  intro v hv
  have hv : v ∈ [Value.bool n.leaf] ++ csL n.cs := hv
  rw [List.mem_append] at hv
  rcases hv with hv | hv
  · simp only [List.mem_singleton] at hv; subst hv; rfl
  · exact csL_one _ v hv
theorem ndA_size {n : Nd} (h : n.Ok) : (ndA n).size = 85 := by simp [ndA, ndL, csL_len h.ok, h.len]
theorem csA_size {n : Nd} (h : n.Ok) : (csA n).size = 84 := by simp [csA, csL_len h.ok, h.len]
theorem cs_split {l : List Ch} {i : Nat} (h : i < l.length) : l = l.take i ++ [l.getD i chZ] ++ l.drop (i + 1) := by
  rw [List.getD_eq_getElem?_getD, List.getElem?_eq_getElem h, Option.getD_some, List.append_assoc, List.singleton_append, List.getElem_cons_drop, List.take_append_drop]
theorem csTake {l : List Ch} (h : ∀ c ∈ l, c.Ok) (i : Nat) (hi : i ≤ l.length) : (csL (l.take i)).length = i * 21 := by
  rw [csL_len fun c hc => h c (List.mem_of_mem_take hc), List.length_take, Nat.min_eq_left hi]
theorem cs_form {n : Nd} {i : Nat} (h : n.Ok) (hi : i < 4) : csL n.cs = csL (n.cs.take i) ++ chL (n.get i) ++ csL (n.cs.drop (i + 1)) := by
  have := cs_split (l := n.cs) (i := i) (by rw [h.len]; exact hi)
  conv => lhs; rw [this]
  simp [csL, Nd.get]
theorem cs_form_put {n : Nd} {i : Nat} (h : n.Ok) (hi : i < 4) (c : Ch) : csL (n.put i c).cs = csL (n.cs.take i) ++ chL c ++ csL (n.cs.drop (i + 1)) := by
  unfold Nd.put
  rw [List.set_eq_take_append_cons_drop, if_pos (by rw [h.len]; exact hi)]
  simp [csL]
theorem nd_leaf (n : Nd) : (ndA n)[0]? = some (.bool n.leaf) := by simp [ndA, ndL]
theorem nd_child {n : Nd} {i : Nat} (h : n.Ok) (hi : i < 4) : (ndA n).extract (1 + i * 21) (1 + i * 21 + 21) = chA (n.get i) := by
  rw [ndA, ndL, cs_form h hi, ← List.append_assoc, ← List.append_assoc]
  exact ext_mid _ _ _ (by rw [List.length_append, csTake h.ok i (by rw [h.len]; omega), List.length_singleton]) (chL_len (h.get_ok i))
theorem nd_has {n : Nd} {i : Nat} (h : n.Ok) (hi : i < 4) : (ndA n)[1 + i * 21]? = some (.bool (n.get i).has) := by
  have e : ndL n = ([.bool n.leaf] ++ csL (n.cs.take i)) ++ [.bool (n.get i).has] ++ (([.int .i64 (n.get i).seg, .int .i64 (n.get i).page] ++ kyL (n.get i).key ++ [.int .u64 (n.get i).ex, .int .u64 (n.get i).ver]) ++ csL (n.cs.drop (i + 1))) := by
    rw [ndL, cs_form h hi]; simp [chL]
  rw [ndA, e]
  exact get_mid _ _ _ (by rw [List.length_append, csTake h.ok i (by rw [h.len]; omega), List.length_singleton])
theorem nd_put {n : Nd} {i : Nat} (h : n.Ok) (hi : i < 4) {c : Ch} (hc : c.Ok) : splice (ndA n) (1 + i * 21) (chA c) = ndA (n.put i c) := by
  rw [ndA, ndL, cs_form h hi, ndA, ndL, cs_form_put h hi, ← List.append_assoc, ← List.append_assoc, ← List.append_assoc, ← List.append_assoc]
  exact splice_mid _ _ _ _ (by rw [List.length_append, csTake h.ok i (by rw [h.len]; omega), List.length_singleton]) (by rw [chL_len (h.get_ok i), chL_len hc])
theorem nd_arr {n : Nd} (h : n.Ok) : (ndA n).extract 1 (1 + 84) = csA n := by
  have : ndL n = [.bool n.leaf] ++ csL n.cs ++ [] := by simp [ndL]
  rw [ndA, this]
  exact ext_mid _ _ _ rfl (by rw [csL_len h.ok, h.len])
theorem cs_child {n : Nd} {i : Nat} (h : n.Ok) (hi : i < 4) : (csA n).extract (i * 21) (i * 21 + 21) = chA (n.get i) := by
  rw [csA, cs_form h hi]
  exact ext_mid _ _ _ (csTake h.ok i (by rw [h.len]; omega)) (chL_len (h.get_ok i))
theorem nd_setleaf (n : Nd) (b : Bool) : (ndA n).setIfInBounds 0 (.bool b) = ndA ⟨b, n.cs⟩ := by
  have : ∀ x, ndL ⟨x, n.cs⟩ = [] ++ [.bool x] ++ csL n.cs := fun x => rfl
  show ((ndL ⟨n.leaf, n.cs⟩).toArray).setIfInBounds 0 (.bool b) = (ndL ⟨b, n.cs⟩).toArray
  rw [this, this]
  exact set_mid _ _ _ _ rfl

/-- Sizes, parts. -/
theorem info27s : (Try.prog.info? 27).map (·.size) = some 21 := by kernel_rfl
theorem info34s : (Try.prog.info? 34).map (·.size) = some 21 := by kernel_rfl
theorem info28s : (Try.prog.info? 28).map (·.size) = some 84 := by kernel_rfl
theorem info35s : (Try.prog.info? 35).map (·.size) = some 84 := by kernel_rfl
theorem info30s : (Try.prog.info? 30).map (·.size) = some 85 := by kernel_rfl
theorem info37s : (Try.prog.info? 37).map (·.size) = some 85 := by kernel_rfl

section
variable {P : Program} {d : Nat} {xs ys : Array Value} {f : Field} {fs : List Field} {a b : Value} {r s : Bool} {w : World}
theorem eqf_nil : (Op.eqFields d xs ys []).run P w = .ok true w := by simp [Op.eqFields]
theorem eqf_cons (hn : (f.name == "_") = false) (ha : (part f.type xs f.offset).run P w = .ok a w) (hb : (part f.type ys f.offset).run P w = .ok b w) (he : (Op.equalIn d f.type a b).run P w = .ok r w) (hr : (Op.eqFields d xs ys fs).run P w = .ok s w) : (Op.eqFields d xs ys (f :: fs)).run P w = .ok (r && s) w := by
  have hn' : f.name ≠ "_" := by simpa using hn
  rw [Op.eqFields]
  simp only [if_pos hn', Sem.run_bind, ha, hb, he, Result.andThen_ok]
  cases r
  · simp
  · simpa using hr
theorem eqA_of {t : TypeId} {fs : Array Field} (hu : P.underlying t = some (.struct fs)) (hp : P.stoodInHeld t = false) (h : (Op.eqFields d xs ys fs.toList).run P w = .ok r w) : (Op.equalIn (d + 1) t (.agg xs) (.agg ys)).run P w = .ok r w := by
  have hf : P.fieldsOf t = fs := by simp [Program.fieldsOf, hu]
  rw [run_equalIn_struct (P := P) w d t xs ys (by rw [hf]; exact hu) hp, hf]
  exact h
end

theorem part_plain (ty : TypeId) (d : TypeDesc) (xs : Array Value) (o : Nat) (v : Value) (hu : Try.prog.underlying ty = some d) (hd : (match d with | .struct _ | .array _ _ => false | _ => true) = true) (hv : xs[o]? = some v) (w : World) :
    (part ty xs o).run Try.prog w = .ok v w := by
  unfold part isAgg
  rw [Sem.run_bind, Sem.run_bind, run_underlying hu w]
  cases d <;> simp_all
theorem part_agg (ty : TypeId) (d : TypeDesc) (xs : Array Value) (o n : Nat) (hu : Try.prog.underlying ty = some d) (hd : (match d with | .struct _ | .array _ _ => true | _ => false) = true) (hi : (Try.prog.info? ty).map (·.size) = some n) (w : World) :
    (part ty xs o).run Try.prog w = .ok (.agg (xs.extract o (o + n))) w := by
  unfold part isAgg
  rw [Sem.run_bind, Sem.run_bind, run_underlying hu w]
  cases hq : Try.prog.info? ty with
  | none => simp [hq] at hi
  | some i =>
    have hs : i.size = n := by simpa [hq] using hi
    cases d <;> simp_all [sizeOf, typeInfo]

theorem key_eq (d : Nat) (k l : List UInt8) (h : k.length = 16) (h' : l.length = 16) (w : World) : (Op.equalIn (d + 2) 24 (.agg (kyC k)) (.agg (kyC l))).run Try.prog w = .ok (k == l) w :=
  run_equalIn_bytes (P := Try.prog) w d 24 5 16 (Try.underlying24.trans (by kernel_rfl)) Try.underlying5 size5 k l h h'

/-- Two children compared. -/
def Ch.eqv (c d : Ch) : Bool := c.has == d.has && (c.seg == d.seg && (c.page == d.page && (c.key == d.key && (c.ex == d.ex && (c.ver == d.ver && true)))))
theorem Ch.eqv_iff {c d : Ch} : c.eqv d = true ↔ c = d := by
  cases c; cases d
  simp [Ch.eqv]
theorem ch_eq27 (d : Nat) {c e : Ch} (h : c.Ok) (k : e.Ok) (w : World) : (Op.equalIn (d + 4) 27 (.agg (chA c)) (.agg (chA e))).run Try.prog w = .ok (c.eqv e) w :=
  eqA_of (P := Try.prog) (d := d + 3) (w := w) Try.underlying27 (by kernel_rfl)
    (eqf_cons (by rfl) (part_plain _ _ _ 0 _ Try.underlying4 rfl (ch_has c) w) (part_plain _ _ _ 0 _ Try.underlying4 rfl (ch_has e) w) (run_equalIn_bool' w _ 4 _ _ Try.underlying4)
    (eqf_cons (by rfl) (part_plain _ _ _ 1 _ Try.underlying3 rfl (ch_seg c) w) (part_plain _ _ _ 1 _ Try.underlying3 rfl (ch_seg e) w) (run_equalIn_int w _ 3 .i64 .i64 _ _ Try.underlying3)
    (eqf_cons (by rfl) (part_plain _ _ _ 2 _ Try.underlying3 rfl (ch_page c) w) (part_plain _ _ _ 2 _ Try.underlying3 rfl (ch_page e) w) (run_equalIn_int w _ 3 .i64 .i64 _ _ Try.underlying3)
    (eqf_cons (by rfl) (part_agg _ _ _ 3 16 Try.underlying24 rfl info24s w) (part_agg _ _ _ 3 16 Try.underlying24 rfl info24s w) (by rw [ch_key h, ch_key k]; exact key_eq (d + 1) _ _ h.len k.len w)
    (eqf_cons (by rfl) (part_plain _ _ _ 19 _ Try.underlying25 rfl (ch_ex h) w) (part_plain _ _ _ 19 _ Try.underlying25 rfl (ch_ex k) w) (run_equalIn_int w _ 25 .u64 .u64 _ _ Try.underlying25)
    (eqf_cons (by rfl) (part_plain _ _ _ 20 _ Try.underlying25 rfl (ch_ver h) w) (part_plain _ _ _ 20 _ Try.underlying25 rfl (ch_ver k) w) (run_equalIn_int w _ 25 .u64 .u64 _ _ Try.underlying25) eqf_nil))))))
theorem ch_eq34 (d : Nat) {c e : Ch} (h : c.Ok) (k : e.Ok) (w : World) : (Op.equalIn (d + 4) 34 (.agg (chA c)) (.agg (chA e))).run Try.prog w = .ok (c.eqv e) w :=
  eqA_of (P := Try.prog) (d := d + 3) (w := w) Try.underlying34 (by kernel_rfl)
    (eqf_cons (by rfl) (part_plain _ _ _ 0 _ Try.underlying4 rfl (ch_has c) w) (part_plain _ _ _ 0 _ Try.underlying4 rfl (ch_has e) w) (run_equalIn_bool' w _ 4 _ _ Try.underlying4)
    (eqf_cons (by rfl) (part_plain _ _ _ 1 _ Try.underlying3 rfl (ch_seg c) w) (part_plain _ _ _ 1 _ Try.underlying3 rfl (ch_seg e) w) (run_equalIn_int w _ 3 .i64 .i64 _ _ Try.underlying3)
    (eqf_cons (by rfl) (part_plain _ _ _ 2 _ Try.underlying3 rfl (ch_page c) w) (part_plain _ _ _ 2 _ Try.underlying3 rfl (ch_page e) w) (run_equalIn_int w _ 3 .i64 .i64 _ _ Try.underlying3)
    (eqf_cons (by rfl) (part_agg _ _ _ 3 16 Try.underlying24 rfl info24s w) (part_agg _ _ _ 3 16 Try.underlying24 rfl info24s w) (by rw [ch_key h, ch_key k]; exact key_eq (d + 1) _ _ h.len k.len w)
    (eqf_cons (by rfl) (part_plain _ _ _ 19 _ Try.underlying25 rfl (ch_ex h) w) (part_plain _ _ _ 19 _ Try.underlying25 rfl (ch_ex k) w) (run_equalIn_int w _ 25 .u64 .u64 _ _ Try.underlying25)
    (eqf_cons (by rfl) (part_plain _ _ _ 20 _ Try.underlying25 rfl (ch_ver h) w) (part_plain _ _ _ 20 _ Try.underlying25 rfl (ch_ver k) w) (run_equalIn_int w _ 25 .u64 .u64 _ _ Try.underlying25) eqf_nil))))))

/-- Two nodes compared. -/
def Nd.eqv (n m : Nd) : Bool := n.leaf == m.leaf && (((n.get 0).eqv (m.get 0) && ((n.get 1).eqv (m.get 1) && ((n.get 2).eqv (m.get 2) && ((n.get 3).eqv (m.get 3) && true)))) && true)
theorem list4 {α : Type} (l : List α) (h : l.length = 4) : ∃ a b c d, l = [a, b, c, d] :=
  match l, h with
  | [a, b, c, d], _ => ⟨a, b, c, d, rfl⟩
theorem Nd.eqv_iff {n m : Nd} (h : n.Ok) (k : m.Ok) : n.eqv m = true ↔ n = m := by
  obtain ⟨a, b, c, d, e⟩ := list4 n.cs h.len
  obtain ⟨a', b', c', d', e'⟩ := list4 m.cs k.len
  cases n; cases m
  simp only at e e'
  subst e e'
  simp [Nd.eqv, Nd.get, Ch.eqv_iff]
theorem eqI_cons {d : Nat} {e : TypeId} {c : Nat} {xs ys : Array Value} {i : Nat} {is : List Nat} {a b : Value} {r s : Bool} {w : World} (ha : (part e xs (i * c)).run Try.prog w = .ok a w) (hb : (part e ys (i * c)).run Try.prog w = .ok b w)
    (he : (Op.equalIn d e a b).run Try.prog w = .ok r w) (hr : (Op.eqItems d e c xs ys is).run Try.prog w = .ok s w) : (Op.eqItems d e c xs ys (i :: is)).run Try.prog w = .ok (r && s) w := by
  rw [Op.eqItems]
  simp only [Sem.run_bind, ha, hb, he, Result.andThen_ok]
  cases r
  · simp
  · simpa using hr
theorem eqI_nil {d : Nat} {e : TypeId} {c : Nat} {xs ys : Array Value} {w : World} : (Op.eqItems d e c xs ys []).run Try.prog w = .ok true w := by simp [Op.eqItems]
theorem cells27 : Try.prog.cellsOf 27 = 21 := by kernel_rfl
theorem cells34 : Try.prog.cellsOf 34 = 21 := by kernel_rfl
theorem cs_part27 {n : Nd} (h : n.Ok) (i : Nat) (hi : i < 4) (w : World) : (part 27 (csA n) (i * 21)).run Try.prog w = .ok (.agg (chA (n.get i))) w := by
  rw [part_agg 27 _ _ _ 21 Try.underlying27 rfl info27s w, cs_child h hi]
theorem cs_part34 {n : Nd} (h : n.Ok) (i : Nat) (hi : i < 4) (w : World) : (part 34 (csA n) (i * 21)).run Try.prog w = .ok (.agg (chA (n.get i))) w := by
  rw [part_agg 34 _ _ _ 21 Try.underlying34 rfl info34s w, cs_child h hi]
theorem cs_eq28 (d : Nat) {n m : Nd} (h : n.Ok) (k : m.Ok) (w : World) : (Op.equalIn (d + 5) 28 (.agg (csA n)) (.agg (csA m))).run Try.prog w = .ok ((n.get 0).eqv (m.get 0) && ((n.get 1).eqv (m.get 1) && ((n.get 2).eqv (m.get 2) && ((n.get 3).eqv (m.get 3) && true)))) w := by
  obtain ⟨i, hi⟩ : ∃ i, Try.prog.info? 27 = some i := by
    cases hq : Try.prog.info? 27 with
    | none => have := info27s; simp [hq] at this
    | some i => exact ⟨i, rfl⟩
  rw [run_equalIn_array (P := Try.prog) w (d + 4) (csA n) (csA m) Try.underlying28 hi, cells27]
  exact eqI_cons (cs_part27 h 0 (by omega) w) (cs_part27 k 0 (by omega) w) (ch_eq27 d (h.get_ok 0) (k.get_ok 0) w) (eqI_cons (cs_part27 h 1 (by omega) w) (cs_part27 k 1 (by omega) w) (ch_eq27 d (h.get_ok 1) (k.get_ok 1) w)
    (eqI_cons (cs_part27 h 2 (by omega) w) (cs_part27 k 2 (by omega) w) (ch_eq27 d (h.get_ok 2) (k.get_ok 2) w) (eqI_cons (cs_part27 h 3 (by omega) w) (cs_part27 k 3 (by omega) w) (ch_eq27 d (h.get_ok 3) (k.get_ok 3) w) eqI_nil)))
theorem cs_eq35 (d : Nat) {n m : Nd} (h : n.Ok) (k : m.Ok) (w : World) : (Op.equalIn (d + 5) 35 (.agg (csA n)) (.agg (csA m))).run Try.prog w = .ok ((n.get 0).eqv (m.get 0) && ((n.get 1).eqv (m.get 1) && ((n.get 2).eqv (m.get 2) && ((n.get 3).eqv (m.get 3) && true)))) w := by
  obtain ⟨i, hi⟩ : ∃ i, Try.prog.info? 34 = some i := by
    cases hq : Try.prog.info? 34 with
    | none => have := info34s; simp [hq] at this
    | some i => exact ⟨i, rfl⟩
  rw [run_equalIn_array (P := Try.prog) w (d + 4) (csA n) (csA m) Try.underlying35 hi, cells34]
  exact eqI_cons (cs_part34 h 0 (by omega) w) (cs_part34 k 0 (by omega) w) (ch_eq34 d (h.get_ok 0) (k.get_ok 0) w) (eqI_cons (cs_part34 h 1 (by omega) w) (cs_part34 k 1 (by omega) w) (ch_eq34 d (h.get_ok 1) (k.get_ok 1) w)
    (eqI_cons (cs_part34 h 2 (by omega) w) (cs_part34 k 2 (by omega) w) (ch_eq34 d (h.get_ok 2) (k.get_ok 2) w) (eqI_cons (cs_part34 h 3 (by omega) w) (cs_part34 k 3 (by omega) w) (ch_eq34 d (h.get_ok 3) (k.get_ok 3) w) eqI_nil)))
theorem nd_eq30 {n m : Nd} (h : n.Ok) (k : m.Ok) (w : World) : (Op.equalIn 10000 30 (.agg (ndA n)) (.agg (ndA m))).run Try.prog w = .ok (n.eqv m) w :=
  eqA_of (P := Try.prog) (d := 9999) (w := w) Try.underlying30 (by kernel_rfl)
    (eqf_cons (by rfl) (part_plain _ _ _ 0 _ Try.underlying4 rfl (nd_leaf n) w) (part_plain _ _ _ 0 _ Try.underlying4 rfl (nd_leaf m) w) (run_equalIn_bool' w _ 4 _ _ Try.underlying4)
    (eqf_cons (by rfl) (part_agg _ _ _ 1 84 Try.underlying28 rfl info28s w) (part_agg _ _ _ 1 84 Try.underlying28 rfl info28s w) (by rw [nd_arr h, nd_arr k]; exact cs_eq28 9994 h k w) eqf_nil))
theorem nd_eq37 {n m : Nd} (h : n.Ok) (k : m.Ok) (w : World) : (Op.equalIn 10000 37 (.agg (ndA n)) (.agg (ndA m))).run Try.prog w = .ok (n.eqv m) w :=
  eqA_of (P := Try.prog) (d := 9999) (w := w) Try.underlying37 (by kernel_rfl)
    (eqf_cons (by rfl) (part_plain _ _ _ 0 _ Try.underlying4 rfl (nd_leaf n) w) (part_plain _ _ _ 0 _ Try.underlying4 rfl (nd_leaf m) w) (run_equalIn_bool' w _ 4 _ _ Try.underlying4)
    (eqf_cons (by rfl) (part_agg _ _ _ 1 84 Try.underlying35 rfl info35s w) (part_agg _ _ _ 1 84 Try.underlying35 rfl info35s w) (by rw [nd_arr h, nd_arr k]; exact cs_eq35 9994 h k w) eqf_nil))
theorem index28 {n : Nd} (h : n.Ok) (i : Nat) (hi : i < 4) (w : World) : (Instr.index 28 (.agg (csA n)) (.int .i64 i)).run Try.prog w = .ok (.agg (chA (n.get i))) w := by
  have hp := cs_part27 h i hi w
  obtain ⟨j, hj⟩ : ∃ i, Try.prog.info? 27 = some i := by
    cases hq : Try.prog.info? 27 with
    | none => have := info27s; simp [hq] at this
    | some i => exact ⟨i, rfl⟩
  have hjs : j.size = 21 := by have := info27s; simpa [hj] using this
  simp [Instr.index, run_underlying Try.underlying28, asIntOf, sizeOf, typeInfo, hj, hjs, hp]
  omega
end Go.Proofs.Ytbmckmlekhkpeaa
