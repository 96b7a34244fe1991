/- Small laws on the model's memory that the walks of this claim share: what a call may have turned ('Turn'), a block known whole ('Blk'), rows of bytes. -/
import Derived.WalkKit
import Derived.WalkSpells
import Derived.WalkLawsBesides
import Derived.Lib.Hide
import Derived.Deep.MidRow
import Derived.Deep.Draws
import Derived.Deep.QuietTactic
import Derived.BigQuiet
import Derived.StillTailTactics
namespace Go.Proofs.Ytkifggnjpgoamaa
open Go.RowKit

/-- Beside the blocks of S, and beyond what was there, w' is as w was. -/
structure Turn (S : List Nat) (w w' : World) : Prop where
  os : w'.os = w.os
  tape : w'.tape = w.tape
  output : w'.output = w.output
  size : w.heap.size ≤ w'.heap.size
  block : ∀ k, k < w.heap.size → k ∉ S → w'.heap[k]? = w.heap[k]?

theorem Turn.refl (S : List Nat) (w : World) : Turn S w w := ⟨rfl, rfl, rfl, Nat.le_refl _, fun _ _ _ => rfl⟩
theorem Turn.trans {S T : List Nat} {a b c : World} (h : Turn S a b) (k : Turn T b c) (hT : ∀ x, x ∈ T → x ∈ S ∨ a.heap.size ≤ x) : Turn S a c :=
  ⟨k.os.trans h.os, k.tape.trans h.tape, k.output.trans h.output, Nat.le_trans h.size k.size,
   fun i hi hS => (k.block i (Nat.lt_of_lt_of_le hi h.size) (fun hx => (hT i hx).elim hS (fun e => by omega))).trans (h.block i hi hS)⟩
theorem Turn.mono {S T : List Nat} {a b : World} (h : Turn S a b) (hT : ∀ x, x ∈ S → x ∈ T ∨ a.heap.size ≤ x) : Turn T a b :=
  ⟨h.os, h.tape, h.output, h.size, fun i hi hn => h.block i hi (fun hx => (hT i hx).elim hn (fun e => by omega))⟩
theorem Turn.drew {S : List Nat} {a w : World} (h : Turn S a w) : Turn S a w.drew := ⟨h.os, h.tape, h.output, h.size, h.block⟩
theorem Turn.drewN {S : List Nat} {a w : World} (h : Turn S a w) (n : Nat) : Turn S a (w.drewN n) := ⟨h.os, h.tape, h.output, h.size, h.block⟩
theorem Turn.alloc {S : List Nat} {a w : World} (h : Turn S a w) (o : Obj) : Turn S a (w.alloc o) :=
  h.trans (T := []) ⟨rfl, rfl, rfl, by simp, fun k hk _ => Below.heap_alloc _ _ _ hk⟩ (fun _ hx => by cases hx)
theorem Turn.setCell {S : List Nat} {a w : World} (h : Turn S a w) {p : Addr} (hp : p.block ∈ S ∨ a.heap.size ≤ p.block) (u : Value) : Turn S a (w.setCell p u) :=
  h.trans (T := [p.block]) ⟨rfl, rfl, rfl, by simp [World.setCell], fun k _ hn => Below.heap_setCell _ _ _ _ (by simpa using hn)⟩ (fun x hx => by simp at hx; subst hx; exact hp)
theorem Turn.setCells {S : List Nat} {a : World} {b : Nat} (hp : b ∈ S ∨ a.heap.size ≤ b) : ∀ (vs : List Value) (o : Nat) {w : World}, Turn S a w → Turn S a (w.setCells b o vs)
  | [], _, _, h => h
  | v :: r, o, w, h => by rw [World.setCells]; exact Turn.setCells hp r (o + 1) (h.setCell (p := ⟨b, o, none⟩) hp v)
theorem Turn.of_below {B : Nat} {w w' : World} (h : Below B w w') (hB : w.heap.size ≤ B) (S : List Nat) : Turn S w w' :=
  ⟨h.os, h.tape, h.output, h.size, fun k hk _ => h.block k (by omega)⟩
theorem Turn.below {w w' : World} (h : Turn [] w w') : Below w.heap.size w w' := ⟨h.os, h.tape, h.output, h.size, fun k hk => h.block k hk (by simp)⟩
theorem Turn.of_grown {w w' : World} {row : Option Nat} (h : w.grownBy w' row) (S : List Nat) (hr : ∀ k, row = some k → k ∈ S ∨ w.heap.size ≤ k) : Turn S w w' :=
  ⟨h.os, h.tape, h.output, h.size, fun k hk hn => h.block k hk (fun e => (hr k e.symm).elim hn (fun e => by omega))⟩
theorem Turn.grown {S : List Nat} {a w w' : World} {row : Option Nat} (h : Turn S a w) (g : w.grownBy w' row) (hr : ∀ k, row = some k → k ∈ S ∨ a.heap.size ≤ k) : Turn S a w' :=
  ⟨g.os.trans h.os, g.tape.trans h.tape, g.output.trans h.output, Nat.le_trans h.size g.size,
   fun k hk hn => (g.block k (Nat.lt_of_lt_of_le hk h.size) (fun e => (hr k e.symm).elim hn (fun e => by omega))).trans (h.block k hk hn)⟩
theorem Turn.cell {S : List Nat} {w w' : World} (h : Turn S w w') {p : Addr} (hp : p.block < w.heap.size) (hn : p.block ∉ S) : w'.cell? p = w.cell? p := World.cell?_of_block (w := w) (h.block p.block hp hn)
theorem Turn.frozen {S : List Nat} {w w' : World} (h : Turn S w w') {p : Addr} (hp : p.block < w.heap.size) (hn : p.block ∉ S) : w'.frozen? p = w.frozen? p := World.frozen?_of_block (w := w) (h.block p.block hp hn)

theorem alloc_lt (w : World) (o : Obj) : w.heap.size < (w.alloc o).heap.size := by simp
theorem cell_lt {w : World} {b o : Nat} {v : Value} (h : w.cell? ⟨b, o, none⟩ = some v) : b < w.heap.size := World.block_lt_of_cell? w _ h

/-- A block is known whole. -/
def Blk (w : World) (b : Nat) (cs : Array Value) (T : TypeId) : Prop := w.heap[b]? = some (.cells cs T (0, 0))
theorem Blk.lt {w : World} {b : Nat} {cs : Array Value} {T : TypeId} (h : Blk w b cs T) : b < w.heap.size := (Array.getElem?_eq_some_iff.1 h).1
theorem Blk.cell {w : World} {b : Nat} {cs : Array Value} {T : TypeId} (h : Blk w b cs T) (o : Nat) {v : Value} (hv : cs[o]? = some v) : w.cell? ⟨b, o, none⟩ = some v := by
  rw [cell_of_row w b o cs T (0, 0) h]; exact hv
theorem Blk.thaw {w : World} {b : Nat} {cs : Array Value} {T : TypeId} (h : Blk w b cs T) (o : Nat) : w.frozen? ⟨b, o, none⟩ = false := frozen_of_row w b o cs T h
theorem Blk.turn {w w' : World} {b : Nat} {cs : Array Value} {T : TypeId} {S : List Nat} (h : Blk w b cs T) (k : Turn S w w') (hn : b ∉ S) : Blk w' b cs T := (k.block b h.lt hn).trans h
theorem Blk.alloc {w : World} {b : Nat} {cs : Array Value} {T : TypeId} (h : Blk w b cs T) (o : Obj) : Blk (w.alloc o) b cs T := (Below.heap_alloc w o b h.lt).trans h
theorem Blk.new (w : World) (cs : Array Value) (T : TypeId) : Blk (w.alloc (.cells cs T)) w.heap.size cs T := heap_alloc_new w _
theorem Blk.drew {w : World} {b : Nat} {cs : Array Value} {T : TypeId} (h : Blk w b cs T) : Blk w.drew b cs T := h
theorem Blk.drewN {w : World} {b : Nat} {cs : Array Value} {T : TypeId} (h : Blk w b cs T) (n : Nat) : Blk (w.drewN n) b cs T := h
theorem Blk.set {w : World} {b : Nat} {cs : Array Value} {T : TypeId} (h : Blk w b cs T) (o : Nat) (v : Value) : Blk (w.setCell ⟨b, o, none⟩ v) b (cs.setIfInBounds o v) T := heap_setCell_same w b o cs T v h
theorem Blk.setL {w : World} {b : Nat} {l : List Value} {T : TypeId} (h : Blk w b l.toArray T) (o : Nat) (v : Value) : Blk (w.setCell ⟨b, o, none⟩ v) b (l.set o v).toArray T := by
  have := h.set o v
  simpa using this
theorem Blk.setOther {w : World} {b : Nat} {cs : Array Value} {T : TypeId} (h : Blk w b cs T) (p : Addr) (v : Value) (hn : b ≠ p.block) : Blk (w.setCell p v) b cs T := (heap_setCell_other w p b v hn).trans h
theorem Blk.setsOther {b b' : Nat} {cs : Array Value} {T : TypeId} (hn : b ≠ b') : ∀ (vs : List Value) (o : Nat) {w : World}, Blk w b cs T → Blk (w.setCells b' o vs) b cs T
  | [], _, _, h => h
  | v :: r, o, w, h => by rw [World.setCells]; exact Blk.setsOther hn r (o + 1) (h.setOther ⟨b', o, none⟩ v hn)

theorem Blk.cells1 {w : World} {b : Nat} {x0 : Value} {T : TypeId} (h : Blk w b #[x0] T) : w.cell? ⟨b, 0, none⟩ = some x0 :=
  h.cell 0 rfl
theorem Blk.cells2 {w : World} {b : Nat} {x0 x1 : Value} {T : TypeId} (h : Blk w b #[x0, x1] T) : w.cell? ⟨b, 0, none⟩ = some x0 ∧ w.cell? ⟨b, 1, none⟩ = some x1 :=
  ⟨h.cell 0 rfl, h.cell 1 rfl⟩
theorem Blk.cells3 {w : World} {b : Nat} {x0 x1 x2 : Value} {T : TypeId} (h : Blk w b #[x0, x1, x2] T) : w.cell? ⟨b, 0, none⟩ = some x0 ∧ w.cell? ⟨b, 1, none⟩ = some x1 ∧ w.cell? ⟨b, 2, none⟩ = some x2 :=
  ⟨h.cell 0 rfl, h.cell 1 rfl, h.cell 2 rfl⟩
theorem Blk.cells4 {w : World} {b : Nat} {x0 x1 x2 x3 : Value} {T : TypeId} (h : Blk w b #[x0, x1, x2, x3] T) : w.cell? ⟨b, 0, none⟩ = some x0 ∧ w.cell? ⟨b, 1, none⟩ = some x1 ∧ w.cell? ⟨b, 2, none⟩ = some x2 ∧ w.cell? ⟨b, 3, none⟩ = some x3 :=
  ⟨h.cell 0 rfl, h.cell 1 rfl, h.cell 2 rfl, h.cell 3 rfl⟩
theorem Blk.cells5 {w : World} {b : Nat} {x0 x1 x2 x3 x4 : Value} {T : TypeId} (h : Blk w b #[x0, x1, x2, x3, x4] T) : w.cell? ⟨b, 0, none⟩ = some x0 ∧ w.cell? ⟨b, 1, none⟩ = some x1 ∧ w.cell? ⟨b, 2, none⟩ = some x2 ∧ w.cell? ⟨b, 3, none⟩ = some x3 ∧ w.cell? ⟨b, 4, none⟩ = some x4 :=
  ⟨h.cell 0 rfl, h.cell 1 rfl, h.cell 2 rfl, h.cell 3 rfl, h.cell 4 rfl⟩
theorem Blk.cells6 {w : World} {b : Nat} {x0 x1 x2 x3 x4 x5 : Value} {T : TypeId} (h : Blk w b #[x0, x1, x2, x3, x4, x5] T) : w.cell? ⟨b, 0, none⟩ = some x0 ∧ w.cell? ⟨b, 1, none⟩ = some x1 ∧ w.cell? ⟨b, 2, none⟩ = some x2 ∧ w.cell? ⟨b, 3, none⟩ = some x3 ∧ w.cell? ⟨b, 4, none⟩ = some x4 ∧ w.cell? ⟨b, 5, none⟩ = some x5 :=
  ⟨h.cell 0 rfl, h.cell 1 rfl, h.cell 2 rfl, h.cell 3 rfl, h.cell 4 rfl, h.cell 5 rfl⟩
theorem Blk.cells7 {w : World} {b : Nat} {x0 x1 x2 x3 x4 x5 x6 : Value} {T : TypeId} (h : Blk w b #[x0, x1, x2, x3, x4, x5, x6] T) : w.cell? ⟨b, 0, none⟩ = some x0 ∧ w.cell? ⟨b, 1, none⟩ = some x1 ∧ w.cell? ⟨b, 2, none⟩ = some x2 ∧ w.cell? ⟨b, 3, none⟩ = some x3 ∧ w.cell? ⟨b, 4, none⟩ = some x4 ∧ w.cell? ⟨b, 5, none⟩ = some x5 ∧ w.cell? ⟨b, 6, none⟩ = some x6 :=
  ⟨h.cell 0 rfl, h.cell 1 rfl, h.cell 2 rfl, h.cell 3 rfl, h.cell 4 rfl, h.cell 5 rfl, h.cell 6 rfl⟩
theorem Blk.cells8 {w : World} {b : Nat} {x0 x1 x2 x3 x4 x5 x6 x7 : Value} {T : TypeId} (h : Blk w b #[x0, x1, x2, x3, x4, x5, x6, x7] T) : w.cell? ⟨b, 0, none⟩ = some x0 ∧ w.cell? ⟨b, 1, none⟩ = some x1 ∧ w.cell? ⟨b, 2, none⟩ = some x2 ∧ w.cell? ⟨b, 3, none⟩ = some x3 ∧ w.cell? ⟨b, 4, none⟩ = some x4 ∧ w.cell? ⟨b, 5, none⟩ = some x5 ∧ w.cell? ⟨b, 6, none⟩ = some x6 ∧ w.cell? ⟨b, 7, none⟩ = some x7 :=
  ⟨h.cell 0 rfl, h.cell 1 rfl, h.cell 2 rfl, h.cell 3 rfl, h.cell 4 rfl, h.cell 5 rfl, h.cell 6 rfl, h.cell 7 rfl⟩
theorem Blk.cells9 {w : World} {b : Nat} {x0 x1 x2 x3 x4 x5 x6 x7 x8 : Value} {T : TypeId} (h : Blk w b #[x0, x1, x2, x3, x4, x5, x6, x7, x8] T) : w.cell? ⟨b, 0, none⟩ = some x0 ∧ w.cell? ⟨b, 1, none⟩ = some x1 ∧ w.cell? ⟨b, 2, none⟩ = some x2 ∧ w.cell? ⟨b, 3, none⟩ = some x3 ∧ w.cell? ⟨b, 4, none⟩ = some x4 ∧ w.cell? ⟨b, 5, none⟩ = some x5 ∧ w.cell? ⟨b, 6, none⟩ = some x6 ∧ w.cell? ⟨b, 7, none⟩ = some x7 ∧ w.cell? ⟨b, 8, none⟩ = some x8 :=
  ⟨h.cell 0 rfl, h.cell 1 rfl, h.cell 2 rfl, h.cell 3 rfl, h.cell 4 rfl, h.cell 5 rfl, h.cell 6 rfl, h.cell 7 rfl, h.cell 8 rfl⟩

/-- The list with vs laid over it from o on. -/
def lay (l : List Value) (o : Nat) (vs : List Value) : List Value := l.take o ++ vs ++ l.drop (o + vs.length)
theorem lay_length (l : List Value) (o : Nat) (vs : List Value) (h : o + vs.length ≤ l.length) : (lay l o vs).length = l.length := by
  simp [lay]; omega
theorem lay_cons (l : List Value) (o : Nat) (v : Value) (r : List Value) (h : o + (r.length + 1) ≤ l.length) : lay (l.set o v) (o + 1) r = lay l o (v :: r) := by
  have := list_seg_step l o v r h
  simp only [lay, List.length_cons]
  exact this

theorem Blk.sets {b : Nat} {T : TypeId} : ∀ (vs : List Value) (o : Nat) {w : World} {l : List Value}, o + vs.length ≤ l.length → Blk w b l.toArray T → Blk (w.setCells b o vs) b (lay l o vs).toArray T
  | [], o, w, l, _, h => by simpa [lay, World.setCells] using h
  | v :: r, o, w, l, hl, h => by
    rw [World.setCells, ← lay_cons l o v r (by simpa using hl)]
    refine Blk.sets r (o + 1) (by simp at hl ⊢; omega) ?_
    have := h.set o v
    simpa using this

theorem Blk.range {w : World} {b : Nat} {l : List Value} {T : TypeId} (h : Blk w b l.toArray T) (o n : Nat) : w.rangeAt b o ((l.drop o).take n) := by
  intro j v hv
  refine h.cell _ ?_
  rw [List.getElem?_take] at hv
  split at hv
  · simpa [List.getElem?_drop] using hv
  · cases hv
theorem Blk.there {w : World} {b : Nat} {l : List Value} {T : TypeId} (h : Blk w b l.toArray T) (o n : Nat) (hn : o + n ≤ l.length) : w.there b o n := by
  intro j hj
  refine ⟨?_, h.thaw _⟩
  rw [h.cell (o + j) (v := l[o + j]) (by simp [List.getElem?_eq_getElem (show o + j < l.length by omega)])]
  rfl

/-- A byte as a cell; a row of bytes. -/
def bv (b : UInt8) : Value := .int .u8 b.toNat
def bvs (l : List UInt8) : List Value := l.map bv
@[simp] theorem bvs_length (l : List UInt8) : (bvs l).length = l.length := by simp [bvs]
theorem bv_nat (n : Nat) : Value.int .u8 ((n : Int) % 256) = bv (UInt8.ofNat n) := by
  simp only [bv, Value.int.injEq, true_and, UInt8.toNat_ofNat']
  omega
theorem bvs_one (l : List UInt8) : ∀ v ∈ bvs l, v.oneCell' = true := by
  intro v hv
  obtain ⟨b, _, rfl⟩ := List.mem_map.1 hv
  rfl
theorem bvs_all (l : List UInt8) : (bvs l).toArray.all (·.oneCell') = true := all_oneCell_toArray (bvs_one l)
theorem bvs_append (l m : List UInt8) : bvs (l ++ m) = bvs l ++ bvs m := by simp [bvs]
theorem bvs_inj {l m : List UInt8} (h : bvs l = bvs m) : l = m := by
  refine List.map_inj_right (f := bv) ?_ |>.1 h
  intro x y hxy
  simp only [bv, Value.int.injEq, true_and, Int.natCast_inj] at hxy
  exact UInt8.toNat_inj.1 hxy


theorem size_setCells (b : Nat) : ∀ (vs : List Value) (o : Nat) (w : World), (w.setCells b o vs).heap.size = w.heap.size
  | [], _, _ => rfl
  | v :: r, o, w => by rw [World.setCells, size_setCells b r (o + 1)]; simp [World.setCell]
theorem Blk.all {w : World} {b : Nat} {l : List Value} {T : TypeId} (h : Blk w b l.toArray T) : w.rangeAt b 0 l := by
  have := h.range 0 l.length
  simpa using this

theorem results_cell_tmp {P : Program} {fn : Func} {p t : Tmp} {ty : TypeId} (h : fn.results = #[.cell p ty, .tmp t]) (tmps : Array Value) (w : World) (b : Nat) (cs : List Value) (d : TypeDesc)
    (hp : tmps.getD p undef = .pointer (some ⟨b, 0, none⟩)) (hc : w.rangeAt b 0 cs) (hu : P.underlying ty = some d) (hd : d.isRow = true) (hi : (P.info? ty).map (·.size) = some cs.length) :
    (results fn tmps).run P w = .ok (.tuple #[.agg cs.toArray, tmps.getD t undef]) w := by
  have hp' : tmps[p]?.getD undef = .pointer (some ⟨b, 0, none⟩) := by simpa using hp
  simp [results, h, hp', asAddr, run_loadVar_mid w b 0 ty cs d hc hu hd hi]
theorem results_cell {P : Program} {fn : Func} {p : Tmp} {ty : TypeId} (h : fn.results = #[.cell p ty]) (tmps : Array Value) (w : World) (b : Nat) (cs : List Value) (d : TypeDesc)
    (hp : tmps.getD p undef = .pointer (some ⟨b, 0, none⟩)) (hc : w.rangeAt b 0 cs) (hu : P.underlying ty = some d) (hd : d.isRow = true) (hi : (P.info? ty).map (·.size) = some cs.length) :
    (results fn tmps).run P w = .ok (.agg cs.toArray) w := by
  have hp' : tmps[p]?.getD undef = .pointer (some ⟨b, 0, none⟩) := by simpa using hp
  simp [results, h, hp', asAddr, run_loadVar_mid w b 0 ty cs d hc hu hd hi]

/-! ### A whole array or struct read in a region that draws its order -/
section
variable {P : Program} {ops : Array Oper} {rest : List Oper} {o : Oper} {a : Act} {w : World}
theorem wpStill_value {Q : Act → Prop} (hg : o.guard = none) {v : Value} (hrun : (execOp a.eval o).run P w = .ok (.value v) w) (h : wpStill P ops w Q rest (a.put o.dst v)) : wpStill P ops w Q (o :: rest) a := by
  refine wpStill_step fun K hK => ?_
  simp only [Region.wanted, hg, if_true]
  unfold Oper.still
  rw [hrun]
  exact ⟨rfl, hK _ h⟩
theorem run_load_exec (ty : TypeId) (x : Operand) (ho : o.op = .load ty x) (b off : Nat) (hx : a.eval x = .pointer (some ⟨b, off, none⟩)) (cs : List Value) (d : TypeDesc) (hc : w.rangeAt b off cs)
    (hu : P.underlying ty = some d) (hd : d.isRow = true) (hi : (P.info? ty).map (·.size) = some cs.length) : (execOp a.eval o).run P w = .ok (.value (.agg cs.toArray)) w := by
  unfold execOp
  simp only [ho, hx, Instr.loadAt, Instr.sureAddr, Sem.run_bind, Sem.run_pure, Result.andThen_ok, run_loadVar_mid w b off ty cs d hc hu hd hi]
theorem wpStill_load {Q : Act → Prop} (hg : o.guard = none) (ty : TypeId) (x : Operand) (ho : o.op = .load ty x) (b off : Nat) (hx : a.eval x = .pointer (some ⟨b, off, none⟩)) (cs : List Value) (d : TypeDesc) (hc : w.rangeAt b off cs)
    (hu : P.underlying ty = some d) (hd : d.isRow = true) (hi : (P.info? ty).map (·.size) = some cs.length) (h : wpStill P ops w Q rest (a.put o.dst (.agg cs.toArray))) : wpStill P ops w Q (o :: rest) a :=
  wpStill_value hg (run_load_exec ty x ho b off hx cs d hc hu hd hi) h
theorem run_alloc_exec (T : TypeId) (ho : o.op = .alloc T) (z : Value) (hz : (zeroValue T).run P w = .ok z w) : (execOp a.eval o).run P w = .ok (.value (.pointer (some ⟨w.heap.size, 0, none⟩))) (w.alloc (.cells z.cells T)) := by
  unfold execOp
  simp only [ho, Instr.alloc, Sem.run_bind, hz, Result.andThen_ok]
  rfl
theorem wpList_one {Q : Exit → Act → World → Prop} {w' : World} (hg : o.guard = none) {v : Value} (hrun : (execOp a.eval o).run P w = .ok (.value v) w') (h : wpList P ops Q rest (a.put o.dst v) w') : wpList P ops Q (o :: rest) a w := by
  refine wpList_plain hg fun K hK => ?_
  unfold Oper.wp
  rw [hrun]
  exact hK _ _ h
/-- A new variable of an array's or a struct's type: its zero value, whatever its cells. -/
theorem wpList_alloc {Q : Exit → Act → World → Prop} (hg : o.guard = none) (T : TypeId) (ho : o.op = .alloc T) (zs : List Value) (hz : ∀ w, (zeroValue T).run P w = .ok (.agg zs.toArray) w)
    (h : ∀ w', Turn [] w w' → Blk w' w.heap.size zs.toArray T → w.heap.size < w'.heap.size → wpList P ops Q rest (a.put o.dst (.pointer (some ⟨w.heap.size, 0, none⟩))) w') : wpList P ops Q (o :: rest) a w :=
  wpList_one hg (run_alloc_exec T ho _ (hz w)) (h _ ((Turn.refl _ _).alloc _) (Blk.new _ _ _) (by simp))
/-- A value of many cells into a variable of its own, or into the middle of a block. -/
theorem wpList_storeA {Q : Exit → Act → World → Prop} (hg : o.guard = none) (T : TypeId) (x y : Operand) (ho : o.op = .store T x y) (b off : Nat) (vs : List Value) (hx : a.eval x = .pointer (some ⟨b, off, none⟩)) (hy : a.eval y = .agg vs.toArray)
    (l : List Value) (U : TypeId) (hB : Blk w b l.toArray U) (hl : off + vs.length ≤ l.length) (hi : (P.info? T).map (·.size) = some vs.length) (h1 : ∀ v ∈ vs, v.oneCell' = true)
    (h : ∀ w', Turn [b] w w' → Blk w' b (lay l off vs).toArray U → w.heap.size ≤ w'.heap.size → wpList P ops Q rest (a.put o.dst undef) w') : wpList P ops Q (o :: rest) a w := by
  refine wpList_store_mid hg T x y ho b off vs.toArray hx hy (by simpa using hB.there off vs.length hl) (by simpa using hi) (all_oneCell_toArray h1) ?_
  have := h (w.setCells b off vs) (Turn.setCells (by simp) vs off (Turn.refl _ _)) (Blk.sets vs off hl hB) (Nat.le_of_eq (size_setCells b vs off w).symm)
  simpa using this
theorem lay_all (l vs : List Value) (h : l.length = vs.length) : lay l 0 vs = vs := by simp [lay, h]
/-- .. over a whole block. -/
theorem wpList_storeW {Q : Exit → Act → World → Prop} (hg : o.guard = none) (T : TypeId) (x y : Operand) (ho : o.op = .store T x y) (b : Nat) (vs : List Value) (hx : a.eval x = .pointer (some ⟨b, 0, none⟩)) (hy : a.eval y = .agg vs.toArray)
    (l : List Value) (U : TypeId) (hB : Blk w b l.toArray U) (hl : l.length = vs.length) (hi : (P.info? T).map (·.size) = some vs.length) (h1 : ∀ v ∈ vs, v.oneCell' = true)
    (h : ∀ w', Turn [b] w w' → Blk w' b vs.toArray U → w.heap.size ≤ w'.heap.size → wpList P ops Q rest (a.put o.dst undef) w') : wpList P ops Q (o :: rest) a w :=
  wpList_storeA hg T x y ho b 0 vs hx hy l U hB (by omega) hi h1 (fun w' h1 h2 h3 => h w' h1 (by rw [lay_all l vs hl] at h2; exact h2) h3)
/-- A variable of many cells is read. -/
theorem wpList_loadA {Q : Exit → Act → World → Prop} (hg : o.guard = none) (ty : TypeId) (x : Operand) (ho : o.op = .load ty x) (b off : Nat) (hx : a.eval x = .pointer (some ⟨b, off, none⟩)) (cs : List Value) (d : TypeDesc) (hc : w.rangeAt b off cs)
    (hu : P.underlying ty = some d) (hd : d.isRow = true) (hi : (P.info? ty).map (·.size) = some cs.length) (h : wpList P ops Q rest (a.put o.dst (.agg cs.toArray)) w) : wpList P ops Q (o :: rest) a w :=
  wpList_load_mid hg ty x ho b off hx cs d hc hu hd hi h
theorem madeCells_one (z : Value) (n : Nat) : madeCells #[z] n = (List.replicate n z).toArray := by
  apply Array.ext
  · simp [madeCells]
  · intro i h1 h2
    simp [madeCells, Nat.mod_one]
theorem madeCells_many (zs : List Value) (hz : zs ≠ []) (n : Nat) : madeCells zs.toArray (n * zs.length) = (List.replicate n zs).flatten.toArray := by
  have hlen : ∀ n, (List.replicate n zs).flatten.length = n * zs.length := fun n => by simp
  have hget : ∀ (n i : Nat), i < n * zs.length → (List.replicate n zs).flatten[i]? = zs[i % zs.length]? := by
    intro n
    induction n with
    | zero => intro i h; simp at h
    | succ n ih =>
      intro i h
      rw [List.replicate_succ, List.flatten_cons]
      by_cases hi : i < zs.length
      · rw [List.getElem?_append_left hi, Nat.mod_eq_of_lt hi]
      · rw [List.getElem?_append_right (by omega), ih (i - zs.length) (by rw [Nat.succ_mul] at h; omega), ← Nat.mod_eq_sub_mod (by omega)]
  have hpos : 0 < zs.length := List.length_pos_iff.2 hz
  apply Array.ext
  · rw [size_madeCells, List.size_toArray, hlen]
  · intro i h1 h2
    have hi : i < n * zs.length := by rw [size_madeCells] at h1; exact h1
    have h3 := hget n i hi
    have hm : i % zs.length < zs.length := Nat.mod_lt _ hpos
    rw [List.getElem?_eq_getElem (by rw [hlen]; exact hi), List.getElem?_eq_getElem hm] at h3
    simp only [madeCells, Array.getElem_map, Array.getElem_range, List.size_toArray, List.getElem_toArray]
    rw [getElem!_pos _ _ (by simpa using hm)]
    simpa using (Option.some.inj h3).symm
/-- 'make([]T, n)', T of one cell. -/
theorem wpList_make1 {Q : Exit → Act → World → Prop} (hg : o.guard = none) (T : TypeId) (x y : Operand) (ho : o.op = .makeSlice T x y) (E : TypeId) (z : Value) (bytes : Nat) (hT : P.underlying T = some (.slice E))
    (hI : (P.info? E).map (fun i => (i.zero, i.size, i.bytes)) = some (some z, 1, bytes)) (hz : z.cells = #[z]) (n : Nat) (hx : a.eval x = .int .i64 n) (hy : a.eval y = .int .i64 n) (hb : bytes * n ≤ 281474976710656) (h63 : n ≤ 9223372036854775807)
    (h : ∀ w', Turn [] w w' → Blk w' w.heap.size (List.replicate n z).toArray E → w.heap.size < w'.heap.size → wpList P ops Q rest (a.put o.dst (.slice (some ⟨w.heap.size, 0, none⟩) n n)) w') : wpList P ops Q (o :: rest) a w := by
  obtain ⟨i, hi, hi1, hi2, hi3⟩ := info_parts hI
  have hbb : (i.bytes : Int) * (n : Int) ≤ 281474976710656 := by
    have hq : ((bytes * n : Nat) : Int) ≤ 281474976710656 := by omega
    rw [hi3]
    rwa [Int.natCast_mul] at hq
  have hr := run_make (P := P) w T E i z hT hi hi1 .i64 .i64 n n (by omega) (by omega) hbb (by omega)
  simp only [Int.toNat_natCast, hi2, Nat.mul_one, hz, madeCells_one] at hr
  refine wpList_one hg (v := .slice (some ⟨w.heap.size, 0, none⟩) n n) ?_ (h _ ((Turn.refl _ _).alloc _) (Blk.new _ _ _) (alloc_lt _ _))
  unfold execOp
  simp only [ho, hx, hy, Sem.run_bind, hr, Result.andThen_ok, Sem.run_pure]
/-- .., T an array or a struct. -/
theorem wpList_makeA {Q : Exit → Act → World → Prop} (hg : o.guard = none) (T : TypeId) (x y : Operand) (ho : o.op = .makeSlice T x y) (E : TypeId) (zs : List Value) (size bytes : Nat) (hT : P.underlying T = some (.slice E))
    (hI : (P.info? E).map (fun i => (i.zero, i.size, i.bytes)) = some (some (.agg zs.toArray), size, bytes)) (hz : zs ≠ []) (hsz : zs.length = size) (n : Nat) (hx : a.eval x = .int .i64 n) (hy : a.eval y = .int .i64 n) (hb : bytes * n ≤ 281474976710656) (h63 : n ≤ 9223372036854775807)
    (h : ∀ w', Turn [] w w' → Blk w' w.heap.size (List.replicate n zs).flatten.toArray E → w.heap.size < w'.heap.size → wpList P ops Q rest (a.put o.dst (.slice (some ⟨w.heap.size, 0, none⟩) n n)) w') : wpList P ops Q (o :: rest) a w := by
  obtain ⟨i, hi, hi1, hi2, hi3⟩ := info_parts hI
  have hbb : (i.bytes : Int) * (n : Int) ≤ 281474976710656 := by
    have hq : ((bytes * n : Nat) : Int) ≤ 281474976710656 := by omega
    rw [hi3]
    rwa [Int.natCast_mul] at hq
  have hr := run_make (P := P) w T E i (.agg zs.toArray) hT hi hi1 .i64 .i64 n n (by omega) (by omega) hbb (by omega)
  simp only [Int.toNat_natCast, hi2, ← hsz] at hr
  rw [show (Value.agg zs.toArray).cells = zs.toArray from rfl, madeCells_many zs hz] at hr
  refine wpList_one hg (v := .slice (some ⟨w.heap.size, 0, none⟩) n n) ?_ (h _ ((Turn.refl _ _).alloc _) (Blk.new _ _ _) (alloc_lt _ _))
  unfold execOp
  simp only [ho, hx, hy, Sem.run_bind, hr, Result.andThen_ok, Sem.run_pure]
theorem wpQuiet_value {C : World → Prop} {Q : Act → Prop} (hg : o.guard = none) {v : Value} (hrun : ∀ w, C w → (execOp a.eval o).run P w = .ok (.value v) w) (h : wpQuiet P ops C Q rest (a.put o.dst v)) : wpQuiet P ops C Q (o :: rest) a := by
  refine wpQuiet_step fun K hK => ?_
  simp only [Region.wanted, hg, if_true]
  exact ⟨v, fun w hw => by unfold Oper.quietAt; rw [hrun w hw]; exact ⟨rfl, rfl⟩, hK _ h⟩
theorem wpQuiet_load {Q : Act → Prop} (hg : o.guard = none) (ty : TypeId) (x : Operand) (ho : o.op = .load ty x) (b off : Nat) (hx : a.eval x = .pointer (some ⟨b, off, none⟩)) (cs : List Value) (d : TypeDesc) (hc : w.rangeAt b off cs)
    (hu : P.underlying ty = some d) (hd : d.isRow = true) (hi : (P.info? ty).map (·.size) = some cs.length) (h : wpQuiet P ops (fun w' => ∃ n, w' = w.drewN n) Q rest (a.put o.dst (.agg cs.toArray))) : wpQuiet P ops (fun w' => ∃ n, w' = w.drewN n) Q (o :: rest) a :=
  wpQuiet_value hg (fun w' hw => by obtain ⟨n, rfl⟩ := hw; exact run_load_exec ty x ho b off hx cs d hc hu hd hi) h
end

end Go.Proofs.Ytkifggnjpgoamaa
