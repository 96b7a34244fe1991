/- Laws on maps keyed by int, whatever the elements: what a map holds ('IMap'), and the operations on it as the walk meets them. -/
import Derived.Test.YtkifggnjpgoamaaBase
import Derived.Maps.RangeWalk
namespace Go.Proofs.Ytkifggnjpgoamaa
open Go.RowKit

/-- What a map of such entries holds at k. -/
def mget (m : List (Int × Value)) (k : Int) : Option Value := (m.find? (fun p => p.1 == k)).map (·.2)
/-- The entries with v at k. -/
def mput (m : List (Int × Value)) (k : Int) (v : Value) : List (Int × Value) :=
  if m.any (fun p => p.1 == k) then m.map (fun p => if p.1 == k then (k, v) else p) else m ++ [(k, v)]

def pairOf (e : MapEntry) : Value × Value := (e.key, e.val)
def valsOf (p : Int × Value) : Value × Value := (.int .i64 p.1, p.2)

/-- Block b holds a map whose entries are m, in the order in which they were laid. -/
def IMap (w : World) (b : Nat) (m : List (Int × Value)) : Prop :=
  ∃ es clock, w.heap[b]? = some (.map es clock) ∧ es.toList.map pairOf = m.map valsOf ∧
    (∀ x ∈ es.toList, x.born < clock) ∧ (es.toList.map (·.born)).Nodup ∧ (m.map (·.1)).Nodup

theorem IMap.lt {w : World} {b : Nat} {m : List (Int × Value)} (h : IMap w b m) : b < w.heap.size := by
  obtain ⟨es, clock, hb, _⟩ := h; exact (Array.getElem?_eq_some_iff.1 hb).1
theorem IMap.of_block {w w' : World} {b : Nat} {m : List (Int × Value)} (h : IMap w b m) (hb : w'.heap[b]? = w.heap[b]?) : IMap w' b m := by
  obtain ⟨es, clock, h1, h2⟩ := h; exact ⟨es, clock, hb.trans h1, h2⟩
theorem IMap.turn {w w' : World} {b : Nat} {m : List (Int × Value)} {S : List Nat} (h : IMap w b m) (k : Turn S w w') (hn : b ∉ S) : IMap w' b m := h.of_block (k.block b h.lt hn)
theorem IMap.alloc {w : World} {b : Nat} {m : List (Int × Value)} (h : IMap w b m) (o : Obj) : IMap (w.alloc o) b m := h.of_block (Below.heap_alloc w o b h.lt)
theorem IMap.new (w : World) : IMap (w.alloc (.map #[] 0)) w.heap.size [] := ⟨#[], 0, heap_alloc_new w _, rfl, by simp, by simp, by simp⟩
theorem IMap.setOther {w : World} {b : Nat} {m : List (Int × Value)} (h : IMap w b m) (p : Addr) (v : Value) (hn : b ≠ p.block) : IMap (w.setCell p v) b m := h.of_block (heap_setCell_other w p b v hn)
theorem IMap.setsOther {b b' : Nat} {m : List (Int × Value)} (hn : b ≠ b') : ∀ (vs : List Value) (o : Nat) {w : World}, IMap w b m → IMap (w.setCells b' o vs) b m
  | [], _, _, h => h
  | v :: r, o, w, h => by rw [World.setCells]; exact IMap.setsOther hn r (o + 1) (h.setOther ⟨b', o, none⟩ v hn)

theorem find_now (k : Int) : ∀ (es : List MapEntry) (m : List (Int × Value)) (i : Nat), es.map pairOf = m.map valsOf →
    Instr.findNow (.int .i64) (.int .i64 k) es i = some ((m.findIdx? (fun p => p.1 == k)).map fun j => (i + j, ((m[j]?).map (·.2)).getD (.bool false)))
  | [], [], i, _ => rfl
  | [], _ :: _, _, h => by cases h
  | _ :: _, [], _, h => by cases h
  | e :: es, p :: m, i, h => by
    simp only [List.map_cons, List.cons.injEq, pairOf, valsOf, Prod.mk.injEq] at h
    obtain ⟨⟨hk, hv⟩, h⟩ := h
    simp only [Instr.findNow, hk, Instr.sameNow, if_true, List.findIdx?_cons]
    by_cases hp : p.1 = k
    · simp [hp, hv]
    · have h1 : (k == p.1) = false := by simpa using fun e => hp e.symm
      have h2 : (p.1 == k) = false := by simpa using hp
      simp only [h1, h2, Bool.false_eq_true, if_false]
      rw [find_now k es m (i + 1) h]
      cases m.findIdx? (fun p => p.1 == k) with
      | none => rfl
      | some j => simp [Nat.add_assoc, Nat.add_comm 1 j]

theorem mget_idx (m : List (Int × Value)) (k : Int) : mget m k = (m.findIdx? (fun p => p.1 == k)).bind fun j => (m[j]?).map (·.2) := by
  unfold mget
  induction m with
  | nil => rfl
  | cons p m ih =>
    simp only [List.find?_cons, List.findIdx?_cons]
    by_cases hp : (p.1 == k) = true
    · simp [hp]
    · simp only [Bool.not_eq_true] at hp
      simp only [hp, Bool.false_eq_true, if_false]
      rw [ih]
      cases m.findIdx? (fun p => p.1 == k) with
      | none => rfl
      | some j => simp

theorem isKey_int {k : Int} : MapKept.IsKey (.int .i64) (.int .i64 k) := by simp [MapKept.IsKey]

section
variable {P : Program} {T K E : TypeId}
theorem IMap.run_lookup {w : World} {b : Nat} {m : List (Int × Value)} (h : IMap w b m) (hT : P.underlying T = some (.map K E)) (hK : P.underlying K = some (.int .i64)) {z : Value} (hz : (zeroValue E).run P w = .ok z w) (k : Int) (ok : Bool) :
    (Instr.lookup T (.map (some b)) (.int .i64 k) ok).run P w = .ok (if ok then .tuple #[(mget m k).getD z, .bool (mget m k).isSome] else (mget m k).getD z) w := by
  obtain ⟨es, clock, hb, hes, _⟩ := h
  have hf := MapKept.run_findKey (P := P) (w := w) hK (find_now k es.toList m 0 hes)
  have hg := MapKept.run_getObj_map (P := P) hb
  have hc := MapKept.run_checkKey (P := P) (w := w) hK (isKey_int (k := k)) es.isEmpty 9999
  unfold Instr.lookup
  simp only [Sem.run_bind, run_underlying hT, Result.andThen_ok, Sem.run_pure, hg, hc, hf]
  rw [mget_idx]
  cases hx : m.findIdx? (fun p => p.1 == k) with
  | none => cases ok <;> simp [hz]
  | some j =>
    obtain ⟨hj, _⟩ := List.findIdx?_eq_some_iff_getElem.1 hx
    cases ok <;> simp [hj]

theorem sameBits_int (n : Nat) (a : Int) : Instr.sameBits n (.int .i64 a) (.int .i64 a) = true := by
  cases n <;> simp [Instr.sameBits]

theorem any_idx (m : List (Int × Value)) (k : Int) : (m.any fun p => p.1 == k) = (m.findIdx? (fun p => p.1 == k)).isSome := by
  rw [List.findIdx?_isSome]

theorem map_modify (k : Int) (v : Value) : ∀ (es : List MapEntry) (m : List (Int × Value)) (j : Nat), es.map pairOf = m.map valsOf → (m.map (·.1)).Nodup → m.findIdx? (fun p => p.1 == k) = some j →
    (es.modify j fun e => { e with key := .int .i64 k, val := v }).map pairOf = (m.map fun p => if p.1 == k then (k, v) else p).map valsOf
  | [], [], _, _, _, h => by simp at h
  | [], _ :: _, _, h, _, _ => by cases h
  | _ :: _, [], _, h, _, _ => by cases h
  | e :: es, p :: m, j, h, hnd, hj => by
    simp only [List.map_cons, List.cons.injEq] at h
    obtain ⟨hp, h⟩ := h
    rw [List.findIdx?_cons] at hj
    simp only [List.map_cons, List.nodup_cons] at hnd
    by_cases hk : (p.1 == k) = true
    · simp only [hk, if_true, Option.some.injEq] at hj
      subst hj
      have hk' : p.1 = k := by simpa using hk
      have : (m.map fun p => if p.1 == k then (k, v) else p) = m := by
        rw [List.map_congr_left (g := id), List.map_id]
        intro q hq
        have : q.1 ≠ k := fun e => hnd.1 (by rw [hk', ← e]; exact List.mem_map_of_mem hq)
        simp [this]
      rw [List.map_cons, this, if_pos hk]
      simp only [List.modify_zero_cons, List.map_cons, h]
      rfl
    · simp only [Bool.not_eq_true] at hk
      simp only [hk, Bool.false_eq_true, if_false, Option.map_eq_some_iff] at hj
      obtain ⟨i, hi, rfl⟩ := hj
      have ih := map_modify k v es m i h hnd.2 hi
      rw [show (e :: es).modify (i + 1) (fun e => { e with key := .int .i64 k, val := v }) = e :: es.modify i (fun e => { e with key := .int .i64 k, val := v }) from by simp [List.modify]]
      simp only [List.map_cons, hk, Bool.false_eq_true, if_false, hp, ih]

theorem keys_mput (m : List (Int × Value)) (k : Int) (v : Value) (h : (m.map (·.1)).Nodup) : ((mput m k v).map (·.1)).Nodup := by
  unfold mput
  split
  · rw [List.map_map, List.map_congr_left (g := (·.1))]
    · exact h
    · intro p _
      by_cases hp : p.1 = k <;> simp [hp]
  · rename_i hn
    rw [List.map_append, List.nodup_append]
    refine ⟨h, by simp, ?_⟩
    intro a ha b hb e
    simp only [List.map_cons, List.map_nil, List.mem_singleton] at hb
    obtain ⟨p, hp, rfl⟩ := List.mem_map.1 ha
    exact hn (List.any_eq_true.2 ⟨p, hp, by simp [e, hb]⟩)

theorem IMap.run_update {w : World} {b : Nat} {m : List (Int × Value)} (h : IMap w b m) (hT : P.underlying T = some (.map K E)) (hK : P.underlying K = some (.int .i64)) (k : Int) (v : Value) :
    ∃ w', (Instr.mapUpdate T (.map (some b)) (.int .i64 k) v).run P w = .ok () w' ∧ IMap w' b (mput m k v) ∧ Turn [b] w w' := by
  obtain ⟨es, clock, hb, hes, h1, h2, h3⟩ := h
  have hf := MapKept.run_findKey (P := P) (w := w) hK (find_now k es.toList m 0 hes)
  have hg := MapKept.run_getObj_map (P := P) hb
  have hc := MapKept.run_checkKey (P := P) (w := w) hK (isKey_int (k := k)) false 9999
  have turn : ∀ o : Obj, Turn [b] w { w with heap := w.heap.setIfInBounds b o } := fun o =>
    ⟨rfl, rfl, rfl, by simp, fun i hi hn => (MapKept.heap_set hb).2 i (by simpa using hn)⟩
  cases hx : m.findIdx? (fun p => p.1 == k) with
  | none =>
    have hany : (m.any fun p => p.1 == k) = false := by rw [any_idx, hx]; rfl
    refine ⟨_, by
      unfold Instr.mapUpdate
      simp only [Sem.run_bind, run_underlying hT, Result.andThen_ok, hg, hc, hf, hx, Option.map_none, MapKept.run_setObj_map _ hb], ⟨es.push { key := .int .i64 k, val := v, born := clock }, clock + 1, (MapKept.heap_set hb).1, ?_, ?_, ?_, keys_mput m k v h3⟩, turn _⟩
    · simp [mput, hany, hes, pairOf, valsOf]
    · intro x hx
      simp only [Array.toList_push, List.mem_append, List.mem_singleton] at hx
      rcases hx with hx | rfl
      · exact Nat.lt_succ_of_lt (h1 x hx)
      · exact Nat.lt_succ_self _
    · simp only [Array.toList_push, List.map_append, List.map_cons, List.map_nil, List.nodup_append]
      refine ⟨h2, by simp, ?_⟩
      intro a ha c hc e
      simp only [List.mem_singleton] at hc
      obtain ⟨x, hx, rfl⟩ := List.mem_map.1 ha
      have := h1 x hx
      omega
  | some j =>
    have hany : (m.any fun p => p.1 == k) = true := by rw [any_idx, hx]; rfl
    obtain ⟨hj, hjk, _⟩ := List.findIdx?_eq_some_iff_getElem.1 hx
    have hsz : es.toList.length = m.length := by simpa using congrArg List.length hes
    have hjs : j < es.size := by simp at hsz; omega
    have hkey : (es[j]).key = .int .i64 k := by
      have := congrArg (fun l => l[j]?) hes
      simp only [List.getElem?_map, Array.getElem?_toList, Array.getElem?_eq_getElem hjs, List.getElem?_eq_getElem hj, Option.map_some, Option.some.injEq, pairOf, valsOf, Prod.mk.injEq] at this
      rw [this.1]
      simpa using hjk
    have hgx : (getObj b).run P w = .ok (.map es clock) w := hg
    have hstay : (Instr.keyThatStays (.int .i64 k) (.int .i64 k)).run P w = .ok (.int .i64 k) w := by
      unfold Instr.keyThatStays
      rw [sameBits_int]
      rfl
    refine ⟨_, by
      unfold Instr.mapUpdate
      simp only [Sem.run_bind, run_underlying hT, Result.andThen_ok, hg, hc, hf, hx, Option.map_some, Nat.zero_add, Array.getElem?_eq_getElem hjs, hkey, Option.getD_some, hstay, MapKept.run_setObj_map _ hb], ⟨es.modify j fun e => { e with key := .int .i64 k, val := v }, clock, (MapKept.heap_set hb).1, ?_, ?_, ?_, keys_mput m k v h3⟩, turn _⟩
    · rw [Array.toList_modify, map_modify k v es.toList m j hes h3 hx]
      simp [mput, hany]
    · intro x hx
      rw [Array.toList_modify] at hx
      obtain ⟨i, hi, rfl⟩ := List.mem_iff_getElem.1 hx
      rw [List.getElem_modify]
      rw [List.length_modify] at hi
      have hh := h1 _ (List.getElem_mem hi)
      split <;> exact hh
    · rw [Array.toList_modify]
      have : (es.toList.modify j fun e => { e with key := .int .i64 k, val := v }).map (·.born) = es.toList.map (·.born) := by
        apply List.ext_getElem?
        intro i
        simp only [List.getElem?_map, List.getElem?_modify]
        cases es.toList[i]? with
        | none => rfl
        | some x => by_cases hij : j = i <;> simp [hij]
      rw [this]
      exact h2

/-- One operation of the list, by what it comes to. -/
theorem wpList_run {ops : Array Oper} {rest : List Oper} {o : Oper} {a : Act} {w w' : World} {Q : Exit → Act → World → Prop} (hg : o.guard = none) {v : Value} (hrun : (execOp a.eval o).run P w = .ok (.value v) w')
    (h : wpList P ops Q rest (a.put o.dst v) w') : wpList P ops Q (o :: rest) a w := by
  refine wpList_plain hg fun K hK => ?_
  unfold Oper.wp
  rw [hrun]
  exact hK _ _ h

/-- 'm[k] = v' at the operation. -/
theorem wpList_mput {ops : Array Oper} {rest : List Oper} {o : Oper} {a : Act} {w : World} {Q : Exit → Act → World → Prop} (hg : o.guard = none) (T : TypeId) (x y z : Operand) (ho : o.op = .mapUpdate T x y z)
    (hT : P.underlying T = some (.map K E)) (hK : P.underlying K = some (.int .i64)) (b : Nat) (k : Int) (v : Value) (hx : a.eval x = .map (some b)) (hy : a.eval y = .int .i64 k) (hz : a.eval z = v)
    (m : List (Int × Value)) (hm : IMap w b m) (h : ∀ w', IMap w' b (mput m k v) → Turn [b] w w' → wpList P ops Q rest (a.put o.dst undef) w') : wpList P ops Q (o :: rest) a w := by
  refine wpList_plain hg fun K' hK' => ?_
  obtain ⟨w', hrun, r1, r2⟩ := hm.run_update (P := P) hT hK k v
  unfold Oper.wp
  simp [execOp, ho, hx, hy, hz, hrun, Result.andThen]
  exact hK' _ _ (h w' r1 r2)

/-- 'm[k]' at the operation. -/
theorem wpList_mget {ops : Array Oper} {rest : List Oper} {o : Oper} {a : Act} {w : World} {Q : Exit → Act → World → Prop} (hg : o.guard = none) (T : TypeId) (x y : Operand) (ok : Bool) (ho : o.op = .lookup T x y ok)
    (hT : P.underlying T = some (.map K E)) (hK : P.underlying K = some (.int .i64)) (z : Value) (hz : ∀ w, (zeroValue E).run P w = .ok z w) (b : Nat) (k : Int) (hx : a.eval x = .map (some b)) (hy : a.eval y = .int .i64 k)
    (m : List (Int × Value)) (hm : IMap w b m) (h : wpList P ops Q rest (a.put o.dst (if ok then .tuple #[(mget m k).getD z, .bool (mget m k).isSome] else (mget m k).getD z)) w) : wpList P ops Q (o :: rest) a w := by
  refine wpList_plain hg fun K' hK' => ?_
  have hrun := hm.run_lookup (P := P) hT hK (hz w) k ok
  unfold Oper.wp
  simp [execOp, ho, hx, hy, hrun, Result.andThen]
  exact hK' _ _ h

/-- 'clear(m)' at the operation. -/
theorem wpList_mclear {ops : Array Oper} {rest : List Oper} {o : Oper} {a : Act} {w : World} {Q : Exit → Act → World → Prop} (hg : o.guard = none) (T : TypeId) (x : Operand) (ho : o.op = .call { callee := .builtin .clear, args := #[x], argTypes := #[T] })
    (hT : P.underlying T = some (.map K E)) (b : Nat) (hx : a.eval x = .map (some b)) (m : List (Int × Value)) (hm : IMap w b m)
    (h : ∀ w', IMap w' b [] → Turn [b] w w' → wpList P ops Q rest (a.put o.dst (.tuple #[])) w') : wpList P ops Q (o :: rest) a w := by
  refine wpList_plain hg fun K' hK' => ?_
  obtain ⟨es, clock, hb, hes, h1, h2, h3⟩ := hm
  have hrun : (Builtin.clear_ #[T] o.type #[.map (some b)]).run P w = .ok (.tuple #[]) { w with heap := w.heap.setIfInBounds b (.map #[] clock) } := by
    simp [Builtin.clear_, run_underlying hT, MapKept.run_getObj_map hb, MapKept.run_setObj_map _ hb]
  unfold Oper.wp
  simp [execOp, ho, resolve, invoke, builtin, hx, hrun, Result.andThen]
  exact hK' _ _ (h _ ⟨#[], clock, (MapKept.heap_set hb).1, rfl, by simp, by simp, by simp⟩ ⟨rfl, rfl, rfl, by simp, fun i hi hn => (MapKept.heap_set hb).2 i (by simpa using hn)⟩)

/-! ### Ranging over a map that the body does not write -/
/-- Block r is an iterator over the map in block b: left is still to come; cur is what came last. -/
def IterAt (w : World) (r b : Nat) (left : List (Int × Value)) (cur : Option (Int × Value)) : Prop :=
  ∃ es clk since seen c0, w.heap[r]? = some (.mapIter (some b) since seen c0) ∧ w.heap[b]? = some (.map es clk) ∧ (∀ x ∈ es.toList, x.born < since) ∧ since ≤ c0 ∧ since ≤ clk ∧
    (es.toList.map (·.born)).Nodup ∧ (leftOf es seen).toList.map pairOf = left.map valsOf ∧
    (∀ c, cur = some c → ∃ e ∈ es.toList, pairOf e = valsOf c ∧ seen.back? = some e.born ∧ c0 = clk)

theorem IterAt.of_blocks {w w' : World} {r b : Nat} {left : List (Int × Value)} {cur : Option (Int × Value)} (h : IterAt w r b left cur) (h1 : w'.heap[r]? = w.heap[r]?) (h2 : w'.heap[b]? = w.heap[b]?) : IterAt w' r b left cur := by
  obtain ⟨es, clk, since, seen, c0, a1, a2, a3⟩ := h
  exact ⟨es, clk, since, seen, c0, h1.trans a1, h2.trans a2, a3⟩
theorem IterAt.lt {w : World} {r b : Nat} {left : List (Int × Value)} {cur : Option (Int × Value)} (h : IterAt w r b left cur) : r < w.heap.size ∧ b < w.heap.size := by
  obtain ⟨es, clk, since, seen, c0, a1, a2, a3⟩ := h
  exact ⟨(Array.getElem?_eq_some_iff.1 a1).1, (Array.getElem?_eq_some_iff.1 a2).1⟩
theorem IterAt.turn {w w' : World} {r b : Nat} {left : List (Int × Value)} {cur : Option (Int × Value)} {S : List Nat} (h : IterAt w r b left cur) (k : Turn S w w') (h1 : r ∉ S) (h2 : b ∉ S) : IterAt w' r b left cur :=
  h.of_blocks (k.block r h.lt.1 h1) (k.block b h.lt.2 h2)

theorem wpList_mrange {ops : Array Oper} {rest : List Oper} {o : Oper} {a : Act} {w : World} {Q : Exit → Act → World → Prop} (hg : o.guard = none) (T : TypeId) (x : Operand) (ho : o.op = .range T x)
    (hT : P.underlying T = some (.map K E)) (b : Nat) (hx : a.eval x = .map (some b)) (m : List (Int × Value)) (hm : IMap w b m)
    (h : ∀ w', Turn [] w w' → w.heap.size < w'.heap.size → IterAt w' w.heap.size b m none → wpList P ops Q rest (a.put o.dst (.pointer (some ⟨w.heap.size, 0, none⟩))) w') : wpList P ops Q (o :: rest) a w := by
  refine wpList_plain hg fun K' hK' => ?_
  have hlt := hm.lt
  obtain ⟨es, clock, hb, hes, h1, h2, h3⟩ := hm
  have hrun := run_range_map (P := P) w T K E b es clock hT hb
  unfold Oper.wp
  simp [execOp, ho, hx, hrun, Result.andThen]
  refine hK' _ _ (h _ ((Turn.refl _ _).alloc _) (by simp) ⟨es, clock, clock, #[], clock, heap_alloc_new w _, (Below.heap_alloc w _ b hlt).trans hb, h1, Nat.le_refl _, Nat.le_refl _, h2, ?_, fun c hc => by cases hc⟩)
  rw [show (leftOf es #[]).toList = es.toList from by simp only [leftOf, Array.toList_filter]; rw [List.filter_eq_self]; intro x _; simp]
  exact hes

theorem erase_born : ∀ (L : List MapEntry) (i : Nat) (hi : i < L.length), (L.map (·.born)).Nodup → L.filter (fun x => !(x.born == L[i].born)) = L.eraseIdx i
  | [], i, hi, _ => by simp at hi
  | e :: L, 0, _, hn => by
    simp only [List.map_cons, List.nodup_cons] at hn
    simp only [List.getElem_cons_zero, List.filter_cons, beq_self_eq_true, Bool.not_true, Bool.false_eq_true, if_false, List.eraseIdx_cons_zero]
    rw [List.filter_eq_self]
    intro x hx
    have : x.born ≠ e.born := fun he => hn.1 (he ▸ List.mem_map_of_mem hx)
    simpa using this
  | e :: L, i + 1, hi, hn => by
    simp only [List.map_cons, List.nodup_cons] at hn
    have hi' : i < L.length := by simpa using hi
    have ih := erase_born L i hi' hn.2
    have hne : ¬ e.born = L[i].born := fun he => hn.1 (he ▸ List.mem_map_of_mem (List.getElem_mem _))
    simp only [List.getElem_cons_succ, List.eraseIdx_cons_succ, List.filter_cons]
    rw [show (e.born == L[i].born) = false from by simpa using hne]
    simp only [Bool.not_false, if_true, ih]

theorem map_erase {α β : Type} (f : α → β) : ∀ (l : List α) (i : Nat), (l.eraseIdx i).map f = (l.map f).eraseIdx i
  | [], _ => rfl
  | _ :: _, 0 => rfl
  | a :: l, i + 1 => by simp [map_erase f l i]
theorem wpList_mnext {ops : Array Oper} {rest : List Oper} {o : Oper} {a : Act} {w : World} {Q : Exit → Act → World → Prop} (hg : o.guard = none) (x : Operand) (ho : o.op = .next x false)
    (r b : Nat) (hx : a.eval x = .pointer (some ⟨r, 0, none⟩)) (left : List (Int × Value)) (cur : Option (Int × Value)) (hI : IterAt w r b left cur)
    (h0 : left = [] → wpList P ops Q rest (a.put o.dst (.tuple #[.bool false])) w)
    (h1 : ∀ i (hi : i < left.length) w', Turn [r] w w' → w.heap.size ≤ w'.heap.size → IterAt w' r b (left.eraseIdx i) (some left[i]) → wpList P ops Q rest (a.put o.dst (.tuple #[.bool true, .int .i64 left[i].1, left[i].2])) w') : wpList P ops Q (o :: rest) a w := by
  refine wpList_plain hg fun K' hK' => ?_
  obtain ⟨es, clk, since, seen, c0, a1, a2, a3, a4, a5, a6, a7, a8⟩ := hI
  have hlen : (leftOf es seen).size = left.length := by simpa using congrArg List.length a7
  rcases run_next_at (P := P) w o.type r b since c0 seen es clk a1 a2 a3 a4 with ⟨hz, hrun⟩ | ⟨e, he, w1, hw1, hrun⟩
  · unfold Oper.wp
    simp [execOp, ho, hx, hrun, Result.andThen]
    exact hK' _ _ (h0 (List.eq_nil_of_length_eq_zero (by omega)))
  · obtain ⟨i, hi, rfl⟩ := List.mem_iff_getElem.1 he
    have hil : i < left.length := by rw [← hlen]; simpa using hi
    have hpair : pairOf (leftOf es seen).toList[i] = valsOf left[i] := by
      have := congrArg (fun l => l[i]?) a7
      simpa [List.getElem?_map, List.getElem?_eq_getElem hi, List.getElem?_eq_getElem hil] using this
    have hkey : (leftOf es seen).toList[i].key = .int .i64 left[i].1 := congrArg Prod.fst hpair
    have hval : (leftOf es seen).toList[i].val = left[i].2 := congrArg Prod.snd hpair
    have hmem : (leftOf es seen).toList[i] ∈ es.toList := by
      have hsub : ∀ y, y ∈ (leftOf es seen).toList → y ∈ es.toList := fun y hy => by
        simp only [leftOf, Array.toList_filter, List.mem_filter] at hy
        exact hy.1
      exact hsub _ (List.getElem_mem hi)
    have r1 : w1.heap = w.heap := by rcases hw1 with rfl | rfl <;> rfl
    have t1 : w1.os = w.os ∧ w1.tape = w.tape ∧ w1.output = w.output := by rcases hw1 with rfl | rfl <;> exact ⟨rfl, rfl, rfl⟩
    have hne : b ≠ r := fun e => by rw [e, a1] at a2; cases a2
    have hr' : r < w.heap.size := (Array.getElem?_eq_some_iff.1 a1).1
    rw [hkey, hval] at hrun
    unfold Oper.wp
    simp only [execOp, ho, hx, hrun, Sem.run_bind, Result.andThen_ok, Sem.run_pure]
    refine hK' _ _ (h1 i hil _ ⟨t1.1, t1.2.1, t1.2.2, by simp [ChangeMaps.setBlock, r1], fun j hj hn => by simp only [ChangeMaps.setBlock, r1]; rw [Array.getElem?_setIfInBounds_ne (fun e => hn (by simp [e]))]⟩ (by simp [ChangeMaps.setBlock, r1]) ?_)
    refine ⟨es, clk, since, seen.push (leftOf es seen).toList[i].born, clk, ?_, ?_, a3, a5, a5, a6, ?_, ?_⟩
    · simp [ChangeMaps.setBlock, r1, hr']
    · simp only [ChangeMaps.setBlock, r1]; rw [Array.getElem?_setIfInBounds_ne (Ne.symm hne)]; exact a2
    · have hnd : ((leftOf es seen).toList.map (·.born)).Nodup := by
        refine List.Nodup.sublist ?_ a6
        refine List.Sublist.map _ ?_
        simp only [leftOf, Array.toList_filter]
        exact List.filter_sublist
      have hf : (leftOf es (seen.push (leftOf es seen).toList[i].born)).toList = (leftOf es seen).toList.filter (fun x => !(x.born == (leftOf es seen).toList[i].born)) := by
        generalize (leftOf es seen).toList[i].born = bb
        simp only [leftOf, Array.toList_filter, List.filter_filter]
        refine List.filter_congr fun x _ => ?_
        by_cases hx : x.born = bb
        · simp [hx]
        · simp [hx]
      rw [hf, erase_born _ i hi hnd]
      have := congrArg (fun l => l.eraseIdx i) a7
      rw [map_erase, map_erase]; exact this
    · rintro c hc
      cases hc
      exact ⟨_, hmem, hpair, by simp, rfl⟩

theorem wpList_mentry {ops : Array Oper} {rest : List Oper} {o : Oper} {a : Act} {w : World} {Q : Exit → Act → World → Prop} (hg : o.guard = none) (x : Operand) (ho : o.op = .entry x)
    (r b : Nat) (hx : a.eval x = .pointer (some ⟨r, 0, none⟩)) (left : List (Int × Value)) (c : Int × Value) (hI : IterAt w r b left (some c))
    (h : wpList P ops Q rest (a.put o.dst (.tuple #[.int .i64 c.1, c.2])) w) : wpList P ops Q (o :: rest) a w := by
  refine wpList_plain hg fun K' hK' => ?_
  obtain ⟨es, clk, since, seen, c0, a1, a2, a3, a4, a5, a6, a7, a8⟩ := hI
  obtain ⟨e, he, hp, hs, rfl⟩ := a8 c rfl
  have hkey : e.key = .int .i64 c.1 := congrArg Prod.fst hp
  have hval : e.val = c.2 := congrArg Prod.snd hp
  have hseen : ∃ s' : Array Nat, seen = s'.push e.born := by
    have hne : seen.size ≠ 0 := fun h0 => by
      have : seen = #[] := Array.eq_empty_of_size_eq_zero h0
      subst this; simp at hs
    refine ⟨seen.pop, ?_⟩
    rw [Array.back?_eq_getElem?] at hs
    apply Array.ext_getElem?
    intro j
    rcases Nat.lt_trichotomy j (seen.size - 1) with hj | hj | hj
    · rw [Array.getElem?_push, if_neg (by simp; omega), Array.getElem?_pop]; simp [hj]
    · subst hj; rw [Array.getElem?_push, if_pos (by simp)]; exact hs
    · rw [Array.getElem?_eq_none (by omega), Array.getElem?_eq_none (by simp; omega)]
  obtain ⟨s', rfl⟩ := hseen
  have hrun := run_entry_at (P := P) w r b since s' es c0 e a1 a2 he a6
  rw [hkey, hval] at hrun
  unfold Oper.wp
  simp [execOp, ho, hx, hrun, Result.andThen]
  exact hK' _ _ h
end
end Go.Proofs.Ytkifggnjpgoamaa
