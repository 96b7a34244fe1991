/- More laws on maps keyed by int as the walk meets them: a typed row of entries; len; a guarded look-up. -/
import Derived.Test.YtkifggnjpgoamaaStkP
namespace Go.Proofs.Ytkifggnjpgoamaa
open Go.RowKit

section
variable {P : Program} {T K E : TypeId} {ops : Array Oper} {rest : List Oper} {o : Oper} {a : Act} {w : World} {Q : Exit → Act → World → Prop}
theorem wpList_mnextM {α : Type} (f : α → Value) (hg : o.guard = none) (x : Operand) (ho : o.op = .next x false)
    (r b : Nat) (hx : a.eval x = .pointer (some ⟨r, 0, none⟩)) (left : List (Int × α)) (cur : Option (Int × Value)) (hI : IterAt w r b (asM f left) cur)
    (h0 : left = [] → wpList P ops Q rest (a.put o.dst (.tuple #[.bool false])) w)
    (h1 : ∀ pre p post w', left = pre ++ p :: post → Turn [r] w w' → w.heap.size ≤ w'.heap.size → IterAt w' r b (asM f (pre ++ post)) (some (p.1, f p.2)) → wpList P ops Q rest (a.put o.dst (.tuple #[.bool true, .int .i64 p.1, f p.2])) w') : wpList P ops Q (o :: rest) a w := by
  refine wpList_mnext hg x ho r b hx (asM f left) cur hI (fun h => h0 ?_) (fun i hi w' hT hz hI' => ?_)
  · have := congrArg List.length h
    rw [asM_length] at this
    exact List.eq_nil_of_length_eq_zero (by simpa using this)
  · have hi' : i < left.length := by rwa [asM_length] at hi
    have e1 : (asM f left)[i] = (left[i].1, f left[i].2) := by simp [asM]
    have e2 : (asM f left).eraseIdx i = asM f (left.take i ++ left.drop (i + 1)) := by
      unfold asM
      rw [← map_erase, List.eraseIdx_eq_take_drop_succ]
    rw [e1] at hI' ⊢
    rw [e2] at hI'
    refine h1 (left.take i) left[i] (left.drop (i + 1)) w' ?_ hT hz hI'
    rw [← List.drop_eq_getElem_cons hi', List.take_append_drop]

theorem IMap.run_len {b : Nat} {m : List (Int × Value)} (h : IMap w b m) (hT : P.underlying T = some (.map K E)) (ty : TypeId) : (Builtin.len_ #[T] ty #[.map (some b)]).run P w = .ok (.int .i64 m.length) w := by
  obtain ⟨es, clock, hb, hes, _⟩ := h
  have e1 : es.size = m.length := by simpa using congrArg List.length hes
  rw [← e1]
  simp [Builtin.len_, run_underlying hT, MapKept.run_getObj_map hb, goInt, Result.andThen]
theorem wpList_mlen (hg : o.guard = none) (x : Operand) (ho : o.op = .call { callee := .builtin .len, args := #[x], argTypes := #[T] })
    (hT : P.underlying T = some (.map K E)) (b : Nat) (hx : a.eval x = .map (some b)) (m : List (Int × Value)) (hm : IMap w b m) (h : wpList P ops Q rest (a.put o.dst (.int .i64 m.length)) w) : wpList P ops Q (o :: rest) a w := by
  refine wpList_plain hg fun K' hK' => ?_
  unfold Oper.wp
  simp [execOp, ho, resolve, invoke, builtin, hx, hm.run_len hT o.type, Result.andThen]
  exact hK' _ _ h

/-- A guarded operation that goes. -/
theorem wpList_runW {w' : World} (hw : Region.wanted o (yielded ops a.tmps) = true) {v : Value} (hrun : (execOp a.eval o).run P w = .ok (.value v) w')
    (h : wpList P ops Q rest (a.put o.dst v) w') : wpList P ops Q (o :: rest) a w := by
  refine wpList_step fun K hK => ?_
  rw [if_pos hw]
  unfold Oper.wp
  rw [hrun]
  exact hK _ _ h
theorem wpList_mgetW (hw : Region.wanted o (yielded ops a.tmps) = true) (x y : Operand) (ok : Bool) (ho : o.op = .lookup T x y ok)
    (hT : P.underlying T = some (.map K E)) (hK : P.underlying K = some (.int .i64)) (z : Value) (hz : ∀ w, (zeroValue E).run P w = .ok z w) (b : Nat) (k : Int) (hx : a.eval x = .map (some b)) (hy : a.eval y = .int .i64 k)
    (m : List (Int × Value)) (hm : IMap w b m) (h : wpList P ops Q rest (a.put o.dst (if ok then .tuple #[(mget m k).getD z, .bool (mget m k).isSome] else (mget m k).getD z)) w) : wpList P ops Q (o :: rest) a w := by
  have hrun := hm.run_lookup (P := P) hT hK (hz w) k ok
  exact wpList_runW hw (by simp only [execOp, ho, hx, hy, Sem.run_bind, hrun, Result.andThen_ok, Sem.run_pure]) h
end
end Go.Proofs.Ytkifggnjpgoamaa
