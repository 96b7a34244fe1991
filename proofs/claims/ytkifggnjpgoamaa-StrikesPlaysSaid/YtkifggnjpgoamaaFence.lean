/- Derived laws of XBase, XOps inside a fence (for the rounds of a range over a function). -/
import Derived.Test.YtkifggnjpgoamaaObj
import Derived.RangeFuncNested
import Derived.RangeFuncBound
import Derived.RangeFuncCalls
import Derived.RangeFuncLeaves
import Derived.Shelf.Abstract
import Derived.Shelf.AbstractIn
import Derived.Shelf.RegionOpen
import Derived.WalkKit
import Derived.OwnWalkIn
import Derived.TacticsInMore
import Derived.LoopNIn
import Derived.LoopIn
namespace Go.Proofs.Ytkifggnjpgoamaa
open Go.RowKit

section
variable {F : Fence} {n : Nat} {P : Program} {ops : Array Oper} {a : Act} {w : World} {rest : List Oper} {o : Oper}

theorem opIn_one {K : Act → World → Prop} {Q : Exit → Act → World → Prop} {w' : World} (ha : o.about P w a.eval = none) (hd : ∀ c, o.op ≠ .defer c) {v : Value} (hrun : (execOp a.eval o).run P w = .ok (.value v) w') (h : K (a.put o.dst v) w') : o.wpIn F n P a w K Q := by
  unfold Oper.wpIn
  refine ⟨fun f hf => (by rw [ha] at hf; cases hf), ?_⟩
  rw [Oper.semAt_plain F _ _ hd, hrun]
  exact h
theorem wpListIn_one {Q : Exit → Act → World → Prop} {w' : World} (hw : Region.wanted o (yielded ops a.tmps) = true) (ha : o.about P w a.eval = none) (hd : ∀ c, o.op ≠ .defer c) {v : Value} (hrun : (execOp a.eval o).run P w = .ok (.value v) w') (h : wpListIn F n P ops Q rest (a.put o.dst v) w') : wpListIn F n P ops Q (o :: rest) a w :=
  wpListIn_step fun K hK => by rw [if_pos hw]; exact opIn_one ha hd hrun (hK _ _ h)

theorem wpListIn_skipped {Q : Exit → Act → World → Prop} {w' : World} (hw : Region.wanted o (yielded ops a.tmps) = true) (ha : o.about P w a.eval = none) (hd : ∀ c, o.op ≠ .defer c) (hrun : (execOp a.eval o).run P w = .ok .skip w') (h : wpListIn F n P ops Q rest (a.put o.dst undef) w') : wpListIn F n P ops Q (o :: rest) a w :=
  wpListIn_step fun K hK => by
    rw [if_pos hw]
    unfold Oper.wpIn
    refine ⟨fun f hf => (by rw [ha] at hf; cases hf), ?_⟩
    rw [Oper.semAt_plain F _ _ hd, hrun]
    exact hK _ _ h

theorem about_alloc (T : TypeId) (ho : o.op = .alloc T) : o.about P w a.eval = none := by simp [Oper.about, ho]
theorem about_store (T : TypeId) (x y : Operand) (ho : o.op = .store T x y) : o.about P w a.eval = none := by simp [Oper.about, ho]
theorem about_load (T : TypeId) (x : Operand) (ho : o.op = .load T x) : o.about P w a.eval = none := by simp [Oper.about, ho]
theorem about_builtin (b : Builtin) (s x : Operand) (t u : TypeId) (ho : o.op = .call { callee := .builtin b, args := #[s, x], argTypes := #[t, u] }) : o.about P w a.eval = none := by
  simp [Oper.about, ho, resolve, Target.leads, Sem.run_pure]

theorem wpListIn_alloc {Q : Exit → Act → World → Prop} (hg : o.guard = none) (T : TypeId) (ho : o.op = .alloc T) (zs : List Value) (hz : ∀ w, (zeroValue T).run P w = .ok (.agg zs.toArray) w)
    (h : ∀ w', Turn [] w w' → Blk w' w.heap.size zs.toArray T → w.heap.size < w'.heap.size → wpListIn F n P ops Q rest (a.put o.dst (.pointer (some ⟨w.heap.size, 0, none⟩))) w') : wpListIn F n P ops Q (o :: rest) a w :=
  wpListIn_one (by simp [Region.wanted, hg]) (about_alloc T ho) (by rw [ho]; simp) (run_alloc_exec T ho _ (hz w)) (h _ ((Turn.refl _ _).alloc _) (Blk.new _ _ _) (by simp))

theorem wpListIn_load {Q : Exit → Act → World → Prop} (hw : Region.wanted o (yielded ops a.tmps) = true) (ty : TypeId) (x : Operand) (ho : o.op = .load ty x) (b off : Nat) (hx : a.eval x = .pointer (some ⟨b, off, none⟩)) (cs : List Value) (d : TypeDesc) (hc : w.rangeAt b off cs)
    (hu : P.underlying ty = some d) (hd : d.isRow = true) (hi : (P.info? ty).map (·.size) = some cs.length) (h : wpListIn F n P ops Q rest (a.put o.dst (.agg cs.toArray)) w) : wpListIn F n P ops Q (o :: rest) a w :=
  wpListIn_one hw (about_load ty x ho) (by rw [ho]; simp) (run_load_exec ty x ho b off hx cs d hc hu hd hi) h

theorem run_store_exec (T : TypeId) (x y : Operand) (ho : o.op = .store T x y) (b off : Nat) (vs : List Value) (hx : a.eval x = .pointer (some ⟨b, off, none⟩)) (hy : a.eval y = .agg vs.toArray)
    (l : List Value) (U : TypeId) (hB : Blk w b l.toArray U) (hl : off + vs.length ≤ l.length) (hi : (P.info? T).map (·.size) = some vs.length) (h1 : ∀ v ∈ vs, v.oneCell' = true) :
    (execOp a.eval o).run P w = .ok .skip (w.setCells b off vs) := by
  unfold execOp
  simp only [ho, hx, hy, Instr.storeAt, Instr.sureAddr, Sem.run_bind, Sem.run_pure, Result.andThen_ok, run_storeVar_mid w b off T vs.toArray (by simpa using hB.there off vs.length hl) (by simpa using hi) (all_oneCell_toArray h1)]

theorem wpListIn_storeW {Q : Exit → Act → World → Prop} (hg : o.guard = none) (T : TypeId) (x y : Operand) (ho : o.op = .store T x y) (b : Nat) (vs : List Value) (hx : a.eval x = .pointer (some ⟨b, 0, none⟩)) (hy : a.eval y = .agg vs.toArray)
    (l : List Value) (U : TypeId) (hB : Blk w b l.toArray U) (hl : l.length = vs.length) (hi : (P.info? T).map (·.size) = some vs.length) (h1 : ∀ v ∈ vs, v.oneCell' = true)
    (h : ∀ w', Turn [b] w w' → Blk w' b vs.toArray U → w.heap.size ≤ w'.heap.size → wpListIn F n P ops Q rest (a.put o.dst undef) w') : wpListIn F n P ops Q (o :: rest) a w :=
  wpListIn_skipped (by simp [Region.wanted, hg]) (about_store T x y ho) (by rw [ho]; simp) (run_store_exec T x y ho b 0 vs hx hy l U hB (by omega) hi h1)
    (h _ (Turn.setCells (by simp) vs 0 (Turn.refl _ _)) (by have := Blk.sets vs 0 (by omega) hB; rwa [lay_all l vs hl] at this) (Nat.le_of_eq (size_setCells b vs 0 w).symm))

theorem wpListIn_append {Q : Exit → Act → World → Prop} (hg : o.guard = none) (s x : Operand) (t : TypeId) (ho : o.op = .call { callee := .builtin .append, args := #[s, x], argTypes := #[t, t] }) (e : TypeId) (z : Value) (size bytes : Nat) (ht : P.underlying t = some (.slice e))
    (hI : (P.info? e).map (fun i => (i.zero, i.size, i.bytes)) = some (some z, size, bytes)) (hzs : z.cells.size = size) (hsz : 0 < size) (v : Value) (hs : a.eval s = v) (m0 : Nat) (xs : List Value) (hown : Own w e size v m0 xs) (y : Value) (hy : a.eval x = y) (m : Nat) (news : List Value) (hx : Src w y m news)
    (hl : news.length = m * size) (h1 : ∀ u ∈ news, u.oneCell' = true) (h63 : m0 + m ≤ maxLen) (hbytes : (m0 + m) * bytes ≤ 140737488355328)
    (h : ∀ a' c w', Own w' e size (.slice a' (m0 + m) c) (m0 + m) (xs ++ news) → Turn (blockOf v) w w' → (∀ b ∈ blockOf (.slice a' (m0 + m) c), b ∈ blockOf v ∨ w.heap.size ≤ b) → wpListIn F n P ops Q rest (a.put o.dst (.slice a' (m0 + m) c)) w') : wpListIn F n P ops Q (o :: rest) a w := by
  subst hs hy
  obtain ⟨a', c, w', hr, h2, h3, h4⟩ := run_append (P := P) t o.type e z size bytes ht hI hzs hsz _ m0 xs hown _ m news hx hl h1 h63 hbytes
  exact wpListIn_one (by simp [Region.wanted, hg]) (about_builtin _ s x t t ho) (by rw [ho]; simp) (exec_builtin2 .append s x t t ho (.inl rfl) (by simpa using hr)) (h a' c w' h2 h3 h4)

/-! ### append within a region that draws its order, in a round: its answer by names, so that the region's own walk can take it -/
def appV (P : Program) (w : World) (t : TypeId) (s x : Value) : Value := match (Builtin.append_ #[t, t] t #[s, x]).run P w with | .ok v _ => v | _ => undef
def appW (P : Program) (w : World) (t : TypeId) (s x : Value) : World := match (Builtin.append_ #[t, t] t #[s, x]).run P w with | .ok _ w' => w' | _ => w
def AppOk (P : Program) (w : World) (t : TypeId) (s x : Value) : Prop := (Builtin.append_ #[t, t] t #[s, x]).run P w = .ok (appV P w t s x) (appW P w t s x)
theorem run_app_here {t : TypeId} {s x : Value} (h : AppOk P w t s x) : (Builtin.append_ #[t, t] t #[s, x]).run P w = .ok (appV P w t s x) (appW P w t s x) := h
theorem semAt_app {r : Option Nat} {ρ : Operand → Value} {dst : Option Tmp} {s x : Operand} {t : TypeId} {pos : String} {after : Array Edge} {g : Option (Nat × Bool)} (h : AppOk P w t (ρ s) (ρ x)) :
    Sem.run P (Oper.semAt r ρ ⟨dst, .call { callee := .builtin .append, args := #[s, x], argTypes := #[t, t] }, t, pos, after, g⟩) w = .ok (.value (appV P w t (ρ s) (ρ x))) (appW P w t (ρ s) (ρ x)) := by
  have e : Oper.semAt r ρ ⟨dst, .call { callee := .builtin .append, args := #[s, x], argTypes := #[t, t] }, t, pos, after, g⟩ = execOp ρ ⟨dst, .call { callee := .builtin .append, args := #[s, x], argTypes := #[t, t] }, t, pos, after, g⟩ := by
    cases r with
    | none => simp [Oper.semAt]
    | some l => exact Oper.semAt_some l _ _ (by intro c h; cases h)
  rw [e]
  unfold execOp
  simp only [resolve, invoke, builtin, Sem.run_bind, Sem.run_pure, Result.andThen_ok, List.map_toArray, List.map_cons, List.map_nil]
  rw [show (Builtin.append_ #[t, t] t #[ρ s, ρ x]).run P w = _ from h]
  rfl

end
end Go.Proofs.Ytkifggnjpgoamaa
