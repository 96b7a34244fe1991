/- Laws on slices as the walks of this claim meet them: a slice that is read ('Src'), append onto a slice that the call owns, copy into a block. -/
import Derived.Test.YtkifggnjpgoamaaBase
import Derived.Maps.AppendAt
import Derived.Laws.CopyOwn
import Derived.Deep.RegionHeld3
namespace Go.Proofs.Ytkifggnjpgoamaa
open Go.RowKit

/-- The value v is a slice of n elements, whose cells are xs. -/
def Src (w : World) (v : Value) (n : Nat) (xs : List Value) : Prop :=
  (n = 0 ∧ xs = [] ∧ ∃ a, v = .slice a 0 0) ∨ ∃ b o c, v = .slice (some ⟨b, o, none⟩) n c ∧ n ≤ c ∧ c ≠ 0 ∧ b < w.heap.size ∧ w.rangeAt b o xs

theorem range_of_block {w w' : World} {b : Nat} (h : w'.heap[b]? = w.heap[b]?) {o : Nat} {cs : List Value} (hr : w.rangeAt b o cs) : w'.rangeAt b o cs := fun j v hv => (World.cell?_of_block (w := w) (a := ⟨b, o + j, none⟩) h).trans (hr j v hv)
theorem range_turn {w w' : World} {S : List Nat} (k : Turn S w w') {b o : Nat} {cs : List Value} (hr : w.rangeAt b o cs) (hb : b < w.heap.size) (hn : b ∉ S) : w'.rangeAt b o cs := range_of_block (k.block b hb hn) hr

/-- The block in which a slice lies. -/
def blockOf : Value → List Nat
  | .slice (some a) _ _ => [a.block]
  | _ => []
/-- .., where it has room for an element at all: an empty slice of no room may say whatever block. -/
def seatOf : Value → List Nat
  | .slice (some a) _ c => if c = 0 then [] else [a.block]
  | _ => []
theorem seatOf_sub {v : Value} {b : Nat} (h : b ∈ seatOf v) : b ∈ blockOf v := by
  cases v with
  | slice a n c =>
    cases a with
    | none => cases h
    | some a =>
      simp only [seatOf] at h
      split at h
      · cases h
      · exact h
  | _ => cases h
theorem seatOf_pos {a : Addr} {n c : Nat} (h : c ≠ 0) : seatOf (.slice (some a) n c) = [a.block] := by simp [seatOf, h]
theorem Src.turn {w w' : World} {S : List Nat} {v : Value} {n : Nat} {xs : List Value} (h : Src w v n xs) (k : Turn S w w') (hn : ∀ b ∈ seatOf v, b ∉ S) : Src w' v n xs := by
  rcases h with h | ⟨b, o, c, rfl, hc, h0, hb, hr⟩
  · exact .inl h
  · exact .inr ⟨b, o, c, rfl, hc, h0, Nat.lt_of_lt_of_le hb k.size, range_turn k hr hb (hn b (by simp [seatOf_pos h0]))⟩
theorem Src.turn0 {w w' : World} {v : Value} {n : Nat} {xs : List Value} (h : Src w v n xs) (k : Turn [] w w') : Src w' v n xs := h.turn k (by simp)
theorem Src.below {w : World} {v : Value} {n : Nat} {xs : List Value} (h : Src w v n xs) : ∀ b ∈ seatOf v, b < w.heap.size := by
  rcases h with ⟨_, _, a, rfl⟩ | ⟨b, o, c, rfl, hc, h0, hb, hr⟩
  · cases a <;> simp [seatOf]
  · simpa [seatOf_pos h0] using hb
theorem Src.of_blk {w : World} {g : Nat} {l : List Value} {T : TypeId} (h : Blk w g l.toArray T) (o n c : Nat) (xs : List Value) (hx : xs = (l.drop o).take xs.length) (hc : n ≤ c) (h0 : c = 0 → xs = [] := by (intro h; simp at h)) : Src w (.slice (some ⟨g, o, none⟩) n c) n xs := by
  by_cases hz : c = 0
  · subst hz
    obtain rfl : n = 0 := by omega
    exact .inl ⟨rfl, h0 rfl, _, rfl⟩
  · exact .inr ⟨g, o, c, rfl, hc, hz, h.lt, by rw [hx]; exact h.range o _⟩

theorem Src.whole {w : World} {g : Nat} {xs : List Value} {T : TypeId} (h : Blk w g xs.toArray T) (n c : Nat) (hc : n ≤ c) (h0 : c = 0 → xs = [] := by (intro h; simp at h)) : Src w (.slice (some ⟨g, 0, none⟩) n c) n xs := by
  by_cases hz : c = 0
  · subst hz
    obtain rfl : n = 0 := by omega
    exact .inl ⟨rfl, h0 rfl, _, rfl⟩
  · exact .inr ⟨g, 0, c, rfl, hc, hz, h.lt, h.all⟩

/-- The call owns the slice value v: n elements of type E, their cells xs. -/
def Own (w : World) (E size : Nat) (v : Value) (n : Nat) (xs : List Value) : Prop := w.ownsRow 0 E size v n xs

theorem Own.nil (w : World) (E size : Nat) : Own w E size (.slice none 0 0) 0 [] := ⟨by simp, .inl ⟨rfl, rfl⟩⟩
theorem Own.form {w : World} {E size : Nat} {v : Value} {n : Nat} {xs : List Value} (h : Own w E size v n xs) : ∃ a c, v = .slice a n c := by
  obtain ⟨_, h | ⟨g, cap, cur, hv, _⟩⟩ := h
  · exact ⟨none, 0, by rw [h.2]; exact h.1⟩
  · exact ⟨_, _, hv⟩
theorem Own.lt {w : World} {E size : Nat} {v : Value} {n : Nat} {xs : List Value} (h : Own w E size v n xs) : ∀ b ∈ blockOf v, b < w.heap.size := by
  obtain ⟨_, h | ⟨g, cap, cur, rfl, _, hh, _⟩⟩ := h
  · rw [h.1]; simp [blockOf]
  · simpa [blockOf] using (Array.getElem?_eq_some_iff.1 hh).1
theorem Own.turn {w w' : World} {S : List Nat} {E size : Nat} {v : Value} {n : Nat} {xs : List Value} (h : Own w E size v n xs) (k : Turn S w w') (hn : ∀ b ∈ blockOf v, b ∉ S) : Own w' E size v n xs := by
  have hl := h.lt
  obtain ⟨h1, h | ⟨g, cap, cur, rfl, h2, hh, h3⟩⟩ := h
  · exact ⟨h1, .inl h⟩
  · exact ⟨h1, .inr ⟨g, cap, cur, rfl, h2, (k.block g (hl g (by simp [blockOf])) (hn g (by simp [blockOf]))).trans hh, h3⟩⟩
theorem Own.turn0 {w w' : World} {E size : Nat} {v : Value} {n : Nat} {xs : List Value} (h : Own w E size v n xs) (k : Turn [] w w') : Own w' E size v n xs := h.turn k (by simp)
theorem Own.src {w : World} {E size : Nat} {v : Value} {n : Nat} {xs : List Value} (h : Own w E size v n xs) : Src w v n xs := by
  have hl := h.lt
  obtain ⟨h1, ⟨rfl, rfl⟩ | ⟨g, cap, cur, rfl, h2, hh, h3, h4, h5, h6⟩⟩ := h
  · exact .inl ⟨rfl, List.eq_nil_of_length_eq_zero (by simpa using h1), _, rfl⟩
  · by_cases hz : cap = 0
    · subst hz
      obtain rfl : n = 0 := by omega
      exact .inl ⟨rfl, List.eq_nil_of_length_eq_zero (by simpa using h1), _, rfl⟩
    refine .inr ⟨g, 0, cap, rfl, h3, hz, hl g (by simp [blockOf]), fun j v hv => ?_⟩
    rw [Nat.zero_add, cell_of_row w g j cur E (0, 0) hh]
    rw [← h6, List.getElem?_take] at hv
    split at hv
    · simpa using hv
    · cases hv
theorem Own.of_blk {w : World} {g : Nat} {E size : Nat} {n c : Nat} {l xs : List Value} (h : Blk w g l.toArray E) (hc : n ≤ c) (hm : c ≤ maxLen) (hl : l.length = c * size) (hx : xs = l.take (n * size)) : Own w E size (.slice (some ⟨g, 0, none⟩) n c) n xs := by
  refine ⟨by rw [hx, List.length_take, hl]; exact Nat.min_eq_left (Nat.mul_le_mul_right _ hc), .inr ⟨g, c, l.toArray, rfl, Nat.zero_le _, h, hc, hm, by simpa using hl, ?_⟩⟩
  simpa using hx.symm

section
variable {P : Program} {w : World}

theorem ownBlock_eq (v : Value) : v.ownBlock.toList = blockOf v := by
  cases v with
  | slice a n c => cases a <;> rfl
  | _ => rfl

theorem load_none (w : World) (a : Addr) : (loadCells a 0).run P w = .ok #[] w := by
  have := run_loadCells_list (P := P) w a [] (fun j v h => by simp at h)
  simpa using this
theorem run_copy_zero (w : World) (dT sT ty elem : TypeId) (a : Addr) (dLen dCap : Nat) (a0 : Addr) (hu : P.underlying dT = some (.slice elem)) (hs : (P.info? elem).map (·.size) = some 1) :
    (Builtin.copy_ #[dT, sT] ty #[.slice (some a) dLen dCap, .slice (some a0) 0 0]).run P w = .ok (goInt 0) w := by
  cases hq : P.info? elem with
  | none => simp [hq] at hs
  | some i => simp [Builtin.copy_, run_underlying hu, Builtin.lenOf, Builtin.firstCells, sizeOf, typeInfo, hq, storeCells, load_none w a0]
/-- append onto an owned slice, whatever is appended. -/
theorem run_append (t ty e : TypeId) (z : Value) (size bytes : Nat) (ht : P.underlying t = some (.slice e)) (hI : (P.info? e).map (fun i => (i.zero, i.size, i.bytes)) = some (some z, size, bytes)) (hzs : z.cells.size = size) (hsz : 0 < size)
    (v : Value) (n : Nat) (xs : List Value) (hown : Own w e size v n xs) (x : Value) (m : Nat) (news : List Value) (hx : Src w x m news) (hl : news.length = m * size) (h1 : ∀ u ∈ news, u.oneCell' = true)
    (h63 : n + m ≤ maxLen) (hbytes : (n + m) * bytes ≤ 140737488355328) :
    ∃ a c w', (Builtin.append_ #[t, t] ty #[v, x]).run P w = .ok (.slice a (n + m) c) w' ∧ Own w' e size (.slice a (n + m) c) (n + m) (xs ++ news) ∧ Turn (blockOf v) w w' ∧
      (∀ b ∈ blockOf (.slice a (n + m) c), b ∈ blockOf v ∨ w.heap.size ≤ b) := by
  obtain ⟨i, hi, hi1, hi2, hi3⟩ := info_parts hI
  rcases hx with ⟨rfl, rfl, a0, rfl⟩ | ⟨b, o, c, rfl, hc, _, hb, hr⟩
  · obtain ⟨a, cc, rfl⟩ := hown.form
    have hrun : (Builtin.append_ #[t, t] ty #[.slice a n cc, .slice a0 0 0]).run P w = .ok (.slice a n cc) w := by
      cases a0 with
      | none => exact run_append_owned_none (P := P) w 0 t ty e i size ht hi _ n xs hown
      | some a0 =>
        rcases hown.2 with ⟨h, rfl⟩ | ⟨g, cap, cur, h, _, _, hnc, _⟩
        · cases h
          simp [Builtin.append_, run_underlying ht, sizeOf, typeInfo, hi, Builtin.lenOf, Builtin.firstCells, load_none w a0]
        · cases h
          simp [Builtin.append_, run_underlying ht, sizeOf, typeInfo, hi, Builtin.lenOf, Builtin.firstCells, hnc, storeCells, load_none w a0]
    exact ⟨a, cc, w, hrun, by simpa using hown, Turn.refl _ _, fun b hb => .inl hb⟩
  · obtain ⟨v', w', hr', h2, h3, h4, h5⟩ := run_append_own_at (P := P) w 0 t ty e i z size bytes ht hi hi1 hi2 hi3 hzs hsz v n xs hown ⟨b, o, none⟩ m c news hl (fun j u hu => by rw [Addr.add_mid]; exact hr j u hu) h1 h63 hbytes (Nat.zero_le _)
    obtain ⟨a, cc, rfl⟩ := Own.form h2
    refine ⟨a, cc, w', hr', h2, Turn.of_grown h3 _ (fun k hk => .inl ?_), fun b hb => ?_⟩
    · rw [← ownBlock_eq, hk]; simp
    · rw [← ownBlock_eq] at hb
      rcases h5 with h5 | h5
      · rw [h5, ownBlock_eq] at hb; exact .inl hb
      · rw [h5] at hb; simp at hb; exact .inr (by omega)

theorem run_copyB (dT sT ty elem : TypeId) (hu : P.underlying dT = some (.slice elem)) (hsz : (P.info? elem).map (·.size) = some 1) (g o dLen dCap : Nat) (x : Value) (m : Nat) (cs : List Value) (hx : Src w x m cs) (hm : m = cs.length) (hd : m ≤ dLen)
    (l : List Value) (t : TypeId) (hB : Blk w g l.toArray t) (hfit : o + m ≤ l.length) (h1 : ∀ v ∈ cs, v.oneCell' = true) :
    ∃ w', (Builtin.copy_ #[dT, sT] ty #[.slice (some ⟨g, o, none⟩) dLen dCap, x]).run P w = .ok (.int .i64 m) w' ∧ Turn [g] w w' ∧ Blk w' g (lay l o cs).toArray t := by
  subst hm
  rcases hx with ⟨h0, rfl, a0, rfl⟩ | ⟨b, oo, c, rfl, hc, _, hb, hr⟩
  · have hrun : (Builtin.copy_ #[dT, sT] ty #[.slice (some ⟨g, o, none⟩) dLen dCap, .slice a0 0 0]).run P w = .ok (goInt 0) w := by
      cases a0 with
      | none => exact run_copy_nil (P := P) w dT sT ty elem ⟨g, o, none⟩ dLen dCap hu (by rw [hsz]; rfl)
      | some a0 => exact run_copy_zero w dT sT ty elem ⟨g, o, none⟩ dLen dCap a0 hu hsz
    refine ⟨w, by simpa [goInt] using hrun, Turn.refl _ _, by simpa [lay] using hB⟩
  · have hrun := run_copy_row (P := P) w dT sT ty elem g o dLen dCap ⟨b, oo, none⟩ cs.length c l.toArray t cs hu hsz hB (show cs.length = Nat.min cs.length dLen from (Nat.min_eq_left hd).symm) (fun j u hu => by rw [Addr.add_mid]; exact hr j u hu) (by simpa using hfit) h1
    rw [show goInt cs.length = Value.int .i64 (cs.length : Int) from rfl] at hrun
    refine ⟨_, hrun, ⟨rfl, rfl, rfl, by simp [World.setRow], fun k hk hn => setRow_other w g k _ (by simpa using hn)⟩, ?_⟩
    exact setRow_heap w g l.toArray _ t (0, 0) hB

variable {ops : Array Oper} {rest : List Oper} {o : Oper} {a : Act} {Q : Exit → Act → World → Prop}
theorem exec_builtin2 (b : Builtin) (s x : Operand) (t u : TypeId) (ho : o.op = .call { callee := .builtin b, args := #[s, x], argTypes := #[t, u] }) (hb : b = .append ∨ b = .copy) {r : Value} {w' : World}
    (hrun : ((if b = .append then Builtin.append_ #[t, u] o.type #[a.eval s, a.eval x] else Builtin.copy_ #[t, u] o.type #[a.eval s, a.eval x])).run P w = .ok r w') : (execOp a.eval o).run P w = .ok (.value r) w' := by
  unfold execOp
  rcases hb with rfl | rfl
  · simp only [if_true] at hrun
    simp only [ho, resolve, invoke, builtin, Sem.run_bind, Sem.run_pure, Result.andThen_ok, List.map_toArray, List.map_cons, List.map_nil, hrun]
  · rw [if_neg (by simp)] at hrun
    simp only [ho, resolve, invoke, builtin, Sem.run_bind, Sem.run_pure, Result.andThen_ok, List.map_toArray, List.map_cons, List.map_nil, hrun]

theorem wpList_append (hg : o.guard = none) (s x : Operand) (t : TypeId) (ho : o.op = .call { callee := .builtin .append, args := #[s, x], argTypes := #[t, t] }) (e : TypeId) (z : Value) (size bytes : Nat) (ht : P.underlying t = some (.slice e))
    (hI : (P.info? e).map (fun i => (i.zero, i.size, i.bytes)) = some (some z, size, bytes)) (hzs : z.cells.size = size) (hsz : 0 < size) (v : Value) (hs : a.eval s = v) (n : Nat) (xs : List Value) (hown : Own w e size v n xs) (y : Value) (hy : a.eval x = y) (m : Nat) (news : List Value) (hx : Src w y m news)
    (hl : news.length = m * size) (h1 : ∀ u ∈ news, u.oneCell' = true) (h63 : n + m ≤ maxLen) (hbytes : (n + m) * bytes ≤ 140737488355328)
    (h : ∀ a' c w', Own w' e size (.slice a' (n + m) c) (n + m) (xs ++ news) → Turn (blockOf v) w w' → (∀ b ∈ blockOf (.slice a' (n + m) c), b ∈ blockOf v ∨ w.heap.size ≤ b) → wpList P ops Q rest (a.put o.dst (.slice a' (n + m) c)) w') : wpList P ops Q (o :: rest) a w := by
  subst hs hy
  obtain ⟨a', c, w', hr, h2, h3, h4⟩ := run_append (P := P) t o.type e z size bytes ht hI hzs hsz _ n xs hown _ m news hx hl h1 h63 hbytes
  exact wpList_one hg (exec_builtin2 .append s x t t ho (.inl rfl) (by simpa using hr)) (h a' c w' h2 h3 h4)

theorem step_append {E : Prop} {K : Act → World → Prop} (hg : o.guard = none) (s x : Operand) (t : TypeId) (ho : o.op = .call { callee := .builtin .append, args := #[s, x], argTypes := #[t, t] }) (e : TypeId) (z : Value) (size bytes : Nat) (ht : P.underlying t = some (.slice e))
    (hI : (P.info? e).map (fun i => (i.zero, i.size, i.bytes)) = some (some z, size, bytes)) (hzs : z.cells.size = size) (hsz : 0 < size) (v : Value) (hs : a.eval s = v) (n : Nat) (xs : List Value) (hown : Own w e size v n xs) (y : Value) (hy : a.eval x = y) (m : Nat) (news : List Value) (hx : Src w y m news)
    (hl : news.length = m * size) (h1 : ∀ u ∈ news, u.oneCell' = true) (h63 : n + m ≤ maxLen) (hbytes : (n + m) * bytes ≤ 140737488355328)
    (h : ∀ a' c w', Own w' e size (.slice a' (n + m) c) (n + m) (xs ++ news) → Turn (blockOf v) w w' → (∀ b ∈ blockOf (.slice a' (n + m) c), b ∈ blockOf v ∨ w.heap.size ≤ b) → K (a.put o.dst (.slice a' (n + m) c)) w') :
    if Region.wanted o (yielded ops a.tmps) = true then Oper.wp P o a w K Q else E := by
  subst hs hy
  obtain ⟨a', c, w', hr, h2, h3, h4⟩ := run_append (P := P) t o.type e z size bytes ht hI hzs hsz _ n xs hown _ m news hx hl h1 h63 hbytes
  rw [if_pos (by simp [Region.wanted, hg])]
  unfold Oper.wp
  rw [exec_builtin2 .append s x t t ho (.inl rfl) (by simpa using hr)]
  exact h a' c w' h2 h3 h4

theorem step_copy {E : Prop} {K : Act → World → Prop} (hg : o.guard = none) (d s : Operand) (dT sT : TypeId) (ho : o.op = .call { callee := .builtin .copy, args := #[d, s], argTypes := #[dT, sT] }) (elem : TypeId) (hu : P.underlying dT = some (.slice elem)) (hsz : (P.info? elem).map (·.size) = some 1)
    (g off dLen dCap : Nat) (hd : a.eval d = .slice (some ⟨g, off, none⟩) dLen dCap) (x : Value) (hs : a.eval s = x) (m : Nat) (cs : List Value) (hx : Src w x m cs) (hm : m = cs.length) (hdl : m ≤ dLen)
    (l : List Value) (t : TypeId) (hB : Blk w g l.toArray t) (hfit : off + m ≤ l.length) (h1 : ∀ v ∈ cs, v.oneCell' = true)
    (h : ∀ w', Turn [g] w w' → Blk w' g (lay l off cs).toArray t → K (a.put o.dst (.int .i64 m)) w') :
    if Region.wanted o (yielded ops a.tmps) = true then Oper.wp P o a w K Q else E := by
  subst hs
  obtain ⟨w', hr, h2, h3⟩ := run_copyB (P := P) dT sT o.type elem hu hsz g off dLen dCap _ m cs hx hm hdl l t hB hfit h1
  rw [if_pos (by simp [Region.wanted, hg])]
  unfold Oper.wp
  rw [exec_builtin2 .copy d s dT sT ho (.inr rfl) (by rw [hd]; simpa using hr)]
  exact h w' h2 h3
theorem wpList_copy (hg : o.guard = none) (d s : Operand) (dT sT : TypeId) (ho : o.op = .call { callee := .builtin .copy, args := #[d, s], argTypes := #[dT, sT] }) (elem : TypeId) (hu : P.underlying dT = some (.slice elem)) (hsz : (P.info? elem).map (·.size) = some 1)
    (g off dLen dCap : Nat) (hd : a.eval d = .slice (some ⟨g, off, none⟩) dLen dCap) (x : Value) (hs : a.eval s = x) (m : Nat) (cs : List Value) (hx : Src w x m cs) (hm : m = cs.length) (hdl : m ≤ dLen)
    (l : List Value) (t : TypeId) (hB : Blk w g l.toArray t) (hfit : off + m ≤ l.length) (h1 : ∀ v ∈ cs, v.oneCell' = true)
    (h : ∀ w', Turn [g] w w' → Blk w' g (lay l off cs).toArray t → wpList P ops Q rest (a.put o.dst (.int .i64 m)) w') : wpList P ops Q (o :: rest) a w := by
  subst hs
  obtain ⟨w', hr, h2, h3⟩ := run_copyB (P := P) dT sT o.type elem hu hsz g off dLen dCap _ m cs hx hm hdl l t hB hfit h1
  exact wpList_one hg (exec_builtin2 .copy d s dT sT ho (.inr rfl) (by rw [hd]; simpa using hr)) (h w' h2 h3)
end
end Go.Proofs.Ytkifggnjpgoamaa
