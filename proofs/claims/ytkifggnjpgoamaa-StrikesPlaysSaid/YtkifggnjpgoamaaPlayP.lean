/- palfreylaw23.StrikesPlays: what an operation is; plain laws. -/
import Derived.Test.YtkifggnjpgoamaaRefU
import Derived.Test.YtkifggnjpgoamaaBegun
namespace Go.Proofs.Ytkifggnjpgoamaa
open Go.RowKit

structure OpI where
  doo : Int
  account : Int
  id : Int
  now : Int
  kept : Int
  ba : Option Addr
  bc : Nat
  bs : List UInt8
def opCells (o : OpI) : List Value := [.int .i64 o.doo, .int .i64 o.account, .int .i64 o.id, .int .i64 o.now, .int .u64 o.kept, .slice o.ba o.bs.length o.bc]
structure OpIn (w : World) (o : OpI) : Prop where
  src : Src w (.slice o.ba o.bs.length o.bc) o.bs.length (bvs o.bs)
  id : o.id ≤ 9223372036854775807
  now : o.now ≤ 9223372036854775807
  kept : 0 ≤ o.kept ∧ o.kept < 18446744073709551616
  few : o.bs.length ≤ maxLen

theorem ops_get : ∀ (ops : List OpI) (i : Nat) (hi : i < ops.length) (k : Nat), k < 6 → (ops.flatMap opCells)[i * 6 + k]? = (opCells ops[i])[k]? := by
  intro M
  induction M with
  | nil => intro i hi; simp at hi
  | cons p r ih =>
    intro i hi k hk
    have h4 : (opCells p).length = 6 := rfl
    cases i with
    | zero =>
      simp only [List.flatMap_cons, Nat.zero_mul, Nat.zero_add, List.getElem_cons_zero]
      rw [List.getElem?_append_left (by omega)]
    | succ i =>
      simp only [List.flatMap_cons, List.getElem_cons_succ]
      rw [List.getElem?_append_right (by omega), h4, show (i + 1) * 6 + k - 6 = i * 6 + k by omega]
      exact ih i (by simpa using hi) k hk
theorem ops_range {w : World} {b o : Nat} {ops : List OpI} (h : w.rangeAt b o (ops.flatMap opCells)) (i : Nat) (hi : i < ops.length) : w.rangeAt b (o + i * 6) (opCells ops[i]) := by
  intro j v hv
  have hj : j < 6 := by
    have := (List.getElem?_eq_some_iff.1 hv).1
    simpa [opCells] using this
  rw [Nat.add_assoc]
  exact h (i * 6 + j) v (by rw [ops_get ops i hi j hj]; exact hv)

theorem JSt.append_le (Z : JSt) (b : List UInt8) : Z.recs.length ≤ (Z.append b).2.recs.length ∧ ((Z.append b).1 = 0 → Z.recs.length + 1 ≤ (Z.append b).2.recs.length) := by
  unfold JSt.append
  split
  · exact ⟨Nat.le_refl _, fun h => by simp at h⟩
  split
  · exact ⟨Nat.le_refl _, fun h => by simp at h⟩
  split
  · exact ⟨Nat.le_refl _, fun h => by simp at h⟩
  split
  · exact ⟨Nat.le_refl _, fun h => by simp at h⟩
  · exact ⟨by simp, fun _ => by simp⟩
theorem keepF_le (k a i n : Nat) (Z : JSt) (M : Led) (h : M.length ≤ Z.recs.length) : (keepF k a i n Z M).2.2.length ≤ (keepF k a i n Z M).2.1.recs.length := by
  have h1 := JSt.append_le Z (recB k a i n)
  unfold keepF
  simp only
  split
  · rename_i h2
    have := len_takeM M (recB k a i n)
    have := h1.2 h2
    omega
  · have := h1.1; omega
theorem addF_le (A I N : Int) (Z : JSt) (M : Led) (h : M.length ≤ Z.recs.length) : (addF A I N Z M).2.2.length ≤ (addF A I N Z M).2.1.recs.length := by
  unfold addF
  split
  · exact h
  split
  · exact h
  · exact keepF_le _ _ _ _ _ _ h
theorem clearF_le (I N : Int) (Z : JSt) (M : Led) (h : M.length ≤ Z.recs.length) : (clearF I N Z M).2.2.length ≤ (clearF I N Z M).2.1.recs.length := by
  unfold clearF
  split
  · exact h
  split
  · exact h
  split
  · exact h
  · exact keepF_le _ _ _ _ _ _ h

theorem St.sw2 {w0 w : World} {A B C D : HA} {R : List HA} (h : St w0 (A :: B :: C :: D :: R) w) : St w0 (C :: D :: A :: B :: R) w := h.to2.to3.to1
theorem St.blk5 {w0 w : World} {A B C D : HA} {R : List HA} {b : Nat} {cs : Array Value} {T : TypeId} (h : St w0 (A :: B :: C :: D :: blkH b cs T :: R) w) : Blk w b cs T := h.drop.drop.drop.drop.blk
end Go.Proofs.Ytkifggnjpgoamaa
