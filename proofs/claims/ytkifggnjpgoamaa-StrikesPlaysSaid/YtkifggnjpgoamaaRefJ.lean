/- The reference of layer 22: a journal on a disk as one thing ('rrH'); Append. -/
import Derived.Test.YtkifggnjpgoamaaRefH
namespace Go.Proofs.Ytkifggnjpgoamaa
open Go.RowKit

def isOf (Z : JSt) : List Bool := (List.range Z.N).map fun k => Z.last.isSome && k == Z.recs.length
def rst (Z : JSt) (news : List (List UInt8)) : RSt := ⟨written Z.recs Z.N, news, isOf Z, Z.fuse, Z.dead⟩
def newsOk (Z : JSt) (news : List (List UInt8)) : Prop := ∀ b, Z.last = some b → news.getD Z.recs.length [] = secOf Z.recs.length b

structure RJ (w : World) (d sb nb ib rj : Nat) (Z : JSt) (news : List (List UInt8)) (lv : Value) (vs : List Value) : Prop where
  ok : Z.ok
  disk : RDAt w d sb nb ib (rst Z news)
  news : newsOk Z news
  blk : Blk w rj #[.pointer (some ⟨d, 0, none⟩), lv] 201
  rows : RowsAt w lv vs Z.recs
  nj : rj ≠ d ∧ rj ≠ sb ∧ rj ≠ nb ∧ rj ≠ ib
  nl : ∀ b ∈ blockOf lv, b ≠ d ∧ b ≠ sb ∧ b ≠ nb ∧ b ≠ ib ∧ b ≠ rj
  nv : ∀ v ∈ vs, ∀ b ∈ seatOf v, b ≠ d ∧ b ≠ sb ∧ b ≠ nb ∧ b ≠ ib ∧ b ≠ rj
def RJF (d sb nb ib rj : Nat) (lv : Value) (vs : List Value) (b : Nat) : Prop := b = d ∨ b = sb ∨ b = nb ∨ b = ib ∨ b = rj ∨ b ∈ blockOf lv ∨ ∃ v ∈ vs, b ∈ seatOf v
theorem RowsAt.seats {w : World} {lv : Value} {vs : List Value} {rs : List (List UInt8)} (h : RowsAt w lv vs rs) : ∀ v ∈ vs, ∀ b ∈ seatOf v, b < w.heap.size := fun v hv b hb => by
  obtain ⟨i, hi, rfl⟩ := List.mem_iff_getElem.1 hv
  exact (h.src i hi (by rw [← h.len]; exact hi)).below b hb

def rrH (d sb nb ib rj : Nat) (Z : JSt) : HA where
  at' w F := ∃ news lv vs, RJ w d sb nb ib rj Z news lv vs ∧ F = RJF d sb nb ib rj lv vs
  lt := by
    rintro w F ⟨news, lv, vs, h, rfl⟩ b hb
    rcases hb with rfl | rfl | rfl | rfl | rfl | hb | ⟨v, hv, hb⟩
    · exact h.disk.blk.lt
    · exact h.disk.row.lt
    · exact h.disk.rnew.lt
    · exact h.disk.ris.lt
    · exact h.blk.lt
    · exact h.rows.own.lt b hb
    · exact h.rows.seats v hv b hb
  keep := by
    rintro w w' F G ⟨news, lv, vs, h, rfl⟩ k hn
    exact ⟨news, lv, vs, ⟨h.ok, h.disk.turnP k (hn d (.inl rfl)) (hn sb (.inr (.inl rfl))) (hn nb (.inr (.inr (.inl rfl)))) (hn ib (.inr (.inr (.inr (.inl rfl))))), h.news, h.blk.turnP k (hn rj (.inr (.inr (.inr (.inr (.inl rfl)))))),
      h.rows.turnP k (fun b hb => hn b (.inr (.inr (.inr (.inr (.inr (.inl hb))))))) (fun v hv b hb => hn b (.inr (.inr (.inr (.inr (.inr (.inr ⟨v, hv, hb⟩))))))), h.nj, h.nl, h.nv⟩, rfl⟩

theorem isOf_get (Z : JSt) (k : Nat) (hk : k < Z.N) : (isOf Z).getD k false = (Z.last.isSome && k == Z.recs.length) := by
  unfold isOf
  rw [List.getD, List.getElem?_map, List.getElem?_range hk]
  rfl
theorem isOf_none {Z : JSt} (h : Z.last = none) : isOf Z = List.replicate Z.N false := by
  unfold isOf
  rw [h]
  apply List.ext_getElem
  · simp
  · intro i h1 h2; simp
theorem isOf_set {Z : JSt} (h : Z.last = none) (hl : Z.recs.length < Z.N) (b : List UInt8) (dead : Bool) (f : Int) : (isOf Z).set Z.recs.length true = isOf { Z with last := some b, dead := dead, fuse := f } := by
  rw [isOf_none h]
  unfold isOf
  apply List.ext_getElem
  · simp
  · intro i h1 h2
    simp only [List.getElem_map, List.getElem_range, Option.isSome_some, Bool.true_and]
    rw [List.getElem_set]
    by_cases e : Z.recs.length = i
    · rw [if_pos e]; simp [e]
    · rw [if_neg e]; simp; omega

theorem merged_app {Z : JSt} (news : List (List UInt8)) (hok : Z.ok) (hl : Z.last = none) (hlt : Z.recs.length < Z.N) (hN : news.length = Z.N) (b : List UInt8) (f : Int) :
    RSt.merged ⟨written Z.recs Z.N, news.set Z.recs.length (secOf Z.recs.length b), (isOf Z).set Z.recs.length true, f, false⟩ = written (Z.recs ++ [b]) Z.N := by
  rw [← written_snoc _ _ _ hlt, isOf_none hl]
  have hwl := written_length Z.recs Z.N hok.le
  apply List.ext_getElem
  · rw [RSt.merged_length, List.length_set]
  · intro k h1 h2
    have hk : k < Z.N := by rw [RSt.merged_length] at h1; simp only at h1; omega
    rw [RSt.merged_get _ k (by simp only; omega), List.getElem_set]
    by_cases e : Z.recs.length = k
    · subst e
      have g1 : ((List.replicate Z.N false).set Z.recs.length true).getD Z.recs.length false = true := by
        rw [List.getD, List.getElem?_set_self (by simp; omega)]; rfl
      have g2 : (news.set Z.recs.length (secOf Z.recs.length b)).getD Z.recs.length [] = secOf Z.recs.length b := by
        rw [List.getD, List.getElem?_set_self (by omega)]; rfl
      rw [if_pos rfl, if_pos g1]
      exact g2
    · have g1 : ¬ ((List.replicate Z.N false).set Z.recs.length true).getD k false = true := by
        rw [List.getD, List.getElem?_set_ne e, List.getElem?_replicate, if_pos hk]; simp
      have g2 : (written Z.recs Z.N).getD k [] = (written Z.recs Z.N)[k]'(by omega) := by
        rw [List.getD, List.getElem?_eq_getElem (by omega)]; rfl
      rw [if_neg e, if_neg g1]
      exact g2

variable {w0 w w' : World} {R : List HA} {d sb nb ib rj : Nat} {Z : JSt}
theorem St.rr (h : St w0 (rrH d sb nb ib rj Z :: R) w) {L : List Nat} (ha : Apart w0 R L) : ∃ news lv vs, RJ w d sb nb ib rj Z news lv vs ∧ (∀ b ∈ L, ¬ RJF d sb nb ib rj lv vs b) ∧ (∀ b, RJF d sb nb ib rj lv vs b → w0.heap.size ≤ b ∧ b < w.heap.size) ∧
    ∀ (Z' : JSt) (w' : World) (news' : List (List UInt8)) (lv' : Value) (vs' : List Value), RJ w' d sb nb ib rj Z' news' lv' vs' → TurnP (fun b => b = d ∨ b = sb ∨ b = nb ∨ b = ib ∨ b = rj) w w' → (∀ b ∈ blockOf lv', b ∈ blockOf lv ∨ w.heap.size ≤ b) → (∀ v ∈ vs', v ∈ vs ∨ ∀ b ∈ seatOf v, w.heap.size ≤ b) → St w0 (rrH d sb nb ib rj Z' :: R) w' := by
  have h' : St w0 ([rrH d sb nb ib rj Z] ++ R) w := h
  obtain ⟨F, ⟨F1, F2, ⟨news, lv, vs, hR, rfl⟩, _, _, a4, _⟩, f2, f3, f4⟩ := St.openA [rrH d sb nb ib rj Z] h' ha
  refine ⟨news, lv, vs, hR, fun b hb hx => f3 b hb (a4 b hx), fun b hb => f2 b (a4 b hb), fun Z' w' news' lv' vs' hR' k hl hv => ?_⟩
  refine f4 [rrH d sb nb ib rj Z'] w' _ (Sep.one ⟨news', lv', vs', hR', rfl⟩) (k.mono (fun b hb => .inl (a4 b ?_))) (fun b hb => ?_)
  · rcases hb with h | h | h | h | h
    · exact .inl h
    · exact .inr (.inl h)
    · exact .inr (.inr (.inl h))
    · exact .inr (.inr (.inr (.inl h)))
    · exact .inr (.inr (.inr (.inr (.inl h))))
  · rcases hb with h | h | h | h | h | h | ⟨v, hv', h⟩
    · exact .inl (a4 b (.inl h))
    · exact .inl (a4 b (.inr (.inl h)))
    · exact .inl (a4 b (.inr (.inr (.inl h))))
    · exact .inl (a4 b (.inr (.inr (.inr (.inl h)))))
    · exact .inl (a4 b (.inr (.inr (.inr (.inr (.inl h))))))
    · exact (hl b h).imp (fun h => a4 b (.inr (.inr (.inr (.inr (.inr (.inl h))))))) id
    · rcases hv v hv' with h' | h'
      · exact .inl (a4 b (.inr (.inr (.inr (.inr (.inr (.inr ⟨v, h', h⟩)))))))
      · exact .inr (h' b h)
end Go.Proofs.Ytkifggnjpgoamaa
