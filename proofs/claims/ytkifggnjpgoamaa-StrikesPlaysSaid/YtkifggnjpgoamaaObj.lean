/- Objects in memory by their footprints: what a call may have turned, said by a predicate on blocks ('TurnP'); a journal in memory ('JAt'). -/
import Derived.Test.YtkifggnjpgoamaaRec
namespace Go.Proofs.Ytkifggnjpgoamaa
open Go.RowKit

/-- Beside the blocks of F, and beyond what was there, w' is as w was. -/
structure TurnP (F : Nat → Prop) (w w' : World) : Prop where
  os : w'.os = w.os
  tape : w'.tape = w.tape
  output : w'.output = w.output
  size : w.heap.size ≤ w'.heap.size
  block : ∀ k, k < w.heap.size → ¬ F k → w'.heap[k]? = w.heap[k]?

theorem Turn.toP {S : List Nat} {F : Nat → Prop} {w w' : World} (h : Turn S w w') (hS : ∀ x ∈ S, F x ∨ w.heap.size ≤ x) : TurnP F w w' :=
  ⟨h.os, h.tape, h.output, h.size, fun k hk hn => h.block k hk (fun hx => (hS k hx).elim hn (fun e => by omega))⟩
theorem Turn.toP0 {F : Nat → Prop} {w w' : World} (h : Turn [] w w') : TurnP F w w' := h.toP (by simp)
theorem TurnP.refl (F : Nat → Prop) (w : World) : TurnP F w w := ⟨rfl, rfl, rfl, Nat.le_refl _, fun _ _ _ => rfl⟩
theorem TurnP.trans {F G : Nat → Prop} {a b c : World} (h : TurnP F a b) (k : TurnP G b c) (hG : ∀ x, G x → F x ∨ a.heap.size ≤ x) : TurnP F a c :=
  ⟨k.os.trans h.os, k.tape.trans h.tape, k.output.trans h.output, Nat.le_trans h.size k.size,
   fun i hi hn => (k.block i (Nat.lt_of_lt_of_le hi h.size) (fun hx => (hG i hx).elim hn (fun e => by omega))).trans (h.block i hi hn)⟩
theorem TurnP.mono {F G : Nat → Prop} {a b : World} (h : TurnP F a b) (hG : ∀ x, F x → G x ∨ a.heap.size ≤ x) : TurnP G a b :=
  ⟨h.os, h.tape, h.output, h.size, fun i hi hn => h.block i hi (fun hx => (hG i hx).elim hn (fun e => by omega))⟩
theorem TurnP.toT {F : Nat → Prop} {S : List Nat} {a b : World} (h : TurnP F a b) (hG : ∀ x, F x → x ∈ S ∨ a.heap.size ≤ x) : Turn S a b :=
  ⟨h.os, h.tape, h.output, h.size, fun i hi hn => h.block i hi (fun hx => (hG i hx).elim hn (fun e => by omega))⟩
theorem TurnP.of_T {S : List Nat} {a b : World} (h : Turn S a b) : TurnP (· ∈ S) a b := h.toP (fun _ hx => .inl hx)

theorem Blk.turnP {w w' : World} {b : Nat} {cs : Array Value} {T : TypeId} {F : Nat → Prop} (h : Blk w b cs T) (k : TurnP F w w') (hn : ¬ F b) : Blk w' b cs T := (k.block b h.lt hn).trans h
theorem IMap.turnP {w w' : World} {b : Nat} {m : List (Int × Value)} {F : Nat → Prop} (h : IMap w b m) (k : TurnP F w w') (hn : ¬ F b) : IMap w' b m := h.of_block (k.block b h.lt hn)
theorem Src.turnP {w w' : World} {v : Value} {n : Nat} {xs : List Value} {F : Nat → Prop} (h : Src w v n xs) (k : TurnP F w w') (hn : ∀ b ∈ seatOf v, ¬ F b) : Src w' v n xs := by
  rcases h with h | ⟨b, o, c, rfl, hc, h0, hb, hr⟩
  · exact .inl h
  · exact .inr ⟨b, o, c, rfl, hc, h0, Nat.lt_of_lt_of_le hb k.size, range_of_block (k.block b hb (hn b (by simp [seatOf_pos h0]))) hr⟩
theorem Own.turnP {w w' : World} {E size : Nat} {v : Value} {n : Nat} {xs : List Value} {F : Nat → Prop} (h : Own w E size v n xs) (k : TurnP F w w') (hn : ∀ b ∈ blockOf v, ¬ F b) : Own w' E size v n xs :=
  h.turn (S := (blockOf v ++ List.range w.heap.size).filter (fun b => ¬ (b ∈ blockOf v))) ⟨k.os, k.tape, k.output, k.size, fun i hi hx => k.block i hi (fun hF => by
    have : i ∈ blockOf v := by
      by_cases h' : i ∈ blockOf v
      · exact h'
      · exact absurd (by simp [h', hi]) hx
    exact hn i this hF)⟩ (fun b hb hx => by simp [hb] at hx)
theorem DiskAt.turnP {w w' : World} {d sb mb : Nat} {S : DSt} {F : Nat → Prop} (h : DiskAt w d sb mb S) (k : TurnP F w w') (h1 : ¬ F d) (h2 : ¬ F sb) (h3 : ¬ F mb) : DiskAt w' d sb mb S :=
  ⟨h.blk.turnP k h1, h.row.turnP k h2, h.full, h.soon.turnP k h3, h.ne1, h.ne2, h.ne3, h.many, h.low, h.high⟩

/-- Rows of bytes: the slice value lv, owned, whose elements vs hold the rows rs; no row lies in the slice's own block. -/
structure RowsAt (w : World) (lv : Value) (vs : List Value) (rs : List (List UInt8)) : Prop where
  own : Own w 35 1 lv rs.length vs
  len : vs.length = rs.length
  src : ∀ i (h : i < vs.length) (h' : i < rs.length), Src w vs[i] rs[i].length (bvs rs[i])
  ne : ∀ v ∈ vs, ∀ b ∈ seatOf v, b ∉ blockOf lv
  one : ∀ v ∈ vs, ∃ a n c, v = .slice a n c

theorem RowsAt.turnP {w w' : World} {lv : Value} {vs : List Value} {rs : List (List UInt8)} {F : Nat → Prop} (h : RowsAt w lv vs rs) (k : TurnP F w w') (h1 : ∀ b ∈ blockOf lv, ¬ F b) (h2 : ∀ v ∈ vs, ∀ b ∈ seatOf v, ¬ F b) : RowsAt w' lv vs rs :=
  ⟨h.own.turnP k h1, h.len, fun i hi hi' => (h.src i hi hi').turnP k (h2 _ (List.getElem_mem hi)), h.ne, h.one⟩
theorem RowsAt.nil (w : World) : RowsAt w (.slice none 0 0) [] [] := ⟨Own.nil _ _ _, rfl, fun i h => by simp at h, fun v h => (by cases h), fun v h => (by cases h)⟩
/-- One row more, behind an append. -/
theorem RowsAt.snoc {w w' : World} {lv lv' : Value} {vs : List Value} {rs : List (List UInt8)} (h : RowsAt w lv vs rs) (k : Turn (blockOf lv) w w') (v : Value) (b : List UInt8) (hv : ∃ a n c, v = .slice a n c) (hs : Src w' v b.length (bvs b))
    (hown : Own w' 35 1 lv' (rs.length + 1) (vs ++ [v])) (hf : ∀ g ∈ blockOf lv', g ∈ blockOf lv ∨ w.heap.size ≤ g) (hn : ∀ g ∈ seatOf v, g ∉ blockOf lv' ) : RowsAt w' lv' (vs ++ [v]) (rs ++ [b]) := by
  refine ⟨by simpa using hown, by simp [h.len], fun i hi hi' => ?_, fun x hx g hg hg' => ?_, fun x hx => ?_⟩
  · by_cases hlt : i < vs.length
    · have hlt' : i < rs.length := by rw [← h.len]; exact hlt
      rw [List.getElem_append_left hlt, List.getElem_append_left hlt']
      exact (h.src i hlt hlt').turn k (fun g hg => h.ne _ (List.getElem_mem hlt) g hg)
    · have e1 : i = vs.length := by simp at hi; omega
      have e2 : i = rs.length := by rw [← h.len]; exact e1
      subst e1
      rw [List.getElem_append_right (Nat.le_refl _), List.getElem_append_right (by omega)]
      simpa using hs
  · rcases List.mem_append.1 hx with hx | hx
    · rcases hf g hg' with h' | h'
      · exact h.ne x hx g hg h'
      · obtain ⟨i, hi, rfl⟩ := List.mem_iff_getElem.1 hx
        have := (h.src i hi (by rw [← h.len]; exact hi)).below g hg
        omega
    · simp only [List.mem_singleton] at hx
      subst hx
      exact hn g hg hg'
  · rcases List.mem_append.1 hx with hx | hx
    · exact h.one x hx
    · simp only [List.mem_singleton] at hx
      subst hx; exact hv

/-- A journal in memory: its block j; its disk's block d; so many sectors; its records. All its blocks but the disk's are in F. -/
structure JAt (w : World) (F : Nat → Prop) (j d size : Nat) (recs : List (List UInt8)) : Prop where
  ex : ∃ lv vs, Blk w j #[.pointer (some ⟨d, 0, none⟩), .int .i64 recs.length, .int .i64 size, lv] 148 ∧ RowsAt w lv vs recs ∧ F j ∧ (∀ b ∈ blockOf lv, F b ∧ b ≠ j) ∧ (∀ v ∈ vs, ∀ b ∈ seatOf v, F b ∧ b ≠ j)
  small : recs.length ≤ size ∧ size ≤ 64
  short : ∀ r ∈ recs, r.length ≤ 59

theorem JAt.turnP {w w' : World} {F G : Nat → Prop} {j d size : Nat} {recs : List (List UInt8)} (h : JAt w F j d size recs) (k : TurnP G w w') (hn : ∀ b, F b → ¬ G b) : JAt w' F j d size recs := by
  obtain ⟨⟨lv, vs, h1, h2, h3, h4, h5⟩, h6, h7⟩ := h
  exact ⟨⟨lv, vs, h1.turnP k (hn _ h3), h2.turnP k (fun b hb => hn _ (h4 b hb).1) (fun v hv b hb => hn _ (h5 v hv b hb).1), h3, h4, h5⟩, h6, h7⟩
theorem JAt.mono {w : World} {F G : Nat → Prop} {j d size : Nat} {recs : List (List UInt8)} (h : JAt w F j d size recs) (hn : ∀ b, F b → G b) : JAt w G j d size recs := by
  obtain ⟨⟨lv, vs, h1, h2, h3, h4, h5⟩, h6, h7⟩ := h
  exact ⟨⟨lv, vs, h1, h2, hn _ h3, fun b hb => ⟨hn _ (h4 b hb).1, (h4 b hb).2⟩, fun v hv b hb => ⟨hn _ (h5 v hv b hb).1, (h5 v hv b hb).2⟩⟩, h6, h7⟩
end Go.Proofs.Ytkifggnjpgoamaa
