/- Contracts of the reference of layer 21: a disk. -/
import Derived.Test.YtkifggnjpgoamaaRefB
import Derived.Test.YtkifggnjpgoamaaDiskB
namespace Go.Proofs.Ytkifggnjpgoamaa
open Go.RowKit

/-- The reference's disk. -/
structure RSt where
  sure : List (List UInt8)
  news : List (List UInt8)
  is : List Bool
  lit : Int
  dead : Bool

structure RDAt (w : World) (d sb nb ib : Nat) (S : RSt) : Prop where
  blk : Blk w d #[.slice (some ⟨sb, 0, none⟩) S.sure.length S.sure.length, .slice (some ⟨nb, 0, none⟩) S.sure.length S.sure.length, .slice (some ⟨ib, 0, none⟩) S.sure.length S.sure.length, .int .i64 S.lit, .bool S.dead] 199
  row : Blk w sb (bvs S.sure.flatten).toArray 202
  rnew : Blk w nb (bvs S.news.flatten).toArray 202
  ris : Blk w ib (S.is.map Value.bool).toArray 4
  full : ∀ s ∈ S.sure, s.length = 64
  fullN : ∀ s ∈ S.news, s.length = 64
  lenN : S.news.length = S.sure.length
  lenI : S.is.length = S.sure.length
  ne1 : d ≠ sb
  ne2 : d ≠ nb
  ne3 : d ≠ ib
  ne4 : sb ≠ nb
  ne5 : sb ≠ ib
  ne6 : nb ≠ ib
  many : S.sure.length ≤ 64
  low : -1 ≤ S.lit
  high : S.lit ≤ 9223372036854775807

theorem RDAt.turnP {w w' : World} {d sb nb ib : Nat} {S : RSt} {F : Nat → Prop} (h : RDAt w d sb nb ib S) (k : TurnP F w w') (h1 : ¬ F d) (h2 : ¬ F sb) (h3 : ¬ F nb) (h4 : ¬ F ib) : RDAt w' d sb nb ib S :=
  ⟨h.blk.turnP k h1, h.row.turnP k h2, h.rnew.turnP k h3, h.ris.turnP k h4, h.full, h.fullN, h.lenN, h.lenI, h.ne1, h.ne2, h.ne3, h.ne4, h.ne5, h.ne6, h.many, h.low, h.high⟩
theorem RDAt.turn0 {w w' : World} {d sb nb ib : Nat} {S : RSt} (h : RDAt w d sb nb ib S) (k : Turn [] w w') : RDAt w' d sb nb ib S := h.turnP (F := fun _ => False) k.toP0 id id id id

set_option maxHeartbeats 400000 in
theorem rburn_dead (d : Nat) (x0 x1 x2 : Value) (f : Int) (dead : Bool) (w : World) (T : TypeId) (hB : Blk w d #[x0, x1, x2, .int .i64 f, .bool dead] T) (h : dead = true ∨ f = 0) :
    Calls Try.prog 140 #[.pointer (some ⟨d, 0, none⟩)] w fun e w' => e = .returned (.bool false) ∧ Turn [d] w w' ∧ Blk w' d #[x0, x1, x2, .int .i64 f, .bool true] T := by
  have c3 := hB.cells5.2.2.2.1
  have c4 := hB.cells5.2.2.2.2
  have f4 := hB.thaw 4
  have fin : Turn [d] w (w.setCell ⟨d, 4, none⟩ (.bool true)) ∧ Blk (w.setCell ⟨d, 4, none⟩ (.bool true)) d #[x0, x1, x2, .int .i64 f, .bool true] T :=
    ⟨(Turn.refl _ _).setCell (by simp) _, hB.set 4 _⟩
  have Fin := Lib.hid fin
  clear fin hB
  by_cases hd : dead = true
  · subst hd
    go_enter Try.func140, Try.ntmps140
    go_wp2
    go_ret
    exact ⟨rfl, Fin.out⟩
  · obtain rfl : dead = false := by simpa using hd
    obtain rfl : f = 0 := by simpa using h
    go_enter Try.func140, Try.ntmps140
    go_wp2
    go_ret
    exact ⟨rfl, Fin.out⟩

set_option maxHeartbeats 400000 in
theorem rburn_ok (d : Nat) (x0 x1 x2 : Value) (f : Int) (w : World) (T : TypeId) (hB : Blk w d #[x0, x1, x2, .int .i64 f, .bool false] T) (h : f ≠ 0) (h1 : -1 ≤ f) (h2 : f ≤ 9223372036854775807) :
    Calls Try.prog 140 #[.pointer (some ⟨d, 0, none⟩)] w fun e w' => e = .returned (.bool true) ∧ Turn [d] w w' ∧ Blk w' d #[x0, x1, x2, .int .i64 (max (f - 1) (-1)), .bool false] T := by
  have c3 := hB.cells5.2.2.2.1
  have c4 := hB.cells5.2.2.2.2
  have f3 := hB.thaw 3
  have hf : (f == 0) = false := by simpa using h
  by_cases hp : 0 < f
  · have fin : Turn [d] w (w.setCell ⟨d, 3, none⟩ (.int .i64 (f - 1))) ∧ Blk (w.setCell ⟨d, 3, none⟩ (.int .i64 (f - 1))) d #[x0, x1, x2, .int .i64 (max (f - 1) (-1)), .bool false] T :=
      ⟨(Turn.refl _ _).setCell (by simp) _, by rw [show max (f - 1) (-1) = f - 1 from by omega]; exact hB.set 3 _⟩
    have Fin := Lib.hid fin
    clear fin hB
    go_enter Try.func140, Try.ntmps140
    go_wp2
    go_ret
    exact ⟨rfl, Fin.out⟩
  · have fin : Blk w d #[x0, x1, x2, .int .i64 (max (f - 1) (-1)), .bool false] T := by
      rw [show max (f - 1) (-1) = f from by omega]; exact hB
    have Fin := Lib.hid fin
    clear fin hB
    go_enter Try.func140, Try.ntmps140
    go_wp2
    go_ret
    exact ⟨rfl, Turn.refl _ _, Fin.out⟩

variable {w w' : World} {d sb nb ib : Nat} {S : RSt}
theorem RDAt.bools (h : RDAt w d sb nb ib S) (i : Nat) (hi : i < S.sure.length) : w.cell? ⟨ib, i, none⟩ = some (.bool (S.is.getD i false)) ∧ w.frozen? ⟨ib, i, none⟩ = false := by
  refine ⟨h.ris.cell i ?_, h.ris.thaw i⟩
  have hl : i < S.is.length := by rw [h.lenI]; exact hi
  simp [List.getD, List.getElem?_eq_getElem hl]

set_option maxHeartbeats 400000 in
theorem rwrite_dead (i : Int) (s : List UInt8) (hD : RDAt w d sb nb ib S) (h0 : 0 ≤ i) (h1 : i < S.sure.length) (h : S.dead = true ∨ S.lit = 0) :
    Calls Try.prog 93 #[.pointer (some ⟨d, 0, none⟩), .int .i64 i, secV s] w fun e w' => e = .returned (.int .i64 13) ∧ Turn [d] w w' ∧ RDAt w' d sb nb ib { S with dead := true } := by
  have c0 := hD.blk.cells5.1
  have l0 := hD.blk.lt
  have HD := Lib.hid hD
  clear hD
  have Hh := Lib.hid h
  clear h
  unfold secV
  go_enter Try.func93, Try.ntmps93
  go_wp2_with fail
  refine (rburn_dead d _ _ _ _ _ _ _ (HD.out.blk.alloc _) Hh.out).mono ?_
  rintro e w1 ⟨rfl, hT, hB⟩
  go_wp2
  go_ret
  have hD := HD.out
  have hA : Turn [] w (w.alloc (.cells (bvs s).toArray 202)) := (Turn.refl _ _).alloc _
  have hT' : Turn [d] w w1 := (hA.mono (by simp)).trans hT (by simp)
  exact ⟨rfl, hT', hB, hD.row.turn hT' (by simp [Ne.symm hD.ne1]), hD.rnew.turn hT' (by simp [Ne.symm hD.ne2]), hD.ris.turn hT' (by simp [Ne.symm hD.ne3]), hD.full, hD.fullN, hD.lenN, hD.lenI, hD.ne1, hD.ne2, hD.ne3, hD.ne4, hD.ne5, hD.ne6, hD.many, hD.low, hD.high⟩

set_option maxRecDepth 100000 in
set_option maxHeartbeats 800000 in
theorem rwrite_ok (i : Nat) (s : List UInt8) (hD : RDAt w d sb nb ib S) (hs : s.length = 64) (h1 : i < S.sure.length) (hd : S.dead = false) (hf : S.lit ≠ 0) :
    Calls Try.prog 93 #[.pointer (some ⟨d, 0, none⟩), .int .i64 i, secV s] w fun e w' => e = .returned (.int .i64 0) ∧ Turn [d, nb, ib] w w' ∧
      RDAt w' d sb nb ib { S with lit := max (S.lit - 1) (-1), news := S.news.set i s, is := S.is.set i true } := by
  obtain ⟨sure, news, is, lit, dead⟩ := S
  simp only at hd hf h1
  subst hd
  have c0 := hD.blk.cells5.1
  have l0 := hD.blk.lt
  have h1i : (i : Int) < (sure.length : Int) := by omega
  have Hs := Lib.hid hs
  have HD := Lib.hid hD
  clear hs hD
  unfold secV
  go_enter Try.func93, Try.ntmps93
  go_wp2_with fail
  refine (rburn_ok d _ _ _ _ _ _ (HD.out.blk.alloc _) hf HD.out.low HD.out.high).mono ?_
  rintro e w1 ⟨rfl, hT, hB⟩
  have hD := HD.out
  have hN := (Blk.new w (bvs s).toArray 202).turn hT (by simp; omega)
  have hr' : w1.rangeAt w.heap.size 0 (bvs s) := hN.all
  have hr2 : w1.drew.rangeAt w.heap.size 0 (bvs s) := (World.rangeAt_drew _ _ _ _).2 hr'
  have hl : (bvs s).length = 64 := by rw [bvs_length]; exact Hs.out
  have c1 : w1.drew.cell? ⟨d, 1, none⟩ = some (.slice (some ⟨nb, 0, none⟩) sure.length sure.length) := hB.cells5.2.1
  have hA : Turn [] w (w.alloc (.cells (bvs s).toArray 202)) := (Turn.refl _ _).alloc _
  have hT' : Turn [d] w w1 := (hA.mono (by simp)).trans hT (by simp)
  have hnb : Blk w1.drew nb (bvs news.flatten).toArray 202 := (hD.rnew.turn hT' (by simp [Ne.symm hD.ne2])).drew
  have hib : Blk w1.drew ib (is.map Value.bool).toArray 4 := (hD.ris.turn hT' (by simp [Ne.symm hD.ne3])).drew
  have hBd : Blk w1.drew d #[.slice (some ⟨sb, 0, none⟩) sure.length sure.length, .slice (some ⟨nb, 0, none⟩) sure.length sure.length, .slice (some ⟨ib, 0, none⟩) sure.length sure.length, .int .i64 (max (lit - 1) (-1)), .bool false] 199 := hB
  have hNl : news.length = sure.length := hD.lenN
  have hIl : is.length = sure.length := hD.lenI
  have HNL := Lib.hid (And.intro hNl hIl)
  have hTd : Turn [d] w w1.drew := hT'.drew
  clear hr' hN hB hA hT' hT c0 hNl hIl
  go_wp2
  refine wp_region_still_tail 7 (by kernel_rfl) (by kernel_rfl) ?_
  simp only [List.take_succ_cons, List.take_zero, List.drop_succ_cons, List.drop_zero]
  repeat (first
    | (refine wpStill_load rfl 202 _ rfl _ _ rfl _ _ hr2 Try.underlying202 rfl (info_rsec hl) ?_; go_frame)
    | still_step)
  refine wpStill_nil ?_
  go_wp2_with (first
    | (refine wpList_storeA rfl 202 _ _ rfl nb (i * 64) (bvs s) rfl rfl _ 202 hnb (by rw [bvs_length, bvs_length, flatten_length _ hD.fullN, Hs.out]; have := HNL.out.1; simp only at this ⊢; omega) (info_rsec hl) (bvs_one _) ?_
       intro w2 hT2 hn2 hz2
       have hB2 := hBd.turn hT2 (by simp [hD.ne2])
       have c2 := hB2.cells5.2.2.1
       have hi2 := hib.turn hT2 (by simp [Ne.symm hD.ne6])
       have ci := hi2.cell i (v := .bool (is.getD i false)) (by have := HNL.out.2; simp [List.getD, List.getElem?_eq_getElem (show i < is.length by omega)])
       have fi := hi2.thaw i
       go_frame))
  go_ret
  have hTt : Turn [d, nb] w w2 := (hTd.mono (by simp)).trans hT2 (by simp)
  have hT3 : Turn [ib] w2 (w2.setCell ⟨ib, i, none⟩ (.bool true)) := (Turn.refl _ _).setCell (by simp) _
  have hTa : Turn [d, nb, ib] w (w2.setCell ⟨ib, i, none⟩ (.bool true)) := (hTt.mono (by simp)).trans hT3 (by simp)
  rw [lay_sector news i s hD.fullN (by have := HNL.out.1; omega) Hs.out] at hn2
  have his := hi2.setL i (.bool true)
  rw [← List.map_set (f := Value.bool) (l := is) (i := i) (a := true)] at his
  have n1 := hD.ne1
  have n2 := hD.ne2
  have n3 := hD.ne3
  have n4 := hD.ne4
  have n5 := hD.ne5
  have n6 := hD.ne6
  have lo := hD.low
  have hi := hD.high
  refine ⟨rfl, hTa, hB2.turn hT3 (by simp [n3]), hD.row.turn hTa (by simp [Ne.symm n1, n4, n5]), hn2.turn hT3 (by simp [n6]), his, hD.full, fun t ht => ?_, by simp only [List.length_set]; exact HNL.out.1, by simp only [List.length_set]; exact HNL.out.2, n1, n2, n3, n4, n5, n6, hD.many, by simp only; omega, by simp only at lo hi ⊢; omega⟩
  rcases List.mem_or_eq_of_mem_set ht with h | h
  · exact hD.fullN t h
  · rw [h]; exact Hs.out
end Go.Proofs.Ytkifggnjpgoamaa
