/- Contracts of the reference of layer 21: Crash. -/
import Derived.Test.YtkifggnjpgoamaaRefG
namespace Go.Proofs.Ytkifggnjpgoamaa
open Go.RowKit
variable {w w' : World} {d sb nb ib : Nat} {S : RSt}

set_option maxRecDepth 100000 in
set_option maxHeartbeats 1600000 in
theorem rcrash_none (mask : Int) (hD : RDAt w d sb nb ib S) (hp : pend S.is S.sure.length = []) :
    Calls Try.prog 41 #[.pointer (some ⟨d, 0, none⟩), .int .u64 mask] w fun e w' => e = .returned (.tuple #[]) ∧ Turn [d] w w' ∧ RDAt w' d sb nb ib { S with dead := false, lit := -1 } := by
  have HD := Lib.hid hD
  have HP := Lib.hid hp
  clear hD hp
  go_enter Try.func41, Try.ntmps41
  go_wp2_with fail
  refine (rpending_any HD.out).mono ?_
  rintro e w1 ⟨a, c, rfl, hT1, hO1, hF1⟩
  rw [HP.out]
  have hD1 := HD.out.turn0 hT1
  have f3 := hD1.blk.thaw 3
  have f4 := hD1.blk.thaw 4
  have c3 := hD1.blk.cells5.2.2.2.1
  have c4 := hD1.blk.cells5.2.2.2.2
  have HT1 := Lib.hid hT1
  have HD1 := Lib.hid hD1
  clear hO1 hF1 hT1 hD1
  simp only [List.length_nil]
  go_wp2_with fail
  refine wp_loop_rounds 1 ?_
  rw [rounds_succ]
  go_wp2
  go_end0
  have hD := HD1.out
  have hB := (hD.blk.set 4 (.bool false)).set 3 (.int .i64 (-1))
  have hT2 : Turn [d] w1 ((w1.setCell ⟨d, 4, none⟩ (.bool false)).setCell ⟨d, 3, none⟩ (.int .i64 (-1))) := ((Turn.refl _ _).setCell (by simp) _).setCell (by simp) _
  exact ⟨rfl, (HT1.out.mono (by simp)).trans hT2 (by simp), hB, hD.row.turn hT2 (by simp [Ne.symm hD.ne1]), hD.rnew.turn hT2 (by simp [Ne.symm hD.ne2]), hD.ris.turn hT2 (by simp [Ne.symm hD.ne3]), hD.full, hD.fullN, hD.lenN, hD.lenI, hD.ne1, hD.ne2, hD.ne3, hD.ne4, hD.ne5, hD.ne6, hD.many, by show (-1 : Int) ≤ -1; omega, by show (-1 : Int) ≤ 9223372036854775807; omega⟩

set_option maxRecDepth 100000 in
set_option maxHeartbeats 3200000 in
theorem rcrash_keep (mask : Int) (i : Nat) (hbit : mask % 2 = 1) (hm : 0 ≤ mask) (hm2 : mask < 18446744073709551616) (hD : RDAt w d sb nb ib S) (hp : pend S.is S.sure.length = [i]) (hi : i < S.sure.length) :
    Calls Try.prog 41 #[.pointer (some ⟨d, 0, none⟩), .int .u64 mask] w fun e w' => e = .returned (.tuple #[]) ∧ Turn [d, sb, ib] w w' ∧
      RDAt w' d sb nb ib { S with dead := false, lit := -1, is := S.is.set i false, sure := S.sure.set i (S.news.getD i []) } := by
  have HD := Lib.hid hD
  have HP := Lib.hid hp
  have HM := Lib.hid (And.intro hm hm2)
  have HBit := Lib.hid hbit
  clear hD hp hm2 hbit
  have hi64 := HD.out.many
  have hii : (i : Int) < (S.sure.length : Int) := by omega
  go_enter Try.func41, Try.ntmps41
  go_wp2_with fail
  refine (rpending_any HD.out).mono ?_
  rintro e w1 ⟨a, c, rfl, hT1, hO1, hF1⟩
  rw [HP.out] at hO1 hF1 ⊢
  have hD1 := HD.out.turn0 hT1
  rcases hO1.src with ⟨h0, _⟩ | ⟨g, o, c', hv, _, _, hg, hr⟩
  · simp at h0
  cases hv
  have cg := hr 0 (.int .i64 i) rfl
  rw [Nat.add_zero] at cg
  have hgw : w.heap.size ≤ g := hF1 g (by simp [blockOf])
  have HT1 := Lib.hid hT1
  have HD1 := Lib.hid hD1
  have hgd : g ≠ d ∧ g ≠ sb ∧ g ≠ nb ∧ g ≠ ib := by
    have h1 := HD.out.blk.lt
    have h2 := HD.out.row.lt
    have h3 := HD.out.rnew.lt
    have h4 := HD.out.ris.lt
    omega
  have HG := Lib.hid hgd
  clear hO1 hF1 hT1 hD1 hr hgd
  simp only [List.length_cons, List.length_nil, Nat.zero_add]
  go_wp2_with fail
  refine wp_loop_rounds 2 ?_
  rw [rounds_succ]
  have hbb : (mask % 2 == 1) = true := by rw [beq_iff_eq]; exact HBit.out
  have hD := HD1.out
  have n1 := hD.ne1
  have n2 := hD.ne2
  have n3 := hD.ne3
  have n4 := hD.ne4
  have n5 := hD.ne5
  have n6 := hD.ne6
  have hBd : Blk w1.drew d #[.slice (some ⟨sb, 0, none⟩) S.sure.length S.sure.length, .slice (some ⟨nb, 0, none⟩) S.sure.length S.sure.length, .slice (some ⟨ib, 0, none⟩) S.sure.length S.sure.length, .int .i64 S.lit, .bool S.dead] 199 := hD.blk.drew
  have c0 := hBd.cells5.1
  have c1 := hBd.cells5.2.1
  have cgd : w1.drew.cell? ⟨g, o, none⟩ = some (.int .i64 (i : Int)) := cg
  have hgd : g < w1.drew.heap.size := hg
  have hl := (hD.read_len i hi).2.1
  have HL := Lib.hid hl
  have hsec : w1.drew.rangeAt nb (i * 64) (bvs (S.news.getD i [])) := (World.rangeAt_drew _ _ _ _).2 (hD.sectorN i hi)
  have hRd : Blk w1.drew sb (bvs S.sure.flatten).toArray 202 := hD.row.drew
  have hId : Blk w1.drew ib (S.is.map Value.bool).toArray 4 := hD.ris.drew
  have hNd : Blk w1.drew nb (bvs S.news.flatten).toArray 202 := hD.rnew.drew
  have hll : (bvs (S.news.getD i [])).length = 64 := lenb hl
  have hfl : (bvs S.sure.flatten).length = 64 * S.sure.length := by rw [bvs_length, flatten_length _ hD.full]
  have HFL := Lib.hid hfl
  have hTd : Turn [] w w1.drew := HT1.out.drew
  have hIl := hD.lenI
  have HIL := Lib.hid hIl
  clear hfl hl hIl hg
  go_wp2
  refine wp_region_still_tail 19 (by kernel_rfl) (by kernel_rfl) ?_
  simp only [List.take_succ_cons, List.take_zero, List.drop_succ_cons, List.drop_zero]
  repeat (first
    | (refine wpStill_load rfl 202 _ rfl _ _ rfl _ _ hsec Try.underlying202 rfl (info_rsec hll) ?_; go_frame)
    | still_step)
  refine wpStill_nil ?_
  go_wp2_with (first
    | (refine wpList_storeA rfl 202 _ _ rfl sb (i * 64) (bvs (S.news.getD i [])) rfl rfl _ 202 hRd (by rw [HFL.out, hll]; omega) (info_rsec hll) (bvs_one _) ?_
       intro w2 hT2 hR2 hz2
       rw [lay_sector S.sure i _ hD.full hi HL.out] at hR2
       have HR2 := Lib.hid hR2
       have HT2 := Lib.hid hT2
       clear hR2 hT2
       go_frame))
  have hB2 : Blk w2.drew d #[.slice (some ⟨sb, 0, none⟩) S.sure.length S.sure.length, .slice (some ⟨nb, 0, none⟩) S.sure.length S.sure.length, .slice (some ⟨ib, 0, none⟩) S.sure.length S.sure.length, .int .i64 S.lit, .bool S.dead] 199 := (hBd.turn HT2.out (by simp [n1])).drew
  have hI2 : Blk w2.drew ib (S.is.map Value.bool).toArray 4 := (hId.turn HT2.out (by simp [Ne.symm n5])).drew
  have hN2 := hNd.turn HT2.out (by simp [Ne.symm n4])
  have cg2 : w2.drew.cell? ⟨g, o, none⟩ = some (.int .i64 (i : Int)) := (HT2.out.cell (p := ⟨g, o, none⟩) hgd (by simp [HG.out.2.1])).trans cgd
  have e2 := hB2.cells5.2.2.1
  have ei := hI2.cell i (v := .bool (S.is.getD i false)) (by have := HIL.out; simp [List.getD, List.getElem?_eq_getElem (show i < S.is.length by omega)])
  have fi := hI2.thaw i
  clear c0 c1 cgd hsec
  refine wp_region_still_tail 9 (by kernel_rfl) (by kernel_rfl) ?_
  simp only [List.take_succ_cons, List.take_zero, List.drop_succ_cons, List.drop_zero]
  repeat still_step
  refine wpStill_nil ?_
  go_wp2
  have hIs := hI2.setL i (.bool false)
  rw [← List.map_set (f := Value.bool) (a := false)] at hIs
  have hT3 : Turn [ib] w2 (w2.drew.setCell ⟨ib, i, none⟩ (.bool false)) := ((Turn.refl [ib] w2).drew).setCell (by simp) _
  have hB3 := hB2.turn (S := [ib]) ((Turn.refl [ib] w2.drew).setCell (p := ⟨ib, i, none⟩) (by simp) (.bool false)) (by simp [n3])
  obtain ⟨w3, hw3⟩ : ∃ x, w2.drew.setCell ⟨ib, i, none⟩ (.bool false) = x := ⟨_, rfl⟩
  have hw3' : (w2.setCell ⟨ib, i, none⟩ (.bool false)).drew = w3 := hw3
  rw [hw3] at hIs hT3 hB3
  first | rw [hw3] | rw [hw3']
  have HX := Lib.hid (And.intro hIs hT3)
  clear hIs hT3 hw3 hw3' e2 ei fi cg2 hB2
  rw [rounds_succ]
  have hB4 := (hB3.set 4 (.bool false)).set 3 (.int .i64 (-1))
  have hT4 : Turn [d] w3 ((w3.setCell ⟨d, 4, none⟩ (.bool false)).setCell ⟨d, 3, none⟩ (.int .i64 (-1))) := ((Turn.refl _ _).setCell (by simp) _).setCell (by simp) _
  have q4 := hB3.cells5.2.2.2.2
  have q3 := hB3.cells5.2.2.2.1
  have f4 := hB3.thaw 4
  have f3 := hB3.thaw 3
  have HB4 := Lib.hid (And.intro hB4 hT4)
  clear hB4 hT4 cg
  go_wp2
  go_end0
  have hT23 : Turn [d, ib] w2 ((w3.setCell ⟨d, 4, none⟩ (.bool false)).setCell ⟨d, 3, none⟩ (.int .i64 (-1))) := (HX.out.2.mono (by simp)).trans HB4.out.2 (by simp)
  have hTa : Turn [d, sb, ib] w ((w3.setCell ⟨d, 4, none⟩ (.bool false)).setCell ⟨d, 3, none⟩ (.int .i64 (-1))) := ((hTd.mono (by simp)).trans HT2.out (by simp)).trans hT23 (by simp)
  have hR := HR2.out.turn hT23 (by simp [Ne.symm n1, n5])
  have hN := hN2.turn hT23 (by simp [Ne.symm n2, n6])
  refine ⟨rfl, hTa, by simpa using HB4.out.1, hR, hN, HX.out.1.turn HB4.out.2 (by simp [Ne.symm n3]), fun t ht => ?_, hD.fullN, by simp only [List.length_set]; exact hD.lenN, by simp only [List.length_set]; exact hD.lenI, n1, n2, n3, n4, n5, n6, by simp only [List.length_set]; exact hD.many, by show (-1 : Int) ≤ -1; omega, by show (-1 : Int) ≤ 9223372036854775807; omega⟩
  rcases List.mem_or_eq_of_mem_set ht with h | h
  · exact hD.full t h
  · rw [h]; exact HL.out

set_option maxRecDepth 100000 in
set_option maxHeartbeats 3200000 in
theorem rcrash_lose (mask : Int) (i : Nat) (hbit : ¬ mask % 2 = 1) (hm : 0 ≤ mask) (hm2 : mask < 18446744073709551616) (hD : RDAt w d sb nb ib S) (hp : pend S.is S.sure.length = [i]) (hi : i < S.sure.length) :
    Calls Try.prog 41 #[.pointer (some ⟨d, 0, none⟩), .int .u64 mask] w fun e w' => e = .returned (.tuple #[]) ∧ Turn [d, sb, ib] w w' ∧
      RDAt w' d sb nb ib { S with dead := false, lit := -1, is := S.is.set i false, sure := S.sure } := by
  have HD := Lib.hid hD
  have HP := Lib.hid hp
  have HM := Lib.hid (And.intro hm hm2)
  have HBit := Lib.hid hbit
  clear hD hp hm2 hbit
  have hi64 := HD.out.many
  have hii : (i : Int) < (S.sure.length : Int) := by omega
  go_enter Try.func41, Try.ntmps41
  go_wp2_with fail
  refine (rpending_any HD.out).mono ?_
  rintro e w1 ⟨a, c, rfl, hT1, hO1, hF1⟩
  rw [HP.out] at hO1 hF1 ⊢
  have hD1 := HD.out.turn0 hT1
  rcases hO1.src with ⟨h0, _⟩ | ⟨g, o, c', hv, _, _, hg, hr⟩
  · simp at h0
  cases hv
  have cg := hr 0 (.int .i64 i) rfl
  rw [Nat.add_zero] at cg
  have hgw : w.heap.size ≤ g := hF1 g (by simp [blockOf])
  have HT1 := Lib.hid hT1
  have HD1 := Lib.hid hD1
  have hgd : g ≠ d ∧ g ≠ sb ∧ g ≠ nb ∧ g ≠ ib := by
    have h1 := HD.out.blk.lt
    have h2 := HD.out.row.lt
    have h3 := HD.out.rnew.lt
    have h4 := HD.out.ris.lt
    omega
  have HG := Lib.hid hgd
  clear hO1 hF1 hT1 hD1 hr hgd
  simp only [List.length_cons, List.length_nil, Nat.zero_add]
  go_wp2_with fail
  refine wp_loop_rounds 2 ?_
  rw [rounds_succ]
  have hbb : (mask % 2 == 1) = false := by rw [beq_eq_false_iff_ne]; exact HBit.out
  have hD := HD1.out
  have n1 := hD.ne1
  have n2 := hD.ne2
  have n3 := hD.ne3
  have n4 := hD.ne4
  have n5 := hD.ne5
  have n6 := hD.ne6
  have hB2 : Blk w1.drew d #[.slice (some ⟨sb, 0, none⟩) S.sure.length S.sure.length, .slice (some ⟨nb, 0, none⟩) S.sure.length S.sure.length, .slice (some ⟨ib, 0, none⟩) S.sure.length S.sure.length, .int .i64 S.lit, .bool S.dead] 199 := hD.blk.drew
  have cg2 : w1.drew.cell? ⟨g, o, none⟩ = some (.int .i64 (i : Int)) := cg
  have hI2 : Blk w1.drew ib (S.is.map Value.bool).toArray 4 := hD.ris.drew
  have hTd : Turn [] w w1.drew := HT1.out.drew
  have hIl := hD.lenI
  have HIL := Lib.hid hIl
  have e2 := hB2.cells5.2.2.1
  have ei := hI2.cell i (v := .bool (S.is.getD i false)) (by have := HIL.out; simp [List.getD, List.getElem?_eq_getElem (show i < S.is.length by omega)])
  have fi := hI2.thaw i
  clear hIl hg
  go_wp2
  refine wp_region_still_tail 9 (by kernel_rfl) (by kernel_rfl) ?_
  simp only [List.take_succ_cons, List.take_zero, List.drop_succ_cons, List.drop_zero]
  repeat still_step
  refine wpStill_nil ?_
  go_wp2
  have hIs := hI2.setL i (.bool false)
  rw [← List.map_set (f := Value.bool) (a := false)] at hIs
  have hT3 : Turn [ib] w1 (w1.drew.setCell ⟨ib, i, none⟩ (.bool false)) := ((Turn.refl [ib] w1).drew).setCell (by simp) _
  have hB3 := hB2.turn (S := [ib]) ((Turn.refl [ib] w1.drew).setCell (p := ⟨ib, i, none⟩) (by simp) (.bool false)) (by simp [n3])
  obtain ⟨w3, hw3⟩ : ∃ x, w1.drew.setCell ⟨ib, i, none⟩ (.bool false) = x := ⟨_, rfl⟩
  have hw3' : (w1.setCell ⟨ib, i, none⟩ (.bool false)).drew = w3 := hw3
  rw [hw3] at hIs hT3 hB3
  first | rw [hw3] | rw [hw3']
  have HX := Lib.hid (And.intro hIs hT3)
  clear hIs hT3 hw3 hw3' e2 ei fi cg2 hB2
  rw [rounds_succ]
  have hB4 := (hB3.set 4 (.bool false)).set 3 (.int .i64 (-1))
  have hT4 : Turn [d] w3 ((w3.setCell ⟨d, 4, none⟩ (.bool false)).setCell ⟨d, 3, none⟩ (.int .i64 (-1))) := ((Turn.refl _ _).setCell (by simp) _).setCell (by simp) _
  have q4 := hB3.cells5.2.2.2.2
  have q3 := hB3.cells5.2.2.2.1
  have f4 := hB3.thaw 4
  have f3 := hB3.thaw 3
  have HB4 := Lib.hid (And.intro hB4 hT4)
  clear hB4 hT4 cg
  go_wp2
  go_end0
  have hT23 : Turn [d, ib] w1 ((w3.setCell ⟨d, 4, none⟩ (.bool false)).setCell ⟨d, 3, none⟩ (.int .i64 (-1))) := (HX.out.2.mono (by simp)).trans HB4.out.2 (by simp)
  have hTa : Turn [d, sb, ib] w ((w3.setCell ⟨d, 4, none⟩ (.bool false)).setCell ⟨d, 3, none⟩ (.int .i64 (-1))) := (HT1.out.mono (by simp)).trans (hT23.mono (T := [d, sb, ib]) (by simp)) (by simp)
  have hR := hD.row.turn hT23 (by simp [Ne.symm n1, n5])
  have hN := hD.rnew.turn hT23 (by simp [Ne.symm n2, n6])
  exact ⟨rfl, hTa, by simpa using HB4.out.1, hR, hN, HX.out.1.turn HB4.out.2 (by simp [Ne.symm n3]), hD.full, hD.fullN, hD.lenN, by simp only [List.length_set]; exact hD.lenI, n1, n2, n3, n4, n5, n6, hD.many, by show (-1 : Int) ≤ -1; omega, by show (-1 : Int) ≤ 9223372036854775807; omega⟩

end Go.Proofs.Ytkifggnjpgoamaa
