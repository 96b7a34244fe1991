/- disk.Crash, where one sector at the most is unsure. -/
import Derived.Test.YtkifggnjpgoamaaPend
import Derived.Test.YtkifggnjpgoamaaObj
namespace Go.Proofs.Ytkifggnjpgoamaa
open Go.RowKit

section
variable {P : Program} {T K E : TypeId}
theorem wpStill_mget {ops : Array Oper} {rest : List Oper} {o : Oper} {a : Act} {w : World} {Q : Act → Prop} (hg : o.guard = none) (T : TypeId) (x y : Operand) (ok : Bool) (ho : o.op = .lookup T x y ok)
    (hT : P.underlying T = some (.map K E)) (hK : P.underlying K = some (.int .i64)) (z : Value) (hz : ∀ w, (zeroValue E).run P w = .ok z w) (b : Nat) (k : Int) (hx : a.eval x = .map (some b)) (hy : a.eval y = .int .i64 k)
    (m : List (Int × Value)) (hm : IMap w b m) (h : wpStill P ops w Q rest (a.put o.dst (if ok then .tuple #[(mget m k).getD z, .bool (mget m k).isSome] else (mget m k).getD z))) : wpStill P ops w Q (o :: rest) a :=
  wpStill_value hg (by
    have hrun := hm.run_lookup (P := P) hT hK (hz w) k ok
    unfold execOp
    simp only [ho, hx, hy, hrun, Sem.run_bind, Result.andThen_ok, Sem.run_pure]) h
end

theorem Own.of_owns {w : World} {B E size : Nat} {v : Value} {n : Nat} {xs : List Value} (h : w.ownsRow B E size v n xs) : Own w E size v n xs :=
  ⟨h.1, h.2.imp id fun ⟨g, cap, cur, h1, _, h3⟩ => ⟨g, cap, cur, h1, Nat.zero_le _, h3⟩⟩

set_option maxHeartbeats 800000 in
theorem crash_none (d sb mb : Nat) (S : DSt) (mask : Int) (w : World) (hD : DiskAt w d sb mb S) (hs : S.soon = []) :
    Calls Try.prog 20 #[.pointer (some ⟨d, 0, none⟩), .int .u64 mask] w fun e w' => e = .returned (.tuple #[]) ∧ Turn [d, sb, mb] w w' ∧
      DiskAt w' d sb mb { sure := S.sure, soon := [], fuse := -1, dead := false } := by
  have HD := Lib.hid hD
  clear hD
  go_enter Try.func20, Try.ntmps20
  go_wp2_with fail
  refine (pending_any d sb mb S w HD.out (by rw [hs]; simp) (by rw [hs]; simp)).mono ?_
  rintro e w1 ⟨v, rfl, hv, hT1⟩
  rw [hs] at hv
  obtain ⟨a, c, rfl⟩ := (Own.of_owns hv).form
  have HD1 := Lib.hid (HD.out.turn hT1 (by simp) (by simp) (by simp))
  have c1 := HD1.out.blk.cells4.2.1
  have hm1 := HD1.out.soon
  have hne1 := HD.out.ne1
  have hne2 := HD.out.ne2
  have hne3 := HD.out.ne3
  simp only [List.length_nil]
  clear hv
  go_wp2_with fail
  refine wp_loop_rounds 1 ?_
  rw [rounds_succ]
  go_wp2_with (refine wpList_mclear rfl 144 _ rfl Try.underlying144 mb rfl _ hm1 ?_; intro w2 hm2 hT2; have hB2 := HD1.out.blk.turn hT2 (by simp [hne2]); have c22 := hB2.cells4.2.2.1; have c23 := hB2.cells4.2.2.2; have f22 := hB2.thaw 2; have f23 := hB2.thaw 3; go_frame)
  go_end0
  refine ⟨rfl, ?_, ?_⟩
  · exact (((hT1.mono (T := [d, sb, mb]) (by simp)).trans hT2 (by simp)).setCell (p := ⟨d, 3, none⟩) (by simp) _).setCell (p := ⟨d, 2, none⟩) (by simp) _
  · have hr := (HD1.out.row.turn hT2 (by simp [hne3])).setOther ⟨d, 3, none⟩ (.bool false) (Ne.symm hne1)
    refine ⟨(hB2.set 3 (.bool false)).set 2 (.int .i64 (-1)), hr.setOther _ _ (Ne.symm hne1), HD.out.full, (hm2.setOther _ _ (Ne.symm hne2)).setOther _ _ (Ne.symm hne2), hne1, hne2, hne3, HD.out.many, ?_, ?_⟩
    · show (-1 : Int) ≤ -1; omega
    · show (-1 : Int) ≤ 9223372036854775807; omega

/-- The lowest bit of a mask, as the code asks for it. -/
def bit0 (mask : Int) : Bool := bits BinOp.and IntKind.u64 mask 1 == 1

/-- The sure sectors behind a crash. -/
def crashed (b : Bool) (l : List (List UInt8)) (i : Nat) (s : List UInt8) : List (List UInt8) := if b then l.set i s else l

set_option maxRecDepth 100000 in
set_option maxHeartbeats 1600000 in
theorem crash_one (d sb mb : Nat) (S : DSt) (mask : Int) (i : Nat) (s : List UInt8) (w : World) (hD : DiskAt w d sb mb S) (hs : S.soon = [((i : Int), s)]) (hi : i < S.sure.length) (hl : s.length = 64) :
    Calls Try.prog 20 #[.pointer (some ⟨d, 0, none⟩), .int .u64 mask] w fun e w' => e = .returned (.tuple #[]) ∧ Turn [d, sb, mb] w w' ∧
      DiskAt w' d sb mb { sure := crashed (bit0 mask) S.sure i s, soon := [], fuse := -1, dead := false } := by
  obtain ⟨sure, soon, fuse, dead⟩ := S
  simp only at hs hi
  subst hs
  have hi64 : (i : Int) < 64 := by have := hD.many; simp only at this; omega
  have HD := Lib.hid hD
  have Hl := Lib.hid hl
  clear hD hl
  go_enter Try.func20, Try.ntmps20
  go_wp2_with fail
  refine (pending_any d sb mb _ w HD.out (by simp) (by simpa using hi64)).mono ?_
  rintro e w1 ⟨v, rfl, hv, hT1⟩
  obtain ⟨g, cap, cur, rfl, hgw, hg, hcap, _, hcur, htake⟩ : ∃ g cap cur, v = .slice (some ⟨g, 0, none⟩) 1 cap ∧ w.heap.size ≤ g ∧ w1.heap[g]? = some (.cells cur 3 (0, 0)) ∧ 1 ≤ cap ∧ cap ≤ maxLen ∧ cur.size = cap * 1 ∧ cur.toList.take 1 = [.int .i64 i] := by
    obtain ⟨_, ⟨_, h⟩ | ⟨g, cap, cur, h1, h2, h3, h4, h5, h6, h7⟩⟩ := hv
    · simp at h
    · exact ⟨g, cap, cur, h1, h2, h3, h4, h5, h6, by simpa using h7⟩
  have hc0 : w1.cell? ⟨g, 0, none⟩ = some (.int .i64 i) := by
    have hB : Blk w1 g cur 3 := hg
    refine hB.cell 0 ?_
    have := congrArg (·[0]?) htake
    simpa [List.getElem?_take] using this
  have HD1 := Lib.hid (HD.out.turn hT1 (by simp) (by simp) (by simp))
  have c1 := HD1.out.blk.cells4.2.1
  have c0 := HD1.out.blk.cells4.1
  have hm1 := HD1.out.soon
  have hne1 := HD.out.ne1
  have hne2 := HD.out.ne2
  have hne3 := HD.out.ne3
  simp only
  clear hv hg hcap hcur htake
  have hmget : mget (soonOf [((i : Int), s)]) i = some (secV s) := by simp [mget, soonOf]
  have Hmg := Lib.hid hmget
  have lt1 := HD1.out.blk.lt
  clear hmget
  cases hbit : bit0 mask with
  | false =>
    have hcr : crashed (bit0 mask) sure i s = sure := by rw [hbit]; rfl
    have Hcr := Lib.hid hcr
    clear hcr
    have hb : (bits BinOp.and IntKind.u64 mask 1 == 1) = false := hbit
    clear hbit
    go_wp2_with fail
    refine wp_loop_rounds 2 ?_
    rw [rounds_succ]
    go_wp2
    rw [rounds_succ]
    go_wp2_with (refine wpList_mclear rfl 144 _ rfl Try.underlying144 mb rfl _ hm1 ?_; intro w2 hm2 hT2; have hB2 := HD1.out.blk.turn hT2 (by simp [hne2]); have c22 := hB2.cells4.2.2.1; have c23 := hB2.cells4.2.2.2; have f22 := hB2.thaw 2; have f23 := hB2.thaw 3; go_frame)
    go_end0
    show _ ∧ _ ∧ DiskAt _ d sb mb { sure := crashed (bit0 mask) sure i s, soon := [], fuse := -1, dead := false }
    rw [Hcr.out]
    refine ⟨rfl, ?_, ?_⟩
    · exact (((hT1.mono (T := [d, sb, mb]) (by simp)).trans hT2 (by simp)).setCell (p := ⟨d, 3, none⟩) (by simp) _).setCell (p := ⟨d, 2, none⟩) (by simp) _
    · have hr := (HD1.out.row.turn hT2 (by simp [hne3])).setOther ⟨d, 3, none⟩ (.bool false) (Ne.symm hne1)
      refine ⟨(hB2.set 3 (.bool false)).set 2 (.int .i64 (-1)), hr.setOther _ _ (Ne.symm hne1), HD.out.full, (hm2.setOther _ _ (Ne.symm hne2)).setOther _ _ (Ne.symm hne2), hne1, hne2, hne3, HD.out.many, ?_, ?_⟩
      · show (-1 : Int) ≤ -1; omega
      · show (-1 : Int) ≤ 9223372036854775807; omega
  | true =>
    have hcr : crashed (bit0 mask) sure i s = sure.set i s := by rw [hbit]; rfl
    have Hcr := Lib.hid hcr
    clear hcr
    have hb : (bits BinOp.and IntKind.u64 mask 1 == 1) = true := hbit
    clear hbit
    have hii : (i : Int) < sure.length := by omega
    have hmD : IMap w1.drew mb (soonOf [((i : Int), s)]) := hm1
    have hrD : Blk w1.drew sb (bvs sure.flatten).toArray 153 := HD1.out.row
    have hBD : Blk w1.drew d #[.slice (some ⟨sb, 0, none⟩) sure.length sure.length, .map (some mb), .int .i64 fuse, .bool dead] 146 := HD1.out.blk
    go_wp2_with fail
    refine wp_loop_rounds 2 ?_
    rw [rounds_succ]
    go_wp2
    refine wp_region_still_tail 11 (by kernel_rfl) (by kernel_rfl) ?_
    simp only [List.take_succ_cons, List.take_zero, List.drop_succ_cons, List.drop_zero]
    repeat (first
      | (refine wpStill_mget rfl 144 _ _ false rfl Try.underlying144 Try.underlying3 _ Try.zero_sector mb i rfl rfl _ hmD ?_; rw [Hmg.out]; simp only [Option.getD_some, if_false, Bool.false_eq_true]; go_frame)
      | still_step)
    refine wpStill_nil ?_
    go_wp2_with (first
      | (refine wpList_storeA rfl 153 _ _ rfl sb (i * 64) (bvs s) rfl rfl _ 153 hrD (by rw [bvs_length, bvs_length, flatten_length _ HD.out.full, Hl.out]; simp only; omega) (info_sec (lenb Hl.out)) (bvs_one _) ?_; intro w6 hT6 hr6 hz6; go_frame))
    have hB6 := hBD.turn hT6 (by simp [hne1])
    have hm6 := hmD.turn hT6 (by simp [Ne.symm hne3])
    have c61 := hB6.cells4.2.1
    clear c0 c1 hBD hmD hrD
    rw [rounds_succ]
    go_wp2_with (refine wpList_mclear rfl 144 _ rfl Try.underlying144 mb rfl _ hm6 ?_; intro w2 hm2 hT2; have hB2 := hB6.turn hT2 (by simp [hne2]); have c22 := hB2.cells4.2.2.1; have c23 := hB2.cells4.2.2.2; have f22 := hB2.thaw 2; have f23 := hB2.thaw 3; go_frame)
    go_end0
    show _ ∧ _ ∧ DiskAt _ d sb mb { sure := crashed (bit0 mask) sure i s, soon := [], fuse := -1, dead := false }
    rw [Hcr.out]
    refine ⟨rfl, ?_, ?_⟩
    · exact ((((hT1.mono (T := [d, sb, mb]) (by simp)).drew.trans hT6 (by simp)).trans hT2 (by simp)).setCell (p := ⟨d, 3, none⟩) (by simp) _).setCell (p := ⟨d, 2, none⟩) (by simp) _
    · rw [lay_sector sure i s HD.out.full hi Hl.out] at hr6
      have hr := (hr6.turn hT2 (by simp [hne3])).setOther ⟨d, 3, none⟩ (.bool false) (Ne.symm hne1)
      refine ⟨?_, hr.setOther _ _ (Ne.symm hne1), ?_, (hm2.setOther _ _ (Ne.symm hne2)).setOther _ _ (Ne.symm hne2), hne1, hne2, hne3, ?_, ?_, ?_⟩
      · have := (hB2.set 3 (.bool false)).set 2 (.int .i64 (-1))
        simpa using this
      · intro t ht
        rcases List.mem_or_eq_of_mem_set ht with h | h
        · exact HD.out.full t h
        · rw [h]; exact Hl.out
      · have := HD.out.many; simpa using this
      · show (-1 : Int) ≤ -1; omega
      · show (-1 : Int) ≤ 9223372036854775807; omega
end Go.Proofs.Ytkifggnjpgoamaa
