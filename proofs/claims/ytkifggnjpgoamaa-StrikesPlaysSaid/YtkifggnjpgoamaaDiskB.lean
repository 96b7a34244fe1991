/- Contracts of package disk, continued: Sync. -/
import Derived.Test.YtkifggnjpgoamaaDisk
namespace Go.Proofs.Ytkifggnjpgoamaa
open Go.RowKit

theorem flatten_set : ∀ (l : List (List UInt8)) (i : Nat) (s : List UInt8), (∀ t ∈ l, t.length = 64) → i < l.length → s.length = 64 →
    l.flatten.take (i * 64) ++ s ++ l.flatten.drop (i * 64 + 64) = (l.set i s).flatten
  | [], _, _, _, h, _ => by simp at h
  | t :: l, 0, s, hl, _, hs => by
    have := hl t (by simp)
    simp [this]
  | t :: l, i + 1, s, hl, h, hs => by
    have h1 := hl t (by simp)
    have ih := flatten_set l i s (fun u hu => hl u (by simp [hu])) (by simpa using h) hs
    rw [List.flatten_cons, List.set_cons_succ, List.flatten_cons, List.take_append, List.drop_append, h1]
    rw [show (i + 1) * 64 - 64 = i * 64 from by omega, show (i + 1) * 64 + 64 - 64 = i * 64 + 64 from by omega, List.take_of_length_le (by omega), List.drop_of_length_le (l := t) (by omega)]
    rw [List.nil_append, List.append_assoc, List.append_assoc, ← ih, List.append_assoc]

theorem lay_sector (l : List (List UInt8)) (i : Nat) (s : List UInt8) (hl : ∀ t ∈ l, t.length = 64) (h : i < l.length) (hs : s.length = 64) :
    lay (bvs l.flatten) (i * 64) (bvs s) = bvs (l.set i s).flatten := by
  rw [← flatten_set l i s hl h hs]
  simp [lay, bvs, hs]

set_option maxHeartbeats 400000 in
theorem sync_dead (d sb mb : Nat) (S : DSt) (w : World) (hD : DiskAt w d sb mb S) (h : S.dead = true ∨ S.fuse = 0) :
    Calls Try.prog 71 #[.pointer (some ⟨d, 0, none⟩)] w fun e w' => e = .returned (.int .i64 13) ∧ Turn [d] w w' ∧ DiskAt w' d sb mb { S with dead := true } := by
  have HD := Lib.hid hD
  have Hh := Lib.hid h
  clear hD h
  go_enter Try.func71, Try.ntmps71
  go_wp2_with fail
  refine (burn_dead d _ _ _ _ _ _ HD.out.blk Hh.out).mono ?_
  rintro e w1 ⟨rfl, hT, hB⟩
  go_wp2
  go_ret
  have hD := HD.out
  exact ⟨rfl, hT, hB, hD.row.turn hT (by simp [Ne.symm hD.ne1]), hD.full, hD.soon.turn hT (by simp [Ne.symm hD.ne2]), hD.ne1, hD.ne2, hD.ne3, hD.many, hD.low, hD.high⟩

set_option maxRecDepth 100000 in
set_option maxHeartbeats 1600000 in
theorem sync_ok (d sb mb : Nat) (S : DSt) (w : World) (i : Nat) (s : List UInt8) (hD : DiskAt w d sb mb S) (hd : S.dead = false) (hf : S.fuse ≠ 0) (hs : S.soon = [((i : Int), s)]) (hi : i < S.sure.length) (hl : s.length = 64) :
    Calls Try.prog 71 #[.pointer (some ⟨d, 0, none⟩)] w fun e w' => e = .returned (.int .i64 0) ∧ Turn [d, sb, mb] w w' ∧
      DiskAt w' d sb mb { S with fuse := max (S.fuse - 1) (-1), soon := [], sure := S.sure.set i s } := by
  obtain ⟨sure, soon, fuse, dead⟩ := S
  simp only at hd hf hs hi
  subst hd hs
  have h0 : (0 : Int) ≤ i := Int.natCast_nonneg _
  have h1 : (i : Int) < sure.length := by omega
  have Hl := Lib.hid hl
  have HD := Lib.hid hD
  clear hD hl
  go_enter Try.func71, Try.ntmps71
  go_wp2_with fail
  refine (burn_ok d _ _ _ _ _ HD.out.blk hf HD.out.low HD.out.high).mono ?_
  rintro e w1 ⟨rfl, hT, hB⟩
  have c1 := hB.cells4.2.1
  have hm := HD.out.soon.turn hT (by simp [Ne.symm HD.out.ne2])
  have hr := HD.out.row.turn hT (by simp [Ne.symm HD.out.ne1])
  go_wp2_with (refine wpList_mrange rfl 144 _ rfl Try.underlying144 mb rfl _ hm ?_; intro w2 hT2 hz2 hI2; go_frame)
  refine wp_loop_rounds 2 ?_
  rw [rounds_succ]
  have hne1 := HD.out.ne1
  have hne2 := HD.out.ne2
  have hne3 := HD.out.ne3
  have lt1 := hB.lt
  have lt2 := hr.lt
  have lt3 := hm.lt
  have hB2 := hB.turn hT2 (by simp)
  have hr2 := hr.turn hT2 (by simp)
  have hm2 := hm.turn hT2 (by simp)
  clear c1 hB hr hm
  go_wp2_with (first
    | (refine wpList_mnext rfl _ rfl w1.heap.size mb rfl _ _ hI2 (fun h => by cases h) ?_; intro j hj w3 hT3 hz3 hI3; obtain rfl : j = 0 := (by simp [soonOf] at hj; omega)
       simp only [soonOf, List.map_cons, List.map_nil, List.getElem_cons_zero, List.eraseIdx_cons_zero] at hI3 ⊢
       have hB3 := hB2.turn hT3 (by simp; omega)
       have hr3 := hr2.turn hT3 (by simp; omega)
       have hm3 := hm2.turn hT3 (by simp; omega)
       clear hB2 hr2 hm2; go_frame)
    | (refine wpList_mentry rfl _ rfl w1.heap.size mb rfl _ _ hI3 ?_; go_frame; try dsimp only)
    | (refine wpList_alloc rfl 153 rfl _ Try.zero_sector ?_; intro w4 hT4 hN4 hz4; go_frame)
    | (refine wpList_storeW rfl 153 _ _ rfl w3.heap.size (bvs s) rfl rfl _ 153 hN4 (len64 Hl.out) (info_sec (lenb Hl.out)) (bvs_one _) ?_; intro w5 hT5 hN5 hz5; go_frame))
  have hN5' := hN5
  have hT35 := hT4.trans hT5 (T := [w3.heap.size]) (fun x hx => Or.inr (by simp at hx; omega))
  have hB5 := hB3.turn hT35 (by simp)
  have hr5 := hr3.turn hT35 (by simp)
  have hm5 := hm3.turn hT35 (by simp)
  have hI5 := hI3.turn hT35 (by simp) (by simp)
  have c0 := hB5.cells4.1
  have hR : w5.drew.rangeAt w3.heap.size 0 (bvs s) := hN5.all
  have hrD : Blk w5.drew sb (bvs sure.flatten).toArray 153 := hr5
  go_wp2
  refine wp_region_still_tail 7 (by kernel_rfl) (by kernel_rfl) ?_
  simp only [List.take_succ_cons, List.take_zero, List.drop_succ_cons, List.drop_zero]
  repeat (first
    | (refine wpStill_load rfl 153 _ rfl _ _ rfl _ _ hR Try.underlying153 rfl (info_sec (lenb Hl.out)) ?_; go_frame)
    | still_step)
  refine wpStill_nil ?_
  go_wp2_with (refine wpList_storeA rfl 153 _ _ rfl sb (i * 64) (bvs s) rfl rfl _ 153 hrD (by rw [bvs_length, bvs_length, flatten_length _ HD.out.full, Hl.out]; simp only; omega) (info_sec (lenb Hl.out)) (bvs_one _) ?_; intro w6 hT6 hr6 hz6; go_frame)
  have lt4 := hI5.lt.1
  have hBD : Blk w5.drew d #[.slice (some ⟨sb, 0, none⟩) sure.length sure.length, .map (some mb), .int .i64 (max (fuse - 1) (-1)), .bool false] 146 := hB5
  have hID : IterAt w5.drew w1.heap.size mb [] (some ((i : Int), secV s)) := hI5
  have hmD : IMap w5.drew mb (soonOf [((i : Int), s)]) := hm5
  have hB6 := hBD.turn hT6 (by simp [hne1])
  have hm6 := hmD.turn hT6 (by simp [Ne.symm hne3])
  have hI6 := hID.turn hT6 (by simp; omega) (by simp [Ne.symm hne3])
  have c6 := hB6.cells4.2.1
  rw [rounds_succ]
  clear c0 hB5 hm5 hI5 hBD hID hmD
  go_wp2_with (first
    | (refine wpList_mnext rfl _ rfl w1.heap.size mb rfl _ _ hI6 (fun _ => ?_) (fun j hj => absurd hj (by simp)); go_frame)
    | (refine wpList_mclear rfl 144 _ rfl Try.underlying144 mb rfl _ hm6 ?_; intro w7 hm7 hT7; go_frame))
  go_ret
  have hD := HD.out
  have hT12 : Turn [d] w w2 := hT.trans hT2 (by simp)
  have hT13 : Turn [d] w w3 := hT12.trans hT3 (fun x hx => Or.inr (by simp at hx; have := hT.size; omega))
  have hT15 : Turn [d] w w5.drew := (hT13.trans hT35 (by simp)).drew
  have hT16 : Turn [d, sb, mb] w w6 := (hT15.mono (by simp)).trans hT6 (by simp)
  have hT17 : Turn [d, sb, mb] w w7 := hT16.trans hT7 (by simp)
  rw [lay_sector sure i s hD.full hi Hl.out] at hr6
  refine ⟨rfl, hT17, ?_, hr6.turn hT7 (by simp [hne3]), ?_, hm7, hne1, hne2, hne3, ?_, ?_, ?_⟩
  · have := hB6.turn hT7 (by simp [hne2])
    simpa using this
  · intro t ht
    rcases List.mem_or_eq_of_mem_set ht with h | h
    · exact hD.full t h
    · rw [h]; exact Hl.out
  · have := hD.many; simpa using this
  · simp only; omega
  · have := hD.high; have := hD.low; simp only at *; omega
end Go.Proofs.Ytkifggnjpgoamaa
