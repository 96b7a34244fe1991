/- Contracts of package journal: the sector of a record. -/
import Derived.Test.YtkifggnjpgoamaaBytes
import Derived.Test.YtkifggnjpgoamaaOps
import Derived.Test.YtkifggnjpgoamaaDiskB
import Derived.Deep.RegionLaw
import Derived.BigRegion
namespace Go.Proofs.Ytkifggnjpgoamaa
open Go.RowKit

theorem Try.size_byte : (Try.prog.info? 5).map (·.size) = some 1 := by kernel_rfl

set_option maxRecDepth 100000 in
set_option maxHeartbeats 1600000 in
theorem lay_any (v : Value) (bs : List UInt8) (ab ar k : Nat) (l : List Value) (w : World) (hx : ∃ a c, v = .slice a bs.length c) (hs : Src w v bs.length (bvs bs)) (hA : Blk w ab #[.int .i64 k] 3) (hR : Blk w ar l.toArray 153) (hl : l.length = 64) (hk : k + bs.length ≤ 64) (hk4 : k < 64) (hne : ab ≠ ar) :
    Calls Try.prog 121 #[v, .pointer (some ⟨ab, 0, none⟩), .pointer (some ⟨ar, 0, none⟩)] w fun e w' => e = .returned (.tuple #[]) ∧ Turn [ab, ar] w w' ∧ Blk w' ab #[.int .i64 ((k + bs.length : Nat) : Int)] 3 ∧ Blk w' ar (lay l k (bvs bs)).toArray 153 := by
  obtain ⟨a, c, rfl⟩ := hx
  have c0 := hA.cells1
  have m0 : (0 : Int) ≤ (k : Int) := by omega
  have m1 : (k : Int) ≤ 64 := by omega
  have m2 : ¬ (64 = k) := by omega
  have Hl := Lib.hid hl
  clear hl
  go_enter Try.func121, Try.ntmps121
  go_wp2_with fail
  go_region_law (refine step_copy rfl _ _ 35 35 rfl 5 Try.underlying35 Try.size_byte ar k _ _ rfl _ rfl bs.length (bvs bs) (hs.turn0 (Turn.refl _ _).drew) (by simp) (by omega) l _ hR.drew (by rw [Hl.out]; omega) (bvs_one _) ?_; intro w2 hT2 hR2; have hA2 := hA.drew.turn hT2 (by simp [hne]); have cA := hA2.cells1; have fA := hA2.thaw 0)
  all_goals
    go_end0
    refine ⟨rfl, ?_, ?_, ?_⟩
    · exact ((Turn.refl [ab, ar] w).drew.trans hT2 (by simp)).setCell (by simp) _
    · have e1 : IntKind.i64.wrap ((k : Int) + (bs.length : Int)) = ((k + bs.length : Nat) : Int) := by rw [IntKind.wrap_i64]; omega
      rw [e1]
      exact hA2.set 0 _
    · exact hR2.setOther _ _ (Ne.symm hne)

/-- A record's sector, at a place. -/
def secOf (i : Nat) (bs : List UInt8) : List UInt8 := highB (i + 1) 4 ++ [UInt8.ofNat bs.length] ++ bs ++ List.replicate (59 - bs.length) 0
theorem secOf_length (i : Nat) (bs : List UInt8) (h : bs.length ≤ 59) : (secOf i bs).length = 64 := by simp [secOf]; omega

theorem lay3 (h : List UInt8) (n : UInt8) (bs : List UInt8) (hh : h.length = 4) (hb : bs.length ≤ 59) :
    lay (lay (lay (bvs zsec) 0 (bvs h)) 4 (bvs [n])) 5 (bvs bs) = bvs (h ++ [n] ++ bs ++ List.replicate (59 - bs.length) 0) := by
  have hl : (h ++ [n]).length = 5 := by simp [hh]
  have e1 : lay (bvs zsec) 0 (bvs h) = bvs (h ++ List.replicate 60 0) := by
    simp [lay, bvs, hh, zsec]
  have e2 : lay (bvs (h ++ List.replicate 60 0)) 4 (bvs [n]) = bvs (h ++ [n] ++ List.replicate 59 0) := by
    simp [lay, bvs, hh, List.drop_append, List.drop_of_length_le]
  have e3 : lay (bvs (h ++ [n] ++ List.replicate 59 0)) 5 (bvs bs) = bvs (h ++ [n] ++ bs ++ List.replicate (59 - bs.length) 0) := by
    simp only [lay, bvs_length]
    rw [bvs_append (h ++ [n]), List.take_append_of_le_length (by rw [bvs_length, hl]; omega), List.take_of_length_le (by rw [bvs_length, hl]; omega), List.drop_append, List.drop_of_length_le (by rw [bvs_length, hl]; omega), bvs_length, hl, List.nil_append]
    rw [show 5 + bs.length - 5 = bs.length from by omega]
    rw [bvs_append (h ++ [n] ++ bs), bvs_append (h ++ [n])]
    congr 1
    simp only [bvs, List.map_replicate, List.drop_replicate]
  rw [e1, e2, e3]

set_option maxRecDepth 100000 in
set_option maxHeartbeats 1600000 in
theorem sector_any (i : Nat) (v : Value) (bs : List UInt8) (w : World) (hx : ∃ a c, v = .slice a bs.length c) (hs : Src w v bs.length (bvs bs)) (hb : bs.length ≤ 59) (hi : i < 1000000) :
    Calls Try.prog 70 #[.int .i64 i, v] w fun e w' => e = .returned (secV (secOf i bs)) ∧ Turn [] w w' := by
  obtain ⟨a, c, rfl⟩ := hx
  go_enter Try.func70, Try.ntmps70
  go_wp2_with (first
    | (refine wpList_alloc rfl 153 rfl _ Try.zero_sector ?_; first | (have tk1 := hT1; intro w2 hT2 hB2 hz2; go_frame) | (intro w1 hT1 hB1 hz1; go_frame)))
  have hA2 := Blk.new w2 #[.int .i64 0] 3
  have hT2s : Turn [] w2 (w2.alloc (.cells #[.int .i64 0] 3)) := (Turn.refl _ _).alloc _
  have hB22 := hB2.turn hT2s (by simp)
  have hw3 := alloc_lt w2 (.cells #[.int .i64 0] 3)
  obtain ⟨w3, h3⟩ : ∃ w3, w2.alloc (.cells #[.int .i64 0] 3) = w3 := ⟨_, rfl⟩
  rw [h3] at hA2 hT2s hB22 hw3 ⊢
  clear h3
  refine (high_at _ _ (i + 1) 4 _ (by omega) (by omega) (by omega) (by omega)).mono ?_
  rintro e w4 ⟨g, rfl, hg, hT4, hB4⟩
  go_wp2_with fail
  refine (lay_any (.slice (some ⟨g, 0, none⟩) 4 4) (highB (i + 1) 4) w2.heap.size w1.heap.size 0 (bvs zsec) w4 ⟨_, _, by rw [highB_length]⟩ (by rw [highB_length]; exact Src.whole hB4 4 4 (by omega)) (hA2.turn hT4 (by simp)) (hB22.turn hT4 (by simp)) rfl (by simp) (by omega) (by omega)).mono ?_
  rintro e w5 ⟨rfl, hT5, hA5, hB5⟩
  rw [highB_length, Nat.zero_add] at hA5
  go_wp2_with fail
  have e8 : bvs [UInt8.ofNat bs.length] = [.int .u8 (bs.length : Int)] := by
    simp only [bvs, List.map_cons, List.map_nil, bv, UInt8.toNat_ofNat']
    rw [Nat.mod_eq_of_lt (by omega)]
  have hB6 := Blk.new w5 #[.int .u8 (bs.length : Int)] 5
  have hT6 : Turn [] w5 (w5.alloc (.cells #[.int .u8 (bs.length : Int)] 5)) := (Turn.refl _ _).alloc _
  have l2 : w2.heap.size < w4.heap.size := Nat.lt_of_lt_of_le hw3 hT4.size
  obtain ⟨w6, h6⟩ : ∃ w6, w5.alloc (.cells #[.int .u8 (bs.length : Int)] 5) = w6 := ⟨_, rfl⟩
  rw [h6] at hB6 hT6 ⊢
  clear h6
  have E8 := Lib.hid e8
  clear e8
  have l3 := hA5.lt
  have l4 := hB5.lt
  refine (lay_any (.slice (some ⟨w5.heap.size, 0, none⟩) 1 1) [UInt8.ofNat bs.length] w2.heap.size w1.heap.size 4 _ w6 ⟨_, _, rfl⟩ (by rw [E8.out]; exact Src.whole (xs := [.int .u8 (bs.length : Int)]) hB6 1 1 (by omega)) (hA5.turn hT6 (by simp)) (hB5.turn hT6 (by simp)) (by rw [lay_length _ _ _ (by simp [zsec])]; rfl) (by simp) (by omega) (by omega)).mono ?_
  rintro e w7 ⟨rfl, hT7, hA7, hB7⟩
  have hT4' : Turn [] w w4 := ((hT1.trans hT2 (by simp)).trans hT2s (by simp)).trans hT4 (by simp)
  have hT5' : Turn [] w w5 := hT4'.trans hT5 (fun x hx => Or.inr (by simp at hx; omega))
  have hT7' : Turn [] w w7 := (hT5'.trans hT6 (by simp)).trans hT7 (fun x hx => Or.inr (by simp at hx; omega))
  go_wp2_with fail
  refine (lay_any (.slice a bs.length c) bs w2.heap.size w1.heap.size 5 _ w7 ⟨_, _, rfl⟩ (hs.turn0 hT7') hA7 hB7 (by rw [lay_length _ _ _ (by rw [lay_length _ _ _ (by simp [zsec])]; simp [zsec]), lay_length _ _ _ (by simp [zsec])]; rfl) (by omega) (by omega) (by omega)).mono ?_
  rintro e w8 ⟨rfl, hT8, hA8, hB8⟩
  rw [lay3 _ _ _ (by rw [highB_length]) hb] at hB8
  have Hl := Lib.hid (secOf_length i bs hb)
  have hT8' : Turn [] w w8 := hT7'.trans hT8 (fun x hx => Or.inr (by simp at hx; omega))
  have hR8 : w8.rangeAt w1.heap.size 0 (bvs (secOf i bs)) := hB8.all
  have hB18 : Blk w8 w.heap.size (bvs zsec).toArray 153 := ((((((hB1.turn hT2 (by simp)).turn hT2s (by simp)).turn hT4 (by simp)).turn hT5 (by simp; omega)).turn hT6 (by simp)).turn hT7 (by simp; omega)).turn hT8 (by simp; omega)
  clear hB8 hB7 hB6 hB5 hA8 hA7 hA5 hB22 hA2 hB4
  go_wp2_with (first
    | (refine wpList_loadA rfl 153 _ rfl _ _ rfl _ _ hR8 Try.underlying153 rfl (info_sec (lenb Hl.out)) ?_; go_frame)
    | (refine wpList_storeW rfl 153 _ _ rfl w.heap.size (bvs (secOf i bs)) rfl rfl _ 153 hB18 (len64 Hl.out) (info_sec (lenb Hl.out)) (bvs_one _) ?_; intro w9 hT9 hB9 hz9; go_frame))
  refine bodyPost_ret (results_cell rfl _ _ w.heap.size (bvs (secOf i bs)) _ rfl hB9.all Try.underlying153 rfl (info_sec (lenb Hl.out))) rfl ⟨rfl, ?_⟩
  exact hT8'.trans hT9 (by simp)
end Go.Proofs.Ytkifggnjpgoamaa
