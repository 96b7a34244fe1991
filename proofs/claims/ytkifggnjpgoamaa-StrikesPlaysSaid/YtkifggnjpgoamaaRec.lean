/- Contracts of package journal: the record of a sector. -/
import Derived.Test.YtkifggnjpgoamaaJour
import Derived.Stop.BytesEq
namespace Go.Proofs.Ytkifggnjpgoamaa
open Go.RowKit

theorem Try.guard_sector : Try.prog.eqGuardType Try.prog.depth 153 = false := by kernel_rfl
theorem Try.sizeOf_byte (w : World) : (sizeOf 5).run Try.prog w = .ok 1 w := by kernel_rfl
theorem eql_sector (w : World) (xs ys : List UInt8) (hx : xs.length = 64) (hy : ys.length = 64) :
    (binOp .eql 153 (.agg (bvs xs).toArray) (.agg (bvs ys).toArray)).run Try.prog w = .ok (.bool (xs == ys)) w :=
  run_eql_bytes w 153 5 64 Try.underlying153 Try.underlying5 Try.sizeOf_byte xs ys hx hy

/-- The record of a sector, at a place. -/
def recOf (i : Nat) (s : List UInt8) : Option (List UInt8) :=
  let n := (s.getD 4 0).toNat
  let b := (s.drop 5).take n
  if 59 < n then none else if secOf i b = s then some b else none

section
attribute [local go_sem high] eql_sector
set_option maxRecDepth 100000 in
set_option maxHeartbeats 1600000 in
theorem record_any (i : Nat) (s : List UInt8) (w : World) (hl : s.length = 64) (hi : i < 1000000) :
    Calls Try.prog 68 #[.int .i64 i, secV s] w fun e w' => ∃ v, e = .returned (.tuple #[v, .bool (recOf i s).isSome]) ∧ Turn [] w w' ∧
      ∀ b, recOf i s = some b → Own w' 5 1 v b.length (bvs b) ∧ ∀ g ∈ blockOf v, w.heap.size ≤ g := by
  have h4 : (s.getD 4 0) = s[4] := by simp [List.getD, List.getElem?_eq_getElem (show 4 < s.length by omega)]
  obtain ⟨n, hn⟩ : ∃ n, (s.getD 4 0).toNat = n := ⟨_, rfl⟩
  have hc : (bvs s).toArray[4]? = some (Value.int .u8 (n : Int)) := by
    rw [← hn, h4]
    simp [bvs, bv, List.getElem?_eq_getElem (show 4 < s.length by omega)]
  have hn8 : n < 256 := by rw [← hn]; exact UInt8.toNat_lt _
  unfold secV
  by_cases h59 : 59 < n
  · have Hr : Hid (recOf i s = none) := by unfold Hid recOf; simp only [hn]; rw [if_pos h59]
    have hB := Blk.new w (bvs s).toArray 153
    have c4 := hB.cell 4 hc
    have h59' : (59 : Int) < (n : Int) := by omega
    clear hc hn h4 hB
    go_enter Try.func68, Try.ntmps68
    go_wp2
    go_ret2
    rw [Hr.out]
    exact ⟨_, rfl, (Turn.refl _ _).alloc _, fun b hb => by cases hb⟩
  · have Hr : Hid (recOf i s = if secOf i ((s.drop 5).take n) = s then some ((s.drop 5).take n) else none) := by unfold Hid recOf; simp only [hn]; rw [if_neg h59]
    have hB := Blk.new w (bvs s).toArray 153
    have c4 := hB.cell 4 hc
    have h59' : ¬ (59 : Int) < (n : Int) := by omega
    have hT1 : Turn [] w (w.alloc (.cells (bvs s).toArray 153)) := (Turn.refl _ _).alloc _
    have hlt := alloc_lt w (.cells (bvs s).toArray 153)
    clear hc hn h4
    have s1 : (5 : Int) + (n : Int) ≤ 64 := by omega
    have s2 : (0 : Int) ≤ 5 + (n : Int) := by omega
    have s3 : (5 : Int) ≤ 5 + (n : Int) := by omega
    go_enter Try.func68, Try.ntmps68
    have hB2 := hB.alloc (.cells #[] 5)
    have hO : Own ((w.alloc (.cells (bvs s).toArray 153)).alloc (.cells #[] 5)) 5 1 (.slice (some ⟨w.heap.size + 1, 0, none⟩) 0 0) 0 [] :=
      Own.of_blk (l := []) (c := 0) (by have := Blk.new (w.alloc (.cells (bvs s).toArray 153)) #[] 5; rwa [World.size_alloc] at this) (by omega) (by unfold maxLen; omega) rfl rfl
    have hS : Src ((w.alloc (.cells (bvs s).toArray 153)).alloc (.cells #[] 5)) (.slice (some ⟨w.heap.size, 5, none⟩) n 59) n (bvs ((s.drop 5).take n)) :=
      Src.of_blk hB2 5 n 59 _ (by rw [bvs_length, List.length_take, List.length_drop, hl, Nat.min_eq_left (by omega)]; simp [bvs, List.map_drop, List.map_take]) (by omega)
    have hS5 : Src ((w.alloc (.cells (bvs s).toArray 153)).alloc (.cells #[] 5)) (.slice (some ⟨w.heap.size, 5, none⟩) (5 + n - 5) 59) n (bvs ((s.drop 5).take n)) := by
      rw [show 5 + n - 5 = n from by omega]; exact hS
    have hbl : (bvs ((s.drop 5).take n)).length = n * 1 := by simp; omega
    go_wp2_with (refine wpList_append rfl _ _ 35 rfl 5 (.int .u8 0) 1 1 Try.underlying35 Try.info_byte rfl (by omega) (.slice (some ⟨w.heap.size + 1, 0, none⟩) 0 0) rfl 0 [] hO _ rfl n _ hS5 hbl (bvs_one _) (by unfold maxLen; omega) (by omega) ?_; intro a' c w2 hO2 hT2 hF2; simp only [Nat.zero_add, List.nil_append] at hO2 hF2; go_frame)
    have hbn : ((s.drop 5).take n).length = n := by simp; omega
    have hsrc : Src w2 (.slice a' n c) ((s.drop 5).take n).length (bvs ((s.drop 5).take n)) := by rw [hbn]; exact hO2.src
    have hsz : w.heap.size < w2.heap.size := Nat.lt_of_lt_of_le hB2.lt hT2.size
    have hW : Turn [] w w2 := ((hT1.alloc _).mono (by simp)).trans hT2 (fun x hx => Or.inr (by simp [blockOf] at hx; omega))
    have hr2 : w2.rangeAt w.heap.size 0 (bvs s) := (hB2.turn hT2 (by simp [blockOf])).all
    have hu := Try.underlying153
    have hi' := info_sec (lenb hl)
    have h59n : ((s.drop 5).take n).length ≤ 59 := by omega
    have HBN := Lib.hid hbn
    have hl2 := secOf_length i _ h59n
    clear hbn hbl hS hS5 hB hB2 c4 hO hT1 hlt
    go_region_held3 (fun w' => w'.rangeAt w.heap.size 0 (bvs s))
      (first | assumption | exact hr2 | (refine range_turn hT4 ?_ (by simp; omega) (by simp); assumption) | (refine range_turn hT4 hr2 (by omega) (by simp)))
      (first | (go_at_call 70; refine (sector_any i _ ((s.drop 5).take n) _ ⟨a', c, by rw [HBN.out]⟩ (hsrc.turn0 (Turn.refl _ _).drew) h59n hi).mono ?_; rintro e w4 ⟨rfl, hT4⟩))
    go_wp2
    go_ret2
    have hb4 : w2.heap.size ≤ w4.heap.size := hT4.size
    refine ⟨.slice a' n c, ?_, hW.drew.trans hT4 (by simp), ?_⟩
    · rw [Hr.out]
      by_cases he : secOf i ((s.drop 5).take n) = s
      · rw [if_pos he, show (secOf i ((s.drop 5).take n) == s) = true from by simpa using he]; rfl
      · rw [if_neg he, show (secOf i ((s.drop 5).take n) == s) = false from by simpa using he]; rfl
    · intro b hb
      rw [Hr.out] at hb
      by_cases he : secOf i ((s.drop 5).take n) = s
      · rw [if_pos he] at hb
        cases hb
        rw [HBN.out]
        refine ⟨hO2.turn0 ((Turn.refl [] w2).drew.trans hT4 (by simp)), fun g hg => ?_⟩
        rcases hF2 g hg with h | h
        · simp [blockOf] at h; omega
        · rw [World.size_alloc, World.size_alloc] at h; omega
      · rw [if_neg he] at hb; cases hb
end
end Go.Proofs.Ytkifggnjpgoamaa
