/- Contracts of the reference of layer 22: Sector, Record. -/
import Derived.Test.YtkifggnjpgoamaaRefA
import Derived.Test.YtkifggnjpgoamaaAdd
import Derived.Stop.BytesEq
namespace Go.Proofs.Ytkifggnjpgoamaa
open Go.RowKit

theorem Try.info_rsector : (Try.prog.info? 202).map (·.size) = some 64 := by kernel_rfl
theorem info_rsec {cs : List Value} (h : cs.length = 64) : (Try.prog.info? 202).map (·.size) = some cs.length := by rw [Try.info_rsector, h]
theorem Try.zero_rsector : ∀ w, (zeroValue 202).run Try.prog w = .ok (.agg (bvs zsec).toArray) w := fun _ => by kernel_rfl
theorem eql_rsector (w : World) (xs ys : List UInt8) (hx : xs.length = 64) (hy : ys.length = 64) :
    (binOp .eql 202 (.agg (bvs xs).toArray) (.agg (bvs ys).toArray)).run Try.prog w = .ok (.bool (xs == ys)) w :=
  run_eql_bytes w 202 5 64 Try.underlying202 Try.underlying5 Try.sizeOf_byte xs ys hx hy

/-- A record's bytes ahead of the noughts. -/
def headOf (i : Nat) (bs : List UInt8) : List UInt8 := highB (i + 1) 4 ++ [UInt8.ofNat bs.length] ++ bs
theorem headOf_length (i : Nat) (bs : List UInt8) : (headOf i bs).length = 5 + bs.length := by simp [headOf]; omega
theorem secOf_head (i : Nat) (bs : List UInt8) : secOf i bs = headOf i bs ++ List.replicate (59 - bs.length) 0 := rfl
theorem set_zeros (l : List UInt8) (m : Nat) (x : UInt8) : (bvs (l ++ List.replicate (m + 1) 0)).set l.length (bv x) = bvs ((l ++ [x]) ++ List.replicate m 0) := by
  have h1 : bvs (l ++ List.replicate (m + 1) 0) = bvs l ++ (bv 0 :: bvs (List.replicate m 0)) := by
    rw [bvs_append, List.replicate_succ]; rfl
  rw [h1, List.set_append_right _ _ (by simp), bvs_length, Nat.sub_self, List.set_cons_zero, bvs_append, bvs_append]
  simp [bvs]

set_option maxRecDepth 100000 in
set_option maxHeartbeats 3200000 in
theorem rsector_any (i : Nat) (v : Value) (bs : List UInt8) (w : World) (hx : ∃ a c, v = .slice a bs.length c) (hs : Src w v bs.length (bvs bs)) (hb : bs.length ≤ 59) (hi : i < 1000000) :
    Calls Try.prog 94 #[.int .i64 i, v] w fun e w' => e = .returned (secV (secOf i bs)) ∧ Turn [] w w' := by
  obtain ⟨a, c, rfl⟩ := hx
  have HS := Lib.hid hs
  have hbi : (bs.length : Int) ≤ 59 := by omega
  have hii : (i : Int) < 1000000 := by omega
  clear hs
  go_enter Try.func94, Try.ntmps94
  go_wp2_with (first
    | (refine wpList_alloc rfl 202 rfl _ Try.zero_rsector ?_; first | (have tk1 := hT1; intro w2 hT2 hB2 hz2; go_frame) | (intro w1 hT1 hB1 hz1; go_frame)))
  refine (rhigh_any _ _ (i + 1) 4 _ (by omega) (by omega) (by omega) (by omega)).mono ?_
  rintro e w3 ⟨a3, c3, rfl, hT3, hO3, hF3⟩
  have HO3 := Lib.hid hO3
  have HT3 := Lib.hid hT3
  have HF3 := Lib.hid hF3
  have hT3a : Turn [] w3 (w3.alloc (.cells #[.int .u8 (bs.length : Int)] 5)) := (Turn.refl _ _).alloc _
  have hS3 : Src (w3.alloc (.cells #[.int .u8 (bs.length : Int)] 5)) (.slice (some ⟨w3.heap.size, 0, none⟩) 1 1) 1 (bvs [UInt8.ofNat bs.length]) := by
    have := Src.whole (Blk.new w3 #[.int .u8 (bs.length : Int)] 5) (xs := [.int .u8 (bs.length : Int)]) 1 1 (by omega)
    rwa [show bvs [UInt8.ofNat bs.length] = [.int .u8 (bs.length : Int)] from by simp only [bvs, List.map_cons, List.map_nil, byte_cell bs.length (by omega)]]
  have HS3 := Lib.hid hS3
  have HO3a := Lib.hid (hO3.turn0 hT3a)
  have HT3a := Lib.hid hT3a
  clear hT3 hO3 hF3 hT3a hS3
  go_wp2_with (first
    | (refine wpList_append rfl _ _ 35 rfl 5 (.int .u8 0) 1 1 Try.underlying35 Try.info_byte rfl (by omega) (.slice a3 4 c3) rfl 4 _ HO3a.out (.slice (some ⟨w3.heap.size, 0, none⟩) 1 1) rfl 1 _ HS3.out (by simp) (bvs_one _) (by unfold maxLen; omega) (by omega) ?_
       intro a4 c4 w4 hO4 hT4 hF4
       rw [← bvs_append] at hO4
       have hT34 : Turn [] w2 w4 := (HT3.out.trans HT3a.out (by simp)).trans hT4 (fun g hg => .inr (HF3.out g hg))
       have HO4 := Lib.hid hO4
       have HT4 := Lib.hid hT34
       have HF4 := Lib.hid (show ∀ g ∈ blockOf (.slice a4 5 c4), w2.heap.size ≤ g from fun g hg => by
         rcases hF4 g hg with h | h
         · exact HF3.out g h
         · rw [World.size_alloc] at h; have := HT3.out.size; omega)
       have HS4 := Lib.hid (HS.out.turn0 ((hT1.trans hT2 (by simp)).trans hT34 (by simp)))
       clear hO4 hT4 hF4 hT34
       go_frame)
    | (refine wpList_append rfl _ _ 35 rfl 5 (.int .u8 0) 1 1 Try.underlying35 Try.info_byte rfl (by omega) (.slice a4 5 c4) rfl 5 _ HO4.out (.slice a bs.length c) rfl bs.length _ HS4.out (by simp) (bvs_one _) (by unfold maxLen; omega) (by omega) ?_
       intro a5 c5 w5 hO5 hT5 hF5
       rw [← bvs_append] at hO5
       have HO5 := Lib.hid (show Own w5 5 1 (.slice a5 (5 + bs.length) c5) (5 + bs.length) (bvs (headOf i bs)) from hO5)
       have HT5 := Lib.hid (HT4.out.trans hT5 (fun g hg => .inr (HF4.out g hg)))
       have HF5 := Lib.hid (show ∀ g ∈ blockOf (.slice a5 (5 + bs.length) c5), w2.heap.size ≤ g from fun g hg => by
         rcases hF5 g hg with h | h
         · exact HF4.out g h
         · have := HT4.out.size; omega)
       clear hO5 hT5 hF5
       go_frame))
  rcases HO5.out.src with ⟨h0, _⟩ | ⟨g, o, cc, hv, hcc, _, hg, hr⟩
  · omega
  cases hv
  have hgw : w2.heap.size ≤ g := HF5.out g (by simp [blockOf])
  have HR := Lib.hid hr
  have hz : (bvs zsec) = bvs ((headOf i bs).take 0 ++ List.replicate (64 - 0) 0) := by rfl
  have hB5 := hB2.turn HT5.out (by simp)
  rw [hz] at hB5
  have HB5 := Lib.hid hB5
  have HL := Lib.hid (headOf_length i bs)
  clear hr hz hB5
  go_loopw [7] (fun v wr => ∃ k : Nat, k ≤ 5 + bs.length ∧ v = .int .i64 k ∧ Turn [w1.heap.size] w5 wr ∧ Blk wr w1.heap.size (bvs ((headOf i bs).take k ++ List.replicate (64 - k) 0)).toArray 202)
    (fun v _ => 5 + bs.length - (intOf v).toNat)
  case atStart => exact ⟨0, Nat.zero_le _, rfl, Turn.refl _ _, HB5.out⟩
  case round =>
    clear HB5
    obtain ⟨k, hk, rfl, hTk, hBk⟩ := hrel
    have hk64 : (k : Int) ≤ 64 := by omega
    by_cases hlt : k < 5 + bs.length
    · have hlt' : (k : Int) < 5 + (bs.length : Int) := by omega
      have hkl : k < (headOf i bs).length := by rw [HL.out]; exact hlt
      have hrk := range_turn hTk HR.out hg (by simp; omega)
      have ck := bytes_at hrk k hkl
      obtain ⟨z, hz⟩ : ∃ z, (headOf i bs)[k] = z := ⟨_, rfl⟩
      rw [hz] at ck
      have c5 := hBk.cell k (v := .int .u8 0) (by
        rw [bvs_append, List.getElem?_toArray, List.getElem?_append_right (by rw [bvs_length, List.length_take]; omega), bvs_length, List.length_take, Nat.min_eq_left (by omega), Nat.sub_self]
        simp [bvs, bv, List.getElem?_replicate]; omega)
      have f5 := hBk.thaw k
      have hset := hBk.setL k (bv z)
      have hm : 64 - k = (64 - (k + 1)) + 1 := by omega
      have hlk : ((headOf i bs).take k).length = k := by rw [List.length_take]; omega
      have hs := set_zeros ((headOf i bs).take k) (64 - (k + 1)) z
      rw [hlk, ← hm] at hs
      rw [hs] at hset
      have htk : (headOf i bs).take (k + 1) = (headOf i bs).take k ++ [z] := by rw [List.take_succ_eq_append_getElem hkl, hz]
      rw [← htk] at hset
      have HSet := Lib.hid hset
      clear hs hlk hm htk hset hz hrk hkl
      go_wp2
      go_roundw
      case rel => exact ⟨k + 1, by omega, by go_num, hTk.setCell (by simp) _, HSet.out⟩
      case measure => show 5 + bs.length - ((k : Int) + 1).toNat < 5 + bs.length - ((k : Int)).toNat; omega
    · obtain rfl : k = 5 + bs.length := by omega
      have hfin : (headOf i bs).take (5 + bs.length) ++ List.replicate (64 - (5 + bs.length)) 0 = secOf i bs := by
        rw [List.take_of_length_le (by rw [HL.out]; omega), secOf_head, show 64 - (5 + bs.length) = 59 - bs.length from by omega]
      rw [hfin] at hBk
      have Hl := Lib.hid (secOf_length i bs hb)
      have hRk : wr.rangeAt w1.heap.size 0 (bvs (secOf i bs)) := hBk.all
      have hB1k : Blk wr w.heap.size (bvs zsec).toArray 202 := (((hB1.turn hT2 (by simp)).turn HT5.out (by simp)).turn hTk (by simp; omega))
      have hTT : Turn [] w wr := ((hT1.trans hT2 (by simp)).trans HT5.out (by simp)).trans hTk (fun x hx => .inr (by simp at hx; omega))
      have HTT := Lib.hid hTT
      clear hfin hBk hTT hTk
      go_wp2_with (first
        | (refine wpList_loadA rfl 202 _ rfl _ _ rfl _ _ hRk Try.underlying202 rfl (info_rsec (lenb Hl.out)) ?_; go_frame)
        | (refine wpList_storeW rfl 202 _ _ rfl w.heap.size (bvs (secOf i bs)) rfl rfl _ 202 hB1k (len64 Hl.out) (info_rsec (lenb Hl.out)) (bvs_one _) ?_; intro w9 hT9 hB9 hz9; go_frame))
      refine bodyPost_ret (results_cell rfl _ _ w.heap.size (bvs (secOf i bs)) _ rfl hB9.all Try.underlying202 rfl (info_rsec (lenb Hl.out))) rfl ⟨rfl, ?_⟩
      exact HTT.out.trans hT9 (by simp)

section
attribute [local go_sem high] eql_rsector
set_option maxRecDepth 100000 in
set_option maxHeartbeats 1600000 in
theorem rrecord_any (i : Nat) (s : List UInt8) (w : World) (hl : s.length = 64) (hi : i < 1000000) :
    Calls Try.prog 87 #[.int .i64 i, secV s] w fun e w' => ∃ v, e = .returned (.tuple #[v, .bool (recOf i s).isSome]) ∧ Turn [] w w' ∧
      ∀ b, recOf i s = some b → Own w' 5 1 v b.length (bvs b) ∧ ∀ g ∈ blockOf v, w.heap.size ≤ g := by
  have h4 : (s.getD 4 0) = s[4] := by simp [List.getD, List.getElem?_eq_getElem (show 4 < s.length by omega)]
  obtain ⟨n, hn⟩ : ∃ n, (s.getD 4 0).toNat = n := ⟨_, rfl⟩
  have hc : (bvs s).toArray[4]? = some (Value.int .u8 (n : Int)) := by
    rw [← hn, h4]
    simp [bvs, bv, List.getElem?_eq_getElem (show 4 < s.length by omega)]
  have hn8 : n < 256 := by rw [← hn]; exact UInt8.toNat_lt _
  unfold secV
  by_cases h59 : 59 < n
  · have Hr : Hid (recOf i s = none) := by unfold Hid recOf; simp only [hn]; rw [if_pos h59]
    have hB := Blk.new w (bvs s).toArray 202
    have c4 := hB.cell 4 hc
    have h59' : (59 : Int) < (n : Int) := by omega
    clear hc hn h4 hB
    go_enter Try.func87, Try.ntmps87
    go_wp2
    go_ret2
    rw [Hr.out]
    exact ⟨_, rfl, (Turn.refl _ _).alloc _, fun b hb => by cases hb⟩
  · have Hr : Hid (recOf i s = if secOf i ((s.drop 5).take n) = s then some ((s.drop 5).take n) else none) := by unfold Hid recOf; simp only [hn]; rw [if_neg h59]
    have hB := Blk.new w (bvs s).toArray 202
    have c4 := hB.cell 4 hc
    have h59' : ¬ (59 : Int) < (n : Int) := by omega
    have hT1 : Turn [] w (w.alloc (.cells (bvs s).toArray 202)) := (Turn.refl _ _).alloc _
    have hlt := alloc_lt w (.cells (bvs s).toArray 202)
    clear hc hn h4
    have s1 : (5 : Int) + (n : Int) ≤ 64 := by omega
    have s2 : (0 : Int) ≤ 5 + (n : Int) := by omega
    have s3 : (5 : Int) ≤ 5 + (n : Int) := by omega
    go_enter Try.func87, Try.ntmps87
    have hB2 := hB.alloc (.cells #[] 5)
    have hO : Own ((w.alloc (.cells (bvs s).toArray 202)).alloc (.cells #[] 5)) 5 1 (.slice (some ⟨w.heap.size + 1, 0, none⟩) 0 0) 0 [] :=
      Own.of_blk (l := []) (c := 0) (by have := Blk.new (w.alloc (.cells (bvs s).toArray 202)) #[] 5; rwa [World.size_alloc] at this) (by omega) (by unfold maxLen; omega) rfl rfl
    have hS : Src ((w.alloc (.cells (bvs s).toArray 202)).alloc (.cells #[] 5)) (.slice (some ⟨w.heap.size, 5, none⟩) n 59) n (bvs ((s.drop 5).take n)) :=
      Src.of_blk hB2 5 n 59 _ (by rw [bvs_length, List.length_take, List.length_drop, hl, Nat.min_eq_left (by omega)]; simp [bvs, List.map_drop, List.map_take]) (by omega)
    have hS5 : Src ((w.alloc (.cells (bvs s).toArray 202)).alloc (.cells #[] 5)) (.slice (some ⟨w.heap.size, 5, none⟩) (5 + n - 5) 59) n (bvs ((s.drop 5).take n)) := by
      rw [show 5 + n - 5 = n from by omega]; exact hS
    have hbl : (bvs ((s.drop 5).take n)).length = n * 1 := by simp; omega
    go_wp2_with (refine wpList_append rfl _ _ 35 rfl 5 (.int .u8 0) 1 1 Try.underlying35 Try.info_byte rfl (by omega) (.slice (some ⟨w.heap.size + 1, 0, none⟩) 0 0) rfl 0 [] hO _ rfl n _ hS5 hbl (bvs_one _) (by unfold maxLen; omega) (by omega) ?_; intro a' c w2 hO2 hT2 hF2; simp only [Nat.zero_add, List.nil_append] at hO2 hF2; go_frame)
    have hbn : ((s.drop 5).take n).length = n := by simp; omega
    have hsrc : Src w2 (.slice a' n c) ((s.drop 5).take n).length (bvs ((s.drop 5).take n)) := by rw [hbn]; exact hO2.src
    have hsz : w.heap.size < w2.heap.size := Nat.lt_of_lt_of_le hB2.lt hT2.size
    have hW : Turn [] w w2 := ((hT1.alloc _).mono (by simp)).trans hT2 (fun x hx => Or.inr (by simp [blockOf] at hx; omega))
    have hr2 : w2.rangeAt w.heap.size 0 (bvs s) := (hB2.turn hT2 (by simp [blockOf])).all
    have hu := Try.underlying202
    have hi' := info_rsec (lenb hl)
    have h59n : ((s.drop 5).take n).length ≤ 59 := by omega
    have HBN := Lib.hid hbn
    have hl2 := secOf_length i _ h59n
    clear hbn hbl hS hS5 hB hB2 c4 hO hT1 hlt
    go_region_held3 (fun w' => w'.rangeAt w.heap.size 0 (bvs s))
      (first | assumption | exact hr2 | (refine range_turn hT4 ?_ (by simp; omega) (by simp); assumption) | (refine range_turn hT4 hr2 (by omega) (by simp)))
      (first | (go_at_call 94; refine (rsector_any i _ ((s.drop 5).take n) _ ⟨a', c, by rw [HBN.out]⟩ (hsrc.turn0 (Turn.refl _ _).drew) h59n hi).mono ?_; rintro e w4 ⟨rfl, hT4⟩))
    go_wp2
    go_ret2
    have hb4 : w2.heap.size ≤ w4.heap.size := hT4.size
    refine ⟨.slice a' n c, ?_, hW.drew.trans hT4 (by simp), ?_⟩
    · rw [Hr.out]
      by_cases he : secOf i ((s.drop 5).take n) = s
      · rw [if_pos he, show (secOf i ((s.drop 5).take n) == s) = true from by simpa using he]; rfl
      · rw [if_neg he, show (secOf i ((s.drop 5).take n) == s) = false from by simpa using he]; rfl
    · intro b hb
      rw [Hr.out] at hb
      by_cases he : secOf i ((s.drop 5).take n) = s
      · rw [if_pos he] at hb
        cases hb
        rw [HBN.out]
        refine ⟨hO2.turn0 ((Turn.refl [] w2).drew.trans hT4 (by simp)), fun g hg => ?_⟩
        rcases hF2 g hg with h | h
        · simp [blockOf] at h; omega
        · rw [World.size_alloc, World.size_alloc] at h; omega
      · rw [if_neg he] at hb; cases hb
end
end Go.Proofs.Ytkifggnjpgoamaa
