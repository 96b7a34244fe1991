/- Contracts of package octets: Low, High, OfLow, OfHigh, and the reversal. -/
import Derived.Test.YtkifggnjpgoamaaBase
import Derived.Test.YtkifggnjpgoamaaProg
namespace Go.Proofs.Ytkifggnjpgoamaa
open Go.RowKit

/-- A number's bytes, the lowest first. -/
def lowB (x : Nat) (k : Nat) : List UInt8 := (List.range k).map fun i => UInt8.ofNat (x >>> (8 * i))
def highB (x : Nat) (k : Nat) : List UInt8 := (lowB x k).reverse
@[simp] theorem lowB_length (x k : Nat) : (lowB x k).length = k := by simp [lowB]
@[simp] theorem highB_length (x k : Nat) : (highB x k).length = k := by simp [highB]
theorem lowB_succ (x k : Nat) : lowB x (k + 1) = lowB x k ++ [UInt8.ofNat (x >>> (8 * k))] := by simp [lowB, List.range_succ]

/-- A slice value that holds the bytes bs. -/
def Sl (w : World) (v : Value) (bs : List UInt8) : Prop :=
  ∃ a cap, v = .slice a bs.length cap ∧ bs.length ≤ cap ∧ (a = none → cap = 0) ∧ ∀ b, a = some b → b.spot = none ∧ w.rangeAt b.block b.off (bvs bs)

theorem Try.info_byte : (Try.prog.info? 5).map (fun i => (i.zero, i.size, i.bytes)) = some (some (.int .u8 0), 1, 1) := by kernel_rfl

/-- What is known of a slice that a call made: its block is new, its bytes lie at the block's head. -/
def Made (w : World) (base : Nat) (v : Value) (bs : List UInt8) : Prop := w.ownsRow base 5 1 v bs.length (bvs bs)

theorem set_append_replicate (l : List Value) (n : Nat) (z v : Value) (h : l.length < n) : (l ++ List.replicate (n - l.length) z).set l.length v = l ++ [v] ++ List.replicate (n - (l.length + 1)) z := by
  obtain ⟨m, hm⟩ : ∃ m, n - l.length = m + 1 := ⟨n - l.length - 1, by omega⟩
  rw [hm, List.replicate_succ, show n - (l.length + 1) = m from by omega]
  simp

theorem set_replicate_append (n : Nat) (z v : Value) (r : List Value) (i : Nat) (hi : i + 1 = n) : (List.replicate n z ++ r).set i v = List.replicate (n - 1) z ++ (v :: r) := by
  obtain rfl : n = i + 1 := hi.symm
  rw [List.replicate_succ']
  simp

set_option maxRecDepth 100000 in
set_option maxHeartbeats 800000 in
theorem low_any (x : Nat) (k : Nat) (w : World) (_hx : x < 18446744073709551616) (hk : k ≤ 8) :
    Calls Try.prog 154 #[.int .u64 x, .int .i64 k] w fun e w' => e = .returned (.slice (some ⟨w.heap.size, 0, none⟩) k k) ∧ Turn [] w w' ∧ Blk w' w.heap.size (bvs (lowB x k)).toArray 5 ∧ w.heap.size < w'.heap.size := by
  have m1 : ¬ ((k : Int) < 0) := by omega
  go_enter Try.func154, Try.ntmps154
  go_wp2_with (refine wpList_make1 rfl 35 _ _ rfl 5 (.int .u8 0) 1 Try.underlying35 Try.info_byte rfl k rfl rfl (by omega) (by omega) ?_; intro w1 hT1 hB1 hz1; go_frame)
  go_loopw [6, 13] (fun _ i wr => ∃ j : Nat, j ≤ k ∧ i = .int .i64 j ∧ Turn [] w wr ∧ w.heap.size < wr.heap.size ∧ Blk wr w.heap.size (bvs (lowB x j) ++ List.replicate (k - j) (Value.int .u8 0)).toArray 5) (fun _ i _ => k - (intOf i).toNat)
  case atStart => exact ⟨0, Nat.zero_le _, rfl, hT1, hz1, by simpa [lowB, bvs] using hB1⟩
  case round =>
    obtain ⟨j, hj, rfl, hTj, hzj, hBj⟩ := hrel
    by_cases hlt : j < k
    · have hc : wr.cell? ⟨w.heap.size, j, none⟩ = some (.int .u8 0) := hBj.cell j (by simp [List.getElem?_append_right, List.getElem?_replicate]; omega)
      have hf := hBj.thaw j
      go_wp2
      go_roundw
      case rel =>
        refine ⟨j + 1, by omega, by go_num, hTj.setCell (Or.inr (Nat.le_refl _)) _, by simpa [World.setCell] using hzj, ?_⟩
        have h1 := hBj.setL j (bv (UInt8.ofNat (x >>> (8 * j))))
        have h2 := set_append_replicate (bvs (lowB x j)) k (Value.int .u8 0) (bv (UInt8.ofNat (x >>> (8 * j)))) (by simpa using hlt)
        rw [bvs_length, lowB_length] at h2
        rw [h2] at h1
        rw [lowB_succ, bvs_append, show (Value.int IntKind.u8 ((x : Int) / 2 ^ (8 * j) % 256)) = bv (UInt8.ofNat (x >>> (8 * j))) from by
          rw [← bv_nat, Nat.shiftRight_eq_div_pow]; simp]
        exact h1
      case measure => simp [intOf]; omega
    · obtain rfl : j = k := by omega
      go_wp2
      go_ret
      exact ⟨rfl, hTj, by simpa using hBj, hzj⟩

/-- The bytes that a slice value holds lie there. -/
theorem bytes_at {w : World} {b o : Nat} {bs : List UInt8} (h : w.rangeAt b o (bvs bs)) (j : Nat) (hj : j < bs.length) : w.cell? ⟨b, o + j, none⟩ = some (.int .u8 (bs[j].toNat : Int)) :=
  h j _ (by simp [bvs, bv, hj])

set_option maxRecDepth 100000 in
set_option maxHeartbeats 800000 in
theorem turned_any (b o c : Nat) (bs : List UInt8) (w : World) (hl : bs.length ≤ 140737488351232) (hr : w.rangeAt b o (bvs bs)) (hb : b < w.heap.size) :
    Calls Try.prog 153 #[.slice (some ⟨b, o, none⟩) bs.length c] w fun e w' => e = .returned (.slice (some ⟨w.heap.size, 0, none⟩) bs.length bs.length) ∧ Turn [] w w' ∧ Blk w' w.heap.size (bvs bs.reverse).toArray 5 ∧ w.heap.size < w'.heap.size := by
  go_enter Try.func153, Try.ntmps153
  go_wp2_with (refine wpList_make1 rfl 35 _ _ rfl 5 (.int .u8 0) 1 Try.underlying35 Try.info_byte rfl bs.length rfl rfl (by omega) (by omega) ?_; intro w1 hT1 hB1 hz1; go_frame)
  go_loopw [4, 5, 11] (fun _ _ i wr => ∃ j : Nat, j ≤ bs.length ∧ i = .int .i64 j ∧ Turn [] w wr ∧ w.heap.size < wr.heap.size ∧ Blk wr w.heap.size (List.replicate (bs.length - j) (Value.int .u8 0) ++ bvs (bs.take j).reverse).toArray 5) (fun _ _ i _ => bs.length - (intOf i).toNat)
  case atStart => exact ⟨0, Nat.zero_le _, rfl, hT1, hz1, by simpa [bvs] using hB1⟩
  case round =>
    obtain ⟨j, hj, rfl, hTj, hzj, hBj⟩ := hrel
    by_cases hlt : j < bs.length
    · have hc : wr.cell? ⟨w.heap.size, bs.length - 1 - j, none⟩ = some (.int .u8 0) := hBj.cell (bs.length - 1 - j) (by
        rw [List.getElem?_toArray, List.getElem?_append_left (by simp; omega), List.getElem?_replicate, if_pos (by omega)])
      have hf := hBj.thaw (bs.length - 1 - j)
      have hs : wr.cell? ⟨b, o + j, none⟩ = some (.int .u8 (bs[j].toNat : Int)) := (hTj.cell hb (by simp)).trans (bytes_at hr j hlt)
      go_wp2
      go_roundw
      case rel =>
        refine ⟨j + 1, by omega, by go_num, hTj.setCell (Or.inr (Nat.le_refl _)) _, by simpa [World.setCell] using hzj, ?_⟩
        have h1 := hBj.setL (bs.length - 1 - j) (bv bs[j])
        rw [set_replicate_append _ _ _ _ _ (by omega), show bs.length - j - 1 = bs.length - (j + 1) from by omega] at h1
        rw [List.take_succ_eq_append_getElem hlt, List.reverse_append, List.reverse_singleton, bvs_append]
        exact h1
      case measure => simp [intOf]; omega
    · obtain rfl : j = bs.length := by omega
      go_wp2
      go_ret
      exact ⟨rfl, hTj, by simpa using hBj, hzj⟩

set_option maxHeartbeats 400000 in
theorem turned_nil (a : Option Addr) (c : Nat) (w : World) :
    Calls Try.prog 153 #[.slice a 0 c] w fun e w' => e = .returned (.slice (some ⟨w.heap.size, 0, none⟩) 0 0) ∧ Turn [] w w' ∧ Blk w' w.heap.size (bvs []).toArray 5 ∧ w.heap.size < w'.heap.size := by
  go_enter Try.func153, Try.ntmps153
  go_wp2_with (refine wpList_make1 rfl 35 _ _ rfl 5 (.int .u8 0) 1 Try.underlying35 Try.info_byte rfl 0 rfl rfl (by omega) (by omega) ?_; intro w1 hT1 hB1 hz1; go_frame)
  refine wp_loop_rounds 1 ?_
  rw [rounds_succ]
  go_wp2
  go_ret
  exact ⟨rfl, hT1, hB1, hz1⟩

set_option maxHeartbeats 400000 in
theorem high_any (x : Nat) (k : Nat) (w : World) (hx : x < 18446744073709551616) (hk : k ≤ 8) :
    Calls Try.prog 104 #[.int .u64 x, .int .i64 k] w fun e w' => ∃ g, e = .returned (.slice (some ⟨g, 0, none⟩) k k) ∧ w.heap.size ≤ g ∧ Turn [] w w' ∧ Blk w' g (bvs (highB x k)).toArray 5 := by
  go_enter Try.func104, Try.ntmps104
  go_wp2_with fail
  refine (low_any x k _ hx hk).mono ?_
  rintro e w1 ⟨rfl, hT1, hB1, hz1⟩
  go_wp2_with fail
  have ht := turned_any w.heap.size 0 k (lowB x k) w1 (by simp; omega) hB1.all hz1
  rw [lowB_length] at ht
  refine ht.mono ?_
  rintro e w2 ⟨rfl, hT2, hB2, hz2⟩
  go_wp2
  go_ret
  exact ⟨_, rfl, hT1.size, hT1.trans hT2 (by simp), hB2⟩

/-- The number of bytes, the highest first. -/
def ofHigh (bs : List UInt8) : Nat := bs.foldl (fun n c => n * 256 + c.toNat) 0
def ofLow (bs : List UInt8) : Nat := ofHigh bs.reverse
theorem ofHigh_snoc (bs : List UInt8) (c : UInt8) : ofHigh (bs ++ [c]) = ofHigh bs * 256 + c.toNat := by simp [ofHigh]
theorem ofHigh_lt : ∀ (k : Nat) (bs : List UInt8), bs.length = k → ofHigh bs < 256 ^ k
  | 0, [], _ => by simp [ofHigh]
  | 0, _ :: _, h => by cases h
  | k + 1, bs, h => by
    obtain ⟨l, c, rfl⟩ : ∃ l c, bs = l ++ [c] := ⟨bs.take k, bs[k], by
      have := List.take_succ_eq_append_getElem (l := bs) (i := k) (by omega)
      rw [← this, List.take_of_length_le (by omega)]⟩
    rw [ofHigh_snoc]
    have ih := ofHigh_lt k l (by simpa using h)
    have hc : c.toNat < 256 := UInt8.toNat_lt _
    rw [Nat.pow_succ]; omega

theorem or_byte (n c : Nat) (hn : n < 72057594037927936) (hc : c < 256) : bits .or .u64 (IntKind.u64.wrap ((n : Int) * 256)) (IntKind.u64.wrap (c : Int)) = ((n * 256 + c : Nat) : Int) := by
  have e1 : IntKind.u64.wrap ((n : Int) * 256) = ((n * 256 : Nat) : Int) := by rw [IntKind.wrap_u64]; omega
  have e2 : IntKind.u64.wrap (c : Int) = (c : Int) := by rw [IntKind.wrap_u64]; omega
  rw [e1, e2, u64_or_nat _ _ (by omega) (by omega)]
  have := Nat.shiftLeft_add_eq_or_of_lt (i := 8) (b := c) (by omega) n
  rw [Nat.shiftLeft_eq] at this
  rw [show n * 256 = n * 2 ^ 8 from rfl, ← this]

set_option maxRecDepth 100000 in
set_option maxHeartbeats 800000 in
theorem ofHigh_any (b o c : Nat) (bs : List UInt8) (w : World) (hl : bs.length ≤ 8) (hc : bs.length ≤ c) (hr : w.rangeAt b o (bvs bs)) :
    Calls Try.prog 165 #[.slice (some ⟨b, o, none⟩) bs.length c] w fun e w' => e = .returned (.int .u64 (ofHigh bs)) ∧ w = w' := by
  have m1 : (bs.length : Int) ≤ 8 := by omega
  have m2 : (bs.length : Int) ≤ c := by omega
  go_enter Try.func165, Try.ntmps165
  go_wp2
  go_loop [3, 5, 12] (fun n _ i => ∃ j : Nat, j ≤ bs.length ∧ i = .int .i64 j ∧ n = .int .u64 (ofHigh (bs.take j))) (fun _ _ i => bs.length - (intOf i).toNat)
  case atStart => exact ⟨0, Nat.zero_le _, rfl, rfl⟩
  case round =>
    obtain ⟨j, hj, rfl, rfl⟩ := hrel
    by_cases hlt : j < bs.length
    · have hs : w.cell? ⟨b, o + j, none⟩ = some (.int .u8 (bs[j].toNat : Int)) := bytes_at hr j hlt
      go_wp2
      have hb : ofHigh (bs.take j) < 72057594037927936 := by
        have h1 := ofHigh_lt j (bs.take j) (by simp; omega)
        have h2 : 256 ^ j ≤ 256 ^ 7 := Nat.pow_le_pow_right (by omega) (by omega)
        omega
      refine ⟨⟨j + 1, by omega, by go_num, ?_⟩, by simp [intOf]; omega⟩
      rw [or_byte _ _ hb (UInt8.toNat_lt _), List.take_succ_eq_append_getElem hlt, ofHigh_snoc]
    · obtain rfl : j = bs.length := by omega
      go_wp2
      go_ret
      exact ⟨by simp, rfl⟩

set_option maxHeartbeats 400000 in
theorem ofLow_any (b o c : Nat) (bs : List UInt8) (w : World) (hl : bs.length ≤ 8) (h0 : 0 < bs.length) (hc : bs.length ≤ c) (hr : w.rangeAt b o (bvs bs)) (hb : b < w.heap.size) :
    Calls Try.prog 173 #[.slice (some ⟨b, o, none⟩) bs.length c] w fun e w' => e = .returned (.int .u64 (ofLow bs)) ∧ Turn [] w w' := by
  have m1 : (bs.length : Int) ≤ 8 := by omega
  have m2 : (bs.length : Int) ≤ c := by omega
  go_enter Try.func173, Try.ntmps173
  go_wp2_with fail
  refine (turned_any b o c bs w (by omega) hr hb).mono ?_
  rintro e w1 ⟨rfl, hT1, hB1, hz1⟩
  go_wp2_with fail
  have h := ofHigh_any w.heap.size 0 bs.length bs.reverse w1 (by simpa using hl) (by simp) hB1.all
  rw [List.length_reverse] at h
  refine h.mono ?_
  rintro e w2 ⟨rfl, rfl⟩
  go_wp2
  go_ret
  exact ⟨rfl, hT1⟩

theorem high_at (X K : Int) (x k : Nat) (w : World) (hX : X = (x : Int)) (hK : K = (k : Int)) (hx : x < 18446744073709551616) (hk : k ≤ 8) :
    Calls Try.prog 104 #[.int .u64 X, .int .i64 K] w fun e w' => ∃ g, e = .returned (.slice (some ⟨g, 0, none⟩) k k) ∧ w.heap.size ≤ g ∧ Turn [] w w' ∧ Blk w' g (bvs (highB x k)).toArray 5 := by
  subst hX hK
  exact high_any x k w hx hk
end Go.Proofs.Ytkifggnjpgoamaa
