/- Contracts of the references of layers 1, 16: High, OfHigh, Time. -/
import Derived.Test.YtkifggnjpgoamaaTake
namespace Go.Proofs.Ytkifggnjpgoamaa
open Go.RowKit

theorem rtime_any (n : Int) (w : World) : Calls Try.prog 89 #[.int .i64 n] w fun e w' => e = .returned (.bool (isTime n)) ∧ w = w' := by
  by_cases h0 : n < 0
  · have he : isTime n = false := (isTime_no n).2 (.inl h0)
    rw [he]
    clear he
    go_enter Try.func89, Try.ntmps89
    go_wp2
    go_ret
    exact ⟨rfl, rfl⟩
  · have h1 : 0 ≤ n := by omega
    by_cases h2 : n ≤ 1000000
    · have he : isTime n = true := (isTime_iff n).2 ⟨h1, h2⟩
      rw [he]
      clear he
      go_enter Try.func89, Try.ntmps89
      go_wp2
      go_ret
      exact ⟨by simp [h2], rfl⟩
    · have he : isTime n = false := (isTime_no n).2 (.inr (by omega))
      rw [he]
      clear he
      go_enter Try.func89, Try.ntmps89
      go_wp2
      go_ret
      exact ⟨by simp <;> omega, rfl⟩

theorem highB_succ (x k : Nat) : highB x (k + 1) = UInt8.ofNat (x / 256 ^ k) :: highB x k := by
  unfold highB
  rw [lowB_succ, List.reverse_append, List.reverse_singleton, Nat.shiftRight_eq_div_pow, show 2 ^ (8 * k) = 256 ^ k from by rw [Nat.pow_mul]]
  rfl

set_option maxRecDepth 100000 in
set_option maxHeartbeats 1600000 in
theorem rhigh_any (X K : Int) (x k : Nat) (w : World) (hX : X = x) (hK : K = k) (hx : x < 18446744073709551616) (hk : k ≤ 8) :
    Calls Try.prog 137 #[.int .u64 X, .int .i64 K] w fun e w' => ∃ a c, e = .returned (.slice a k c) ∧ Turn [] w w' ∧ Own w' 5 1 (.slice a k c) k (bvs (highB x k)) ∧ ∀ b ∈ blockOf (.slice a k c), w.heap.size ≤ b := by
  subst hX hK
  have hk8 : (k : Int) ≤ 8 := by omega
  have HXX := Lib.hid hx
  clear hx
  go_enter Try.func137, Try.ntmps137
  go_wp2_with fail
  go_loopw [0, 5, 6] (fun n v i wr => ∃ (j : Nat) (a : Option Addr) (c : Nat), j ≤ k ∧ i = .int .i64 j ∧ (∃ y : Nat, n = .int .u64 y ∧ Hid (y = x / 256 ^ j)) ∧ v = .slice a j c ∧ Turn [] w wr ∧ Own wr 5 1 (.slice a j c) j (bvs (highB x j)) ∧ Hid (∀ b ∈ blockOf (.slice a j c), w.heap.size ≤ b))
    (fun _ _ i _ => k - (intOf i).toNat)
  case atStart => exact ⟨0, none, 0, Nat.zero_le _, rfl, ⟨x, rfl, by unfold Hid; simp⟩, rfl, Turn.refl _ _, Own.nil _ _ _, by unfold Hid; simp [blockOf]⟩
  case round =>
    obtain ⟨j, a, c, hj, rfl, ⟨y, rfl, HY⟩, rfl, hT, hO, HB⟩ := hrel
    have hj8 : (j : Int) ≤ 8 := by omega
    have HO := Lib.hid hO
    have hyl : y < 18446744073709551616 := by rw [HY.out]; exact Nat.lt_of_le_of_lt (Nat.div_le_self _ _) HXX.out
    have HYL := Lib.hid hyl
    clear hO hyl
    by_cases hlt : j < k
    · have hlt' : (j : Int) < (k : Int) := by omega
      have hlt8 : (j : Int) < 8 := by omega
      have hwr : Turn [] w wr := hT
      have e1 : Value.int .u8 ((y : Int) % 256) = bv (UInt8.ofNat (x / 256 ^ j)) := by rw [← HY.out]; exact bv_nat y
      have e2 : ((y : Int) / 256) = ((y / 256 : Nat) : Int) := by omega
      have E := Lib.hid (And.intro e1 e2)
      clear e1 e2
      go_wp2_with (first
        | (refine wpList_append rfl _ _ 35 rfl 5 (.int .u8 0) 1 1 Try.underlying35 Try.info_byte rfl (by omega) (.slice (some ⟨wr.heap.size, 0, none⟩) 1 1) rfl 1 [bv (UInt8.ofNat (x / 256 ^ j))] (Own.of_blk (l := [bv (UInt8.ofNat (x / 256 ^ j))]) (c := 1) (by rw [← E.out.1]; exact Blk.new wr #[.int .u8 ((y : Int) % 256)] 5) (by omega) (by unfold maxLen; omega) rfl rfl) (.slice a j c) rfl j _ (HO.out.turn0 ((Turn.refl _ _).alloc _)).src (by simp) (bvs_one _) (by unfold maxLen; omega) (by omega) ?_
           intro a2 c2 w2 hO2 hT2 hF2
           have hT02 : Turn [] wr w2 := ((Turn.refl [] wr).alloc _).trans hT2 (fun g hg => .inr (by simp [blockOf] at hg; omega))
           have HO2 := Lib.hid hO2
           have HT2 := Lib.hid hT02
           have HF2 := Lib.hid hF2
           clear hO2 hT2 hF2 hT02
           go_frame))
      go_roundw
      case rel =>
        refine ⟨j + 1, a2, c2, by omega, by go_num, ⟨y / 256, by rw [E.out.2, show IntKind.u64.wrap ((y / 256 : Nat) : Int) = ((y / 256 : Nat) : Int) from by rw [IntKind.wrap_u64]; have := HYL.out; omega], ?_⟩, by rw [Nat.add_comm j 1], hT.trans HT2.out (by simp), ?_, ?_⟩
        · unfold Hid; rw [HY.out, Nat.div_div_eq_div_mul, ← Nat.pow_succ]
        · have := HO2.out
          rw [Nat.add_comm 1 j] at this
          rw [highB_succ]
          exact this
        · intro b hb
          rw [Nat.add_comm j 1] at hb
          have hs := hT.size
          rcases HF2.out b hb with h | h
          · simp [blockOf] at h; omega
          · rw [World.size_alloc] at h; omega
      case measure => show k - ((j : Int) + 1).toNat < k - ((j : Int)).toNat; omega
    · obtain rfl : j = k := by omega
      go_wp2
      go_ret
      exact ⟨a, c, rfl, hT, HO.out, HB.out⟩

set_option maxRecDepth 100000 in
set_option maxHeartbeats 1600000 in
theorem rofHigh_at (b o n c : Nat) (bs : List UInt8) (w : World) (hn : n = bs.length) (hl : n ≤ 8) (hc : n ≤ c) (hr : w.rangeAt b o (bvs bs)) :
    Calls Try.prog 139 #[.slice (some ⟨b, o, none⟩) n c] w fun e w' => e = .returned (.int .u64 (ofHigh bs)) ∧ w = w' := by
  subst hn
  have m1 : (bs.length : Int) ≤ 8 := by omega
  have m2 : (bs.length : Int) ≤ c := by omega
  have HR := Lib.hid hr
  clear hr
  go_enter Try.func139, Try.ntmps139
  go_wp2_with fail
  go_loop [3, 4] (fun n i => ∃ j : Nat, j ≤ bs.length ∧ i = .int .i64 j ∧ ∃ y : Nat, n = .int .u64 y ∧ Hid (y = ofHigh (bs.take j))) (fun _ i => bs.length - (intOf i).toNat)
  case atStart => exact ⟨0, Nat.zero_le _, rfl, 0, rfl, rfl⟩
  case round =>
    obtain ⟨j, hj, rfl, y, rfl, HY⟩ := hrel
    have hj8 : (j : Int) ≤ 8 := by omega
    by_cases hlt : j < bs.length
    · have hlt' : (j : Int) < (bs.length : Int) := by omega
      have hlt8 : (j : Int) < 8 := by omega
      have hs : w.cell? ⟨b, o + j, none⟩ = some (.int .u8 (bs[j].toNat : Int)) := bytes_at HR.out j hlt
      obtain ⟨z, hz⟩ : ∃ z, bs[j].toNat = z := ⟨_, rfl⟩
      have hz8 : z < 256 := by rw [← hz]; exact UInt8.toNat_lt _
      rw [hz] at hs
      have hyb : y < 72057594037927936 := by
        rw [HY.out]
        have h1 := ofHigh_lt j (bs.take j) (by simp; omega)
        have h2 : 256 ^ j ≤ 256 ^ 7 := Nat.pow_le_pow_right (by omega) (by omega)
        omega
      have hyi : (y : Int) < 72057594037927936 := by omega
      have hzi : (z : Int) < 256 := by omega
      have HN : Hid (y * 256 + z = ofHigh (bs.take (j + 1))) := by
        unfold Hid
        rw [List.take_succ_eq_append_getElem hlt, ofHigh_snoc, HY.out, hz]
      clear hz
      go_wp2
      go_round
      case rel => exact ⟨j + 1, by omega, by go_num, y * 256 + z, by go_num, HN⟩
      case measure => simp [intOf]; omega
    · obtain rfl : j = bs.length := by omega
      have HN : Hid (y = ofHigh bs) := by unfold Hid; rw [HY.out, List.take_length]
      go_wp2
      go_ret
      exact ⟨by rw [HN.out]; rfl, rfl⟩
end Go.Proofs.Ytkifggnjpgoamaa
