/- journal.sectors and its iterator. -/
import Derived.Test.YtkifggnjpgoamaaFence
import Derived.Test.YtkifggnjpgoamaaDiskB
namespace Go.Proofs.Ytkifggnjpgoamaa
open Go.RowKit Go.Shelf
attribute [local go_sem] Oper.semAt_some

def upto {α : Type} (f : Nat → α) (k : Nat) : List α := (List.range k).map f
theorem upto_succ {α : Type} (f : Nat → α) (k : Nat) : upto f (k + 1) = upto f k ++ [f k] := by simp [upto, List.range_succ]
theorem upto_length {α : Type} (f : Nat → α) (k : Nat) : (upto f k).length = k := by simp [upto]

/-- A sector with its number, as the iterator hands it out. -/
abbrev SecAt := { x : Nat × List UInt8 // x.2.length = 64 ∧ x.1 < 64 }
def secAt (S : DSt) (k : Nat) : SecAt := if h : (S.read k).length = 64 ∧ k < 64 then ⟨(k, S.read k), h⟩ else ⟨(0, zsec), rfl, by omega⟩
/-- What the iterator leans on: all below n₀ lies still, and its own box. -/
abbrev Keeps (n₀ Bn : Nat) : World → World → Prop := TurnP (fun b => n₀ ≤ b ∧ b ≠ Bn)

set_option maxHeartbeats 400000 in
theorem sectors_any (d : Nat) (w : World) :
    Calls Try.prog 67 #[.pointer (some ⟨d, 0, none⟩)] w fun e w' => e = .returned (.func (.func 117) #[] #[.pointer (some ⟨w.heap.size, 0, none⟩)]) ∧ w' = w.alloc (.cells #[.pointer (some ⟨d, 0, none⟩)] 53) := by
  go_enter Try.func67, Try.ntmps67
  go_wp2
  go_ret
  exact ⟨rfl, rfl⟩

theorem secAt_eq {S : DSt} {k : Nat} (h : (S.read k).length = 64) (hk : k < 64) : (secAt S k).1 = (k, S.read k) := by
  unfold secAt
  rw [dif_pos ⟨h, hk⟩]

theorem read_length {w : World} {d sb mb : Nat} {S : DSt} {k : Nat} (hD : DiskAt w d sb mb S) (hk : k < S.sure.length) (hs : S.soon = []) : (S.read k).length = 64 := by
  unfold DSt.read
  rw [hs]
  exact sector_length hD.full k hk

set_option maxRecDepth 100000 in
set_option maxHeartbeats 2000000 in
theorem sectors1_in (n : Nat) (hn : 1 ≤ n) (l Bn n₀ d sb mb : Nat) (S : DSt) (J Jx : List SecAt → World → Prop)
    (hY : ∀ pre x W, J pre W → pre.length < S.sure.length → YieldAt Fence.wide (n - 1) Try.prog l #[.int .i64 (x.1.1 : Int), secV x.1.2] W fun e W' =>
      (e = .returned (.bool true) ∧ J (pre ++ [x]) W' ∧ Keeps n₀ Bn W W') ∨ (e = .returned (.bool false) ∧ Jx (pre ++ [x]) W'))
    (W : World) (hd : d < n₀) (hsb : sb < n₀) (hmb : mb < n₀) (hJ : AbidesFrom W.heap.size J)
    (hBn : Blk W Bn #[.pointer (some ⟨d, 0, none⟩)] 53) (hD : DiskAt W d sb mb S) (hsoon : S.soon = []) (h0 : J [] W) :
    CallsIn Fence.wide n Try.prog 117 #[.func (.yield l) #[] #[], .pointer (some ⟨Bn, 0, none⟩)] W fun e W' => (∃ v, e = .returned v) ∧
      ((∃ ys, ys = upto (secAt S) S.sure.length ∧ J ys W') ∨ (∃ pre, (∃ k, k ≤ S.sure.length ∧ pre = upto (secAt S) k) ∧ Jx pre W')) := by
  refine callsIn_of_wp Try.func117 rfl trivial ?_ rfl
  simp only [Try.ntmps117, List.size_toArray, List.length_cons, List.length_nil, Nat.reduceAdd, Nat.reduceSub, Array.replicate_succ, Array.replicate_zero, List.push_toArray, List.append_toArray, List.nil_append, List.cons_append]
  gi_wp2
  gi_loopw [3] (fun i wr => ∃ k : Nat, k ≤ S.sure.length ∧ i = .int .i64 k ∧ J (upto (secAt S) k) wr ∧ Keeps n₀ Bn W wr)
    (fun i _ => S.sure.length - (intOf i).toNat)
  case atStart => exact ⟨0, Nat.zero_le _, rfl, h0, TurnP.refl _ _⟩
  case round =>
    obtain ⟨k, hk, rfl, hJs, hnx⟩ := hrel
    have hDk := hD.turnP hnx (by omega) (by omega) (by omega)
    have hBk := hBn.turnP hnx (by simp)
    have cB := hBk.cells1
    by_cases hlt : k < S.sure.length
    · have hlen : (S.read k).length = 64 := read_length hDk hlt hsoon
      have Hlen := Lib.hid hlen
      have hSk := secAt_eq hlen (by have := hDk.many; omega)
      clear hlen
      gi_wp2_with fail
      refine ⟨trivial, (callsIn_wide.2 (read_in d sb mb S k wr hDk hlt (by rw [hsoon]; simp))).mono ?_⟩
      rintro e w1 ⟨rfl, hT1⟩
      gi_wp2_with (first
        | (refine wpListIn_alloc rfl 153 rfl _ Try.zero_sector ?_; intro w2 hT2 hB2 hz2; go_frame)
        | (refine wpListIn_storeW rfl 153 _ _ rfl w1.heap.size (bvs (S.read k)) rfl rfl _ 153 hB2 (len64 Hlen.out) (info_sec (lenb Hlen.out)) (bvs_one _) ?_
           intro w3 hT3 hB3 hz3
           have hT03 : Turn [] wr w3 := (hT1.trans hT2 (by simp)).trans hT3 (by have := hT1.size; simp; omega)
           obtain ⟨fn, tmps, assign, body, hy, hR⟩ := hY _ (secAt S k) w3 (hJ _ _ _ none hJs ⟨hT03.os, hT03.tape, hT03.output, hT03.size, fun b hb _ => hT03.block b hb (by simp)⟩ (by simp)) (by rw [upto_length]; exact hlt)
           rw [hSk] at hy
           dsimp only at hy
           go_frame)
        | (refine wpListIn_load (by kernel_rfl) 153 _ rfl _ _ rfl _ _ hB3.all Try.underlying153 rfl (info_sec (lenb Hlen.out)) ?_; go_frame))
      have hB03 : Keeps n₀ Bn wr w3 := hT03.toP0
      refine hR.mono ?_
      rintro e W3 (⟨rfl, hJ3, hk3⟩ | ⟨rfl, hJx3⟩)
      · have hk64 : (k : Int) + 1 ≤ 64 := by have := hDk.many; omega
        gi_wp2
        go_roundw
        case rel => exact ⟨k + 1, by omega, rfl, by rw [upto_succ]; exact hJ3, (hnx.trans hB03 (fun _ h => .inl h)).trans hk3 (fun _ h => .inl h)⟩
        case measure => show S.sure.length - ((k : Int) + 1).toNat < S.sure.length - ((k : Int)).toNat; omega
      · gi_wp2
        refine bodyPost_ret (results_none rfl _ _ _) rfl ?_
        exact ⟨⟨_, rfl⟩, .inr ⟨_, ⟨k + 1, by omega, (upto_succ _ _).symm⟩, hJx3⟩⟩
    · obtain rfl : k = S.sure.length := by omega
      gi_wp2_with fail
      refine ⟨trivial, (callsIn_wide.2 (read_out d sb mb S _ wr hDk (.inr (by omega)))).mono ?_⟩
      rintro e w1 ⟨rfl, hT1⟩
      gi_wp2_with (first
        | (refine wpListIn_alloc rfl 153 rfl _ Try.zero_sector ?_; intro w2 hT2 hB2 hz2; go_frame)
        | (refine wpListIn_storeW rfl 153 _ _ rfl w1.heap.size (bvs zsec) rfl rfl _ 153 hB2 rfl (info_sec rfl) (bvs_one _) ?_
           intro w3 hT3 hB3 hz3
           go_frame))
      refine ⟨fun _ h => (by cases h), ?_⟩
      gi_wp2
      have hT03 : Turn [] wr w3 := (hT1.trans hT2 (by simp)).trans hT3 (by have := hT1.size; simp; omega)
      refine bodyPost_ret (results_none rfl _ _ _) rfl ?_
      exact ⟨⟨_, rfl⟩, .inl ⟨_, rfl, hJ _ _ _ none hJs ⟨hT03.os, hT03.tape, hT03.output, hT03.size, fun b hb _ => hT03.block b hb (by simp)⟩ (by simp)⟩⟩

theorem sectors_stops (n : Nat) (hn : 1 ≤ n) (Bn n₀ d sb mb : Nat) (S : DSt) (w : World) (hd : d < n₀) (hsb : sb < n₀) (hmb : mb < n₀) 
    (hBn : Blk w Bn #[.pointer (some ⟨d, 0, none⟩)] 53) (hD : DiskAt w d sb mb S) (hsoon : S.soon = []) :
    SeqStopsK Fence.wide n Try.prog 117 #[.pointer (some ⟨Bn, 0, none⟩)] (fun x : SecAt => #[.int .i64 (x.1.1 : Int), secV x.1.2]) (Keeps n₀ Bn)
      (fun ys => ys = upto (secAt S) S.sure.length) (fun pre => ∃ k, k ≤ S.sure.length ∧ pre = upto (secAt S) k) S.sure.length w := fun l J Jx W hW hJ _ hY h0 => by
  have hT : Turn [] w W := ⟨hW.os, hW.tape, hW.output, hW.size, fun k hk _ => hW.block k hk⟩
  exact sectors1_in n hn l Bn n₀ d sb mb S J Jx hY W hd hsb hmb hJ (hBn.turn hT (by simp))  (hD.turn hT (by simp) (by simp) (by simp)) hsoon h0
end Go.Proofs.Ytkifggnjpgoamaa
