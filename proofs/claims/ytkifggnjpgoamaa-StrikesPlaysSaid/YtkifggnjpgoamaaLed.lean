/- Contracts of package strikes: what a ledger in memory is; time, Of, take. -/
import Derived.Test.YtkifggnjpgoamaaRig
namespace Go.Proofs.Ytkifggnjpgoamaa
open Go.RowKit

/-- A ledger in memory: its block l, its map's block lm, its journal's block j, its strikes. -/
def ledH (l lm j : Nat) (M : Led) : HA where
  at' w F := Blk w l #[.pointer (some ⟨j, 0, none⟩), .map (some lm)] 191 ∧ IMap w lm (asM stkV M) ∧ l ≠ lm ∧ Led.wf M ∧ F = (fun b => b = l ∨ b = lm)
  lt := by
    rintro w F ⟨h, g, _, _, rfl⟩ b hb
    rcases hb with rfl | rfl
    · exact h.lt
    · exact g.lt
  keep := by rintro w w' F G ⟨h, g, n, z, rfl⟩ k hn; exact ⟨h.turnP k (hn l (.inl rfl)), g.turnP k (hn lm (.inr rfl)), n, z, rfl⟩

variable {w0 w w' : World} {R : List HA} {l lm j : Nat} {M : Led}
theorem St.led (h : St w0 (ledH l lm j M :: R) w) : Blk w l #[.pointer (some ⟨j, 0, none⟩), .map (some lm)] 191 ∧ IMap w lm (asM stkV M) ∧ l ≠ lm ∧ Led.wf M := by
  obtain ⟨F, a, b, c, d, _⟩ := h.fst; exact ⟨a, b, c, d⟩
theorem St.setLed {M' : Led} (h : St w0 (ledH l lm j M :: R) w) (k : Turn [lm] w w') (hm : IMap w' lm (asM stkV M')) (hz : Led.wf M') : St w0 (ledH l lm j M' :: R) w' := by
  obtain ⟨F, ⟨a, b, c, d, rfl⟩, f2, f3⟩ := h.step1
  exact f3 (ledH l lm j M') w' _ ⟨a.turn k (by simp [c]), hm, c, hz, rfl⟩ (k.toP (by simp)) (fun b hb => .inl hb)

set_option maxHeartbeats 400000 in
theorem time_yes (n : Int) (w : World) (h : isTime n = true) : Calls Try.prog 84 #[.int .i64 n] w fun e w' => e = .returned (.bool true) ∧ w = w' := by
  obtain ⟨h1, h2⟩ := (isTime_iff n).1 h
  clear h
  go_enter Try.func84, Try.ntmps84
  go_wp2
  go_ret
  exact ⟨by simp, rfl⟩
set_option maxHeartbeats 400000 in
theorem time_no (n : Int) (w : World) (h : isTime n = false) : Calls Try.prog 84 #[.int .i64 n] w fun e w' => e = .returned (.bool false) ∧ w = w' := by
  have h' := (isTime_no n).1 h
  clear h
  by_cases h0 : n < 0
  · go_enter Try.func84, Try.ntmps84
    go_wp2
    go_ret
    exact ⟨rfl, rfl⟩
  · have h1 : 0 ≤ n := by omega
    have h2 : 1000000 < n := by omega
    clear h'
    go_enter Try.func84, Try.ntmps84
    go_wp2
    go_ret
    exact ⟨by simp; omega, rfl⟩
theorem time_any (n : Int) (w : World) : Calls Try.prog 84 #[.int .i64 n] w fun e w' => e = .returned (.bool (isTime n)) ∧ w = w' := by
  cases h : isTime n with
  | true => exact time_yes n w h
  | false => exact time_no n w h

theorem Try.zero_strike : ∀ w, (zeroValue 193).run Try.prog w = .ok (.agg [.int .i64 0, .int .i64 0, .bool false].toArray) w := fun _ => by kernel_rfl
theorem Try.info_strike : (Try.prog.info? 193).map (·.size) = some 3 := by kernel_rfl
theorem info_stk {cs : List Value} (h : cs.length = 3) : (Try.prog.info? 193).map (·.size) = some cs.length := by rw [Try.info_strike, h]

/-- What a look-up of a strike tells. -/
def stkAt (M : Led) (id : Int) : Stk := (aget M id).getD ⟨0, 0, false⟩
theorem stkAt_val (M : Led) (id : Int) : (mget (asM stkV M) id).getD (.agg [.int .i64 0, .int .i64 0, .bool false].toArray) = .agg [.int .i64 (stkAt M id).account, .int .i64 (stkAt M id).time, .bool (stkAt M id).cleared].toArray := by
  rw [mget_asM]
  unfold stkAt
  cases aget M id <;> rfl
theorem stkAt_is (M : Led) (id : Int) : (mget (asM stkV M) id).isSome = (aget M id).isSome := by rw [mget_asM]; cases aget M id <;> rfl

set_option maxRecDepth 100000 in
set_option maxHeartbeats 800000 in
theorem of_any (id : Int) (h : St w0 (ledH l lm j M :: R) w) :
    Calls Try.prog 33 #[.pointer (some ⟨l, 0, none⟩), .int .i64 id] w fun e w' => e = .returned (.tuple #[.int .i64 (stkAt M id).account, .bool (stkAt M id).cleared, .bool (aget M id).isSome]) ∧ Turn [] w w' := by
  obtain ⟨hB, hM, _, _⟩ := h.led
  have c1 := hB.cells2.2
  have e1 := stkAt_val M id
  have e2 := stkAt_is M id
  have E1 := Lib.hid e1
  have E2 := Lib.hid e2
  clear e1 e2 h
  obtain ⟨s, hs⟩ : ∃ s, stkAt M id = s := ⟨_, rfl⟩
  obtain ⟨q, hq⟩ : ∃ q, (aget M id).isSome = q := ⟨_, rfl⟩
  rw [hs] at E1 ⊢
  rw [hq] at E2 ⊢
  clear hs hq
  go_enter Try.func33, Try.ntmps33
  go_wp2_with (first
    | (refine wpList_mget rfl 189 _ _ true rfl Try.underlying189 Try.underlying3 _ Try.zero_strike lm id rfl rfl _ hM ?_; rw [E1.out, E2.out]; go_frame)
    | (refine wpList_alloc rfl 193 rfl _ Try.zero_strike ?_; intro w1 hT1 hB1 hz1; go_frame)
    | (refine wpList_storeW rfl 193 _ _ rfl w.heap.size [.int .i64 s.account, .int .i64 s.time, .bool s.cleared] rfl rfl _ 193 hB1 rfl (info_stk rfl) (by simp [Value.oneCell']) ?_; intro w2 hT2 hB2 hz2; go_frame))
  have d0 := hB2.cells3.1
  have d2 := hB2.cells3.2.2
  go_quiet (fail)
  go_wp2
  go_ret3
  exact ⟨rfl, (hT1.trans hT2 (by simp)).drewN _⟩
end Go.Proofs.Ytkifggnjpgoamaa
