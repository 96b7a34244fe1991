/- Contracts of package strikes: Count, Suspended. -/
import Derived.Test.YtkifggnjpgoamaaLed
import Derived.Test.YtkifggnjpgoamaaMore
import Derived.Deep.LoopGhost
namespace Go.Proofs.Ytkifggnjpgoamaa
open Go.RowKit
variable {w0 w w' : World} {R : List HA} {l lm j : Nat} {M : Led}

theorem countM_split (pre : Led) (p : Int × Stk) (post : Led) (a n : Int) : countM (pre ++ p :: post) a n = countM (pre ++ post) a n + if counts a n p.2 then 1 else 0 := by
  unfold countM
  rw [List.filter_append, List.filter_append, List.filter_cons]
  split <;> simp <;> omega
theorem countM_le (M : Led) (a n : Int) : countM M a n ≤ M.length := List.length_filter_le _ _

set_option maxRecDepth 100000 in
set_option maxHeartbeats 1600000 in
theorem count_any (account now : Int) (h1 : now ≤ 9223372036854775807) (hlen : M.length ≤ 1000) (h : St w0 (ledH l lm j M :: R) w) :
    Calls Try.prog 29 #[.pointer (some ⟨l, 0, none⟩), .int .i64 account, .int .i64 now] w fun e w' => e = .returned (.int .i64 (countM M account now)) ∧ Turn [] w w' := by
  obtain ⟨hB, hM, _, hwf⟩ := h.led
  have c1 := hB.cells2.2
  have Hn := Lib.hid h1
  clear h h1
  go_enter Try.func29, Try.ntmps29
  go_wp2_with (refine wpList_mrange rfl 189 _ rfl Try.underlying189 lm rfl _ hM ?_; intro w1 hT1 hz1 hI1; go_frame)
  go_loopg [7] M.length (fun g n wr => ∃ (left : Led) (cur : Option (Int × Value)) (cnt : Nat), left.length ≤ g ∧ n = .int .i64 cnt ∧ Turn [] w wr ∧ w.heap.size < wr.heap.size ∧ IterAt wr w.heap.size lm (asM stkV left) cur ∧
      Hid (cnt + countM left account now = countM M account now) ∧ Hid (Led.wf left) ∧ cnt + left.length ≤ 1000)
  case atStart => exact ⟨M, none, 0, Nat.le_refl _, rfl, hT1, hz1, hI1, by unfold Hid; omega, hwf, by omega⟩
  case round =>
    obtain ⟨left, cur, cnt, hg, rfl, hT, hz, hI, HC, HW, hc⟩ := hrel
    by_cases hl : left = []
    · subst hl
      have hfin : (cnt : Int) = (countM M account now : Int) := by
        have := HC.out
        simp only [countM, List.filter_nil, List.length_nil] at this ⊢
        omega
      have HF := Lib.hid hfin
      clear hfin
      go_wp2_with (refine wpList_mnextM stkV rfl _ rfl w.heap.size lm rfl [] cur hI (fun _ => ?_) (fun pre p post w' h => absurd h (by simp)); go_frame)
      go_ret
      exact ⟨by rw [HF.out]; rfl, hT⟩
    · have hc64 : (cnt : Int) ≤ 1000 := by omega
      have hpos : 0 < left.length := List.length_pos_iff.2 hl
      have hl' : ∃ x, x = hl := ⟨_, rfl⟩
      go_wp2_with (first
        | (refine wpList_mnextM stkV rfl _ rfl w.heap.size lm rfl left cur hI (fun h => absurd h hl) ?_
           intro pre p post w3 hsp hT3 hz3 hI3
           have HS := Lib.hid hsp
           clear hsp
           obtain ⟨id, acc, tm, cl⟩ := p
           dsimp only [stkV] at hI3 ⊢
           go_frame)
        | (refine wpList_mentry rfl _ rfl w.heap.size lm rfl _ _ hI3 ?_; go_frame)
        | (refine wpList_alloc rfl 193 rfl _ Try.zero_strike ?_; intro w4 hT4 hN4 hz4; go_frame)
        | (refine wpList_storeW rfl 193 _ _ rfl w3.heap.size [.int .i64 acc, .int .i64 tm, .bool cl] rfl rfl _ 193 hN4 rfl (info_stk rfl) (by simp [Value.oneCell']) ?_
           intro w5 hT5 hN5 hz5
           have d0 := hN5.cells3.1
           have d1 := hN5.cells3.2.1
           have d2 := hN5.cells3.2.2
           have hp : (0 : Int) ≤ tm ∧ tm ≤ 1000000 := (HW.out (id, ⟨acc, tm, cl⟩) (by rw [HS.out]; simp)).2.2
           have p0 := hp.1
           have p1 := hp.2
           clear hp
           go_frame))
      all_goals
        have hsp := HS.out
        have hll : left.length = (pre ++ post).length + 1 := by rw [hsp]; simp; omega
        have hT34 : Turn [w3.heap.size] w3 w5 := (hT4.mono (by simp)).trans hT5 (by simp)
        have hTf : Turn [] w w5 := (hT.trans hT3 (fun x hx => .inr (by simp at hx; omega))).trans hT34 (fun x hx => .inr (by simp at hx; omega))
        have hIf : IterAt w5 w.heap.size lm (asM stkV (pre ++ post)) (some (id, .agg #[.int .i64 acc, .int .i64 tm, .bool cl])) := hI3.turn hT34 (by simp; omega) (by have := hI3.lt.2; simp; omega)
        have hWf : Hid (Led.wf (pre ++ post)) := fun p hp => HW.out p (by rw [hsp]; simp only [List.mem_append, List.mem_cons] at hp ⊢; rcases hp with h | h <;> simp [h])
        have hC : cnt + (countM (pre ++ post) account now + if counts account now ⟨acc, tm, cl⟩ then 1 else 0) = countM M account now := by
          rw [← HC.out, hsp, countM_split]
        have hb := Hn.out
        go_roundg (pre ++ post).length
        case measure => omega
      · have a2 : cl = true := by assumption
        rw [show counts account now ⟨acc, tm, cl⟩ = false from by subst a2; simp [counts]] at hC
        exact ⟨pre ++ post, _, cnt, Nat.le_refl _, rfl, hTf, by omega, hIf, by unfold Hid; simpa using hC, hWf, by omega⟩
      · have a1 : acc = account := by assumption
        have a2 : ¬ cl = true := by assumption
        have a3 : tm ≤ now := by assumption
        have a4 : wrap64 (now - tm) ≤ 100 := by assumption
        rw [show wrap64 (now - tm) = now - tm from by unfold wrap64; omega] at a4
        rw [show counts account now ⟨acc, tm, cl⟩ = true from by simp [counts, a1, a2, a3, a4]] at hC
        exact ⟨pre ++ post, _, cnt + 1, Nat.le_refl _, by go_num, hTf, by omega, hIf, by unfold Hid; simp at hC; omega, hWf, by omega⟩
      · have a3 : tm ≤ now := by assumption
        have a4 : 100 < wrap64 (now - tm) := by assumption
        rw [show wrap64 (now - tm) = now - tm from by unfold wrap64; omega] at a4
        rw [show counts account now ⟨acc, tm, cl⟩ = false from by simp [counts]; omega] at hC
        exact ⟨pre ++ post, _, cnt, Nat.le_refl _, rfl, hTf, by omega, hIf, by unfold Hid; simpa using hC, hWf, by omega⟩
      · have a3 : now < tm := by assumption
        rw [show counts account now ⟨acc, tm, cl⟩ = false from by simp [counts]; omega] at hC
        exact ⟨pre ++ post, _, cnt, Nat.le_refl _, rfl, hTf, by omega, hIf, by unfold Hid; simpa using hC, hWf, by omega⟩
      · have a1 : ¬ acc = account := by assumption
        rw [show counts account now ⟨acc, tm, cl⟩ = false from by simp [counts, a1]] at hC
        exact ⟨pre ++ post, _, cnt, Nat.le_refl _, rfl, hTf, by omega, hIf, by unfold Hid; simpa using hC, hWf, by omega⟩

set_option maxHeartbeats 400000 in
theorem suspended_any (account now : Int) (h1 : now ≤ 9223372036854775807) (hlen : M.length ≤ 1000) (h : St w0 (ledH l lm j M :: R) w) :
    Calls Try.prog 45 #[.pointer (some ⟨l, 0, none⟩), .int .i64 account, .int .i64 now] w fun e w' => e = .returned (.bool (decide (3 ≤ countM M account now))) ∧ Turn [] w w' := by
  go_enter Try.func45, Try.ntmps45
  go_wp2_with fail
  refine (count_any account now h1 hlen h).mono ?_
  rintro e w1 ⟨rfl, hT⟩
  go_wp2
  go_ret
  exact ⟨by simp; omega, hT⟩
end Go.Proofs.Ytkifggnjpgoamaa
