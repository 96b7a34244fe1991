/- Contracts of package strikes: Clear. -/
import Derived.Test.YtkifggnjpgoamaaAdd
namespace Go.Proofs.Ytkifggnjpgoamaa
open Go.RowKit
variable {w0 w w' : World} {R : List HA} {l lm j d sb mb : Nat} {M : Led} {Z : JSt}

set_option maxRecDepth 100000 in
set_option maxHeartbeats 1600000 in
theorem clear_any (I N : Int) (h : St w0 (ledH l lm j M :: rigH d sb mb j Z :: R) w) :
    Calls Try.prog 38 #[.pointer (some ⟨l, 0, none⟩), .int .i64 I, .int .i64 N] w fun e w' => e = .returned (.int .i64 (clearF I N Z M).1) ∧
      St w0 (ledH l lm j (clearF I N Z M).2.2 :: rigH d sb mb j (clearF I N Z M).2.1 :: R) w' := by
  obtain ⟨hB, hM, _, hwf⟩ := h.led
  have c1 := hB.cells2.2
  have H := Lib.hid h
  have HWF := Lib.hid hwf
  clear h hB hwf
  have E1 := Lib.hid (stkAt_val M I)
  have E2 := Lib.hid (stkAt_is M I)
  obtain ⟨s, hs'⟩ : ∃ s, stkAt M I = s := ⟨_, rfl⟩
  rw [hs'] at E1
  have HSQ := Lib.hid hs'
  clear hs'
  by_cases hbad : isTime I = false ∨ isTime N = false
  · have HF : Hid (clearF I N Z M = (1, Z, M)) := by unfold Hid clearF; rw [if_pos hbad]
    by_cases h3 : isTime I = false
    · clear hbad
      go_enter Try.func38, Try.ntmps38
      go_wp2_with (first
        | (go_at_call 84; refine (time_any _ _).mono ?_; rintro e w' ⟨rfl, rfl⟩)
        | (refine wpList_mget rfl 189 _ _ true rfl Try.underlying189 Try.underlying3 _ Try.zero_strike lm I rfl rfl _ hM ?_; rw [E1.out, E2.out]; go_frame)
        | (refine wpList_alloc rfl 193 rfl _ Try.zero_strike ?_; intro w3 hT3 hN3 hz3; go_frame)
        | (refine wpList_storeW rfl 193 _ _ rfl w.heap.size [.int .i64 s.account, .int .i64 s.time, .bool s.cleared] rfl rfl _ 193 hN3 rfl (info_stk rfl) (by simp [Value.oneCell']) ?_
           intro w4 hT4 hN4 hz4
           have HS4 := Lib.hid (H.out.turn0 (hT3.trans hT4 (by simp)))
           go_frame))
      go_ret
      rw [HF.out]
      exact ⟨rfl, HS4.out⟩
    · have h3' : isTime I = true := by simpa using h3
      have h4 : isTime N = false := by
        rcases hbad with h | h
        · exact absurd h h3
        · exact h
      clear hbad h3
      go_enter Try.func38, Try.ntmps38
      go_wp2_with (first
        | (go_at_call 84; refine (time_any _ _).mono ?_; rintro e w' ⟨rfl, rfl⟩)
        | (refine wpList_mget rfl 189 _ _ true rfl Try.underlying189 Try.underlying3 _ Try.zero_strike lm I rfl rfl _ hM ?_; rw [E1.out, E2.out]; go_frame)
        | (refine wpList_alloc rfl 193 rfl _ Try.zero_strike ?_; intro w3 hT3 hN3 hz3; go_frame)
        | (refine wpList_storeW rfl 193 _ _ rfl w.heap.size [.int .i64 s.account, .int .i64 s.time, .bool s.cleared] rfl rfl _ 193 hN3 rfl (info_stk rfl) (by simp [Value.oneCell']) ?_
           intro w4 hT4 hN4 hz4
           have HS4 := Lib.hid (H.out.turn0 (hT3.trans hT4 (by simp)))
           go_frame))
      go_ret
      rw [HF.out]
      exact ⟨rfl, HS4.out⟩
  · have h3 : isTime I = true := by
      cases hh : isTime I with
      | true => rfl
      | false => exact absurd (.inl hh) hbad
    have h4 : isTime N = true := by
      cases hh : isTime N with
      | true => rfl
      | false => exact absurd (.inr hh) hbad
    have HK := Lib.hid (And.intro ((isTime_iff I).1 h3) ((isTime_iff N).1 h4))
    cases hg : aget M I with
    | none =>
      rw [hg] at E2
      have HF : Hid (clearF I N Z M = (7, Z, M)) := by unfold Hid clearF; rw [if_neg hbad, hg]
      clear hbad hg
      go_enter Try.func38, Try.ntmps38
      go_wp2_with (first
        | (go_at_call 84; refine (time_any _ _).mono ?_; rintro e w' ⟨rfl, rfl⟩)
        | (refine wpList_mget rfl 189 _ _ true rfl Try.underlying189 Try.underlying3 _ Try.zero_strike lm I rfl rfl _ hM ?_; rw [E1.out, E2.out]; go_frame)
        | (refine wpList_alloc rfl 193 rfl _ Try.zero_strike ?_; intro w3 hT3 hN3 hz3; go_frame)
        | (refine wpList_storeW rfl 193 _ _ rfl w.heap.size [.int .i64 s.account, .int .i64 s.time, .bool s.cleared] rfl rfl _ 193 hN3 rfl (info_stk rfl) (by simp [Value.oneCell']) ?_
           intro w4 hT4 hN4 hz4
           have HS4 := Lib.hid (H.out.turn0 (hT3.trans hT4 (by simp)))
           go_frame))
      go_ret
      rw [HF.out]
      exact ⟨rfl, HS4.out⟩
    | some s' =>
      obtain rfl : s' = s := by have := HSQ.out; unfold stkAt at this; rw [hg] at this; exact this
      rw [hg] at E2
      have hb := HWF.out _ (aget_mem hg)
      have HB := Lib.hid hb.2.1
      clear hb
      obtain ⟨acc, tm, cl⟩ := s'
      cases cl
      · have HF : Hid (clearF I N Z M = keepF 2 acc.toNat I.toNat N.toNat Z M) := by unfold Hid clearF; rw [if_neg hbad, hg]; rfl
        clear hbad hg
        go_enter Try.func38, Try.ntmps38
        go_wp2_with (first
          | (go_at_call 84; refine (time_any _ _).mono ?_; rintro e w' ⟨rfl, rfl⟩)
          | (refine wpList_mget rfl 189 _ _ true rfl Try.underlying189 Try.underlying3 _ Try.zero_strike lm I rfl rfl _ hM ?_; rw [E1.out, E2.out]; go_frame)
          | (refine wpList_alloc rfl 193 rfl _ Try.zero_strike ?_; intro w3 hT3 hN3 hz3; go_frame)
          | (refine wpList_storeW rfl 193 _ _ rfl w.heap.size [.int .i64 acc, .int .i64 tm, .bool false] rfl rfl _ 193 hN3 rfl (info_stk rfl) (by simp [Value.oneCell']) ?_
             intro w4 hT4 hN4 hz4
             have HS4 := Lib.hid (H.out.turn0 (hT3.trans hT4 (by simp)))
             have n0 := hN4.cells3.1
             have n2 := hN4.cells3.2.2
             go_frame)
          | (go_at_call 85; refine (keep_any 2 acc I N (by omega) HB.out HK.out.1 HK.out.2 HS4.out).mono ?_; rintro e w5 ⟨rfl, hS5⟩; have HS5 := Lib.hid hS5; clear hS5))
        go_ret
        rw [HF.out]
        exact ⟨rfl, HS5.out⟩
      · have HF : Hid (clearF I N Z M = (5, Z, M)) := by unfold Hid clearF; rw [if_neg hbad, hg]; rfl
        clear hbad hg
        go_enter Try.func38, Try.ntmps38
        go_wp2_with (first
          | (go_at_call 84; refine (time_any _ _).mono ?_; rintro e w' ⟨rfl, rfl⟩)
          | (refine wpList_mget rfl 189 _ _ true rfl Try.underlying189 Try.underlying3 _ Try.zero_strike lm I rfl rfl _ hM ?_; rw [E1.out, E2.out]; go_frame)
          | (refine wpList_alloc rfl 193 rfl _ Try.zero_strike ?_; intro w3 hT3 hN3 hz3; go_frame)
          | (refine wpList_storeW rfl 193 _ _ rfl w.heap.size [.int .i64 acc, .int .i64 tm, .bool true] rfl rfl _ 193 hN3 rfl (info_stk rfl) (by simp [Value.oneCell']) ?_
             intro w4 hT4 hN4 hz4
             have HS4 := Lib.hid (H.out.turn0 (hT3.trans hT4 (by simp)))
             have n2 := hN4.cells3.2.2
             go_frame))
        go_ret
        rw [HF.out]
        exact ⟨rfl, HS4.out⟩
end Go.Proofs.Ytkifggnjpgoamaa
