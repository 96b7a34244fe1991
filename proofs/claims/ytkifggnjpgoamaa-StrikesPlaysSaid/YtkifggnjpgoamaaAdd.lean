/- Contracts of package strikes: keep, Add, Clear. -/
import Derived.Test.YtkifggnjpgoamaaTake
namespace Go.Proofs.Ytkifggnjpgoamaa
open Go.RowKit
variable {w0 w w' : World} {R : List HA} {l lm j d sb mb : Nat} {M : Led} {Z : JSt}

theorem byte_cell (n : Nat) (h : n < 256) : bv (UInt8.ofNat n) = Value.int .u8 (n : Int) := by
  simp only [bv, UInt8.toNat_ofNat']
  rw [Nat.mod_eq_of_lt h]

set_option maxRecDepth 100000 in
set_option maxHeartbeats 1600000 in
theorem keep_any (K A I N : Int) (hK : 0 ≤ K ∧ K < 256) (hA : 0 ≤ A ∧ A < 8) (hI : 0 ≤ I ∧ I ≤ 1000000) (hN : 0 ≤ N ∧ N ≤ 1000000) (h : St w0 (ledH l lm j M :: rigH d sb mb j Z :: R) w) :
    Calls Try.prog 85 #[.pointer (some ⟨l, 0, none⟩), .int .u8 K, .int .i64 A, .int .i64 I, .int .i64 N] w fun e w' => e = .returned (.int .i64 (keepF K.toNat A.toNat I.toNat N.toNat Z M).1) ∧
      St w0 (ledH l lm j (keepF K.toNat A.toNat I.toNat N.toNat Z M).2.2 :: rigH d sb mb j (keepF K.toNat A.toNat I.toNat N.toNat Z M).2.1 :: R) w' := by
  obtain ⟨k, rfl⟩ := Int.eq_ofNat_of_zero_le hK.1
  obtain ⟨a, rfl⟩ := Int.eq_ofNat_of_zero_le hA.1
  obtain ⟨i, rfl⟩ := Int.eq_ofNat_of_zero_le hI.1
  obtain ⟨n, rfl⟩ := Int.eq_ofNat_of_zero_le hN.1
  simp only [Int.toNat_natCast]
  have k1 : k < 256 := by omega
  have a1 : a < 8 := by omega
  have i1 : i ≤ 1000000 := by omega
  have n1 : n ≤ 1000000 := by omega
  have i2 : (i : Int) ≤ 1000000 := by omega
  have n2 : (n : Int) ≤ 1000000 := by omega
  have a2 : (a : Int) < 8 := by omega
  have H := Lib.hid h
  clear h hK hA hI hN
  go_enter Try.func85, Try.ntmps85
  go_wp2_with fail
  have hB1 := Blk.new w #[.int .u8 (k : Int), .int .u8 (a : Int)] 5
  have hT1 : Turn [] w (w.alloc (.cells #[.int .u8 (k : Int), .int .u8 (a : Int)] 5)) := (Turn.refl _ _).alloc _
  obtain ⟨w1, hw1⟩ : ∃ x, w.alloc (.cells #[.int .u8 (k : Int), .int .u8 (a : Int)] 5) = x := ⟨_, rfl⟩
  rw [hw1] at hB1 hT1 ⊢
  clear hw1
  have hO1 : Own w1 5 1 (.slice (some ⟨w.heap.size, 0, none⟩) 2 2) 2 (bvs [UInt8.ofNat k, UInt8.ofNat a]) :=
    Own.of_blk (l := [.int .u8 (k : Int), .int .u8 (a : Int)]) (c := 2) hB1 (by omega) (by unfold maxLen; omega) rfl (by simp only [bvs, List.map_cons, List.map_nil, byte_cell k k1, byte_cell a (by omega)]; rfl)
  have HS1 := Lib.hid (H.out.newOwn hT1 hO1 (by simp [blockOf]))
  have HO1 := Lib.hid hO1
  clear hO1 hB1 H
  refine (high_at _ _ i 4 _ rfl rfl (by omega) (by omega)).mono ?_
  rintro e w2 ⟨g, rfl, hg, hT2, hB2⟩
  have HS2 := Lib.hid (HS1.out.turn0 hT2)
  have HO2 := Lib.hid (HO1.out.turn0 hT2)
  have HR2 := Lib.hid (Src.whole hB2 4 4 (by omega))
  have HL2 := Lib.hid (show (bvs (highB i 4)).length = 4 * 1 by simp)
  clear hB2 hT2
  go_wp2_with (first
    | (refine wpList_append rfl _ _ 35 rfl 5 (.int .u8 0) 1 1 Try.underlying35 Try.info_byte rfl (by omega) (.slice (some ⟨w.heap.size, 0, none⟩) 2 2) rfl 2 _ HO2.out (.slice (some ⟨g, 0, none⟩) 4 4) rfl 4 _ HR2.out HL2.out (bvs_one _) (by unfold maxLen; omega) (by omega) ?_
       intro b3 c3 w3 hO3 hT3 hF3
       rw [← bvs_append] at hO3
       have HO3 := Lib.hid hO3
       have HS3 := Lib.hid (HS2.out.setOwn hT3 hO3 hF3)
       clear hO3 hT3 hF3
       go_frame))
  refine (high_at _ _ n 4 _ rfl rfl (by omega) (by omega)).mono ?_
  rintro e w4 ⟨g4, rfl, hg4, hT4, hB4⟩
  have HS4 := Lib.hid (HS3.out.turn0 hT4)
  have HO4 := Lib.hid (HO3.out.turn0 hT4)
  have HR4 := Lib.hid (Src.whole hB4 4 4 (by omega))
  have HL4 := Lib.hid (show (bvs (highB n 4)).length = 4 * 1 by simp)
  clear hB4 hT4
  go_wp2_with (first
    | (refine wpList_append rfl _ _ 35 rfl 5 (.int .u8 0) 1 1 Try.underlying35 Try.info_byte rfl (by omega) (.slice b3 6 c3) rfl 6 _ HO4.out (.slice (some ⟨g4, 0, none⟩) 4 4) rfl 4 _ HR4.out HL4.out (bvs_one _) (by unfold maxLen; omega) (by omega) ?_
       intro b5 c5 w5 hO5 hT5 hF5
       rw [← bvs_append] at hO5
       have HO5 := Lib.hid (show Own w5 5 1 (.slice b5 10 c5) 10 (bvs (recB k a i n)) from hO5)
       have HS5 := Lib.hid (HS4.out.setOwn hT5 HO5.out hF5)
       have c0 := HS5.out.to1.led.1.cells2.1
       clear hO5 hT5 hF5
       go_frame))
  refine (append_rig (R := ownH 5 1 (.slice b5 10 c5) 10 (bvs (recB k a i n)) :: ledH l lm j M :: R) HS5.out.to2 b5 10 (recB k a i n) c5 (recB_length k a i n).symm HO5.out.src (Apart.own List.mem_cons_self)).mono ?_
  rintro e w6 ⟨rfl, hS6⟩
  have HS6 := Lib.hid hS6.to2
  clear hS6
  have HKF := Lib.hid (show keepF k a i n Z M = ((Z.append (recB k a i n)).1, (Z.append (recB k a i n)).2, if (Z.append (recB k a i n)).1 = 0 then takeM M (recB k a i n) else M) from rfl)
  obtain ⟨r, hr⟩ : ∃ r, (Z.append (recB k a i n)).1 = r := ⟨_, rfl⟩
  obtain ⟨Z', hZ'⟩ : ∃ r, (Z.append (recB k a i n)).2 = r := ⟨_, rfl⟩
  rw [hr, hZ'] at HKF
  rw [hZ'] at HS6
  rw [hr]
  clear hr hZ'
  by_cases h0 : r = 0
  · subst h0
    go_wp2_with fail
    refine (take_any 10 b5 c5 (recB k a i n) (recB_length k a i n).symm (by omega) HS6.out HS6.out.to2.own.src).mono ?_
    rintro e w7 ⟨rfl, hS7⟩
    have HS7 := Lib.hid hS7.to2.drop
    go_wp2
    go_ret
    rw [HKF.out]
    exact ⟨rfl, by simpa using HS7.out⟩
  · have h0' : (r == 0) = false := by rw [beq_eq_false_iff_ne]; exact h0
    go_wp2
    go_ret
    rw [HKF.out]
    simp only [if_neg h0]
    exact ⟨rfl, HS6.out.to2.drop⟩

set_option maxRecDepth 100000 in
set_option maxHeartbeats 1600000 in
theorem add_any (A I N : Int) (h : St w0 (ledH l lm j M :: rigH d sb mb j Z :: R) w) :
    Calls Try.prog 32 #[.pointer (some ⟨l, 0, none⟩), .int .i64 A, .int .i64 I, .int .i64 N] w fun e w' => e = .returned (.int .i64 (addF A I N Z M).1) ∧
      St w0 (ledH l lm j (addF A I N Z M).2.2 :: rigH d sb mb j (addF A I N Z M).2.1 :: R) w' := by
  obtain ⟨hB, hM, _, _⟩ := h.led
  have c1 := hB.cells2.2
  have H := Lib.hid h
  clear h hB
  by_cases hbad : A < 0 ∨ 8 ≤ A ∨ isTime I = false ∨ isTime N = false
  · have HF : Hid (addF A I N Z M = (1, Z, M)) := by unfold Hid addF; rw [if_pos hbad]
    clear hM c1
    by_cases h1 : A < 0
    · clear hbad
      go_enter Try.func32, Try.ntmps32
      go_wp2
      go_ret
      rw [HF.out]
      exact ⟨rfl, H.out⟩
    by_cases h2 : 8 ≤ A
    · clear hbad
      go_enter Try.func32, Try.ntmps32
      go_wp2
      go_ret
      rw [HF.out]
      exact ⟨rfl, H.out⟩
    by_cases h3 : isTime I = false
    · clear hbad
      go_enter Try.func32, Try.ntmps32
      go_wp2_with (go_at_call 84; refine (time_any _ _).mono ?_; rintro e w' ⟨rfl, rfl⟩)
      go_ret
      rw [HF.out]
      exact ⟨rfl, H.out⟩
    · have h3' : isTime I = true := by simpa using h3
      have h4 : isTime N = false := by
        rcases hbad with h | h | h | h
        · exact absurd h h1
        · exact absurd h h2
        · exact absurd h h3
        · exact h
      clear hbad h3
      go_enter Try.func32, Try.ntmps32
      go_wp2_with (go_at_call 84; refine (time_any _ _).mono ?_; rintro e w' ⟨rfl, rfl⟩)
      go_ret
      rw [HF.out]
      exact ⟨rfl, H.out⟩
  · have h1 : ¬ A < 0 := fun h => hbad (.inl h)
    have h2 : ¬ 8 ≤ A := fun h => hbad (.inr (.inl h))
    have h3 : isTime I = true := by
      cases hh : isTime I with
      | true => rfl
      | false => exact absurd (.inr (.inr (.inl hh))) hbad
    have h4 : isTime N = true := by
      cases hh : isTime N with
      | true => rfl
      | false => exact absurd (.inr (.inr (.inr hh))) hbad
    have E1 := Lib.hid (stkAt_val M I)
    have E2 := Lib.hid (stkAt_is M I)
    obtain ⟨s, hs'⟩ : ∃ s, stkAt M I = s := ⟨_, rfl⟩
    rw [hs'] at E1
    by_cases hq : (aget M I).isSome = true
    · rw [hq] at E2
      have HF : Hid (addF A I N Z M = (9, Z, M)) := by unfold Hid addF; rw [if_neg hbad, if_pos hq]
      clear hbad hq hs'
      go_enter Try.func32, Try.ntmps32
      go_wp2_with (first
        | (go_at_call 84; refine (time_any _ _).mono ?_; rintro e w' ⟨rfl, rfl⟩)
        | (refine wpList_mget rfl 189 _ _ true rfl Try.underlying189 Try.underlying3 _ Try.zero_strike lm I rfl rfl _ hM ?_; rw [E1.out, E2.out]; go_frame)
        | (refine wpList_alloc rfl 193 rfl _ Try.zero_strike ?_; intro w3 hT3 hN3 hz3; go_frame)
        | (refine wpList_storeW rfl 193 _ _ rfl w.heap.size [.int .i64 s.account, .int .i64 s.time, .bool s.cleared] rfl rfl _ 193 hN3 rfl (info_stk rfl) (by simp [Value.oneCell']) ?_
           intro w4 hT4 hN4 hz4
           have HS4 := Lib.hid (H.out.turn0 (hT3.trans hT4 (by simp)))
           go_frame))
      go_ret
      rw [HF.out]
      exact ⟨rfl, HS4.out⟩
    · have hq' : (aget M I).isSome = false := by simpa using hq
      rw [hq'] at E2
      have HF : Hid (addF A I N Z M = keepF 1 A.toNat I.toNat N.toNat Z M) := by unfold Hid addF; rw [if_neg hbad, if_neg hq]
      have h3t := (isTime_iff I).1 h3
      have h4t := (isTime_iff N).1 h4
      have HK := Lib.hid (And.intro h3t h4t)
      clear hbad hq hs' hq' h3t h4t
      go_enter Try.func32, Try.ntmps32
      go_wp2_with (first
        | (go_at_call 84; refine (time_any _ _).mono ?_; rintro e w' ⟨rfl, rfl⟩)
        | (refine wpList_mget rfl 189 _ _ true rfl Try.underlying189 Try.underlying3 _ Try.zero_strike lm I rfl rfl _ hM ?_; rw [E1.out, E2.out]; go_frame)
        | (refine wpList_alloc rfl 193 rfl _ Try.zero_strike ?_; intro w3 hT3 hN3 hz3; go_frame)
        | (refine wpList_storeW rfl 193 _ _ rfl w.heap.size [.int .i64 s.account, .int .i64 s.time, .bool s.cleared] rfl rfl _ 193 hN3 rfl (info_stk rfl) (by simp [Value.oneCell']) ?_
           intro w4 hT4 hN4 hz4
           have HS4 := Lib.hid (H.out.turn0 (hT3.trans hT4 (by simp)))
           go_frame)
        | (go_at_call 85; refine (keep_any 1 A I N (by omega) ⟨by omega, by omega⟩ HK.out.1 HK.out.2 HS4.out).mono ?_; rintro e w5 ⟨rfl, hS5⟩; have HS5 := Lib.hid hS5; clear hS5))
      go_ret
      rw [HF.out]
      exact ⟨rfl, HS5.out⟩
end Go.Proofs.Ytkifggnjpgoamaa
