/- The reference of layer 23: record, Add, Clear. -/
import Derived.Test.YtkifggnjpgoamaaRefP
import Derived.Test.YtkifggnjpgoamaaRefQ
namespace Go.Proofs.Ytkifggnjpgoamaa
open Go.RowKit
variable {w0 w w' : World} {R : List HA} {l d sb nb ib rj : Nat} {M : Led} {Z : JSt}

set_option maxRecDepth 100000 in
set_option maxHeartbeats 1600000 in
theorem rrec_any (K A I N : Int) (hK : 0 ≤ K ∧ K < 256) (hA : 0 ≤ A ∧ A < 8) (hI : 0 ≤ I ∧ I ≤ 1000000) (hN : 0 ≤ N ∧ N ≤ 1000000) (w : World) :
    Calls Try.prog 91 #[.int .u8 K, .int .i64 A, .int .i64 I, .int .i64 N] w fun e w' => ∃ b c, e = .returned (.slice b 10 c) ∧ Turn [] w w' ∧ Own w' 5 1 (.slice b 10 c) 10 (bvs (recB K.toNat A.toNat I.toNat N.toNat)) ∧ ∀ g ∈ blockOf (.slice b 10 c), w.heap.size ≤ g := by
  obtain ⟨k, rfl⟩ := Int.eq_ofNat_of_zero_le hK.1
  obtain ⟨a, rfl⟩ := Int.eq_ofNat_of_zero_le hA.1
  obtain ⟨i, rfl⟩ := Int.eq_ofNat_of_zero_le hI.1
  obtain ⟨n, rfl⟩ := Int.eq_ofNat_of_zero_le hN.1
  simp only [Int.toNat_natCast]
  have k1 : k < 256 := by omega
  have a1 : a < 8 := by omega
  have i1 : i ≤ 1000000 := by omega
  have n1 : n ≤ 1000000 := by omega
  have i2 : (i : Int) ≤ 1000000 := by omega
  have n2 : (n : Int) ≤ 1000000 := by omega
  have a2 : (a : Int) < 8 := by omega
  clear hK hA hI hN
  go_enter Try.func91, Try.ntmps91
  go_wp2_with fail
  have hB1 := Blk.new w #[.int .u8 (k : Int), .int .u8 (a : Int)] 5
  have hT1 : Turn [] w (w.alloc (.cells #[.int .u8 (k : Int), .int .u8 (a : Int)] 5)) := (Turn.refl _ _).alloc _
  obtain ⟨w1, hw1⟩ : ∃ x, w.alloc (.cells #[.int .u8 (k : Int), .int .u8 (a : Int)] 5) = x := ⟨_, rfl⟩
  rw [hw1] at hB1 hT1 ⊢
  clear hw1
  have hO1 : Own w1 5 1 (.slice (some ⟨w.heap.size, 0, none⟩) 2 2) 2 (bvs [UInt8.ofNat k, UInt8.ofNat a]) :=
    Own.of_blk (l := [.int .u8 (k : Int), .int .u8 (a : Int)]) (c := 2) hB1 (by omega) (by unfold maxLen; omega) rfl (by simp only [bvs, List.map_cons, List.map_nil, byte_cell k k1, byte_cell a (by omega)]; rfl)
  have HT1 := Lib.hid hT1
  have HO1 := Lib.hid hO1
  clear hO1 hB1 hT1
  refine (rhigh_any _ _ i 4 _ rfl rfl (by omega) (by omega)).mono ?_
  rintro e w2 ⟨g, gc, rfl, hT2, hB2, hg⟩
  have HT2 := Lib.hid (HT1.out.trans hT2 (by simp))
  have HO2 := Lib.hid (HO1.out.turn0 hT2)
  have HR2 := Lib.hid hB2.src
  have HL2 := Lib.hid (show (bvs (highB i 4)).length = 4 * 1 by simp)
  clear hB2 hT2 hg
  go_wp2_with (first
    | (refine wpList_append rfl _ _ 35 rfl 5 (.int .u8 0) 1 1 Try.underlying35 Try.info_byte rfl (by omega) (.slice (some ⟨w.heap.size, 0, none⟩) 2 2) rfl 2 _ HO2.out (.slice g 4 gc) rfl 4 _ HR2.out HL2.out (bvs_one _) (by unfold maxLen; omega) (by omega) ?_
       intro b3 c3 w3 hO3 hT3 hF3
       rw [← bvs_append] at hO3
       have HO3 := Lib.hid hO3
       have hT03 : Turn [] w w3 := HT2.out.trans hT3 (fun x hx => .inr (by simp [blockOf] at hx; omega))
       have HT3 := Lib.hid hT03
       have hs2 := HT2.out.size
       have HF3 := Lib.hid (show ∀ g ∈ blockOf (.slice b3 6 c3), w.heap.size ≤ g from fun g hg => by
         rcases hF3 g hg with h | h
         · simp [blockOf] at h; omega
         · omega)
       clear hO3 hT3 hF3 hT03 hs2
       go_frame))
  refine (rhigh_any _ _ n 4 _ rfl rfl (by omega) (by omega)).mono ?_
  rintro e w4 ⟨g4, gc4, rfl, hT4, hB4, hg4⟩
  have HT4 := Lib.hid (HT3.out.trans hT4 (by simp))
  have HO4 := Lib.hid (HO3.out.turn0 hT4)
  have HR4 := Lib.hid hB4.src
  have HL4 := Lib.hid (show (bvs (highB n 4)).length = 4 * 1 by simp)
  clear hB4 hT4 hg4
  go_wp2_with (first
    | (refine wpList_append rfl _ _ 35 rfl 5 (.int .u8 0) 1 1 Try.underlying35 Try.info_byte rfl (by omega) (.slice b3 6 c3) rfl 6 _ HO4.out (.slice g4 4 gc4) rfl 4 _ HR4.out HL4.out (bvs_one _) (by unfold maxLen; omega) (by omega) ?_
       intro b5 c5 w5 hO5 hT5 hF5
       rw [← bvs_append] at hO5
       have HO5 := Lib.hid (show Own w5 5 1 (.slice b5 10 c5) 10 (bvs (recB k a i n)) from hO5)
       have HT5 := Lib.hid (show Turn [] w w5 from HT4.out.trans hT5 (fun x hx => .inr (HF3.out x hx)))
       have hs4 := HT4.out.size
       have HF5 := Lib.hid (show ∀ g ∈ blockOf (.slice b5 10 c5), w.heap.size ≤ g from fun g hg => by
         rcases hF5 g hg with h | h
         · exact HF3.out g h
         · omega)
       clear hO5 hT5 hF5 hs4
       go_frame))
  go_ret
  exact ⟨b5, c5, rfl, HT5.out, HO5.out, HF5.out⟩
end Go.Proofs.Ytkifggnjpgoamaa
namespace Go.Proofs.Ytkifggnjpgoamaa
open Go.RowKit
variable {w0 w w' : World} {R : List HA} {l d sb nb ib rj : Nat} {M : Led} {Z : JSt}

set_option maxRecDepth 100000 in
set_option maxHeartbeats 1600000 in
theorem radd_any (A I N : Int) (hlen : M.length ≤ 1000) (h : St w0 (rledH l rj M :: rrH d sb nb ib rj Z :: R) w) :
    Calls Try.prog 37 #[.pointer (some ⟨l, 0, none⟩), .int .i64 A, .int .i64 I, .int .i64 N] w fun e w' => e = .returned (.int .i64 (addF A I N Z M).1) ∧
      St w0 (rledH l rj (addF A I N Z M).2.2 :: rrH d sb nb ib rj (addF A I N Z M).2.1 :: R) w' := by
  have H := Lib.hid h
  have HLen := Lib.hid hlen
  clear h hlen
  by_cases hbad : A < 0 ∨ 8 ≤ A ∨ isTime I = false ∨ isTime N = false
  · have HF : Hid (addF A I N Z M = (1, Z, M)) := by unfold Hid addF; rw [if_pos hbad]
    by_cases h1 : A < 0
    · clear hbad
      go_enter Try.func37, Try.ntmps37
      go_wp2
      go_ret
      rw [HF.out]
      exact ⟨rfl, H.out⟩
    by_cases h2 : 8 ≤ A
    · clear hbad
      go_enter Try.func37, Try.ntmps37
      go_wp2
      go_ret
      rw [HF.out]
      exact ⟨rfl, H.out⟩
    by_cases h3 : isTime I = false
    · clear hbad
      go_enter Try.func37, Try.ntmps37
      go_wp2_with (go_at_call 89; refine (rtime_any _ _).mono ?_; rintro e w' ⟨rfl, rfl⟩)
      go_ret
      rw [HF.out]
      exact ⟨rfl, H.out⟩
    · have h3' : isTime I = true := by simpa using h3
      have h4 : isTime N = false := by
        rcases hbad with h | h | h | h
        · exact absurd h h1
        · exact absurd h h2
        · exact absurd h h3
        · exact h
      clear hbad h3
      go_enter Try.func37, Try.ntmps37
      go_wp2_with (go_at_call 89; refine (rtime_any _ _).mono ?_; rintro e w' ⟨rfl, rfl⟩)
      go_ret
      rw [HF.out]
      exact ⟨rfl, H.out⟩
  · have h1 : ¬ A < 0 := fun h => hbad (.inl h)
    have h2 : ¬ 8 ≤ A := fun h => hbad (.inr (.inl h))
    have h3 : isTime I = true := by
      cases hh : isTime I with
      | true => rfl
      | false => exact absurd (.inr (.inr (.inl hh))) hbad
    have h4 : isTime N = true := by
      cases hh : isTime N with
      | true => rfl
      | false => exact absurd (.inr (.inr (.inr hh))) hbad
    have HQ := Lib.hid (And.intro h3 h4)
    obtain ⟨ix, hix⟩ : ∃ ix, atM M I = ix := ⟨_, rfl⟩
    have HI := Lib.hid hix
    have hcs := atM_is M I
    rw [hix] at hcs
    clear hix
    rcases hcs with ⟨hg, rfl⟩ | ⟨k, s, hk, hks, hg, rfl⟩
    · have HF : Hid (addF A I N Z M = keepF 1 A.toNat I.toNat N.toNat Z M) := by unfold Hid addF; rw [if_neg hbad, hg]; rfl
      have HK := Lib.hid (And.intro ((isTime_iff I).1 h3) ((isTime_iff N).1 h4))
      clear hbad hg h3 h4
      go_enter Try.func37, Try.ntmps37
      go_wp2_with (first
        | (go_at_call 89; refine (rtime_any _ _).mono ?_; rintro e w' ⟨rfl, rfl⟩; first | rw [HQ.out.1] | rw [HQ.out.2])
        | (go_at_call 90; refine (rat_any _ HLen.out H.out).mono ?_; rintro e w' ⟨rfl, rfl⟩; rw [HI.out])
        | (go_at_call 91
           refine (rrec_any 1 A I N (by omega) ⟨by omega, by omega⟩ HK.out.1 HK.out.2 w).mono ?_
           rintro e w1 ⟨b, c, rfl, hT1, hO1, hF1⟩
           have hS1 := H.out.newOwn hT1 hO1 hF1
           obtain ⟨la1, lc1, hB1, _⟩ := hS1.to1.rled
           have c01 := hB1.cells2.1
           have HS1 := Lib.hid hS1
           clear hS1 hT1 hO1 hF1))
      refine (rappend_rr (R := ownH 5 1 (.slice b 10 c) 10 (bvs (recB 1 A.toNat I.toNat N.toNat)) :: rledH l rj M :: R) HS1.out.to2 b 10 (recB 1 A.toNat I.toNat N.toNat) c (recB_length _ _ _ _).symm HS1.out.own.src (Apart.own List.mem_cons_self)).mono ?_
      rintro e w2 ⟨rfl, hS2⟩
      have HS2 := Lib.hid hS2.to2
      clear hS2
      have HKF := Lib.hid (show keepF 1 A.toNat I.toNat N.toNat Z M = ((Z.append (recB 1 A.toNat I.toNat N.toNat)).1, (Z.append (recB 1 A.toNat I.toNat N.toNat)).2, if (Z.append (recB 1 A.toNat I.toNat N.toNat)).1 = 0 then takeM M (recB 1 A.toNat I.toNat N.toNat) else M) from rfl)
      obtain ⟨r, hr⟩ : ∃ r, (Z.append (recB 1 A.toNat I.toNat N.toNat)).1 = r := ⟨_, rfl⟩
      obtain ⟨Z', hZ'⟩ : ∃ r, (Z.append (recB 1 A.toNat I.toNat N.toNat)).2 = r := ⟨_, rfl⟩
      rw [hr, hZ'] at HKF
      rw [hZ'] at HS2
      rw [hr]
      clear hr hZ'
      by_cases h0 : r = 0
      · subst h0
        go_wp2_with fail
        refine (rtake_any 10 b c (recB 1 A.toNat I.toNat N.toNat) (recB_length _ _ _ _).symm (by omega) HLen.out HS2.out HS2.out.to2.own.src (Apart.own (List.mem_cons_of_mem _ List.mem_cons_self))).mono ?_
        rintro e w3 ⟨rfl, hS3⟩
        have HS3 := Lib.hid hS3.to2.drop
        go_wp2
        go_ret
        rw [HF.out, HKF.out]
        exact ⟨rfl, by simpa using HS3.out⟩
      · have h0' : (r == 0) = false := by rw [beq_eq_false_iff_ne]; exact h0
        go_wp2
        go_ret
        rw [HF.out, HKF.out]
        simp only [if_neg h0]
        exact ⟨rfl, HS2.out.to2.drop⟩
    · have HF : Hid (addF A I N Z M = (9, Z, M)) := by unfold Hid addF; rw [if_neg hbad, hg]; rfl
      clear hbad hg h3 h4 hks
      go_enter Try.func37, Try.ntmps37
      go_wp2_with (first
        | (go_at_call 89; refine (rtime_any _ _).mono ?_; rintro e w' ⟨rfl, rfl⟩; first | rw [HQ.out.1] | rw [HQ.out.2])
        | (go_at_call 90; refine (rat_any _ HLen.out H.out).mono ?_; rintro e w' ⟨rfl, rfl⟩; rw [HI.out]))
      go_ret
      rw [HF.out]
      exact ⟨rfl, H.out⟩

set_option maxRecDepth 100000 in
set_option maxHeartbeats 1600000 in
theorem rclear_any (I N : Int) (hlen : M.length ≤ 1000) (h : St w0 (rledH l rj M :: rrH d sb nb ib rj Z :: R) w) :
    Calls Try.prog 39 #[.pointer (some ⟨l, 0, none⟩), .int .i64 I, .int .i64 N] w fun e w' => e = .returned (.int .i64 (clearF I N Z M).1) ∧
      St w0 (rledH l rj (clearF I N Z M).2.2 :: rrH d sb nb ib rj (clearF I N Z M).2.1 :: R) w' := by
  obtain ⟨la, lc, hB, hO, _, hwf, _⟩ := h.rled
  have c1 := hB.cells2.2
  have HO := Lib.hid hO
  have HWF := Lib.hid hwf
  have H := Lib.hid h
  have HLen := Lib.hid hlen
  have hl64 : (M.length : Int) ≤ 1000 := by omega
  clear h hlen hO hwf
  by_cases hbad : isTime I = false ∨ isTime N = false
  · have HF : Hid (clearF I N Z M = (1, Z, M)) := by unfold Hid clearF; rw [if_pos hbad]
    by_cases h3 : isTime I = false
    · clear hbad
      go_enter Try.func39, Try.ntmps39
      go_wp2_with (go_at_call 89; refine (rtime_any _ _).mono ?_; rintro e w' ⟨rfl, rfl⟩)
      go_ret
      rw [HF.out]
      exact ⟨rfl, H.out⟩
    · have h3' : isTime I = true := by simpa using h3
      have h4 : isTime N = false := by
        rcases hbad with h | h
        · exact absurd h h3
        · exact h
      clear hbad h3
      go_enter Try.func39, Try.ntmps39
      go_wp2_with (go_at_call 89; refine (rtime_any _ _).mono ?_; rintro e w' ⟨rfl, rfl⟩)
      go_ret
      rw [HF.out]
      exact ⟨rfl, H.out⟩
  · have h3 : isTime I = true := by
      cases hh : isTime I with
      | true => rfl
      | false => exact absurd (.inl hh) hbad
    have h4 : isTime N = true := by
      cases hh : isTime N with
      | true => rfl
      | false => exact absurd (.inr hh) hbad
    have HQ := Lib.hid (And.intro h3 h4)
    have HK := Lib.hid (And.intro ((isTime_iff I).1 h3) ((isTime_iff N).1 h4))
    obtain ⟨ix, hix⟩ : ∃ ix, atM M I = ix := ⟨_, rfl⟩
    have HI := Lib.hid hix
    have hcs := atM_is M I
    rw [hix] at hcs
    clear hix
    rcases hcs with ⟨hg, rfl⟩ | ⟨k, s, hk, hks, hg, rfl⟩
    · have HF : Hid (clearF I N Z M = (7, Z, M)) := by unfold Hid clearF; rw [if_neg hbad, hg]
      clear hbad hg h3 h4
      go_enter Try.func39, Try.ntmps39
      go_wp2_with (first
        | (go_at_call 89; refine (rtime_any _ _).mono ?_; rintro e w' ⟨rfl, rfl⟩; first | rw [HQ.out.1] | rw [HQ.out.2])
        | (go_at_call 90; refine (rat_any _ HLen.out H.out).mono ?_; rintro e w' ⟨rfl, rfl⟩; rw [HI.out]))
      go_ret
      rw [HF.out]
      exact ⟨rfl, H.out⟩
    · obtain ⟨g, rfl, hgl, d0, d1, d2, d3⟩ := HO.out.cell4 k hk
      have hbd := HWF.out _ (List.getElem_mem hk)
      rw [hks] at d1 d3 hbd
      have HBD := Lib.hid hbd.2.1
      have hk' : (k : Int) < (M.length : Int) := by omega
      have hk64 : (k : Int) < 1000 := by omega
      have hks' : ∃ x, M[k] = x := ⟨_, rfl⟩
      clear hks d0 d2 hbd hks'
      obtain ⟨acc, tm, cl⟩ := s
      dsimp only at d1 d3 HBD
      cases cl
      · have HF : Hid (clearF I N Z M = keepF 2 acc.toNat I.toNat N.toNat Z M) := by unfold Hid clearF; rw [if_neg hbad, hg]; rfl
        clear hbad hg h3 h4
        go_enter Try.func39, Try.ntmps39
        go_wp2_with (first
          | (go_at_call 89; refine (rtime_any _ _).mono ?_; rintro e w' ⟨rfl, rfl⟩; first | rw [HQ.out.1] | rw [HQ.out.2])
          | (go_at_call 90; refine (rat_any _ HLen.out H.out).mono ?_; rintro e w' ⟨rfl, rfl⟩; rw [HI.out])
          | (go_at_call 91
             refine (rrec_any 2 acc I N (by omega) HBD.out HK.out.1 HK.out.2 w).mono ?_
             rintro e w1 ⟨b, c, rfl, hT1, hO1, hF1⟩
             have hS1 := H.out.newOwn hT1 hO1 hF1
             obtain ⟨la1, lc1, hB1, _⟩ := hS1.to1.rled
             have c01 := hB1.cells2.1
             have HS1 := Lib.hid hS1
             clear hS1 hT1 hO1 hF1))
        refine (rappend_rr (R := ownH 5 1 (.slice b 10 c) 10 (bvs (recB 2 acc.toNat I.toNat N.toNat)) :: rledH l rj M :: R) HS1.out.to2 b 10 (recB 2 acc.toNat I.toNat N.toNat) c (recB_length _ _ _ _).symm HS1.out.own.src (Apart.own List.mem_cons_self)).mono ?_
        rintro e w2 ⟨rfl, hS2⟩
        have HS2 := Lib.hid hS2.to2
        clear hS2
        have HKF := Lib.hid (show keepF 2 acc.toNat I.toNat N.toNat Z M = ((Z.append (recB 2 acc.toNat I.toNat N.toNat)).1, (Z.append (recB 2 acc.toNat I.toNat N.toNat)).2, if (Z.append (recB 2 acc.toNat I.toNat N.toNat)).1 = 0 then takeM M (recB 2 acc.toNat I.toNat N.toNat) else M) from rfl)
        obtain ⟨r, hr⟩ : ∃ r, (Z.append (recB 2 acc.toNat I.toNat N.toNat)).1 = r := ⟨_, rfl⟩
        obtain ⟨Z', hZ'⟩ : ∃ r, (Z.append (recB 2 acc.toNat I.toNat N.toNat)).2 = r := ⟨_, rfl⟩
        rw [hr, hZ'] at HKF
        rw [hZ'] at HS2
        rw [hr]
        clear hr hZ'
        by_cases h0 : r = 0
        · subst h0
          go_wp2_with fail
          refine (rtake_any 10 b c (recB 2 acc.toNat I.toNat N.toNat) (recB_length _ _ _ _).symm (by omega) HLen.out HS2.out HS2.out.to2.own.src (Apart.own (List.mem_cons_of_mem _ List.mem_cons_self))).mono ?_
          rintro e w3 ⟨rfl, hS3⟩
          have HS3 := Lib.hid hS3.to2.drop
          go_wp2
          go_ret
          rw [HF.out, HKF.out]
          exact ⟨rfl, by simpa using HS3.out⟩
        · have h0' : (r == 0) = false := by rw [beq_eq_false_iff_ne]; exact h0
          go_wp2
          go_ret
          rw [HF.out, HKF.out]
          simp only [if_neg h0]
          exact ⟨rfl, HS2.out.to2.drop⟩
      · have HF : Hid (clearF I N Z M = (5, Z, M)) := by unfold Hid clearF; rw [if_neg hbad, hg]; rfl
        clear hbad hg h3 h4
        go_enter Try.func39, Try.ntmps39
        go_wp2_with (first
          | (go_at_call 89; refine (rtime_any _ _).mono ?_; rintro e w' ⟨rfl, rfl⟩; first | rw [HQ.out.1] | rw [HQ.out.2])
          | (go_at_call 90; refine (rat_any _ HLen.out H.out).mono ?_; rintro e w' ⟨rfl, rfl⟩; rw [HI.out]))
        go_ret
        rw [HF.out]
        exact ⟨rfl, H.out⟩
end Go.Proofs.Ytkifggnjpgoamaa
