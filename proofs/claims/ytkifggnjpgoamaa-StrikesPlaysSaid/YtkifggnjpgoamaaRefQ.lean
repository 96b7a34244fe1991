/- The reference of layer 23: take. -/
import Derived.Test.YtkifggnjpgoamaaRefN
namespace Go.Proofs.Ytkifggnjpgoamaa
open Go.RowKit
variable {w0 w w' : World} {R : List HA} {l rj : Nat} {M : Led}

set_option maxRecDepth 100000 in
set_option maxHeartbeats 1600000 in
theorem rtake_any (n : Nat) (a : Option Addr) (c : Nat) (bs : List UInt8) (hn : n = bs.length) (hx : n ≤ 1000) (hlen : M.length ≤ 1000) (h : St w0 (rledH l rj M :: R) w) (hs : Src w (.slice a n c) n (bvs bs)) (ha : Apart w0 R (seatOf (.slice a n c))) :
    Calls Try.prog 88 #[.pointer (some ⟨l, 0, none⟩), .slice a n c] w fun e w' => e = .returned (.tuple #[]) ∧ St w0 (rledH l rj (takeM M bs) :: R) w' := by
  have H := Lib.hid h
  have HLen := Lib.hid hlen
  obtain ⟨la, lc, hB, hO, hnl, hwf, hnd, hap, hclose⟩ := h.rledA ha
  have HC := Lib.hid hclose
  have HWF := Lib.hid (And.intro hwf hnd)
  have HAP := Lib.hid hap
  have HO := Lib.hid hO
  clear h hclose hwf hnd hap hO
  by_cases h10 : n = 10
  · rcases hs with ⟨h0, _⟩ | ⟨b, o, c', hv, hc, hc0, hb, hr⟩
    · omega
    cases hv
    have hbl : b ≠ l := fun e => HAP.out b (by rw [seatOf_pos hc0]; simp) (.inl e)
    subst h10
    have hl10 : bs.length = 10 := hn.symm
    have HL := Lib.hid hl10
    have hbyte : ∀ k, k < 10 → w.cell? ⟨b, o + k, none⟩ = some (.int .u8 ((bs.getD k 0).toNat : Int)) := by
      intro k hk
      have := bytes_at hr k (by omega)
      rwa [show bs[k] = bs.getD k 0 from by simp [List.getD, List.getElem?_eq_getElem (show k < bs.length by omega)]] at this
    have b0 := hbyte 0 (by omega)
    have b1 := hbyte 1 (by omega)
    rw [Nat.add_zero] at b0
    have hr1 := range_part hr 2 4
    have hr2 := range_part hr 6 4
    have k1 : ((bs.drop 2).take 4).length = 4 := by simp; omega
    have k2 : ((bs.drop 6).take 4).length = 4 := by simp; omega
    have q1 := ofHigh_lt 4 _ k1
    have q2 := ofHigh_lt 4 _ k2
    have K1 := Lib.hid k1.symm
    have K2 := Lib.hid k2.symm
    have HT : Hid (takeM M bs = if (bs.getD 1 0).toNat < 8 then
        (if ((ofHigh ((bs.drop 2).take 4) : Nat) : Int) ≤ 1000000 ∧ ((ofHigh ((bs.drop 6).take 4) : Nat) : Int) ≤ 1000000 then
          match aget M ((ofHigh ((bs.drop 2).take 4) : Nat) : Int) with
          | none => if (bs.getD 0 0).toNat = 1 then aput M ((ofHigh ((bs.drop 2).take 4) : Nat) : Int) ⟨(bs.getD 1 0).toNat, (ofHigh ((bs.drop 6).take 4) : Nat), false⟩ else M
          | some s => if (bs.getD 0 0).toNat = 2 then aput M ((ofHigh ((bs.drop 2).take 4) : Nat) : Int) { s with cleared := true } else M
        else M) else M) := by
      unfold Hid takeM
      simp only [HL.out, true_and]
      rfl
    have HW := Lib.hid (And.intro (wf_takeM HWF.out.1 bs) (keys_takeM HWF.out.2 bs))
    clear hbyte k1 k2 hl10 hn hx
    obtain ⟨id, hid⟩ : ∃ x, ofHigh ((bs.drop 2).take 4) = x := ⟨_, rfl⟩
    obtain ⟨tm, htm⟩ : ∃ x, ofHigh ((bs.drop 6).take 4) = x := ⟨_, rfl⟩
    obtain ⟨kd, hkd⟩ : ∃ x, (bs.getD 0 0).toNat = x := ⟨_, rfl⟩
    obtain ⟨ac, hac⟩ : ∃ x, (bs.getD 1 0).toNat = x := ⟨_, rfl⟩
    have hac8 : ac < 256 := by rw [← hac]; exact UInt8.toNat_lt _
    rw [hkd] at b0
    rw [hac] at b1
    rw [hid] at q1
    rw [htm] at q2
    rw [hid, htm, hkd, hac] at HT
    have o1 := rofHigh_at b (o + 2) 4 (c - 2) _ w K1.out (by omega) (by omega) hr1
    have o2 := rofHigh_at b (o + 6) 4 (c - 6) _ w K2.out (by omega) (by omega) hr2
    rw [hid] at o1
    rw [htm] at o2
    have O1 : Hid (∀ (k : Nat), (k = 2 ∨ k = 6) → Calls Try.prog 139 #[.slice (some ⟨b, o + k, none⟩) 4 (c - k)] w fun e w'' => e = .returned (.int .u64 (if k = 2 then (id : Int) else (tm : Int))) ∧ w = w'') := fun k hk => by
      rcases hk with rfl | rfl
      · exact o1
      · exact o2
    clear hid htm hkd hac
    clear o1 o2 hr1 hr2 hr
    have hcb : (10 : Int) ≤ (c : Int) := by omega
    by_cases h8 : ac < 8
    · have h8' : ¬ (8 : Int) ≤ (ac : Int) := by omega
      have c1 := hB.cells2.2
      have l1 := hB.lt
      have y1 := hB.thaw 1
      by_cases ht : (id : Int) ≤ 1000000 ∧ (tm : Int) ≤ 1000000
      · rw [if_pos h8, if_pos ht] at HT
        have t1 : isTime (id : Int) = true := (isTime_iff _).2 ⟨by omega, ht.1⟩
        have t2 : isTime (tm : Int) = true := (isTime_iff _).2 ⟨by omega, ht.2⟩
        have HQ := Lib.hid (And.intro t1 t2)
        obtain ⟨ix, hix⟩ : ∃ ix, atM M (id : Int) = ix := ⟨_, rfl⟩
        have HI := Lib.hid hix
        have hcs := atM_is M (id : Int)
        rw [hix] at hcs
        clear t1 t2 ht hix
        rcases hcs with ⟨hg, rfl⟩ | ⟨k, s, hk, hks, hg, rfl⟩
        · rw [hg] at HT
          dsimp only at HT
          have HG := Lib.hid hg
          clear hg
          by_cases k1 : kd = 1
          · subst k1
            rw [if_pos rfl, aput_new HG.out] at HT
            have q1' : id < 4294967296 := q1
            have q2' : tm < 4294967296 := q2
            refine rtake_new b o c id tm ac la lc HLen.out H.out hB HO.out hb hbl hcb b0 b1 h8 q1' q2' O1 HQ HI (fun w' => St w0 (rledH l rj (takeM M bs) :: R) w') ?_
            rw [HT.out] at HW ⊢
            intro w6 a2 c2 hT hO6 hF
            have hB6 := hB.turn hT (by simp)
            have hT8 : Turn [l] w6 (w6.setCell ⟨l, 1, none⟩ (.slice a2 (M.length + 1) c2)) := (Turn.refl _ _).setCell (by simp) _
            have e : (M ++ [((id : Int), (⟨ac, tm, false⟩ : Stk))]).length = M.length + 1 := by simp
            have hnl2 : l ∉ blockOf (.slice a2 (M.length + 1) c2) := fun h => by have := hF l h; omega
            refine HC.out (M ++ [((id : Int), (⟨ac, tm, false⟩ : Stk))]) _ a2 c2 (by rw [e]; simpa using hB6.set 1 (.slice a2 (M.length + 1) c2)) (by rw [e, flatM_append]; exact hO6.turn hT8 (fun g hg h => by simp only [List.mem_singleton] at h; subst h; exact hnl2 hg)) (by rw [e]; exact hnl2) HW.out.1 HW.out.2
              ((((hT.mono (T := [l]) (by simp)).trans hT8 (by simp))).toP (by simp)) (by rw [e]; exact fun g hg => .inr (hF g hg))
          · have k1' : ¬ (kd : Int) = 1 := by omega
            rw [if_neg k1] at HT
            by_cases k2 : kd = 2
            · subst k2
              clear k1' k1
              go_enter Try.func88, Try.ntmps88
              go_wp2_with (first
                | (go_at_call 139; refine (O1.out _ (by omega)).mono ?_; rintro e w' ⟨rfl, rfl⟩)
                | (go_at_call 89; refine (rtime_any _ _).mono ?_; rintro e w' ⟨rfl, rfl⟩; first | rw [HQ.out.1] | rw [HQ.out.2])
                | (go_at_call 90; refine (rat_any _ HLen.out H.out).mono ?_; rintro e w' ⟨rfl, rfl⟩; rw [HI.out]))
              rw [HT.out]
              go_end0
              exact ⟨rfl, H.out⟩
            · have k2' : ¬ (kd : Int) = 2 := by omega
              go_enter Try.func88, Try.ntmps88
              go_wp2_with (first
                | (go_at_call 139; refine (O1.out _ (by omega)).mono ?_; rintro e w' ⟨rfl, rfl⟩)
                | (go_at_call 89; refine (rtime_any _ _).mono ?_; rintro e w' ⟨rfl, rfl⟩; first | rw [HQ.out.1] | rw [HQ.out.2])
                | (go_at_call 90; refine (rat_any _ HLen.out H.out).mono ?_; rintro e w' ⟨rfl, rfl⟩; rw [HI.out]))
              rw [HT.out]
              go_end0
              exact ⟨rfl, H.out⟩
        · rw [hg] at HT
          dsimp only at HT
          have hk64 : (k : Int) < 1000 := by have := HLen.out; omega
          by_cases k2 : kd = 2
          · subst k2
            rw [if_pos rfl, aput_set HWF.out.2 hk hks] at HT
            obtain ⟨g, rfl, hgl, d0, d1, d2, d3⟩ := HO.out.cell4 k hk
            have hi : k * 4 + 3 < (flatM M).length := by rw [flatM_length]; omega
            have hst := HO.out.setC (k * 4 + 3) hi (.bool true)
            have y3 := hst.2
            have HST := Lib.hid hst.1
            have hk' : (k : Int) < (M.length : Int) := by omega
            have hlg : l ≠ g := fun e => hnl (by simp [blockOf, e])
            have HKS := Lib.hid hks
            clear hst hi hks
            go_enter Try.func88, Try.ntmps88
            go_wp2_with (first
              | (go_at_call 139; refine (O1.out _ (by omega)).mono ?_; rintro e w' ⟨rfl, rfl⟩)
              | (go_at_call 89; refine (rtime_any _ _).mono ?_; rintro e w' ⟨rfl, rfl⟩; first | rw [HQ.out.1] | rw [HQ.out.2])
              | (go_at_call 90; refine (rat_any _ HLen.out H.out).mono ?_; rintro e w' ⟨rfl, rfl⟩; rw [HI.out]))
            go_end0
            refine ⟨rfl, ?_⟩
            rw [HT.out] at HW ⊢
            have hT8 : Turn [g] w (w.setCell ⟨g, k * 4 + 3, none⟩ (.bool true)) := (Turn.refl _ _).setCell (by simp) _
            have e : (M.set k ((id : Int), { s with cleared := true })).length = M.length := by simp
            refine HC.out (M.set k ((id : Int), { s with cleared := true })) _ (some ⟨g, 0, none⟩) lc (by rw [e]; exact hB.turn hT8 (by simpa using hlg)) (by rw [e, flatM_set M k hk id s HKS.out]; exact HST.out) (by rw [e]; simpa [blockOf] using hlg) HW.out.1 HW.out.2 (hT8.toP (by simp [blockOf])) (by rw [e]; exact fun b hb => .inl hb)
          · rw [if_neg k2] at HT
            have k2' : ¬ (kd : Int) = 2 := by omega
            by_cases k1 : kd = 1
            · subst k1
              clear k2'
              go_enter Try.func88, Try.ntmps88
              go_wp2_with (first
                | (go_at_call 139; refine (O1.out _ (by omega)).mono ?_; rintro e w' ⟨rfl, rfl⟩)
                | (go_at_call 89; refine (rtime_any _ _).mono ?_; rintro e w' ⟨rfl, rfl⟩; first | rw [HQ.out.1] | rw [HQ.out.2])
                | (go_at_call 90; refine (rat_any _ HLen.out H.out).mono ?_; rintro e w' ⟨rfl, rfl⟩; rw [HI.out]))
              rw [HT.out]
              go_end0
              exact ⟨rfl, H.out⟩
            · have k1' : ¬ (kd : Int) = 1 := by omega
              go_enter Try.func88, Try.ntmps88
              go_wp2_with (first
                | (go_at_call 139; refine (O1.out _ (by omega)).mono ?_; rintro e w' ⟨rfl, rfl⟩)
                | (go_at_call 89; refine (rtime_any _ _).mono ?_; rintro e w' ⟨rfl, rfl⟩; first | rw [HQ.out.1] | rw [HQ.out.2])
                | (go_at_call 90; refine (rat_any _ HLen.out H.out).mono ?_; rintro e w' ⟨rfl, rfl⟩; rw [HI.out]))
              rw [HT.out]
              go_end0
              exact ⟨rfl, H.out⟩
      · rw [if_pos h8, if_neg ht] at HT
        have HQ : isTime (id : Int) = false ∨ (isTime (id : Int) = true ∧ isTime (tm : Int) = false) := by
          by_cases h1 : (id : Int) ≤ 1000000
          · exact .inr ⟨(isTime_iff _).2 ⟨by omega, h1⟩, (isTime_no _).2 (by omega)⟩
          · exact .inl ((isTime_no _).2 (by omega))
        have HI := Lib.hid (show atM M (id : Int) = atM M (id : Int) from rfl)
        rcases HQ with h1 | ⟨h1, h2⟩
        · have HQ := Lib.hid h1
          clear h1 ht
          go_enter Try.func88, Try.ntmps88
          go_wp2_with (first
            | (go_at_call 139; refine (O1.out _ (by omega)).mono ?_; rintro e w' ⟨rfl, rfl⟩)
            | (go_at_call 89; refine (rtime_any _ _).mono ?_; rintro e w' ⟨rfl, rfl⟩; rw [HQ.out])
            | (go_at_call 90; refine (rat_any _ HLen.out H.out).mono ?_; rintro e w' ⟨rfl, rfl⟩; rw [HI.out]))
          rw [HT.out]
          exact bodyPost_ret (results_none rfl _ _ _) rfl ⟨rfl, H.out⟩
        · have HQ := Lib.hid (And.intro h1 h2)
          clear h1 h2 ht
          go_enter Try.func88, Try.ntmps88
          go_wp2_with (first
            | (go_at_call 139; refine (O1.out _ (by omega)).mono ?_; rintro e w' ⟨rfl, rfl⟩)
            | (go_at_call 89; refine (rtime_any _ _).mono ?_; rintro e w' ⟨rfl, rfl⟩; first | rw [HQ.out.1] | rw [HQ.out.2])
            | (go_at_call 90; refine (rat_any _ HLen.out H.out).mono ?_; rintro e w' ⟨rfl, rfl⟩; rw [HI.out]))
          rw [HT.out]
          exact bodyPost_ret (results_none rfl _ _ _) rfl ⟨rfl, H.out⟩
    · have h8' : (8 : Int) ≤ (ac : Int) := by omega
      go_enter Try.func88, Try.ntmps88
      go_wp2
      rw [HT.out, if_neg h8]
      exact bodyPost_ret (results_none rfl _ _ _) rfl ⟨rfl, H.out⟩
  · have h10' : ((n : Int) != 10) = true := by rw [bne_iff_ne]; omega
    have h10'' : ((n : Int) == 10) = false := by rw [beq_eq_false_iff_ne]; omega
    have ht : takeM M bs = M := takeM_bad M bs (fun h => h10 (by omega))
    rw [ht]
    clear ht hs hn
    go_enter Try.func88, Try.ntmps88
    go_wp2
    exact bodyPost_ret (results_none rfl _ _ _) rfl ⟨rfl, H.out⟩
end Go.Proofs.Ytkifggnjpgoamaa
