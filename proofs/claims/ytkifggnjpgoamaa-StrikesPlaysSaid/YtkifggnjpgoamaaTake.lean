/- Contracts of package strikes: take. -/
import Derived.Test.YtkifggnjpgoamaaLed
import Derived.Test.YtkifggnjpgoamaaMore
namespace Go.Proofs.Ytkifggnjpgoamaa
open Go.RowKit
variable {w0 w w' : World} {R : List HA} {l lm j : Nat} {M : Led}

theorem ofHigh_at (b o n c : Nat) (bs : List UInt8) (w : World) (hn : n = bs.length) (hl : n ≤ 8) (hc : n ≤ c) (hr : w.rangeAt b o (bvs bs)) :
    Calls Try.prog 165 #[.slice (some ⟨b, o, none⟩) n c] w fun e w' => e = .returned (.int .u64 (ofHigh bs)) ∧ w = w' := by
  subst hn
  exact ofHigh_any b o c bs w hl hc hr

theorem range_part {w : World} {b o : Nat} {bs : List UInt8} (h : w.rangeAt b o (bvs bs)) (k m : Nat) : w.rangeAt b (o + k) (bvs ((bs.drop k).take m)) := by
  intro i v hv
  have hv' := hv
  unfold bvs at hv'
  rw [List.getElem?_map] at hv'
  rw [List.getElem?_take] at hv'
  split at hv'
  · rw [List.getElem?_drop] at hv'
    rw [Nat.add_assoc]
    exact h (k + i) v (by simpa [bvs, List.getElem?_map] using hv')
  · cases hv'

theorem range_drewN {w : World} {n b o : Nat} {cs : List Value} (h : w.rangeAt b o cs) (hb : b < w.heap.size) : (w.drewN n).rangeAt b o cs := range_turn ((Turn.refl [] w).drewN n) h hb (by simp)

/-- A record that is none of ten bytes, or of no account. -/
theorem takeM_bad (M : Led) (b : List UInt8) (h : ¬ (b.length = 10 ∧ (b.getD 1 0).toNat < 8)) : takeM M b = M := by
  unfold takeM; rw [if_neg h]

set_option maxRecDepth 100000 in
set_option maxHeartbeats 800000 in
theorem take_any (n : Nat) (a : Option Addr) (c : Nat) (bs : List UInt8) (hn : n = bs.length) (hx : n ≤ 1000) (h : St w0 (ledH l lm j M :: R) w) (hs : Src w (.slice a n c) n (bvs bs)) :
    Calls Try.prog 125 #[.pointer (some ⟨l, 0, none⟩), .slice a n c] w fun e w' => e = .returned (.tuple #[]) ∧ St w0 (ledH l lm j (takeM M bs) :: R) w' := by
  obtain ⟨hB, hM, hne, hwf⟩ := h.led
  have H := Lib.hid h
  clear h
  by_cases h10 : n = 10
  · rcases hs with ⟨h0, _⟩ | ⟨b, o, c', hv, hc, _, hb, hr⟩
    · omega
    cases hv
    subst h10
    have hl10 : bs.length = 10 := hn.symm
    have HL := Lib.hid hl10
    have hbyte : ∀ k, k < 10 → w.cell? ⟨b, o + k, none⟩ = some (.int .u8 ((bs.getD k 0).toNat : Int)) := by
      intro k hk
      have := bytes_at hr k (by omega)
      rwa [show bs[k] = bs.getD k 0 from by simp [List.getD, List.getElem?_eq_getElem (show k < bs.length by omega)]] at this
    have b0 := hbyte 0 (by omega)
    have b1 := hbyte 1 (by omega)
    rw [Nat.add_zero] at b0
    have hr1 := range_part hr 2 4
    have hr2 := range_part hr 6 4
    have k1 : ((bs.drop 2).take 4).length = 4 := by simp; omega
    have k2 : ((bs.drop 6).take 4).length = 4 := by simp; omega
    have q1 := ofHigh_lt 4 _ k1
    have q2 := ofHigh_lt 4 _ k2
    have K1 := Lib.hid k1.symm
    have K2 := Lib.hid k2.symm
    have HT : Hid (takeM M bs = if (bs.getD 1 0).toNat < 8 then
        (if ((ofHigh ((bs.drop 2).take 4) : Nat) : Int) ≤ 1000000 ∧ ((ofHigh ((bs.drop 6).take 4) : Nat) : Int) ≤ 1000000 then
          match aget M ((ofHigh ((bs.drop 2).take 4) : Nat) : Int) with
          | none => if (bs.getD 0 0).toNat = 1 then aput M ((ofHigh ((bs.drop 2).take 4) : Nat) : Int) ⟨(bs.getD 1 0).toNat, (ofHigh ((bs.drop 6).take 4) : Nat), false⟩ else M
          | some s => if (bs.getD 0 0).toNat = 2 then aput M ((ofHigh ((bs.drop 2).take 4) : Nat) : Int) { s with cleared := true } else M
        else M) else M) := by
      unfold Hid takeM
      simp only [HL.out, true_and]
      rfl
    have HW := Lib.hid (wf_takeM hwf bs)
    clear hbyte k1 k2 hl10 hn hx hwf
    obtain ⟨id, hid⟩ : ∃ x, ofHigh ((bs.drop 2).take 4) = x := ⟨_, rfl⟩
    obtain ⟨tm, htm⟩ : ∃ x, ofHigh ((bs.drop 6).take 4) = x := ⟨_, rfl⟩
    obtain ⟨kd, hkd⟩ : ∃ x, (bs.getD 0 0).toNat = x := ⟨_, rfl⟩
    obtain ⟨ac, hac⟩ : ∃ x, (bs.getD 1 0).toNat = x := ⟨_, rfl⟩
    have hac8 : ac < 256 := by rw [← hac]; exact UInt8.toNat_lt _
    rw [hkd] at b0
    rw [hac] at b1
    rw [hid] at q1
    rw [htm] at q2
    rw [hid, htm, hkd, hac] at HT
    have HI := Lib.hid hid
    have HTM := Lib.hid htm
    clear hid htm hkd hac
    have o1 : ∀ (k : Nat) (w' : World), (k = 2 ∨ k = 6) → (∃ n, w' = w.drewN n) → Calls Try.prog 165 #[.slice (some ⟨b, o + k, none⟩) 4 (c - k)] w' fun e w'' => e = .returned (.int .u64 (if k = 2 then (id : Int) else (tm : Int))) ∧ w'' = w' := fun k w' hk hw => by
      obtain ⟨n, rfl⟩ := hw
      rcases hk with rfl | rfl
      · have := ofHigh_at b (o + 2) 4 (c - 2) _ (w.drewN n) K1.out (by omega) (by omega) (range_drewN hr1 hb)
        rw [HI.out] at this
        exact this.mono fun _ _ h => ⟨h.1, h.2.symm⟩
      · have := ofHigh_at b (o + 6) 4 (c - 6) _ (w.drewN n) K2.out (by omega) (by omega) (range_drewN hr2 hb)
        rw [HTM.out] at this
        exact this.mono fun _ _ h => ⟨h.1, h.2.symm⟩
    have O1 := Lib.hid o1
    clear o1 hr1 hr2 hr
    have hcb : (10 : Int) ≤ (c : Int) := by omega
    by_cases h8 : ac < 8
    · have h8' : ¬ (8 : Int) ≤ (ac : Int) := by omega
      have c1 := hB.cells2.2
      go_enter Try.func125, Try.ntmps125
      go_wp2
      go_quiet ((go_at_call 165; exact Calls.quiet_of_same (O1.out _ _ (by omega) ⟨_, rfl⟩)))
      have hq : Turn [] w (w.drewN nq) := (Turn.refl [] w).drewN _
      have HS1 := Lib.hid (H.out.turn0 hq)
      by_cases ht : (id : Int) ≤ 1000000 ∧ (tm : Int) ≤ 1000000
      · rw [if_pos h8, if_pos ht] at HT
        have t1 : isTime (id : Int) = true := (isTime_iff _).2 ⟨by omega, ht.1⟩
        have t2 : isTime (tm : Int) = true := (isTime_iff _).2 ⟨by omega, ht.2⟩
        have HQ := Lib.hid (And.intro t1 t2)
        obtain ⟨hB1, hM1, _, _⟩ := HS1.out.led
        have c2 := hB1.cells2.2
        have e0 : (w.drewN nq).cell? ⟨b, o, none⟩ = some (.int .u8 (kd : Int)) := b0
        have e1 : (w.drewN nq).cell? ⟨b, o + 1, none⟩ = some (.int .u8 (ac : Int)) := b1
        have hbq : b < (w.drewN nq).heap.size := hb
        have lq : l < (w.drewN nq).heap.size := hB1.lt
        have mq : lm < (w.drewN nq).heap.size := hM1.lt
        obtain ⟨wq, hwq⟩ : ∃ x, w.drewN nq = x := ⟨_, rfl⟩
        rw [hwq] at hq HS1 hB1 hM1 c2 e0 e1 hbq lq mq ⊢
        clear hwq t1 t2 ht c1 b0 b1 hB hM H
        have E1 := Lib.hid (stkAt_val M id)
        have E2 := Lib.hid (stkAt_is M id)
        obtain ⟨s, hs'⟩ : ∃ s, stkAt M id = s := ⟨_, rfl⟩
        obtain ⟨q, hq'⟩ : ∃ q, (aget M id).isSome = q := ⟨_, rfl⟩
        rw [hs'] at E1
        rw [hq'] at E2
        have HSQ := Lib.hid (And.intro hs' hq')
        clear hs' hq'
        go_wp2_with (first
          | (go_at_call 84; refine (time_any _ _).mono ?_; rintro e w' ⟨rfl, rfl⟩; first | rw [HQ.out.1] | rw [HQ.out.2])
          | (refine wpList_mget rfl 189 _ _ true rfl Try.underlying189 Try.underlying3 _ Try.zero_strike lm id rfl rfl _ hM1 ?_; rw [E1.out, E2.out]; go_frame)
          | (refine wpList_alloc rfl 193 rfl _ Try.zero_strike ?_; intro w3 hT3 hN3 hz3; go_frame)
          | (refine wpList_storeW rfl 193 _ _ rfl wq.heap.size [.int .i64 s.account, .int .i64 s.time, .bool s.cleared] rfl rfl _ 193 hN3 rfl (info_stk rfl) (by simp [Value.oneCell']) ?_
             intro w4 hT4 hN4 hz4
             have hT34 : Turn [] wq w4 := hT3.trans hT4 (by simp)
             have e04 := (hT34.cell (p := ⟨b, o, none⟩) hbq (by simp)).trans e0
             have e14 := (hT34.cell (p := ⟨b, o + 1, none⟩) hbq (by simp)).trans e1
             have hB4 := hB1.turn hT34 (by simp)
             have hM4 := hM1.turn hT34 (by simp)
             have c4 := hB4.cells2.2
             have n2 := hN4.cells3.2.2
             have f2 := hN4.thaw 2
             clear e0 e1 c2
             go_frame))
        all_goals
          have HS4 := Lib.hid (HS1.out.turn0 hT34)
        · -- a new one
          have a1 : (kd : Int) = 1 := by assumption
          have a2 : (!q) = true := by assumption
          have htk : takeM M bs = aput M id ⟨ac, tm, false⟩ := by
            have hs := HSQ.out.2
            rw [HT.out]
            cases hg : aget M (id : Int) with
            | none => simp only; rw [if_pos (by omega)]
            | some s' => rw [hg] at hs; simp only [Option.isSome_some] at hs; subst hs; simp at a2
          have HK := Lib.hid htk
          have HMM := Lib.hid (mput_asM stkV M (id : Int) ⟨ac, tm, false⟩)
          clear a1 a2 htk HT
          have cd : w4.drew.cell? ⟨l, 1, none⟩ = some (.map (some lm)) := c4
          have ed : w4.drew.cell? ⟨b, o + 1, none⟩ = some (.int .u8 (ac : Int)) := e14
          have hMd : IMap w4.drew lm (asM stkV M) := hM4
          have hwr : IntKind.i64.wrap (ac : Int) = (ac : Int) := by rw [IntKind.wrap_i64]; omega
          refine wp_region_still_tail 11 (by kernel_rfl) (by kernel_rfl) ?_
          simp only [List.take_succ_cons, List.take_zero, List.drop_succ_cons, List.drop_zero]
          repeat still_step
          refine wpStill_nil ?_
          change wpList _ _ _ _ _ w4.drew
          go_wp2_with (refine wpList_mput rfl 189 _ _ _ rfl Try.underlying189 Try.underlying3 lm (id : Int) (stkV ⟨ac, tm, false⟩) rfl rfl rfl _ hMd ?_; intro w5 hM5 hT5; go_frame)
          go_end0
          rw [HMM.out] at hM5
          rw [HK.out]
          refine ⟨rfl, HS4.out.setLed ((Turn.refl [lm] w4).drew.trans hT5 (fun x hx => .inl hx)) hM5 ?_⟩
          rw [← HK.out]; exact HW.out
        · have a1 : (kd : Int) = 1 := by assumption
          have a2 : (!q) = false := by assumption
          have htk : takeM M bs = M := by
            have hs := HSQ.out.2
            rw [HT.out]
            cases hg : aget M (id : Int) with
            | none => rw [hg] at hs; simp only [Option.isSome_none] at hs; subst hs; simp at a2
            | some s' => simp only; rw [if_neg (by omega)]
          rw [htk]
          go_end0
          exact ⟨rfl, HS4.out⟩
        · have a1 : (kd : Int) = 2 := by assumption
          have a2 : q = true := by assumption
          have htk : takeM M bs = aput M id { s with cleared := true } := by
            have hs := HSQ.out.2
            have hs1 := HSQ.out.1
            rw [HT.out]
            cases hg : aget M (id : Int) with
            | none => rw [hg] at hs; simp only [Option.isSome_none] at hs; subst hs; simp at a2
            | some s' =>
              unfold stkAt at hs1
              rw [hg, Option.getD_some] at hs1
              subst hs1
              simp only; rw [if_pos (by omega)]
          have HK := Lib.hid htk
          have HMM := Lib.hid (mput_asM stkV M (id : Int) { s with cleared := true })
          clear a1 a2 htk HT
          have hn5 := hN4.set 2 (.bool true)
          have hM5 := hM4.setOther ⟨wq.heap.size, 2, none⟩ (.bool true) (by simp; omega)
          have hB5 := hB4.setOther ⟨wq.heap.size, 2, none⟩ (.bool true) (by simp; omega)
          have hT5 : Turn [] wq (w4.setCell ⟨wq.heap.size, 2, none⟩ (.bool true)) := hT34.setCell (.inr (Nat.le_refl _)) _
          have HS5 := Lib.hid (HS1.out.turn0 hT5)
          obtain ⟨w5, hw5⟩ : ∃ x, w4.setCell ⟨wq.heap.size, 2, none⟩ (.bool true) = x := ⟨_, rfl⟩
          rw [hw5] at hn5 hM5 hB5 hT5 HS5 ⊢
          have cd : w5.drew.cell? ⟨l, 1, none⟩ = some (.map (some lm)) := hB5.cells2.2
          have hMd : IMap w5.drew lm (asM stkV M) := hM5
          have hR5 : w5.drew.rangeAt wq.heap.size 0 [.int .i64 s.account, .int .i64 s.time, .bool true] := (Blk.all (l := [.int .i64 s.account, .int .i64 s.time, .bool true]) hn5)
          clear hw5
          refine wp_region_still_tail 6 (by kernel_rfl) (by kernel_rfl) ?_
          simp only [List.take_succ_cons, List.take_zero, List.drop_succ_cons, List.drop_zero]
          repeat (first
            | (refine wpStill_load rfl 193 _ rfl _ _ rfl _ _ hR5 Try.underlying193 rfl (info_stk rfl) ?_; go_frame)
            | still_step)
          refine wpStill_nil ?_
          go_wp2_with (refine wpList_mput rfl 189 _ _ _ rfl Try.underlying189 Try.underlying3 lm (id : Int) (stkV { s with cleared := true }) rfl rfl rfl _ hMd ?_; intro w6 hM6 hT6; go_frame)
          go_end0
          rw [HMM.out] at hM6
          rw [HK.out]
          refine ⟨rfl, HS5.out.setLed ((Turn.refl [lm] w5).drew.trans hT6 (fun x hx => .inl hx)) hM6 ?_⟩
          rw [← HK.out]; exact HW.out
        · have a1 : (kd : Int) = 2 := by assumption
          have a2 : q = false := by assumption
          have htk : takeM M bs = M := by
            have hs := HSQ.out.2
            rw [HT.out]
            cases hg : aget M (id : Int) with
            | none => simp only; rw [if_neg (by omega)]
            | some s' => rw [hg] at hs; simp only [Option.isSome_some] at hs; subst hs; simp at a2
          rw [htk]
          go_end0
          exact ⟨rfl, HS4.out⟩
        · have a1 : ¬ (kd : Int) = 1 := by assumption
          have a2 : ¬ (kd : Int) = 2 := by assumption
          have htk : takeM M bs = M := by
            rw [HT.out]
            cases hg : aget M (id : Int) with
            | none => simp only; rw [if_neg (by omega)]
            | some s' => simp only; rw [if_neg (by omega)]
          rw [htk]
          go_end0
          exact ⟨rfl, HS4.out⟩
      · rw [if_pos h8, if_neg ht] at HT
        have HQ : isTime (id : Int) = false ∨ (isTime (id : Int) = true ∧ isTime (tm : Int) = false) := by
          by_cases h1 : (id : Int) ≤ 1000000
          · exact .inr ⟨(isTime_iff _).2 ⟨by omega, h1⟩, (isTime_no _).2 (by omega)⟩
          · exact .inl ((isTime_no _).2 (by omega))
        rcases HQ with h1 | ⟨h1, h2⟩
        · have HQ := Lib.hid h1
          clear h1 ht
          go_wp2_with (go_at_call 84; refine (time_any _ _).mono ?_; rintro e w' ⟨rfl, rfl⟩; rw [HQ.out])
          rw [HT.out]
          exact bodyPost_ret (results_none rfl _ _ _) rfl ⟨rfl, HS1.out⟩
        · have HQ := Lib.hid (And.intro h1 h2)
          clear h1 h2 ht
          go_wp2_with (go_at_call 84; refine (time_any _ _).mono ?_; rintro e w' ⟨rfl, rfl⟩; first | rw [HQ.out.1] | rw [HQ.out.2])
          rw [HT.out]
          exact bodyPost_ret (results_none rfl _ _ _) rfl ⟨rfl, HS1.out⟩
    · have h8' : (8 : Int) ≤ (ac : Int) := by omega
      go_enter Try.func125, Try.ntmps125
      go_wp2
      rw [HT.out, if_neg h8]
      exact bodyPost_ret (results_none rfl _ _ _) rfl ⟨rfl, H.out⟩
  · have h10' : ((n : Int) != 10) = true := by rw [bne_iff_ne]; omega
    have h10'' : ((n : Int) == 10) = false := by rw [beq_eq_false_iff_ne]; omega
    have ht : takeM M bs = M := takeM_bad M bs (fun h => h10 (by omega))
    rw [ht]
    clear ht hs hn
    go_enter Try.func125, Try.ntmps125
    go_wp2
    exact bodyPost_ret (results_none rfl _ _ _) rfl ⟨rfl, H.out⟩
end Go.Proofs.Ytkifggnjpgoamaa
