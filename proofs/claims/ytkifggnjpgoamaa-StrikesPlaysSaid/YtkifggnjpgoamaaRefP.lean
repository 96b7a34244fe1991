/- The reference of layer 23: Of, Count, Suspended. -/
import Derived.Test.YtkifggnjpgoamaaRefM
namespace Go.Proofs.Ytkifggnjpgoamaa
open Go.RowKit
variable {w0 w w' : World} {R : List HA} {l rj : Nat} {M : Led}

set_option maxRecDepth 100000 in
set_option maxHeartbeats 800000 in
theorem rof_any (id : Int) (hlen : M.length ≤ 1000) (h : St w0 (rledH l rj M :: R) w) :
    Calls Try.prog 43 #[.pointer (some ⟨l, 0, none⟩), .int .i64 id] w fun e w' => e = .returned (.tuple #[.int .i64 (stkAt M id).account, .bool (stkAt M id).cleared, .bool (aget M id).isSome]) ∧ Turn [] w w' := by
  obtain ⟨la, lc, hB, hO, _⟩ := h.rled
  have c1 := hB.cells2.2
  have HO := Lib.hid hO
  have H := Lib.hid h
  have HLen := Lib.hid hlen
  clear h hO
  obtain ⟨ix, hix⟩ : ∃ ix, atM M (id : Int) = ix := ⟨_, rfl⟩
  have HI := Lib.hid hix
  have hcs := atM_is M (id : Int)
  rw [hix] at hcs
  clear hix
  rcases hcs with ⟨hg, rfl⟩ | ⟨k, s, hk, hks, hg, rfl⟩
  · have HA' : Hid (stkAt M id = ⟨0, 0, false⟩ ∧ (aget M id).isSome = false) := by unfold Hid stkAt; rw [hg]; exact ⟨rfl, rfl⟩
    rw [HA'.out.1, HA'.out.2]
    clear hg
    go_enter Try.func43, Try.ntmps43
    go_wp2_with (go_at_call 90; refine (rat_any _ HLen.out H.out).mono ?_; rintro e w' ⟨rfl, rfl⟩; rw [HI.out])
    go_ret3
    exact ⟨rfl, Turn.refl _ _⟩
  · have HA' : Hid (stkAt M id = s ∧ (aget M id).isSome = true) := by unfold Hid stkAt; rw [hg]; exact ⟨rfl, rfl⟩
    rw [HA'.out.1, HA'.out.2]
    obtain ⟨g, rfl, hgl, d0, d1, d2, d3⟩ := HO.out.cell4 k hk
    rw [hks] at d1 d3
    have hk' : (k : Int) < (M.length : Int) := by omega
    have hk64 : (k : Int) < 1000 := by omega
    clear hg hks d0 d2
    go_enter Try.func43, Try.ntmps43
    go_wp2_with (go_at_call 90; refine (rat_any _ HLen.out H.out).mono ?_; rintro e w' ⟨rfl, rfl⟩; rw [HI.out])
    go_quiet (fail)
    go_wp2
    go_ret3
    exact ⟨rfl, (Turn.refl _ _).drewN _⟩

/-- How many of the first k count. -/
theorem countM_take (M : Led) (account now : Int) (k : Nat) (hk : k < M.length) : countM (M.take (k + 1)) account now = countM (M.take k) account now + if counts account now M[k].2 then 1 else 0 := by
  rw [List.take_succ_eq_append_getElem hk]
  unfold countM
  rw [List.filter_append, List.length_append]
  cases h : counts account now M[k].2 <;> simp [h]
theorem countM_le (M : Led) (account now : Int) : countM M account now ≤ M.length := List.length_filter_le _ _

theorem Try.zero_rstrike : ∀ w, (zeroValue 212).run Try.prog w = .ok (.agg [.int .i64 0, .int .i64 0, .int .i64 0, .bool false].toArray) w := fun _ => by kernel_rfl
theorem info_rstk {cs : List Value} (h : cs.length = 4) : (Try.prog.info? 212).map (·.size) = some cs.length := by
  have : (Try.prog.info? 212).map (·.size) = some 4 := by kernel_rfl
  rw [this, h]
theorem Own.range4 {w : World} {E : Nat} {la : Option Addr} {n lc : Nat} {M : Led} (h : Own w E 4 (.slice la n lc) n (flatM M)) (i : Nat) (hi : i < M.length) :
    ∃ g, la = some ⟨g, 0, none⟩ ∧ g < w.heap.size ∧ w.rangeAt g (i * 4) (stkCells M[i]) := by
  obtain ⟨g, rfl, h0, h1, h2, h3, h4⟩ := h.cell4 i hi
  refine ⟨g, rfl, h0, fun j v hv => ?_⟩
  simp only [stkCells] at hv
  match j with
  | 0 => simp at hv; subst hv; exact h1
  | 1 => simp at hv; subst hv; exact h2
  | 2 => simp at hv; subst hv; exact h3
  | 3 => simp at hv; subst hv; exact h4
  | j + 4 => simp at hv

set_option maxRecDepth 100000 in
set_option maxHeartbeats 1600000 in
theorem rcount_any (account now : Int) (h1 : now ≤ 9223372036854775807) (hlen : M.length ≤ 1000) (h : St w0 (rledH l rj M :: R) w) :
    Calls Try.prog 44 #[.pointer (some ⟨l, 0, none⟩), .int .i64 account, .int .i64 now] w fun e w' => e = .returned (.int .i64 (countM M account now)) ∧ Turn [] w w' := by
  obtain ⟨la, lc, hB, hO, _, hwf, _⟩ := h.rled
  have HO := Lib.hid hO
  have HB := Lib.hid hB
  have Hn := Lib.hid h1
  have HW := Lib.hid hwf
  have hl64 : (M.length : Int) ≤ 1000 := by omega
  clear h hO hB h1 hwf
  go_enter Try.func44, Try.ntmps44
  go_wp2_with fail
  go_loopw [7, 8, 9] (fun n i p wr => ∃ (k : Nat), k ≤ M.length ∧ i = .int .i64 k ∧ n = .int .i64 (countM (M.take k) account now) ∧ Turn [] w wr)
    (fun _ i _ _ => M.length - (intOf i).toNat)
  case atStart => exact ⟨0, Nat.zero_le _, rfl, rfl, Turn.refl _ _⟩
  case round =>
    obtain ⟨k, hk, rfl, rfl, hT⟩ := hrel
    have hBr := HB.out.turn hT (by simp)
    have c1 := hBr.cells2.2
    have l1 := hBr.lt
    have hcl : countM (M.take k) account now ≤ k := by have := countM_le (M.take k) account now; rw [List.length_take] at this; omega
    obtain ⟨cn, hcn⟩ : ∃ x, countM (M.take k) account now = x := ⟨_, rfl⟩
    rw [hcn] at hcl ⊢
    have HCN := Lib.hid hcn
    clear hcn
    by_cases hlt : k < M.length
    · have hlt' : (k : Int) < (M.length : Int) := by omega
      have hk64 : (k : Int) < 1000 := by omega
      have hcn64 : (cn : Int) < 1000 := by omega
      obtain ⟨g, rfl, hg, hrg⟩ := (HO.out.turn0 hT).range4 k hlt
      have hp := (HW.out _ (List.getElem_mem hlt)).2.2
      have HS := countM_take M account now k hlt
      rw [HCN.out] at HS
      obtain ⟨p, hpe⟩ : ∃ x, M[k] = x := ⟨_, rfl⟩
      rw [hpe] at hrg hp HS
      clear hpe
      obtain ⟨pid, acc, tm, cl⟩ := p
      have p0 := hp.1
      have p1 := hp.2
      have HS := Lib.hid HS
      have lg : wr.heap.size ≠ g := by omega
      clear hp
      go_wp2_with (first
        | (refine wpList_loadA rfl 212 _ rfl _ _ rfl _ _ hrg Try.underlying212 rfl (info_rstk rfl) ?_; go_frame)
        | (refine wpList_alloc rfl 212 rfl _ Try.zero_rstrike ?_; intro w2 hT2 hN2 hz2; go_frame)
        | (refine wpList_storeW rfl 212 _ _ rfl wr.heap.size [.int .i64 pid, .int .i64 acc, .int .i64 tm, .bool cl] rfl rfl _ 212 hN2 rfl (info_rstk rfl) (by simp [Value.oneCell']) ?_
           intro w3 hT3 hN3 hz3
           have d1 := hN3.cells4.2.1
           have d2 := hN3.cells4.2.2.1
           have d3 := hN3.cells4.2.2.2
           have HT3 := Lib.hid (hT.trans (hT2.trans hT3 (by simp)) (by simp))
           go_frame))
      all_goals
        have hb := Hn.out
        have hs := HS.out
        dsimp only at hs p0 p1
        go_roundw
        case measure => show M.length - ((k : Int) + 1).toNat < M.length - ((k : Int)).toNat; omega
      · have a2 : cl = true := by assumption
        rw [show counts account now ⟨acc, tm, cl⟩ = false from by subst a2; simp [counts]] at hs
        exact ⟨k + 1, by omega, rfl, by rw [hs]; rfl, HT3.out⟩
      · have a1 : acc = account := by assumption
        have a2 : ¬ cl = true := by assumption
        have a3 : tm ≤ now := by assumption
        have a4 : wrap64 (now - 100) ≤ tm := by assumption
        rw [show wrap64 (now - 100) = now - 100 from by unfold wrap64; omega] at a4
        rw [show counts account now ⟨acc, tm, cl⟩ = true from by simp [counts, a1, a2, a3]; omega] at hs
        exact ⟨k + 1, by omega, rfl, by rw [hs]; rfl, HT3.out⟩
      · have a3 : tm ≤ now := by assumption
        have a4 : tm < wrap64 (now - 100) := by assumption
        rw [show wrap64 (now - 100) = now - 100 from by unfold wrap64; omega] at a4
        rw [show counts account now ⟨acc, tm, cl⟩ = false from by simp [counts]; omega] at hs
        exact ⟨k + 1, by omega, rfl, by rw [hs]; rfl, HT3.out⟩
      · have a3 : ¬ tm ≤ now := by assumption
        rw [show counts account now ⟨acc, tm, cl⟩ = false from by simp [counts]; omega] at hs
        exact ⟨k + 1, by omega, rfl, by rw [hs]; rfl, HT3.out⟩
      · have a1 : ¬ acc = account := by assumption
        rw [show counts account now ⟨acc, tm, cl⟩ = false from by simp [counts, a1]] at hs
        exact ⟨k + 1, by omega, rfl, by rw [hs]; rfl, HT3.out⟩
    · obtain rfl : k = M.length := by omega
      have HF : Hid (cn = countM M account now) := by unfold Hid; rw [← HCN.out, List.take_length]
      go_wp2
      go_ret
      exact ⟨by rw [HF.out]; rfl, hT⟩

set_option maxHeartbeats 400000 in
theorem rsuspended_any (account now : Int) (h1 : now ≤ 9223372036854775807) (hlen : M.length ≤ 1000) (h : St w0 (rledH l rj M :: R) w) :
    Calls Try.prog 46 #[.pointer (some ⟨l, 0, none⟩), .int .i64 account, .int .i64 now] w fun e w' => e = .returned (.bool (decide (3 ≤ countM M account now))) ∧ Turn [] w w' := by
  go_enter Try.func46, Try.ntmps46
  go_wp2_with fail
  refine (rcount_any account now h1 hlen h).mono ?_
  rintro e w1 ⟨rfl, hT⟩
  go_wp2
  go_ret
  exact ⟨by simp; omega, hT⟩
end Go.Proofs.Ytkifggnjpgoamaa
