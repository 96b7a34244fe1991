/- palfreylaw23.StrikesPlays: the walk. -/
import Derived.Test.YtkifggnjpgoamaaPlayP
import Derived.Test.YtkifggnjpgoamaaClear
namespace Go.Proofs.Ytkifggnjpgoamaa
open Go.RowKit

theorem Try.zero_op : ∀ w, (zeroValue 95).run Try.prog w = .ok (.agg [.int .i64 0, .int .i64 0, .int .i64 0, .int .i64 0, .int .u64 0, .slice none 0 0].toArray) w := fun _ => by kernel_rfl
theorem info_op {cs : List Value} (h : cs.length = 6) : (Try.prog.info? 95).map (·.size) = some cs.length := by
  have : (Try.prog.info? 95).map (·.size) = some 6 := by kernel_rfl
  rw [this, h]

set_option maxRecDepth 100000 in
set_option maxHeartbeats 8000000 in
theorem strikesPlays_any (w : World) (many : Int) (a : Option Addr) (n c : Nat) (ops : List OpI) (hz : ops.length = n) (hs : Src w (.slice a n c) n (ops.flatMap opCells)) (ho : ∀ o ∈ ops, OpIn w o) (hn : n ≤ maxLen) :
    Calls Try.prog 7 #[.int .i64 many, .slice a n c] w fun e w' => e = .returned (.bool true) ∧ Turn [] w w' := by
  have HS := Lib.hid hs
  have HZ := Lib.hid hz
  have HO := Lib.hid ho
  have hn63 : (n : Int) ≤ 9223372036854775807 := by unfold maxLen at hn; omega
  clear hs hz ho hn
  go_enter Try.func7, Try.ntmps7
  go_wp2_with fail
  refine (awake23_any (St.new w)).mono ?_
  rintro e w1 ⟨rfl, h1⟩
  have H1 := Lib.hid h1
  clear h1
  by_cases hbad : many < 1 ∨ 64 < many
  · go_wp2_with fail
    refine (new_bad many w1 hbad).mono ?_
    rintro e w2 ⟨rfl, rfl⟩
    go_wp2_with fail
    refine (rnew_bad many w1 hbad).mono ?_
    rintro e w2 ⟨rfl, rfl⟩
    go_wp2
    go_ret
    exact ⟨rfl, H1.out.tw⟩
  obtain ⟨N, rfl⟩ : ∃ N : Nat, many = N := ⟨many.toNat, by omega⟩
  have hN1 : 1 ≤ N := by omega
  have hN2 : N ≤ 64 := by omega
  clear hbad
  go_wp2_with fail
  refine (new_rig N H1.out hN1 hN2).mono ?_
  rintro e w2 ⟨d, sb, mb, rfl, h2⟩
  have H2 := Lib.hid h2
  clear h2 H1
  go_wp2_with fail
  refine (rnew_st N H2.out hN1 hN2).mono ?_
  rintro e w3 ⟨rd, rs, rn, ri, rfl, h3⟩
  have H3 := Lib.hid h3.to1
  clear h3 H2
  go_wp2_with fail
  refine (begun_any [] N (-1) false H3.out (by simp) hN2 (by simp)).mono ?_
  rintro e w4 ⟨j, l, lm, rfl, h4⟩
  have H4 := Lib.hid h4.to2
  clear h4 H3
  go_wp2_with fail
  refine (ropen_rr [] N (-1) false _ ⟨_, rfl⟩ H4.out (by simp) hN2 (by simp)).mono ?_
  rintro e w5 ⟨rj, rfl, h5⟩
  have H5 := Lib.hid h5
  clear h5 H4
  go_wp2_with fail
  refine (rlopen_any H5.out).mono ?_
  rintro e w6 ⟨rl, rfl, h6⟩
  have H6 := Lib.hid h6.sw2
  clear h6 H5
  go_wp2_with fail
  go_loopw [10, 11, 12, 14, 15] (fun vj vs vw vt i wr => ∃ (k j l lm rj rl : Nat) (Z : JSt) (M : Led), k ≤ n ∧ k ≤ 60 ∧ i = .int .i64 k ∧ vj = .pointer (some ⟨j, 0, none⟩) ∧ vs = .pointer (some ⟨l, 0, none⟩) ∧ vw = .pointer (some ⟨rj, 0, none⟩) ∧ vt = .pointer (some ⟨rl, 0, none⟩) ∧
      St w [ledH l lm j M, rigH d sb mb j Z, rledH rl rj M, rrH rd rs rn ri rj Z] wr ∧ Hid (M.length ≤ Z.recs.length))
    (fun _ _ _ _ i _ => n - (intOf i).toNat)
  case atStart => exact ⟨0, j, l, lm, rj, rl, _, _, Nat.zero_le _, Nat.zero_le _, rfl, rfl, rfl, rfl, rfl, H6.out, Nat.le_refl _⟩
  case round =>
    clear H6
    obtain ⟨k, j, l, lm, rj, rl, Z, M, hk, hk60, rfl, rfl, rfl, rfl, rfl, hS, HL⟩ := hrel
    have HSt := Lib.hid hS
    clear hS
    have hk60' : (k : Int) ≤ 60 := by omega
    by_cases hlt : k < n ∧ k < 60
    · have hlt1 : (k : Int) < (n : Int) := by omega
      have hlt2 : (k : Int) < 60 := by omega
      obtain ⟨o, hoe⟩ : ∃ o, ops[k]'(by rw [HZ.out]; exact hlt.1) = o := ⟨_, rfl⟩
      have hoi := HO.out o (by rw [← hoe]; exact List.getElem_mem _)
      rcases HSt.out.src0 HS.out with ⟨h0, _⟩ | ⟨b, off, c', hv, _, _, hb, hr⟩
      · omega
      cases hv
      have hr := ops_range hr k (by rw [HZ.out]; exact hlt.1)
      rw [hoe] at hr
      have HOI := Lib.hid hoi
      clear hoe hoi
      obtain ⟨doo, account, id, now, kept, ba, bc, bs⟩ := o
      have hnow := HOI.out.now
      have hid := HOI.out.id
      have hfew : (bs.length : Int) ≤ 9223372036854775807 := by have := HOI.out.few; unfold maxLen at this; simp only at this; omega
      simp only [opCells] at hr
      dsimp only at hnow hid
      by_cases hbig : 100 < bs.length
      · have hbig' : (100 : Int) < (bs.length : Int) := by omega
        go_wp2_with (first
          | (refine wpList_loadA rfl 95 _ rfl _ _ rfl _ _ hr Try.underlying95 rfl (info_op rfl) ?_; go_frame)
          | (refine wpList_alloc rfl 95 rfl _ Try.zero_op ?_; intro w7 hT7 hN7 hz7; go_frame)
          | (refine wpList_storeW rfl 95 _ _ rfl wr.heap.size [.int .i64 doo, .int .i64 account, .int .i64 id, .int .i64 now, .int .u64 kept, .slice ba bs.length bc] rfl rfl _ 95 hN7 rfl (info_op rfl) (by simp [Value.oneCell']) ?_
             intro w8 hT8 hN8 hz8
             have HT8 := Lib.hid (hT7.trans hT8 (by simp))
             have c5 := hN8.cells6.2.2.2.2.2
             go_frame))
        go_ret
        exact ⟨rfl, HSt.out.tw.trans HT8.out (by simp)⟩
      have hbig' : ¬ (100 : Int) < (bs.length : Int) := by omega
      obtain ⟨ob, hob⟩ : ∃ x, x = wr.heap.size := ⟨_, rfl⟩
      have hge : wr.heap.size ≤ ob := by omega
      have HOB := Lib.hid hob
      clear hob
      have HMZ : Hid (M.length ≤ 1000) := by
        have h1 := HSt.out.to1.rigOk.le
        have h2 := HSt.out.to1.rigOk.le64
        have h3 := HL.out
        unfold Hid; omega
      by_cases d0 : doo = 0
      · subst d0
        as_aux_lemma =>
          obtain ⟨e0, he0⟩ : ∃ x, (addF account id now Z M).1 = x := ⟨_, rfl⟩
          obtain ⟨Z', hZ'⟩ : ∃ x, (addF account id now Z M).2.1 = x := ⟨_, rfl⟩
          obtain ⟨M', hM'⟩ : ∃ x, (addF account id now Z M).2.2 = x := ⟨_, rfl⟩
          have HLX := addF_le account id now Z M HL.out
          rw [hM', hZ'] at HLX
          have HLX := Lib.hid HLX
          have HCA : Hid (∀ W, St w [ledH l lm j M, rigH d sb mb j Z, rledH rl rj M, rrH rd rs rn ri rj Z, blkH ob #[.int .i64 0, .int .i64 account, .int .i64 id, .int .i64 now, .int .u64 kept, .slice ba bs.length bc] 95] W → Calls Try.prog 32 #[.pointer (some ⟨l, 0, none⟩), .int .i64 account, .int .i64 id, .int .i64 now] W fun e W' => e = .returned (.int .i64 e0) ∧ St w [ledH l lm j M', rigH d sb mb j Z', rledH rl rj M, rrH rd rs rn ri rj Z, blkH ob #[.int .i64 0, .int .i64 account, .int .i64 id, .int .i64 now, .int .u64 kept, .slice ba bs.length bc] 95] W') := fun W h => by
            have := add_any account id now h
            rw [he0, hZ', hM'] at this
            exact this
          have HCB : Hid (∀ W, St w [ledH l lm j M', rigH d sb mb j Z', rledH rl rj M, rrH rd rs rn ri rj Z, blkH ob #[.int .i64 0, .int .i64 account, .int .i64 id, .int .i64 now, .int .u64 kept, .slice ba bs.length bc] 95] W → Calls Try.prog 37 #[.pointer (some ⟨rl, 0, none⟩), .int .i64 account, .int .i64 id, .int .i64 now] W fun e W' => e = .returned (.int .i64 e0) ∧ St w [ledH l lm j M', rigH d sb mb j Z', rledH rl rj M', rrH rd rs rn ri rj Z', blkH ob #[.int .i64 0, .int .i64 account, .int .i64 id, .int .i64 now, .int .u64 kept, .slice ba bs.length bc] 95] W') := fun W h => by
            have := radd_any account id now HMZ.out h.sw2
            rw [he0, hZ', hM'] at this
            exact this.mono fun e W' h => ⟨h.1, h.2.sw2⟩
          clear he0 hZ' hM'
          go_wp2_with (first
            | (refine wpList_loadA rfl 95 _ rfl _ _ rfl _ _ hr Try.underlying95 rfl (info_op rfl) ?_; go_frame)
            | (refine wpList_alloc rfl 95 rfl _ Try.zero_op ?_; intro w7 hT7 hN7 hz7; rw [← HOB.out] at hN7 hz7 ⊢; go_frame)
            | (refine wpList_storeW rfl 95 _ _ rfl ob [.int .i64 0, .int .i64 account, .int .i64 id, .int .i64 now, .int .u64 kept, .slice ba bs.length bc] rfl rfl _ 95 hN7 rfl (info_op rfl) (by simp [Value.oneCell']) ?_
               intro w8 hT8 hN8 hz8
               have HS8 := Lib.hid ((HSt.out.more (hT7.trans hT8 (by intro x hx; simp only [List.mem_singleton] at hx; subst hx; exact .inr hge)) [blkH ob #[.int .i64 0, .int .i64 account, .int .i64 id, .int .i64 now, .int .u64 kept, .slice ba bs.length bc] 95] (· = ob) (Sep.one ⟨hN8, rfl⟩) (by rintro b rfl; exact hge)).perm List.perm_append_comm)
               have c0 := hN8.cells6.1
               have c1 := hN8.cells6.2.1
               have c2 := hN8.cells6.2.2.1
               have c3 := hN8.cells6.2.2.2.1
               have c4 := hN8.cells6.2.2.2.2.1
               have c5 := hN8.cells6.2.2.2.2.2
               clear hT7 hT8 hz7 hz8 hN7 hN8 hr
               go_frame))
          go_region_held3 (fun w' => w'.cell? ⟨ob, 1, none⟩ = some (.int .i64 account) ∧ w'.cell? ⟨ob, 2, none⟩ = some (.int .i64 id) ∧ w'.cell? ⟨ob, 3, none⟩ = some (.int .i64 now))
            (first
              | exact ⟨c1, c2, c3⟩
              | assumption
              | exact ⟨HS9.out.blk5.cells6.2.1, HS9.out.blk5.cells6.2.2.1, HS9.out.blk5.cells6.2.2.2.1⟩
              | exact ⟨HS10.out.blk5.cells6.2.1, HS10.out.blk5.cells6.2.2.1, HS10.out.blk5.cells6.2.2.2.1⟩)
            (first
              | (go_at_call 32; refine (HCA.out _ (HS8.out.turn0 (Turn.refl _ _).drew)).mono ?_; rintro e w9 ⟨rfl, h9⟩; have HS9 := Lib.hid h9)
              | (go_at_call 37; refine (HCB.out _ HS9.out).mono ?_; rintro e w10 ⟨rfl, h10⟩; have HS10 := Lib.hid h10))
          have HSX := Lib.hid HS10.out
          clear HS9 HS10 HS8 HCA HCB h9 h10 c0 c1 c2 c3 c4 c5
          have cX2 := HSX.out.blk5.cells6.2.2.1
          have cX3 := HSX.out.blk5.cells6.2.2.2.1
          have HML : Hid (M'.length ≤ 1000) := by
            have h1 := HSX.out.to1.rigOk.le
            have h2 := HSX.out.to1.rigOk.le64
            have h3 := HLX.out
            unfold Hid; omega
          go_wp2_with (first
            | (go_at_call 33; refine (of_any id HSX.out).mono ?_; rintro e wA ⟨rfl, hTA⟩; have HSA := Lib.hid (HSX.out.turn0 hTA); have cA2 := HSA.out.blk5.cells6.2.2.1; clear hTA HSX cX2 cX3)
            | (go_at_call 43; refine (rof_any id HML.out HSA.out.sw2).mono ?_; rintro e wB ⟨rfl, hTB⟩; have HSB := Lib.hid (HSA.out.turn0 hTB); clear hTB HSA cA2))
          go_loopw [24] (fun i wr2 => ∃ q : Nat, q ≤ 10 ∧ i = .int .i64 ((q : Int) - 1) ∧ St w [ledH l lm j M', rigH d sb mb j Z', rledH rl rj M', rrH rd rs rn ri rj Z', blkH ob #[.int .i64 0, .int .i64 account, .int .i64 id, .int .i64 now, .int .u64 kept, .slice ba bs.length bc] 95] wr2)
            (fun i _ => 10 - (intOf i + 1).toNat)
          case atStart => exact ⟨0, Nat.zero_le _, rfl, HSB.out⟩
          case round =>
            clear HSB
            obtain ⟨q, hq, rfl, hSq⟩ := hrel
            have HSq := Lib.hid hSq
            clear hSq
            have hq10 : (q : Int) ≤ 10 := by omega
            by_cases hlq : q < 10
            · have hlq' : (q : Int) < 10 := by omega
              have cq := HSq.out.blk5.cells6.2.2.2.1
              go_wp2_with fail
              go_region_held3 (fun w' => w'.cell? ⟨ob, 3, none⟩ = some (.int .i64 now))
                (first
                  | exact cq
                  | assumption
                  | exact hC9
                  | exact hC10
                  | exact hC11
                  | exact hC12)
                (first
                  | (go_at_call 29; refine (count_any ((q : Int) - 1) now hnow HML.out (HSq.out.turn0 (Turn.refl _ _).drew)).mono ?_; rintro e w9 ⟨rfl, hT9⟩; have HS9 := Lib.hid ((HSq.out.turn0 (Turn.refl _ _).drew).turn0 hT9); have hC9 := HS9.out.blk5.cells6.2.2.2.1)
                  | (go_at_call 44; refine (rcount_any ((q : Int) - 1) now hnow HML.out HS9.out.sw2).mono ?_; rintro e w10 ⟨rfl, hT10⟩; have HS10 := Lib.hid (HS9.out.turn0 hT10); have hC10 := HS10.out.blk5.cells6.2.2.2.1)
                  | (go_at_call 45; refine (suspended_any ((q : Int) - 1) now hnow HML.out HS10.out).mono ?_; rintro e w11 ⟨rfl, hT11⟩; have HS11 := Lib.hid (HS10.out.turn0 hT11); have hC11 := HS11.out.blk5.cells6.2.2.2.1)
                  | (go_at_call 46; refine (rsuspended_any ((q : Int) - 1) now hnow HML.out HS11.out.sw2).mono ?_; rintro e w12 ⟨rfl, hT12⟩; have HS12 := Lib.hid (HS11.out.turn0 hT12); have hC12 := HS12.out.blk5.cells6.2.2.2.1))
              go_wp2
              go_roundw
              case rel => exact ⟨q + 1, by omega, by go_num, HS12.out⟩
              case measure => show 10 - ((q : Int) + 1).toNat < 10 - ((q : Int) - 1 + 1).toNat; omega
            · obtain rfl : q = 10 := by omega
              go_wp2
              go_roundw
              case rel => exact ⟨k + 1, j, l, lm, rj, rl, Z', M', by omega, by omega, rfl, rfl, rfl, rfl, rfl, (HSq.out.perm (List.perm_append_comm (l₁ := [ledH l lm j M', rigH d sb mb j Z', rledH rl rj M', rrH rd rs rn ri rj Z']) (l₂ := [blkH ob #[.int .i64 0, .int .i64 account, .int .i64 id, .int .i64 now, .int .u64 kept, .slice ba bs.length bc] 95]))).drop, HLX.out⟩
              case measure => show n - ((k : Int) + 1).toNat < n - ((k : Int)).toNat; omega
      by_cases d1 : doo = 1
      · subst d1
        as_aux_lemma =>
          obtain ⟨e0, he0⟩ : ∃ x, (addF account id now Z M).1 = x := ⟨_, rfl⟩
          obtain ⟨Z', hZ'⟩ : ∃ x, (addF account id now Z M).2.1 = x := ⟨_, rfl⟩
          obtain ⟨M', hM'⟩ : ∃ x, (addF account id now Z M).2.2 = x := ⟨_, rfl⟩
          have HLX := addF_le account id now Z M HL.out
          rw [hM', hZ'] at HLX
          have HLX := Lib.hid HLX
          have HCA : Hid (∀ W, St w [ledH l lm j M, rigH d sb mb j Z, rledH rl rj M, rrH rd rs rn ri rj Z, blkH ob #[.int .i64 1, .int .i64 account, .int .i64 id, .int .i64 now, .int .u64 kept, .slice ba bs.length bc] 95] W → Calls Try.prog 32 #[.pointer (some ⟨l, 0, none⟩), .int .i64 account, .int .i64 id, .int .i64 now] W fun e W' => e = .returned (.int .i64 e0) ∧ St w [ledH l lm j M', rigH d sb mb j Z', rledH rl rj M, rrH rd rs rn ri rj Z, blkH ob #[.int .i64 1, .int .i64 account, .int .i64 id, .int .i64 now, .int .u64 kept, .slice ba bs.length bc] 95] W') := fun W h => by
            have := add_any account id now h
            rw [he0, hZ', hM'] at this
            exact this
          have HCB : Hid (∀ W, St w [ledH l lm j M', rigH d sb mb j Z', rledH rl rj M, rrH rd rs rn ri rj Z, blkH ob #[.int .i64 1, .int .i64 account, .int .i64 id, .int .i64 now, .int .u64 kept, .slice ba bs.length bc] 95] W → Calls Try.prog 37 #[.pointer (some ⟨rl, 0, none⟩), .int .i64 account, .int .i64 id, .int .i64 now] W fun e W' => e = .returned (.int .i64 e0) ∧ St w [ledH l lm j M', rigH d sb mb j Z', rledH rl rj M', rrH rd rs rn ri rj Z', blkH ob #[.int .i64 1, .int .i64 account, .int .i64 id, .int .i64 now, .int .u64 kept, .slice ba bs.length bc] 95] W') := fun W h => by
            have := radd_any account id now HMZ.out h.sw2
            rw [he0, hZ', hM'] at this
            exact this.mono fun e W' h => ⟨h.1, h.2.sw2⟩
          clear he0 hZ' hM'
          go_wp2_with (first
            | (refine wpList_loadA rfl 95 _ rfl _ _ rfl _ _ hr Try.underlying95 rfl (info_op rfl) ?_; go_frame)
            | (refine wpList_alloc rfl 95 rfl _ Try.zero_op ?_; intro w7 hT7 hN7 hz7; rw [← HOB.out] at hN7 hz7 ⊢; go_frame)
            | (refine wpList_storeW rfl 95 _ _ rfl ob [.int .i64 1, .int .i64 account, .int .i64 id, .int .i64 now, .int .u64 kept, .slice ba bs.length bc] rfl rfl _ 95 hN7 rfl (info_op rfl) (by simp [Value.oneCell']) ?_
               intro w8 hT8 hN8 hz8
               have HS8 := Lib.hid ((HSt.out.more (hT7.trans hT8 (by intro x hx; simp only [List.mem_singleton] at hx; subst hx; exact .inr hge)) [blkH ob #[.int .i64 1, .int .i64 account, .int .i64 id, .int .i64 now, .int .u64 kept, .slice ba bs.length bc] 95] (· = ob) (Sep.one ⟨hN8, rfl⟩) (by rintro b rfl; exact hge)).perm List.perm_append_comm)
               have c0 := hN8.cells6.1
               have c1 := hN8.cells6.2.1
               have c2 := hN8.cells6.2.2.1
               have c3 := hN8.cells6.2.2.2.1
               have c4 := hN8.cells6.2.2.2.2.1
               have c5 := hN8.cells6.2.2.2.2.2
               clear hT7 hT8 hz7 hz8 hN7 hN8 hr
               go_frame))
          go_region_held3 (fun w' => w'.cell? ⟨ob, 1, none⟩ = some (.int .i64 account) ∧ w'.cell? ⟨ob, 2, none⟩ = some (.int .i64 id) ∧ w'.cell? ⟨ob, 3, none⟩ = some (.int .i64 now))
            (first
              | exact ⟨c1, c2, c3⟩
              | assumption
              | exact ⟨HS9.out.blk5.cells6.2.1, HS9.out.blk5.cells6.2.2.1, HS9.out.blk5.cells6.2.2.2.1⟩
              | exact ⟨HS10.out.blk5.cells6.2.1, HS10.out.blk5.cells6.2.2.1, HS10.out.blk5.cells6.2.2.2.1⟩)
            (first
              | (go_at_call 32; refine (HCA.out _ (HS8.out.turn0 (Turn.refl _ _).drew)).mono ?_; rintro e w9 ⟨rfl, h9⟩; have HS9 := Lib.hid h9)
              | (go_at_call 37; refine (HCB.out _ HS9.out).mono ?_; rintro e w10 ⟨rfl, h10⟩; have HS10 := Lib.hid h10))
          have HSX := Lib.hid HS10.out
          clear HS9 HS10 HS8 HCA HCB h9 h10 c0 c1 c2 c3 c4 c5
          have cX2 := HSX.out.blk5.cells6.2.2.1
          have cX3 := HSX.out.blk5.cells6.2.2.2.1
          have HML : Hid (M'.length ≤ 1000) := by
            have h1 := HSX.out.to1.rigOk.le
            have h2 := HSX.out.to1.rigOk.le64
            have h3 := HLX.out
            unfold Hid; omega
          go_wp2_with (first
            | (go_at_call 33; refine (of_any id HSX.out).mono ?_; rintro e wA ⟨rfl, hTA⟩; have HSA := Lib.hid (HSX.out.turn0 hTA); have cA2 := HSA.out.blk5.cells6.2.2.1; clear hTA HSX cX2 cX3)
            | (go_at_call 43; refine (rof_any id HML.out HSA.out.sw2).mono ?_; rintro e wB ⟨rfl, hTB⟩; have HSB := Lib.hid (HSA.out.turn0 hTB); clear hTB HSA cA2))
          go_loopw [24] (fun i wr2 => ∃ q : Nat, q ≤ 10 ∧ i = .int .i64 ((q : Int) - 1) ∧ St w [ledH l lm j M', rigH d sb mb j Z', rledH rl rj M', rrH rd rs rn ri rj Z', blkH ob #[.int .i64 1, .int .i64 account, .int .i64 id, .int .i64 now, .int .u64 kept, .slice ba bs.length bc] 95] wr2)
            (fun i _ => 10 - (intOf i + 1).toNat)
          case atStart => exact ⟨0, Nat.zero_le _, rfl, HSB.out⟩
          case round =>
            clear HSB
            obtain ⟨q, hq, rfl, hSq⟩ := hrel
            have HSq := Lib.hid hSq
            clear hSq
            have hq10 : (q : Int) ≤ 10 := by omega
            by_cases hlq : q < 10
            · have hlq' : (q : Int) < 10 := by omega
              have cq := HSq.out.blk5.cells6.2.2.2.1
              go_wp2_with fail
              go_region_held3 (fun w' => w'.cell? ⟨ob, 3, none⟩ = some (.int .i64 now))
                (first
                  | exact cq
                  | assumption
                  | exact hC9
                  | exact hC10
                  | exact hC11
                  | exact hC12)
                (first
                  | (go_at_call 29; refine (count_any ((q : Int) - 1) now hnow HML.out (HSq.out.turn0 (Turn.refl _ _).drew)).mono ?_; rintro e w9 ⟨rfl, hT9⟩; have HS9 := Lib.hid ((HSq.out.turn0 (Turn.refl _ _).drew).turn0 hT9); have hC9 := HS9.out.blk5.cells6.2.2.2.1)
                  | (go_at_call 44; refine (rcount_any ((q : Int) - 1) now hnow HML.out HS9.out.sw2).mono ?_; rintro e w10 ⟨rfl, hT10⟩; have HS10 := Lib.hid (HS9.out.turn0 hT10); have hC10 := HS10.out.blk5.cells6.2.2.2.1)
                  | (go_at_call 45; refine (suspended_any ((q : Int) - 1) now hnow HML.out HS10.out).mono ?_; rintro e w11 ⟨rfl, hT11⟩; have HS11 := Lib.hid (HS10.out.turn0 hT11); have hC11 := HS11.out.blk5.cells6.2.2.2.1)
                  | (go_at_call 46; refine (rsuspended_any ((q : Int) - 1) now hnow HML.out HS11.out.sw2).mono ?_; rintro e w12 ⟨rfl, hT12⟩; have HS12 := Lib.hid (HS11.out.turn0 hT12); have hC12 := HS12.out.blk5.cells6.2.2.2.1))
              go_wp2
              go_roundw
              case rel => exact ⟨q + 1, by omega, by go_num, HS12.out⟩
              case measure => show 10 - ((q : Int) + 1).toNat < 10 - ((q : Int) - 1 + 1).toNat; omega
            · obtain rfl : q = 10 := by omega
              go_wp2
              go_roundw
              case rel => exact ⟨k + 1, j, l, lm, rj, rl, Z', M', by omega, by omega, rfl, rfl, rfl, rfl, rfl, (HSq.out.perm (List.perm_append_comm (l₁ := [ledH l lm j M', rigH d sb mb j Z', rledH rl rj M', rrH rd rs rn ri rj Z']) (l₂ := [blkH ob #[.int .i64 1, .int .i64 account, .int .i64 id, .int .i64 now, .int .u64 kept, .slice ba bs.length bc] 95]))).drop, HLX.out⟩
              case measure => show n - ((k : Int) + 1).toNat < n - ((k : Int)).toNat; omega
      by_cases d2 : doo = 2
      · subst d2
        as_aux_lemma =>
          obtain ⟨e0, he0⟩ : ∃ x, (addF account id now Z M).1 = x := ⟨_, rfl⟩
          obtain ⟨Z', hZ'⟩ : ∃ x, (addF account id now Z M).2.1 = x := ⟨_, rfl⟩
          obtain ⟨M', hM'⟩ : ∃ x, (addF account id now Z M).2.2 = x := ⟨_, rfl⟩
          have HLX := addF_le account id now Z M HL.out
          rw [hM', hZ'] at HLX
          have HLX := Lib.hid HLX
          have HCA : Hid (∀ W, St w [ledH l lm j M, rigH d sb mb j Z, rledH rl rj M, rrH rd rs rn ri rj Z, blkH ob #[.int .i64 2, .int .i64 account, .int .i64 id, .int .i64 now, .int .u64 kept, .slice ba bs.length bc] 95] W → Calls Try.prog 32 #[.pointer (some ⟨l, 0, none⟩), .int .i64 account, .int .i64 id, .int .i64 now] W fun e W' => e = .returned (.int .i64 e0) ∧ St w [ledH l lm j M', rigH d sb mb j Z', rledH rl rj M, rrH rd rs rn ri rj Z, blkH ob #[.int .i64 2, .int .i64 account, .int .i64 id, .int .i64 now, .int .u64 kept, .slice ba bs.length bc] 95] W') := fun W h => by
            have := add_any account id now h
            rw [he0, hZ', hM'] at this
            exact this
          have HCB : Hid (∀ W, St w [ledH l lm j M', rigH d sb mb j Z', rledH rl rj M, rrH rd rs rn ri rj Z, blkH ob #[.int .i64 2, .int .i64 account, .int .i64 id, .int .i64 now, .int .u64 kept, .slice ba bs.length bc] 95] W → Calls Try.prog 37 #[.pointer (some ⟨rl, 0, none⟩), .int .i64 account, .int .i64 id, .int .i64 now] W fun e W' => e = .returned (.int .i64 e0) ∧ St w [ledH l lm j M', rigH d sb mb j Z', rledH rl rj M', rrH rd rs rn ri rj Z', blkH ob #[.int .i64 2, .int .i64 account, .int .i64 id, .int .i64 now, .int .u64 kept, .slice ba bs.length bc] 95] W') := fun W h => by
            have := radd_any account id now HMZ.out h.sw2
            rw [he0, hZ', hM'] at this
            exact this.mono fun e W' h => ⟨h.1, h.2.sw2⟩
          clear he0 hZ' hM'
          go_wp2_with (first
            | (refine wpList_loadA rfl 95 _ rfl _ _ rfl _ _ hr Try.underlying95 rfl (info_op rfl) ?_; go_frame)
            | (refine wpList_alloc rfl 95 rfl _ Try.zero_op ?_; intro w7 hT7 hN7 hz7; rw [← HOB.out] at hN7 hz7 ⊢; go_frame)
            | (refine wpList_storeW rfl 95 _ _ rfl ob [.int .i64 2, .int .i64 account, .int .i64 id, .int .i64 now, .int .u64 kept, .slice ba bs.length bc] rfl rfl _ 95 hN7 rfl (info_op rfl) (by simp [Value.oneCell']) ?_
               intro w8 hT8 hN8 hz8
               have HS8 := Lib.hid ((HSt.out.more (hT7.trans hT8 (by intro x hx; simp only [List.mem_singleton] at hx; subst hx; exact .inr hge)) [blkH ob #[.int .i64 2, .int .i64 account, .int .i64 id, .int .i64 now, .int .u64 kept, .slice ba bs.length bc] 95] (· = ob) (Sep.one ⟨hN8, rfl⟩) (by rintro b rfl; exact hge)).perm List.perm_append_comm)
               have c0 := hN8.cells6.1
               have c1 := hN8.cells6.2.1
               have c2 := hN8.cells6.2.2.1
               have c3 := hN8.cells6.2.2.2.1
               have c4 := hN8.cells6.2.2.2.2.1
               have c5 := hN8.cells6.2.2.2.2.2
               clear hT7 hT8 hz7 hz8 hN7 hN8 hr
               go_frame))
          go_region_held3 (fun w' => w'.cell? ⟨ob, 1, none⟩ = some (.int .i64 account) ∧ w'.cell? ⟨ob, 2, none⟩ = some (.int .i64 id) ∧ w'.cell? ⟨ob, 3, none⟩ = some (.int .i64 now))
            (first
              | exact ⟨c1, c2, c3⟩
              | assumption
              | exact ⟨HS9.out.blk5.cells6.2.1, HS9.out.blk5.cells6.2.2.1, HS9.out.blk5.cells6.2.2.2.1⟩
              | exact ⟨HS10.out.blk5.cells6.2.1, HS10.out.blk5.cells6.2.2.1, HS10.out.blk5.cells6.2.2.2.1⟩)
            (first
              | (go_at_call 32; refine (HCA.out _ (HS8.out.turn0 (Turn.refl _ _).drew)).mono ?_; rintro e w9 ⟨rfl, h9⟩; have HS9 := Lib.hid h9)
              | (go_at_call 37; refine (HCB.out _ HS9.out).mono ?_; rintro e w10 ⟨rfl, h10⟩; have HS10 := Lib.hid h10))
          have HSX := Lib.hid HS10.out
          clear HS9 HS10 HS8 HCA HCB h9 h10 c0 c1 c2 c3 c4 c5
          have cX2 := HSX.out.blk5.cells6.2.2.1
          have cX3 := HSX.out.blk5.cells6.2.2.2.1
          have HML : Hid (M'.length ≤ 1000) := by
            have h1 := HSX.out.to1.rigOk.le
            have h2 := HSX.out.to1.rigOk.le64
            have h3 := HLX.out
            unfold Hid; omega
          go_wp2_with (first
            | (go_at_call 33; refine (of_any id HSX.out).mono ?_; rintro e wA ⟨rfl, hTA⟩; have HSA := Lib.hid (HSX.out.turn0 hTA); have cA2 := HSA.out.blk5.cells6.2.2.1; clear hTA HSX cX2 cX3)
            | (go_at_call 43; refine (rof_any id HML.out HSA.out.sw2).mono ?_; rintro e wB ⟨rfl, hTB⟩; have HSB := Lib.hid (HSA.out.turn0 hTB); clear hTB HSA cA2))
          go_loopw [24] (fun i wr2 => ∃ q : Nat, q ≤ 10 ∧ i = .int .i64 ((q : Int) - 1) ∧ St w [ledH l lm j M', rigH d sb mb j Z', rledH rl rj M', rrH rd rs rn ri rj Z', blkH ob #[.int .i64 2, .int .i64 account, .int .i64 id, .int .i64 now, .int .u64 kept, .slice ba bs.length bc] 95] wr2)
            (fun i _ => 10 - (intOf i + 1).toNat)
          case atStart => exact ⟨0, Nat.zero_le _, rfl, HSB.out⟩
          case round =>
            clear HSB
            obtain ⟨q, hq, rfl, hSq⟩ := hrel
            have HSq := Lib.hid hSq
            clear hSq
            have hq10 : (q : Int) ≤ 10 := by omega
            by_cases hlq : q < 10
            · have hlq' : (q : Int) < 10 := by omega
              have cq := HSq.out.blk5.cells6.2.2.2.1
              go_wp2_with fail
              go_region_held3 (fun w' => w'.cell? ⟨ob, 3, none⟩ = some (.int .i64 now))
                (first
                  | exact cq
                  | assumption
                  | exact hC9
                  | exact hC10
                  | exact hC11
                  | exact hC12)
                (first
                  | (go_at_call 29; refine (count_any ((q : Int) - 1) now hnow HML.out (HSq.out.turn0 (Turn.refl _ _).drew)).mono ?_; rintro e w9 ⟨rfl, hT9⟩; have HS9 := Lib.hid ((HSq.out.turn0 (Turn.refl _ _).drew).turn0 hT9); have hC9 := HS9.out.blk5.cells6.2.2.2.1)
                  | (go_at_call 44; refine (rcount_any ((q : Int) - 1) now hnow HML.out HS9.out.sw2).mono ?_; rintro e w10 ⟨rfl, hT10⟩; have HS10 := Lib.hid (HS9.out.turn0 hT10); have hC10 := HS10.out.blk5.cells6.2.2.2.1)
                  | (go_at_call 45; refine (suspended_any ((q : Int) - 1) now hnow HML.out HS10.out).mono ?_; rintro e w11 ⟨rfl, hT11⟩; have HS11 := Lib.hid (HS10.out.turn0 hT11); have hC11 := HS11.out.blk5.cells6.2.2.2.1)
                  | (go_at_call 46; refine (rsuspended_any ((q : Int) - 1) now hnow HML.out HS11.out.sw2).mono ?_; rintro e w12 ⟨rfl, hT12⟩; have HS12 := Lib.hid (HS11.out.turn0 hT12); have hC12 := HS12.out.blk5.cells6.2.2.2.1))
              go_wp2
              go_roundw
              case rel => exact ⟨q + 1, by omega, by go_num, HS12.out⟩
              case measure => show 10 - ((q : Int) + 1).toNat < 10 - ((q : Int) - 1 + 1).toNat; omega
            · obtain rfl : q = 10 := by omega
              go_wp2
              go_roundw
              case rel => exact ⟨k + 1, j, l, lm, rj, rl, Z', M', by omega, by omega, rfl, rfl, rfl, rfl, rfl, (HSq.out.perm (List.perm_append_comm (l₁ := [ledH l lm j M', rigH d sb mb j Z', rledH rl rj M', rrH rd rs rn ri rj Z']) (l₂ := [blkH ob #[.int .i64 2, .int .i64 account, .int .i64 id, .int .i64 now, .int .u64 kept, .slice ba bs.length bc] 95]))).drop, HLX.out⟩
              case measure => show n - ((k : Int) + 1).toNat < n - ((k : Int)).toNat; omega
      by_cases d3 : doo = 3
      · subst d3
        as_aux_lemma =>
          obtain ⟨e0, he0⟩ : ∃ x, (clearF id now Z M).1 = x := ⟨_, rfl⟩
          obtain ⟨Z', hZ'⟩ : ∃ x, (clearF id now Z M).2.1 = x := ⟨_, rfl⟩
          obtain ⟨M', hM'⟩ : ∃ x, (clearF id now Z M).2.2 = x := ⟨_, rfl⟩
          have HLX := clearF_le id now Z M HL.out
          rw [hM', hZ'] at HLX
          have HLX := Lib.hid HLX
          have HCA : Hid (∀ W, St w [ledH l lm j M, rigH d sb mb j Z, rledH rl rj M, rrH rd rs rn ri rj Z, blkH ob #[.int .i64 3, .int .i64 account, .int .i64 id, .int .i64 now, .int .u64 kept, .slice ba bs.length bc] 95] W → Calls Try.prog 38 #[.pointer (some ⟨l, 0, none⟩), .int .i64 id, .int .i64 now] W fun e W' => e = .returned (.int .i64 e0) ∧ St w [ledH l lm j M', rigH d sb mb j Z', rledH rl rj M, rrH rd rs rn ri rj Z, blkH ob #[.int .i64 3, .int .i64 account, .int .i64 id, .int .i64 now, .int .u64 kept, .slice ba bs.length bc] 95] W') := fun W h => by
            have := clear_any id now h
            rw [he0, hZ', hM'] at this
            exact this
          have HCB : Hid (∀ W, St w [ledH l lm j M', rigH d sb mb j Z', rledH rl rj M, rrH rd rs rn ri rj Z, blkH ob #[.int .i64 3, .int .i64 account, .int .i64 id, .int .i64 now, .int .u64 kept, .slice ba bs.length bc] 95] W → Calls Try.prog 39 #[.pointer (some ⟨rl, 0, none⟩), .int .i64 id, .int .i64 now] W fun e W' => e = .returned (.int .i64 e0) ∧ St w [ledH l lm j M', rigH d sb mb j Z', rledH rl rj M', rrH rd rs rn ri rj Z', blkH ob #[.int .i64 3, .int .i64 account, .int .i64 id, .int .i64 now, .int .u64 kept, .slice ba bs.length bc] 95] W') := fun W h => by
            have := rclear_any id now HMZ.out h.sw2
            rw [he0, hZ', hM'] at this
            exact this.mono fun e W' h => ⟨h.1, h.2.sw2⟩
          clear he0 hZ' hM'
          go_wp2_with (first
            | (refine wpList_loadA rfl 95 _ rfl _ _ rfl _ _ hr Try.underlying95 rfl (info_op rfl) ?_; go_frame)
            | (refine wpList_alloc rfl 95 rfl _ Try.zero_op ?_; intro w7 hT7 hN7 hz7; rw [← HOB.out] at hN7 hz7 ⊢; go_frame)
            | (refine wpList_storeW rfl 95 _ _ rfl ob [.int .i64 3, .int .i64 account, .int .i64 id, .int .i64 now, .int .u64 kept, .slice ba bs.length bc] rfl rfl _ 95 hN7 rfl (info_op rfl) (by simp [Value.oneCell']) ?_
               intro w8 hT8 hN8 hz8
               have HS8 := Lib.hid ((HSt.out.more (hT7.trans hT8 (by intro x hx; simp only [List.mem_singleton] at hx; subst hx; exact .inr hge)) [blkH ob #[.int .i64 3, .int .i64 account, .int .i64 id, .int .i64 now, .int .u64 kept, .slice ba bs.length bc] 95] (· = ob) (Sep.one ⟨hN8, rfl⟩) (by rintro b rfl; exact hge)).perm List.perm_append_comm)
               have c0 := hN8.cells6.1
               have c1 := hN8.cells6.2.1
               have c2 := hN8.cells6.2.2.1
               have c3 := hN8.cells6.2.2.2.1
               have c4 := hN8.cells6.2.2.2.2.1
               have c5 := hN8.cells6.2.2.2.2.2
               clear hT7 hT8 hz7 hz8 hN7 hN8 hr
               go_frame))
          go_region_held3 (fun w' => w'.cell? ⟨ob, 2, none⟩ = some (.int .i64 id) ∧ w'.cell? ⟨ob, 3, none⟩ = some (.int .i64 now))
            (first
              | exact ⟨c2, c3⟩
              | assumption
              | exact ⟨HS9.out.blk5.cells6.2.2.1, HS9.out.blk5.cells6.2.2.2.1⟩
              | exact ⟨HS10.out.blk5.cells6.2.2.1, HS10.out.blk5.cells6.2.2.2.1⟩)
            (first
              | (go_at_call 38; refine (HCA.out _ (HS8.out.turn0 (Turn.refl _ _).drew)).mono ?_; rintro e w9 ⟨rfl, h9⟩; have HS9 := Lib.hid h9)
              | (go_at_call 39; refine (HCB.out _ HS9.out).mono ?_; rintro e w10 ⟨rfl, h10⟩; have HS10 := Lib.hid h10))
          have HSX := Lib.hid HS10.out
          clear HS9 HS10 HS8 HCA HCB h9 h10 c0 c1 c2 c3 c4 c5
          have cX2 := HSX.out.blk5.cells6.2.2.1
          have cX3 := HSX.out.blk5.cells6.2.2.2.1
          have HML : Hid (M'.length ≤ 1000) := by
            have h1 := HSX.out.to1.rigOk.le
            have h2 := HSX.out.to1.rigOk.le64
            have h3 := HLX.out
            unfold Hid; omega
          go_wp2_with (first
            | (go_at_call 33; refine (of_any id HSX.out).mono ?_; rintro e wA ⟨rfl, hTA⟩; have HSA := Lib.hid (HSX.out.turn0 hTA); have cA2 := HSA.out.blk5.cells6.2.2.1; clear hTA HSX cX2 cX3)
            | (go_at_call 43; refine (rof_any id HML.out HSA.out.sw2).mono ?_; rintro e wB ⟨rfl, hTB⟩; have HSB := Lib.hid (HSA.out.turn0 hTB); clear hTB HSA cA2))
          go_loopw [24] (fun i wr2 => ∃ q : Nat, q ≤ 10 ∧ i = .int .i64 ((q : Int) - 1) ∧ St w [ledH l lm j M', rigH d sb mb j Z', rledH rl rj M', rrH rd rs rn ri rj Z', blkH ob #[.int .i64 3, .int .i64 account, .int .i64 id, .int .i64 now, .int .u64 kept, .slice ba bs.length bc] 95] wr2)
            (fun i _ => 10 - (intOf i + 1).toNat)
          case atStart => exact ⟨0, Nat.zero_le _, rfl, HSB.out⟩
          case round =>
            clear HSB
            obtain ⟨q, hq, rfl, hSq⟩ := hrel
            have HSq := Lib.hid hSq
            clear hSq
            have hq10 : (q : Int) ≤ 10 := by omega
            by_cases hlq : q < 10
            · have hlq' : (q : Int) < 10 := by omega
              have cq := HSq.out.blk5.cells6.2.2.2.1
              go_wp2_with fail
              go_region_held3 (fun w' => w'.cell? ⟨ob, 3, none⟩ = some (.int .i64 now))
                (first
                  | exact cq
                  | assumption
                  | exact hC9
                  | exact hC10
                  | exact hC11
                  | exact hC12)
                (first
                  | (go_at_call 29; refine (count_any ((q : Int) - 1) now hnow HML.out (HSq.out.turn0 (Turn.refl _ _).drew)).mono ?_; rintro e w9 ⟨rfl, hT9⟩; have HS9 := Lib.hid ((HSq.out.turn0 (Turn.refl _ _).drew).turn0 hT9); have hC9 := HS9.out.blk5.cells6.2.2.2.1)
                  | (go_at_call 44; refine (rcount_any ((q : Int) - 1) now hnow HML.out HS9.out.sw2).mono ?_; rintro e w10 ⟨rfl, hT10⟩; have HS10 := Lib.hid (HS9.out.turn0 hT10); have hC10 := HS10.out.blk5.cells6.2.2.2.1)
                  | (go_at_call 45; refine (suspended_any ((q : Int) - 1) now hnow HML.out HS10.out).mono ?_; rintro e w11 ⟨rfl, hT11⟩; have HS11 := Lib.hid (HS10.out.turn0 hT11); have hC11 := HS11.out.blk5.cells6.2.2.2.1)
                  | (go_at_call 46; refine (rsuspended_any ((q : Int) - 1) now hnow HML.out HS11.out.sw2).mono ?_; rintro e w12 ⟨rfl, hT12⟩; have HS12 := Lib.hid (HS11.out.turn0 hT12); have hC12 := HS12.out.blk5.cells6.2.2.2.1))
              go_wp2
              go_roundw
              case rel => exact ⟨q + 1, by omega, by go_num, HS12.out⟩
              case measure => show 10 - ((q : Int) + 1).toNat < 10 - ((q : Int) - 1 + 1).toNat; omega
            · obtain rfl : q = 10 := by omega
              go_wp2
              go_roundw
              case rel => exact ⟨k + 1, j, l, lm, rj, rl, Z', M', by omega, by omega, rfl, rfl, rfl, rfl, rfl, (HSq.out.perm (List.perm_append_comm (l₁ := [ledH l lm j M', rigH d sb mb j Z', rledH rl rj M', rrH rd rs rn ri rj Z']) (l₂ := [blkH ob #[.int .i64 3, .int .i64 account, .int .i64 id, .int .i64 now, .int .u64 kept, .slice ba bs.length bc] 95]))).drop, HLX.out⟩
              case measure => show n - ((k : Int) + 1).toNat < n - ((k : Int)).toNat; omega
      by_cases d4 : doo = 4
      · subst d4
        as_aux_lemma =>
          obtain ⟨Z', hZ'⟩ : ∃ x, ({ Z with fuse := max id (-1) } : JSt) = x := ⟨_, rfl⟩
          have HLX : Hid (M.length ≤ Z'.recs.length) := by rw [← hZ']; exact HL.out
          have HCA : Hid (∀ W, St w [ledH l lm j M, rigH d sb mb j Z, rledH rl rj M, rrH rd rs rn ri rj Z, blkH ob #[.int .i64 4, .int .i64 account, .int .i64 id, .int .i64 now, .int .u64 kept, .slice ba bs.length bc] 95] W → Calls Try.prog 18 #[.pointer (some ⟨d, 0, none⟩), .int .i64 id] W fun e W' => e = .returned (.tuple #[]) ∧ St w [ledH l lm j M, rigH d sb mb j Z', rledH rl rj M, rrH rd rs rn ri rj Z, blkH ob #[.int .i64 4, .int .i64 account, .int .i64 id, .int .i64 now, .int .u64 kept, .slice ba bs.length bc] 95] W') := fun W h => by
            have := fuse_rig h.to1 id hid
            rw [hZ'] at this
            exact this.mono fun e W' h => ⟨h.1, h.2.to1⟩
          have HCB : Hid (∀ W, St w [ledH l lm j M, rigH d sb mb j Z', rledH rl rj M, rrH rd rs rn ri rj Z, blkH ob #[.int .i64 4, .int .i64 account, .int .i64 id, .int .i64 now, .int .u64 kept, .slice ba bs.length bc] 95] W → Calls Try.prog 40 #[.pointer (some ⟨rd, 0, none⟩), .int .i64 id] W fun e W' => e = .returned (.tuple #[]) ∧ St w [ledH l lm j M, rigH d sb mb j Z', rledH rl rj M, rrH rd rs rn ri rj Z', blkH ob #[.int .i64 4, .int .i64 account, .int .i64 id, .int .i64 now, .int .u64 kept, .slice ba bs.length bc] 95] W') := fun W h => by
            have := rfuse_rr h.to3 id hid
            rw [hZ'] at this
            exact this.mono fun e W' h => ⟨h.1, h.2.out3⟩
          clear hZ'
          go_wp2_with (first
            | (refine wpList_loadA rfl 95 _ rfl _ _ rfl _ _ hr Try.underlying95 rfl (info_op rfl) ?_; go_frame)
            | (refine wpList_alloc rfl 95 rfl _ Try.zero_op ?_; intro w7 hT7 hN7 hz7; rw [← HOB.out] at hN7 hz7 ⊢; go_frame)
            | (refine wpList_storeW rfl 95 _ _ rfl ob [.int .i64 4, .int .i64 account, .int .i64 id, .int .i64 now, .int .u64 kept, .slice ba bs.length bc] rfl rfl _ 95 hN7 rfl (info_op rfl) (by simp [Value.oneCell']) ?_
               intro w8 hT8 hN8 hz8
               have HS8 := Lib.hid ((HSt.out.more (hT7.trans hT8 (by intro x hx; simp only [List.mem_singleton] at hx; subst hx; exact .inr hge)) [blkH ob #[.int .i64 4, .int .i64 account, .int .i64 id, .int .i64 now, .int .u64 kept, .slice ba bs.length bc] 95] (· = ob) (Sep.one ⟨hN8, rfl⟩) (by rintro b rfl; exact hge)).perm List.perm_append_comm)
               have c0 := hN8.cells6.1
               have c1 := hN8.cells6.2.1
               have c2 := hN8.cells6.2.2.1
               have c3 := hN8.cells6.2.2.2.1
               have c4 := hN8.cells6.2.2.2.2.1
               have c5 := hN8.cells6.2.2.2.2.2
               clear hT7 hT8 hz7 hz8 hN7 hN8 hr
               go_frame)
            | (go_at_call 18; refine (HCA.out _ HS8.out).mono ?_; rintro e w9 ⟨rfl, h9⟩; have HS9 := Lib.hid h9; have c92 := h9.blk5.cells6.2.2.1; clear h9)
            | (go_at_call 40; refine (HCB.out _ HS9.out).mono ?_; rintro e w10 ⟨rfl, h10⟩; have HSX := Lib.hid h10; have cX2 := h10.blk5.cells6.2.2.1; clear h10 c92))
          clear HS9 HS8 HCA HCB c0 c1 c2 c3 c4 c5
          have cX2 := HSX.out.blk5.cells6.2.2.1
          have cX3 := HSX.out.blk5.cells6.2.2.2.1
          have HML : Hid (M.length ≤ 1000) := by
            have h1 := HSX.out.to1.rigOk.le
            have h2 := HSX.out.to1.rigOk.le64
            have h3 := HLX.out
            unfold Hid; omega
          go_wp2_with (first
            | (go_at_call 33; refine (of_any id HSX.out).mono ?_; rintro e wA ⟨rfl, hTA⟩; have HSA := Lib.hid (HSX.out.turn0 hTA); have cA2 := HSA.out.blk5.cells6.2.2.1; clear hTA HSX cX2 cX3)
            | (go_at_call 43; refine (rof_any id HML.out HSA.out.sw2).mono ?_; rintro e wB ⟨rfl, hTB⟩; have HSB := Lib.hid (HSA.out.turn0 hTB); clear hTB HSA cA2))
          go_loopw [24] (fun i wr2 => ∃ q : Nat, q ≤ 10 ∧ i = .int .i64 ((q : Int) - 1) ∧ St w [ledH l lm j M, rigH d sb mb j Z', rledH rl rj M, rrH rd rs rn ri rj Z', blkH ob #[.int .i64 4, .int .i64 account, .int .i64 id, .int .i64 now, .int .u64 kept, .slice ba bs.length bc] 95] wr2)
            (fun i _ => 10 - (intOf i + 1).toNat)
          case atStart => exact ⟨0, Nat.zero_le _, rfl, HSB.out⟩
          case round =>
            clear HSB
            obtain ⟨q, hq, rfl, hSq⟩ := hrel
            have HSq := Lib.hid hSq
            clear hSq
            have hq10 : (q : Int) ≤ 10 := by omega
            by_cases hlq : q < 10
            · have hlq' : (q : Int) < 10 := by omega
              have cq := HSq.out.blk5.cells6.2.2.2.1
              go_wp2_with fail
              go_region_held3 (fun w' => w'.cell? ⟨ob, 3, none⟩ = some (.int .i64 now))
                (first
                  | exact cq
                  | assumption
                  | exact hC9
                  | exact hC10
                  | exact hC11
                  | exact hC12)
                (first
                  | (go_at_call 29; refine (count_any ((q : Int) - 1) now hnow HML.out (HSq.out.turn0 (Turn.refl _ _).drew)).mono ?_; rintro e w9 ⟨rfl, hT9⟩; have HS9 := Lib.hid ((HSq.out.turn0 (Turn.refl _ _).drew).turn0 hT9); have hC9 := HS9.out.blk5.cells6.2.2.2.1)
                  | (go_at_call 44; refine (rcount_any ((q : Int) - 1) now hnow HML.out HS9.out.sw2).mono ?_; rintro e w10 ⟨rfl, hT10⟩; have HS10 := Lib.hid (HS9.out.turn0 hT10); have hC10 := HS10.out.blk5.cells6.2.2.2.1)
                  | (go_at_call 45; refine (suspended_any ((q : Int) - 1) now hnow HML.out HS10.out).mono ?_; rintro e w11 ⟨rfl, hT11⟩; have HS11 := Lib.hid (HS10.out.turn0 hT11); have hC11 := HS11.out.blk5.cells6.2.2.2.1)
                  | (go_at_call 46; refine (rsuspended_any ((q : Int) - 1) now hnow HML.out HS11.out.sw2).mono ?_; rintro e w12 ⟨rfl, hT12⟩; have HS12 := Lib.hid (HS11.out.turn0 hT12); have hC12 := HS12.out.blk5.cells6.2.2.2.1))
              go_wp2
              go_roundw
              case rel => exact ⟨q + 1, by omega, by go_num, HS12.out⟩
              case measure => show 10 - ((q : Int) + 1).toNat < 10 - ((q : Int) - 1 + 1).toNat; omega
            · obtain rfl : q = 10 := by omega
              go_wp2
              go_roundw
              case rel => exact ⟨k + 1, j, l, lm, rj, rl, Z', M, by omega, by omega, rfl, rfl, rfl, rfl, rfl, (HSq.out.perm (List.perm_append_comm (l₁ := [ledH l lm j M, rigH d sb mb j Z', rledH rl rj M, rrH rd rs rn ri rj Z']) (l₂ := [blkH ob #[.int .i64 4, .int .i64 account, .int .i64 id, .int .i64 now, .int .u64 kept, .slice ba bs.length bc] 95]))).drop, HLX.out⟩
              case measure => show n - ((k : Int) + 1).toNat < n - ((k : Int)).toNat; omega
      by_cases d5 : doo = 5
      · subst d5
        as_aux_lemma =>
          obtain ⟨Z', hZ'⟩ : ∃ x, (⟨Z.N, Z.crash (bit0 kept), none, -1, false⟩ : JSt) = x := ⟨_, rfl⟩
          obtain ⟨M', hM'⟩ : ∃ x, ledOf (Z.crash (bit0 kept)) = x := ⟨_, rfl⟩
          have HLX : Hid (M'.length ≤ Z'.recs.length) := by rw [← hZ', ← hM']; exact len_ledOf _
          have hzok := HSt.out.to1.rigOk
          have hzc := hzok.crash (bit0 kept)
          have HZC := Lib.hid (And.intro hzc hzok.le64)
          have HKP := Lib.hid HOI.out.kept
          have HZM := Lib.hid (And.intro hZ' hM')
          clear hzok hzc hZ' hM'
          go_wp2_with (first
            | (refine wpList_loadA rfl 95 _ rfl _ _ rfl _ _ hr Try.underlying95 rfl (info_op rfl) ?_; go_frame)
            | (refine wpList_alloc rfl 95 rfl _ Try.zero_op ?_; intro w7 hT7 hN7 hz7; rw [← HOB.out] at hN7 hz7 ⊢; go_frame)
            | (refine wpList_storeW rfl 95 _ _ rfl ob [.int .i64 5, .int .i64 account, .int .i64 id, .int .i64 now, .int .u64 kept, .slice ba bs.length bc] rfl rfl _ 95 hN7 rfl (info_op rfl) (by simp [Value.oneCell']) ?_
               intro w8 hT8 hN8 hz8
               have HS8 := Lib.hid ((HSt.out.more (hT7.trans hT8 (by intro x hx; simp only [List.mem_singleton] at hx; subst hx; exact .inr hge)) [blkH ob #[.int .i64 5, .int .i64 account, .int .i64 id, .int .i64 now, .int .u64 kept, .slice ba bs.length bc] 95] (· = ob) (Sep.one ⟨hN8, rfl⟩) (by rintro b rfl; exact hge)).perm List.perm_append_comm)
               have c0 := hN8.cells6.1
               have c1 := hN8.cells6.2.1
               have c2 := hN8.cells6.2.2.1
               have c3 := hN8.cells6.2.2.2.1
               have c4 := hN8.cells6.2.2.2.2.1
               have c5 := hN8.cells6.2.2.2.2.2
               clear hT7 hT8 hz7 hz8 hN7 hN8 hr
               go_frame)
            | (go_at_call 20; refine (crash_rig HS8.out.to1 kept).mono ?_; rintro e w9 ⟨rfl, h9⟩; have HS9 := Lib.hid h9.to1.drop; have c94 := h9.blk5.cells6.2.2.2.2.1; clear h9)
            | (go_at_call 41; refine (rcrash_rr HS9.out.to2 kept HKP.out.1 HKP.out.2).mono ?_; rintro e w10 ⟨rfl, news, h10⟩; have HS10 := Lib.hid h10.to1; clear h10 c94)
            | (go_at_call 31; refine (begun_any (Z.crash (bit0 kept)) Z.N (-1) false HS10.out HZC.out.1.1 HZC.out.2 HZC.out.1.2).mono ?_; rintro e w11 ⟨j2, l2, lm2, rfl, h11⟩; have HS11 := Lib.hid h11.to2; clear h11)
            | (go_at_call 35; refine (ropen_rr (Z.crash (bit0 kept)) Z.N (-1) false _ ⟨_, rfl⟩ HS11.out HZC.out.1.1 HZC.out.2 HZC.out.1.2).mono ?_; rintro e w12 ⟨rj2, rfl, h12⟩; have HS12 := Lib.hid h12; clear h12)
            | (go_at_call 36; refine (rlopen_any HS12.out).mono ?_; rintro e w13 ⟨rl2, rfl, h13⟩; have h14 := (h13.sw2.perm (List.perm_middle (l₁ := [_, _, _, _]))).drop; dsimp only at h14; rw [HZM.out.2, HZM.out.1] at h14; have HSX := Lib.hid h14; have cX2 := h14.blk5.cells6.2.2.1; clear h13 h14))
          clear HS9 HS8 HS10 HS11 HS12 c0 c1 c2 c3 c4 c5
          have cX2 := HSX.out.blk5.cells6.2.2.1
          have cX3 := HSX.out.blk5.cells6.2.2.2.1
          have HML : Hid (M'.length ≤ 1000) := by
            have h1 := HSX.out.to1.rigOk.le
            have h2 := HSX.out.to1.rigOk.le64
            have h3 := HLX.out
            unfold Hid; omega
          go_wp2_with (first
            | (go_at_call 33; refine (of_any id HSX.out).mono ?_; rintro e wA ⟨rfl, hTA⟩; have HSA := Lib.hid (HSX.out.turn0 hTA); have cA2 := HSA.out.blk5.cells6.2.2.1; clear hTA HSX cX2 cX3)
            | (go_at_call 43; refine (rof_any id HML.out HSA.out.sw2).mono ?_; rintro e wB ⟨rfl, hTB⟩; have HSB := Lib.hid (HSA.out.turn0 hTB); clear hTB HSA cA2))
          go_loopw [24] (fun i wr2 => ∃ q : Nat, q ≤ 10 ∧ i = .int .i64 ((q : Int) - 1) ∧ St w [ledH l2 lm2 j2 M', rigH d sb mb j2 Z', rledH rl2 rj2 M', rrH rd rs rn ri rj2 Z', blkH ob #[.int .i64 5, .int .i64 account, .int .i64 id, .int .i64 now, .int .u64 kept, .slice ba bs.length bc] 95] wr2)
            (fun i _ => 10 - (intOf i + 1).toNat)
          case atStart => exact ⟨0, Nat.zero_le _, rfl, HSB.out⟩
          case round =>
            clear HSB
            obtain ⟨q, hq, rfl, hSq⟩ := hrel
            have HSq := Lib.hid hSq
            clear hSq
            have hq10 : (q : Int) ≤ 10 := by omega
            by_cases hlq : q < 10
            · have hlq' : (q : Int) < 10 := by omega
              have cq := HSq.out.blk5.cells6.2.2.2.1
              go_wp2_with fail
              go_region_held3 (fun w' => w'.cell? ⟨ob, 3, none⟩ = some (.int .i64 now))
                (first
                  | exact cq
                  | assumption
                  | exact hC9
                  | exact hC10
                  | exact hC11
                  | exact hC12)
                (first
                  | (go_at_call 29; refine (count_any ((q : Int) - 1) now hnow HML.out (HSq.out.turn0 (Turn.refl _ _).drew)).mono ?_; rintro e w9 ⟨rfl, hT9⟩; have HS9 := Lib.hid ((HSq.out.turn0 (Turn.refl _ _).drew).turn0 hT9); have hC9 := HS9.out.blk5.cells6.2.2.2.1)
                  | (go_at_call 44; refine (rcount_any ((q : Int) - 1) now hnow HML.out HS9.out.sw2).mono ?_; rintro e w10 ⟨rfl, hT10⟩; have HS10 := Lib.hid (HS9.out.turn0 hT10); have hC10 := HS10.out.blk5.cells6.2.2.2.1)
                  | (go_at_call 45; refine (suspended_any ((q : Int) - 1) now hnow HML.out HS10.out).mono ?_; rintro e w11 ⟨rfl, hT11⟩; have HS11 := Lib.hid (HS10.out.turn0 hT11); have hC11 := HS11.out.blk5.cells6.2.2.2.1)
                  | (go_at_call 46; refine (rsuspended_any ((q : Int) - 1) now hnow HML.out HS11.out.sw2).mono ?_; rintro e w12 ⟨rfl, hT12⟩; have HS12 := Lib.hid (HS11.out.turn0 hT12); have hC12 := HS12.out.blk5.cells6.2.2.2.1))
              go_wp2
              go_roundw
              case rel => exact ⟨q + 1, by omega, by go_num, HS12.out⟩
              case measure => show 10 - ((q : Int) + 1).toNat < 10 - ((q : Int) - 1 + 1).toNat; omega
            · obtain rfl : q = 10 := by omega
              go_wp2
              go_roundw
              case rel => exact ⟨k + 1, j2, l2, lm2, rj2, rl2, Z', M', by omega, by omega, rfl, rfl, rfl, rfl, rfl, (HSq.out.perm (List.perm_append_comm (l₁ := [ledH l2 lm2 j2 M', rigH d sb mb j2 Z', rledH rl2 rj2 M', rrH rd rs rn ri rj2 Z']) (l₂ := [blkH ob #[.int .i64 5, .int .i64 account, .int .i64 id, .int .i64 now, .int .u64 kept, .slice ba bs.length bc] 95]))).drop, HLX.out⟩
              case measure => show n - ((k : Int) + 1).toNat < n - ((k : Int)).toNat; omega
      as_aux_lemma =>
        obtain ⟨e0, he0⟩ : ∃ x, (Z.append bs).1 = x := ⟨_, rfl⟩
        obtain ⟨Z', hZ'⟩ : ∃ x, (Z.append bs).2 = x := ⟨_, rfl⟩
        have HLX : Hid (M.length ≤ Z'.recs.length) := by
          have h1 := (JSt.append_le Z bs).1
          have h2 := HL.out
          rw [hZ'] at h1
          unfold Hid; omega
        have HCA : Hid (∀ W, St w [ledH l lm j M, rigH d sb mb j Z, rledH rl rj M, rrH rd rs rn ri rj Z, blkH ob #[.int .i64 doo, .int .i64 account, .int .i64 id, .int .i64 now, .int .u64 kept, .slice ba bs.length bc] 95] W → Calls Try.prog 19 #[.pointer (some ⟨j, 0, none⟩), .slice ba bs.length bc] W fun e W' => e = .returned (.int .i64 e0) ∧ St w [ledH l lm j M, rigH d sb mb j Z', rledH rl rj M, rrH rd rs rn ri rj Z, blkH ob #[.int .i64 doo, .int .i64 account, .int .i64 id, .int .i64 now, .int .u64 kept, .slice ba bs.length bc] 95] W') := fun W h => by
          have := append_rig h.to1 ba bs.length bs bc rfl (h.src0 HOI.out.src) (Apart.old HOI.out.src)
          rw [he0, hZ'] at this
          exact this.mono fun e W' h => ⟨h.1, h.2.to1⟩
        have HCB : Hid (∀ W, St w [ledH l lm j M, rigH d sb mb j Z', rledH rl rj M, rrH rd rs rn ri rj Z, blkH ob #[.int .i64 doo, .int .i64 account, .int .i64 id, .int .i64 now, .int .u64 kept, .slice ba bs.length bc] 95] W → Calls Try.prog 42 #[.pointer (some ⟨rj, 0, none⟩), .slice ba bs.length bc] W fun e W' => e = .returned (.int .i64 e0) ∧ St w [ledH l lm j M, rigH d sb mb j Z', rledH rl rj M, rrH rd rs rn ri rj Z', blkH ob #[.int .i64 doo, .int .i64 account, .int .i64 id, .int .i64 now, .int .u64 kept, .slice ba bs.length bc] 95] W') := fun W h => by
          have := rappend_rr h.to3 ba bs.length bs bc rfl (h.src0 HOI.out.src) (Apart.old HOI.out.src)
          rw [he0, hZ'] at this
          exact this.mono fun e W' h => ⟨h.1, h.2.out3⟩
        clear he0 hZ'
        go_wp2_with (first
          | (refine wpList_loadA rfl 95 _ rfl _ _ rfl _ _ hr Try.underlying95 rfl (info_op rfl) ?_; go_frame)
          | (refine wpList_alloc rfl 95 rfl _ Try.zero_op ?_; intro w7 hT7 hN7 hz7; rw [← HOB.out] at hN7 hz7 ⊢; go_frame)
          | (refine wpList_storeW rfl 95 _ _ rfl ob [.int .i64 doo, .int .i64 account, .int .i64 id, .int .i64 now, .int .u64 kept, .slice ba bs.length bc] rfl rfl _ 95 hN7 rfl (info_op rfl) (by simp [Value.oneCell']) ?_
             intro w8 hT8 hN8 hz8
             have HS8 := Lib.hid ((HSt.out.more (hT7.trans hT8 (by intro x hx; simp only [List.mem_singleton] at hx; subst hx; exact .inr hge)) [blkH ob #[.int .i64 doo, .int .i64 account, .int .i64 id, .int .i64 now, .int .u64 kept, .slice ba bs.length bc] 95] (· = ob) (Sep.one ⟨hN8, rfl⟩) (by rintro b rfl; exact hge)).perm List.perm_append_comm)
             have c0 := hN8.cells6.1
             have c1 := hN8.cells6.2.1
             have c2 := hN8.cells6.2.2.1
             have c3 := hN8.cells6.2.2.2.1
             have c4 := hN8.cells6.2.2.2.2.1
             have c5 := hN8.cells6.2.2.2.2.2
             clear hT7 hT8 hz7 hz8 hN7 hN8 hr
             go_frame))
        go_region_held3 (fun w' => w'.cell? ⟨ob, 5, none⟩ = some (.slice ba bs.length bc))
          (first
            | exact c5
            | assumption
            | exact HS9.out.blk5.cells6.2.2.2.2.2
            | exact HS10.out.blk5.cells6.2.2.2.2.2)
          (first
            | (go_at_call 19; refine (HCA.out _ (HS8.out.turn0 (Turn.refl _ _).drew)).mono ?_; rintro e w9 ⟨rfl, h9⟩; have HS9 := Lib.hid h9)
            | (go_at_call 42; refine (HCB.out _ HS9.out).mono ?_; rintro e w10 ⟨rfl, h10⟩; have HS10 := Lib.hid h10))
        have HSX := Lib.hid HS10.out
        clear HS9 HS10 HS8 HCA HCB h9 h10 c0 c1 c2 c3 c4 c5
        have cX2 := HSX.out.blk5.cells6.2.2.1
        have cX3 := HSX.out.blk5.cells6.2.2.2.1
        have HML : Hid (M.length ≤ 1000) := by
          have h1 := HSX.out.to1.rigOk.le
          have h2 := HSX.out.to1.rigOk.le64
          have h3 := HLX.out
          unfold Hid; omega
        go_wp2_with (first
          | (go_at_call 33; refine (of_any id HSX.out).mono ?_; rintro e wA ⟨rfl, hTA⟩; have HSA := Lib.hid (HSX.out.turn0 hTA); have cA2 := HSA.out.blk5.cells6.2.2.1; clear hTA HSX cX2 cX3)
          | (go_at_call 43; refine (rof_any id HML.out HSA.out.sw2).mono ?_; rintro e wB ⟨rfl, hTB⟩; have HSB := Lib.hid (HSA.out.turn0 hTB); clear hTB HSA cA2))
        go_loopw [24] (fun i wr2 => ∃ q : Nat, q ≤ 10 ∧ i = .int .i64 ((q : Int) - 1) ∧ St w [ledH l lm j M, rigH d sb mb j Z', rledH rl rj M, rrH rd rs rn ri rj Z', blkH ob #[.int .i64 doo, .int .i64 account, .int .i64 id, .int .i64 now, .int .u64 kept, .slice ba bs.length bc] 95] wr2)
          (fun i _ => 10 - (intOf i + 1).toNat)
        case atStart => exact ⟨0, Nat.zero_le _, rfl, HSB.out⟩
        case round =>
          clear HSB
          obtain ⟨q, hq, rfl, hSq⟩ := hrel
          have HSq := Lib.hid hSq
          clear hSq
          have hq10 : (q : Int) ≤ 10 := by omega
          by_cases hlq : q < 10
          · have hlq' : (q : Int) < 10 := by omega
            have cq := HSq.out.blk5.cells6.2.2.2.1
            go_wp2_with fail
            go_region_held3 (fun w' => w'.cell? ⟨ob, 3, none⟩ = some (.int .i64 now))
              (first
                | exact cq
                | assumption
                | exact hC9
                | exact hC10
                | exact hC11
                | exact hC12)
              (first
                | (go_at_call 29; refine (count_any ((q : Int) - 1) now hnow HML.out (HSq.out.turn0 (Turn.refl _ _).drew)).mono ?_; rintro e w9 ⟨rfl, hT9⟩; have HS9 := Lib.hid ((HSq.out.turn0 (Turn.refl _ _).drew).turn0 hT9); have hC9 := HS9.out.blk5.cells6.2.2.2.1)
                | (go_at_call 44; refine (rcount_any ((q : Int) - 1) now hnow HML.out HS9.out.sw2).mono ?_; rintro e w10 ⟨rfl, hT10⟩; have HS10 := Lib.hid (HS9.out.turn0 hT10); have hC10 := HS10.out.blk5.cells6.2.2.2.1)
                | (go_at_call 45; refine (suspended_any ((q : Int) - 1) now hnow HML.out HS10.out).mono ?_; rintro e w11 ⟨rfl, hT11⟩; have HS11 := Lib.hid (HS10.out.turn0 hT11); have hC11 := HS11.out.blk5.cells6.2.2.2.1)
                | (go_at_call 46; refine (rsuspended_any ((q : Int) - 1) now hnow HML.out HS11.out.sw2).mono ?_; rintro e w12 ⟨rfl, hT12⟩; have HS12 := Lib.hid (HS11.out.turn0 hT12); have hC12 := HS12.out.blk5.cells6.2.2.2.1))
            go_wp2
            go_roundw
            case rel => exact ⟨q + 1, by omega, by go_num, HS12.out⟩
            case measure => show 10 - ((q : Int) + 1).toNat < 10 - ((q : Int) - 1 + 1).toNat; omega
          · obtain rfl : q = 10 := by omega
            go_wp2
            go_roundw
            case rel => exact ⟨k + 1, j, l, lm, rj, rl, Z', M, by omega, by omega, rfl, rfl, rfl, rfl, rfl, (HSq.out.perm (List.perm_append_comm (l₁ := [ledH l lm j M, rigH d sb mb j Z', rledH rl rj M, rrH rd rs rn ri rj Z']) (l₂ := [blkH ob #[.int .i64 doo, .int .i64 account, .int .i64 id, .int .i64 now, .int .u64 kept, .slice ba bs.length bc] 95]))).drop, HLX.out⟩
            case measure => show n - ((k : Int) + 1).toNat < n - ((k : Int)).toNat; omega
    · have hx : k = n ∨ k = 60 := by omega
      rcases hx with rfl | rfl
      · go_wp2
        go_ret
        exact ⟨rfl, HSt.out.tw⟩
      · go_wp2
        all_goals
          go_ret
          exact ⟨rfl, HSt.out.tw⟩
end Go.Proofs.Ytkifggnjpgoamaa
