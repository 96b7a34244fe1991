/- palfreylaw23.StrikesSure: the walk. -/
import Derived.Test.YtkifggnjpgoamaaSSP
import Derived.Test.YtkifggnjpgoamaaBegun
import Derived.Test.YtkifggnjpgoamaaArgs
namespace Go.Proofs.Ytkifggnjpgoamaa
open Go.RowKit

theorem Try.zero_bool : ∀ w, (zeroValue 4).run Try.prog w = .ok (.bool false) w := fun _ => by kernel_rfl
theorem told_val (M : Led) (k : Int) : (mget (asM Value.bool (toldOf M)) k).getD (.bool false) = .bool (aget M k).isSome := by
  rw [mget_asM, aget_told]
  cases aget M k <;> rfl
theorem and7 (q : Nat) (h : q ≤ 40) : bits .and .i64 (q : Int) 7 = ((q % 8 : Nat) : Int) := by
  have : ∀ x : Fin 41, bits .and .i64 (x.1 : Int) 7 = ((x.1 % 8 : Nat) : Int) := by decide +kernel
  exact this ⟨q, by omega⟩

theorem St.sw {w0 w : World} {A B C : HA} {R : List HA} (h : St w0 (A :: B :: C :: R) w) : St w0 (A :: C :: B :: R) w := h.perm ((List.Perm.swap C B R).cons A)

set_option maxRecDepth 100000 in
set_option maxHeartbeats 4000000 in
theorem strikesSure_any (w : World) (a : Option Addr) (n c : Nat) (zs : List Int) (fuse mask : Int) (hz : zs.length = n) (hs : Src w (.slice a n c) n (zs.map (Value.int .i64))) (hw : ∀ z ∈ zs, (Lit.int .i64 z).wf = true)
    (hf : -9223372036854775808 ≤ fuse ∧ fuse ≤ 9223372036854775807) (hn : n ≤ maxLen) :
    Calls Try.prog 6 #[.slice a n c, .int .i64 fuse, .int .u64 mask] w fun e w' => e = .returned (.bool true) ∧ Turn [] w w' := by
  have HS := Lib.hid hs
  have HZ := Lib.hid hz
  have HW := Lib.hid hw
  have Hf := Lib.hid hf
  have Hn := Lib.hid hn
  clear hs hz hw hf hn
  go_enter Try.func6, Try.ntmps6
  go_wp2_with fail
  refine (awake23_any (St.new w)).mono ?_
  rintro e w1 ⟨rfl, h1⟩
  have H1 := Lib.hid h1
  clear h1
  go_wp2_with fail
  refine (new_rig 64 H1.out (by omega) (by omega)).mono ?_
  rintro e w2 ⟨d, sb, mb, rfl, h2⟩
  have H2 := Lib.hid h2
  clear h2 H1
  go_wp2_with fail
  refine (begun_any [] 64 (-1) false H2.out (by simp) (by omega) (by simp)).mono ?_
  rintro e w3 ⟨j, l, lm, rfl, h3⟩
  have H3 := Lib.hid h3
  clear h3 H2
  by_cases hbig : 40 < n
  · have hbig' : (40 : Int) < (n : Int) := by omega
    go_wp2
    go_ret
    exact ⟨rfl, H3.out.tw⟩
  have hbig' : ¬ (40 : Int) < (n : Int) := by omega
  by_cases hneg : fuse < 0
  · go_wp2
    go_ret
    exact ⟨rfl, H3.out.tw⟩
  have hf0 : 0 ≤ fuse := by omega
  have hn40 : (n : Int) ≤ 40 := by omega
  clear hbig hbig' hneg
  go_wp2_with fail
  refine (fuse_rig H3.out.to1 fuse Hf.out.2).mono ?_
  rintro e w4 ⟨rfl, h4⟩
  have hmm := @run_makeMap Try.prog
  have H4 := Lib.hid (h4.newMap)
  have hmax : max fuse (-1) = fuse := by omega
  rw [hmax] at H4
  clear h4 H3 hmax
  go_wp2_with fail
  go_loopw [13, 14] (fun u i wr => ∃ (q : Nat) (Z : JSt) (M : Led) (under : Int), q ≤ n ∧ i = .int .i64 q ∧ u = .int .i64 under ∧ St w [ledH l lm j M, rigH d sb mb j Z, mapH w4.heap.size (asM Value.bool (toldOf M))] wr ∧ Hid (SSI q Z M under))
    (fun _ i _ => n - (intOf i).toNat)
  case atStart =>
    exact ⟨0, _, _, -1, Nat.zero_le _, rfl, rfl, H4.out.to2.sw, ⟨rfl, by simp, rfl, (fun p hp => by simp [ledOf] at hp), hf0, .inl ⟨rfl, rfl, rfl⟩⟩⟩
  case round =>
    obtain ⟨q, Z, M, under, hq, rfl, rfl, hS, HI⟩ := hrel
    have HSt := Lib.hid hS
    clear hS H4
    have hq40 : (q : Int) ≤ 40 := by omega
    by_cases hlt : q < n
    · have hlt' : (q : Int) < (n : Int) := by omega
      obtain ⟨id, hid⟩ : ∃ z, zs[q]? = some z := ⟨_, List.getElem?_eq_getElem (by rw [HZ.out]; exact hlt)⟩
      rcases HSt.out.src0 HS.out with ⟨h0, _⟩ | ⟨b, o, c', hv, _, _, hb, hr⟩
      · omega
      cases hv
      have cid := hr q (.int .i64 id) (by rw [List.getElem?_map, hid]; rfl)
      have hbw : b < w.heap.size := by
        rcases HS.out with ⟨h0, _⟩ | ⟨b', o', c', hv', _, _, hb', _⟩
        · omega
        · cases hv'; exact hb'
      have cw : w.cell? ⟨b, o + q, none⟩ = some (.int .i64 id) := by rw [← HSt.out.tw.cell (p := ⟨b, o + q, none⟩) hbw (by simp)]; exact cid
      have Hcell : Hid (∀ W, Turn [] w W → W.cell? ⟨b, o + q, none⟩ = some (.int .i64 id)) := fun W hW => (hW.cell (p := ⟨b, o + q, none⟩) hbw (by simp)).trans cw
      clear hid hr cw
      have hstep := HI.out.step (by omega) (q % 8) (by omega) id
      go_wp2_with fail
      rw [and7 q (by omega)]
      refine (add_any ((q % 8 : Nat) : Int) id 5 HSt.out).mono ?_
      rintro e w5 ⟨rfl, h5⟩
      have c5 := Hcell.out w5 h5.tw
      clear cid
      obtain ⟨e0, he0⟩ : ∃ x, (addF ((q % 8 : Nat) : Int) id 5 Z M).1 = x := ⟨_, rfl⟩
      obtain ⟨Z', hZ'⟩ : ∃ x, (addF ((q % 8 : Nat) : Int) id 5 Z M).2.1 = x := ⟨_, rfl⟩
      obtain ⟨M', hM'⟩ : ∃ x, (addF ((q % 8 : Nat) : Int) id 5 Z M).2.2 = x := ⟨_, rfl⟩
      rw [he0, hZ', hM'] at hstep
      rw [hZ', hM'] at h5
      rw [he0]
      clear he0 hZ' hM' HI HSt
      rcases hstep with ⟨rfl, g1, rfl, g3⟩ | ⟨rfl, rfl, rfl, g3⟩ | ⟨g0, g1, rfl, g3⟩
      · have H5 := Lib.hid h5
        have HG := Lib.hid g3
        have hm5 := h5.to2.map
        have htv := told_val M id
        rw [g1] at htv
        have HTV := Lib.hid htv
        have hput := mput_asM Value.bool (toldOf M) id true
        rw [aput_new (by rw [aget_told, g1]; rfl)] at hput
        have HP := Lib.hid hput
        clear h5 g1 g3 htv hput
        go_wp2_with (first
          | (refine wpList_mget rfl 81 _ _ false rfl Try.underlying81 Try.underlying3 _ Try.zero_bool w4.heap.size id rfl rfl _ hm5 ?_; simp only [HTV.out, Bool.false_eq_true, if_false]; go_frame)
          | (refine wpList_mput rfl 81 _ _ _ rfl Try.underlying81 Try.underlying3 w4.heap.size id (.bool true) rfl rfl rfl _ hm5 ?_
             intro w6 hM6 hT6
             rw [HP.out] at hM6
             have H6 := Lib.hid (H5.out.to2.setMap (m' := asM Value.bool (toldOf (M ++ [(id, ⟨((q % 8 : Nat) : Int), 5, false⟩)]))) hT6 (by simpa [toldOf, asM] using hM6))
             clear hM6 hT6
             go_frame))
        go_roundw
        case rel => exact ⟨q + 1, Z', _, under, by omega, rfl, rfl, H6.out.out2, HG⟩
        case measure => show n - ((q : Int) + 1).toNat < n - ((q : Int)).toNat; omega
      · have H5 := Lib.hid h5
        have HG := Lib.hid g3
        clear h5 g3
        go_wp2
        go_roundw
        case rel => exact ⟨q + 1, Z', _, id, by omega, rfl, rfl, H5.out, HG⟩
        case measure => show n - ((q : Int) + 1).toNat < n - ((q : Int)).toNat; omega
      · have H5 := Lib.hid h5
        have HG := Lib.hid g3
        have g0' : (e0 == 0) = false := by rw [beq_eq_false_iff_ne]; exact g0
        by_cases h13 : e0 = 13
        · subst h13
          have gu : ¬ under < 0 := by have := g1 rfl; omega
          clear h5 g3 g1 g0 g0'
          go_wp2
          go_roundw
          case rel => exact ⟨q + 1, Z', _, under, by omega, rfl, rfl, H5.out, HG⟩
          case measure => show n - ((q : Int) + 1).toNat < n - ((q : Int)).toNat; omega
        · have g13 : (e0 == 13) = false := by rw [beq_eq_false_iff_ne]; exact h13
          clear h5 g3 g1 g0 h13
          go_wp2
          go_roundw
          case rel => exact ⟨q + 1, Z', _, under, by omega, rfl, rfl, H5.out, HG⟩
          case measure => show n - ((q : Int) + 1).toNat < n - ((q : Int)).toNat; omega
    · obtain rfl : q = n := by omega
      have hz := HSt.out.to1.rigOk
      have hzc := hz.crash (bit0 mask)
      have HN := Lib.hid HI.out.N
      have hN64 := HI.out.N
      have HC := Lib.hid (HI.out.crash (bit0 mask))
      have HCP := Lib.hid (HI.out.crashPlain (bit0 mask))
      have hMl : M.length ≤ 40 := by rw [HI.out.led]; have := len_ledOf Z.recs; have := HI.out.few; omega
      have HZ1 := Lib.hid hz.le64
      have HZC := Lib.hid hzc
      have hM2l : (ledOf (Z.crash (bit0 mask))).length ≤ 64 := by have := len_ledOf (Z.crash (bit0 mask)); have := hzc.1; omega
      have HW2 := Lib.hid (wf_ledOf (Z.crash (bit0 mask)))
      have hmk := HI.out.way
      have hul : under = -1 ∨ 0 ≤ under := by rcases hmk with h | h; exact .inl h.2.2; exact .inr h.2.1
      clear hmk hz hzc hN64 HI
      go_wp2_with fail
      refine (crash_rig HSt.out.to1 mask).mono ?_
      rintro e w5 ⟨rfl, h5⟩
      have H5 := Lib.hid h5
      clear h5 HSt
      go_wp2_with fail
      refine (begun_any (Z.crash (bit0 mask)) Z.N (-1) false H5.out HZC.out.1 HZ1.out HZC.out.2).mono ?_
      rintro e w6 ⟨j2, l2, lm2, rfl, h6⟩
      obtain ⟨M2, hM2⟩ : ∃ x, ledOf (Z.crash (bit0 mask)) = x := ⟨_, rfl⟩
      rw [hM2] at h6 hM2l HW2 HC HCP
      obtain ⟨Z2, hZ2⟩ : ∃ x, (⟨Z.N, Z.crash (bit0 mask), none, -1, false⟩ : JSt) = x := ⟨_, rfl⟩
      rw [hZ2] at h6
      have H6 := Lib.hid h6
      have HX : Hid (M2 = M ∨ ∃ s, M2 = M ++ [(under, s)]) := by
        rcases HC.out with h | h
        · exact .inl h.1
        · obtain ⟨_, _, a, _, h⟩ := h; exact .inr ⟨_, h⟩
      have HSum := Lib.hid (sumC_all M2 HCP.out)
      clear h6 H5 hM2 hZ2 HZC HZ1 HCP HN
      go_wp2_with fail
      go_loopw [18, 19] (fun s i wr => ∃ k : Nat, k ≤ 8 ∧ i = .int .i64 k ∧ s = .int .i64 (sumC M2 k) ∧ St w [ledH l2 lm2 j2 M2, rigH d sb mb j2 Z2, ledH l lm j M, mapH w4.heap.size (asM Value.bool (toldOf M))] wr)
        (fun _ i _ => 8 - (intOf i).toNat)
      case atStart => exact ⟨0, by omega, rfl, rfl, H6.out⟩
      case round =>
        clear H6
        obtain ⟨k, hk, rfl, rfl, hS⟩ := hrel
        have HSt := Lib.hid hS
        clear hS
        have hk8 : (k : Int) ≤ 8 := by omega
        have hsum := sumC_le M2 k
        have hsum2 : sumC M2 k ≤ 512 := Nat.le_trans hsum (Nat.le_trans (Nat.mul_le_mul_right _ hk) (by omega))
        have hsum3 : (sumC M2 k : Int) ≤ 512 := by omega
        clear hsum hsum2
        by_cases hlt : k < 8
        · have hlt' : (k : Int) < 8 := by omega
          have hc1 := countM_le M2 k 5
          have hc2 : (countM M2 k 5 : Int) ≤ 64 := by omega
          have HSS : Hid (sumC M2 (k + 1) = sumC M2 k + countM M2 k 5) := rfl
          clear hc1
          go_wp2_with fail
          refine (count_any (k : Int) 5 (by omega) (by omega) HSt.out).mono ?_
          rintro e w7 ⟨rfl, hT7⟩
          have H7 := Lib.hid (HSt.out.turn0 hT7)
          clear hT7 HSt
          go_wp2
          go_roundw
          case rel => exact ⟨k + 1, by omega, rfl, by rw [HSS.out]; go_num, H7.out⟩
          case measure => show 8 - ((k : Int) + 1).toNat < 8 - ((k : Int)).toNat; omega
        · obtain rfl : k = 8 := by omega
          rw [HSum.out]
          clear hsum3
          go_wp2_with fail
          refine (of_any under HSt.out).mono ?_
          rintro e w7 ⟨rfl, hT7⟩
          have H7 := Lib.hid (HSt.out.turn0 hT7)
          have hm7 := (HSt.out.turn0 hT7).to3.map
          have hml : (asM Value.bool (toldOf M)).length = M.length := by simp [asM, toldOf]
          have HML := Lib.hid hml
          clear hT7 HSt hml
          have hM40 : (M.length : Int) ≤ 40 := by omega
          have HWant : Hid ((aget M2 under).isSome = false ∧ M2 = M ∨ (aget M2 under).isSome = true ∧ 0 ≤ under ∧ M2.length = M.length + 1) := by
            rcases HC.out with h | h
            · exact .inl ⟨by rw [h.1, h.2]; rfl, h.1⟩
            · obtain ⟨g1, g2, a, _, g3⟩ := h
              refine .inr ⟨?_, g1, by rw [g3]; simp⟩
              rw [g3, aget_append, g2, aget_one, if_pos rfl]; rfl
          have hp : ∃ p, (aget M2 under).isSome = p := ⟨_, rfl⟩
          obtain ⟨p, hp⟩ := hp
          rw [hp] at HWant ⊢
          clear hp
          obtain ⟨want, hw1⟩ : ∃ x : Nat, M2.length = x := ⟨_, rfl⟩
          have hway : (p = false ∧ under = -1 ∧ M.length = want) ∨ (p = false ∧ 0 ≤ under ∧ M.length = want) ∨ (p = true ∧ 0 ≤ under ∧ M.length + 1 = want) := by
            rcases HWant.out with ⟨h1, h2⟩ | ⟨h1, h2, h3⟩
            · rcases hul with h | h
              · exact .inl ⟨h1, h, by rw [← h2]; exact hw1⟩
              · exact .inr (.inl ⟨h1, h, by rw [← h2]; exact hw1⟩)
            · exact .inr (.inr ⟨h1, h2, by omega⟩)
          rw [hw1]
          clear hul HWant hw1 hMl hM2l
          rcases hway with ⟨rfl, rfl, hw2⟩ | ⟨rfl, hu0, hw2⟩ | ⟨rfl, hu0, hw2⟩
          all_goals
            have HWN := Lib.hid hw2
            clear hw2
            go_wp2_with (first
              | (refine wpList_mlen rfl _ rfl Try.underlying81 w4.heap.size rfl _ hm7 ?_; rw [HML.out]; go_frame))
            go_loopw [24] (fun i wr => ∃ k : Nat, k ≤ q ∧ i = .int .i64 k ∧ St w [ledH l2 lm2 j2 M2, rigH d sb mb j2 Z2, ledH l lm j M, mapH w4.heap.size (asM Value.bool (toldOf M))] wr)
              (fun i _ => q - (intOf i).toNat)
            case atStart => exact ⟨0, Nat.zero_le _, rfl, H7.out⟩
            case round =>
              clear H7 hm7
              obtain ⟨k, hk, rfl, hS⟩ := hrel
              have HSt := Lib.hid hS
              clear hS
              have hk40 : (k : Int) ≤ 40 := by omega
              by_cases hlt : k < q
              · have hlt' : (k : Int) < (q : Int) := by omega
                obtain ⟨id, hid⟩ : ∃ z, zs[k]? = some z := ⟨_, List.getElem?_eq_getElem (by rw [HZ.out]; exact hlt)⟩
                rcases HS.out with ⟨h0, _⟩ | ⟨b, o, c', hv, _, _, hb, hr⟩
                · omega
                cases hv
                have cw := hr k (.int .i64 id) (by rw [List.getElem?_map, hid]; rfl)
                have Hcell : Hid (∀ W, Turn [] w W → W.cell? ⟨b, o + k, none⟩ = some (.int .i64 id)) := fun W hW => (hW.cell (p := ⟨b, o + k, none⟩) hb (by simp)).trans cw
                clear hid hr cw
                have ck := Hcell.out wr HSt.out.tw
                have htv := told_val M id
                have hth := third HX.out id
                obtain ⟨x2, hx2⟩ : ∃ x, (aget M2 id).isSome = x := ⟨_, rfl⟩
                obtain ⟨x1, hx1⟩ : ∃ x, (aget M id).isSome = x := ⟨_, rfl⟩
                have HX2 := Lib.hid hx2
                rw [hx1] at htv hth
                rw [hx2] at hth
                have HTV := Lib.hid htv
                have HTH := Lib.hid hth
                clear hx1 hx2 htv hth
                go_wp2_with fail
                refine (of_any id HSt.out).mono ?_
                rintro e w8 ⟨rfl, hT8⟩
                have h8 := HSt.out.turn0 hT8
                have H8 := Lib.hid h8
                have c8 := Hcell.out w8 h8.tw
                have hm8 := h8.to3.map
                rw [HX2.out]
                clear h8 hT8 HSt ck
                cases x1
                · cases x2
                  · go_wp2_with (first
                      | (refine wpList_mget rfl 81 _ _ false rfl Try.underlying81 Try.underlying3 _ Try.zero_bool w4.heap.size id rfl rfl _ hm8 ?_; simp only [HTV.out, Bool.false_eq_true, if_false]; go_frame)
                      | (refine wpList_mgetW (by rfl) _ _ false rfl Try.underlying81 Try.underlying3 _ Try.zero_bool w4.heap.size id rfl rfl _ hm8 ?_; simp only [HTV.out, Bool.false_eq_true, if_false]; go_frame))
                    go_roundw
                    case rel => exact ⟨k + 1, by omega, rfl, H8.out⟩
                    case measure => show q - ((k : Int) + 1).toNat < q - ((k : Int)).toNat; omega
                  · have he := HTH.out.2 rfl rfl
                    subst he
                    go_wp2_with (first
                      | (refine wpList_mget rfl 81 _ _ false rfl Try.underlying81 Try.underlying3 _ Try.zero_bool w4.heap.size _ rfl rfl _ hm8 ?_; simp only [HTV.out, Bool.false_eq_true, if_false]; go_frame)
                      | (refine wpList_mgetW (by rfl) _ _ false rfl Try.underlying81 Try.underlying3 _ Try.zero_bool w4.heap.size _ rfl rfl _ hm8 ?_; simp only [HTV.out, Bool.false_eq_true, if_false]; go_frame))
                    go_roundw
                    case rel => exact ⟨k + 1, by omega, rfl, H8.out⟩
                    case measure => show q - ((k : Int) + 1).toNat < q - ((k : Int)).toNat; omega
                · have he := HTH.out.1 rfl
                  subst he
                  have HAdd : Hid (addF 0 id 9 Z2 M2 = (9, Z2, M2)) := add_twice HW2.out HX2.out 0 (by omega) 9 rfl Z2
                  go_wp2_with (first
                    | (refine wpList_mget rfl 81 _ _ false rfl Try.underlying81 Try.underlying3 _ Try.zero_bool w4.heap.size id rfl rfl _ hm8 ?_; simp only [HTV.out, Bool.false_eq_true, if_false]; go_frame)
                    | (go_at_call 32; refine (add_any 0 id 9 H8.out).mono ?_; rintro e w9 ⟨rfl, h9⟩; rw [HAdd.out] at h9 ⊢; have H9 := Lib.hid h9; have c9 := Hcell.out w9 h9.tw; have hm9 := h9.to3.map; clear h9 c8; dsimp only)
                    | (refine wpList_mgetW (by rfl) _ _ false rfl Try.underlying81 Try.underlying3 _ Try.zero_bool w4.heap.size id rfl rfl _ hm9 ?_; simp only [HTV.out, Bool.false_eq_true, if_false]; go_frame))
                  go_roundw
                  case rel => exact ⟨k + 1, by omega, rfl, H9.out⟩
                  case measure => show q - ((k : Int) + 1).toNat < q - ((k : Int)).toNat; omega
              · obtain rfl : k = q := by omega
                obtain rfl := HWN.out
                go_wp2
                go_ret
                refine ⟨?_, HSt.out.tw⟩
                simp
end Go.Proofs.Ytkifggnjpgoamaa
