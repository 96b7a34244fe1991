/- palfreylaw22.JournalSure: the walk. -/
import Derived.Test.YtkifggnjpgoamaaSureA
namespace Go.Proofs.Ytkifggnjpgoamaa
open Go.RowKit

set_option maxRecDepth 100000 in
set_option maxHeartbeats 4000000 in
theorem journalSure_any (w : World) (a : Option Addr) (c : Nat) (vs : List Value) (rs : List (List UInt8)) (fuse m0 m1 : Int) (hR : RowsSrc w (.slice a rs.length c) vs rs) (h1 : ∀ v ∈ vs, ∃ a n c, v = .slice a n c)
    (hf : -9223372036854775808 ≤ fuse ∧ fuse ≤ 9223372036854775807) (hn : rs.length ≤ maxLen) :
    Calls Try.prog 4 #[.slice a rs.length c, .int .i64 fuse, .agg #[.int .u64 m0, .int .u64 m1]] w fun e w' => e = .returned (.bool true) ∧ Turn [] w w' := by
  have HR := Lib.hid hR
  have H1 := Lib.hid h1
  have Hn := Lib.hid hn
  have Hf := Lib.hid hf
  clear hR h1 hn hf
  go_enter Try.func4, Try.ntmps4
  go_wp2_with fail
  have hB0 := Blk.new w #[.int .u64 m0, .int .u64 m1] 52
  have hT0 : Turn [] w (w.alloc (.cells #[.int .u64 m0, .int .u64 m1] 52)) := (Turn.refl _ _).alloc _
  refine (awake_any _).mono ?_
  rintro e w1 ⟨rfl, hT1⟩
  have HB1 := Lib.hid (hB0.turn hT1 (by simp))
  have HT1 := Lib.hid (hT0.trans hT1 (by simp))
  have hz1 : w.heap.size < w1.heap.size := HB1.out.lt
  clear hB0 hT0 hT1
  go_wp2_with fail
  refine (new_ok 64 w1 (by omega) (by omega)).mono ?_
  rintro e w2 ⟨d, sb, mb, rfl, g1, g2, g3, hT2, hD2⟩
  have HD2 := Lib.hid hD2
  have HT2 := Lib.hid hT2
  have hz2 := hT2.size
  clear hD2 hT2
  go_wp2_with fail
  refine (open_written d sb mb _ [] 64 w2 HD2.out rfl (written_nil 64).symm (by simp) (by omega) (by simp)).mono ?_
  rintro e w3 ⟨j, rfl, hJ3, hT3⟩
  have HJ3 := Lib.hid hJ3
  have HD3 := Lib.hid (HD2.out.turn hT3 (by simp) (by simp) (by simp))
  have HB3 := Lib.hid ((HB1.out.turn HT2.out (by simp)).turn hT3 (by simp))
  have HT3 := Lib.hid ((HT1.out.trans HT2.out (by simp)).trans hT3 (by simp))
  have hz3 := hT3.size
  clear hJ3 hT3
  by_cases hbig : 60 < rs.length
  · have hbig' : (60 : Int) < (rs.length : Int) := by omega
    go_wp2
    go_ret
    exact ⟨rfl, HT3.out⟩
  · have hbig' : ¬ (60 : Int) < (rs.length : Int) := by omega
    by_cases hneg : fuse < 0
    · go_wp2
      go_ret
      exact ⟨rfl, HT3.out⟩
    · have lD2 := HD2.out.blk.lt
      have lS2 := HD2.out.row.lt
      have lM2 := HD2.out.soon.lt
      have hI : SureI w d sb mb w.heap.size m0 m1 j [] (.slice none 0 0) [] (.slice none 0 0) [] ⟨written [] 64, [], -1, false⟩ w3 := by
        refine ⟨HT3.out, ?_, ⟨by omega, by omega, by omega, by omega, by omega, by omega, by omega⟩, HB3.out, _, [], [], HJ3.out.here, fun b hb => ⟨by omega, by omega, by omega, by omega, by omega⟩, RowsAt.nil _, by simp [blockOf], by simp, RowsAt.nil _, by simp [blockOf], by simp, by simp⟩
        rw [written_nil]; exact HD3.out
      have HI := Lib.hid hI
      clear hI HJ3 HD3 HB3 HT3 HD2 HT2 HT1 HB1 lD2 lS2 lM2 g1 g2 g3 hz3 hz2 hz1
      have hf0 : 0 ≤ fuse := by omega
      have hrs : (rs.length : Int) ≤ 60 := by omega
      clear hbig hbig' hneg
      go_wp2_with fail
      go_loopw [10, 12, 13] (fun jv sv i wr => ∃ (k j : Nat) (recs : List (List UInt8)) (f : Int), k ≤ 2 ∧ i = .int .i64 k ∧ jv = .pointer (some ⟨j, 0, none⟩) ∧
          SureI w d sb mb w.heap.size m0 m1 j recs sv recs (.slice none 0 0) [] ⟨written recs 64, [], f, false⟩ wr ∧ recs.length ≤ 26 * k ∧ Hid (∀ r ∈ recs, r.length ≤ 59))
        (fun _ _ i _ => 2 - (intOf i).toNat)
      case atStart => exact ⟨0, j, [], -1, by omega, rfl, rfl, HI.out, by simp, by unfold Hid; simp⟩
      case round =>
        clear HI
        obtain ⟨k, j, recs, f, hk, rfl, rfl, hI, hrl, H59⟩ := hrel
        have HI := Lib.hid hI
        clear hI
        have hk2 : (k : Int) ≤ 2 := by omega
        by_cases hend : k = 2
        · subst hend
          go_wp2
          go_ret
          exact ⟨rfl, HI.out.tw⟩
        · have hlt : (k : Int) < 2 := by omega
          go_wp2_with fail
          refine (fuse_any d sb mb _ fuse _ HI.out.disk Hf.out.2).mono ?_
          rintro e w4 ⟨rfl, hT4, hD4⟩
          have HI4 := Lib.hid (HI.out.disks (hT4.toP (by simp)) hD4)
          simp only [show max fuse (-1) = fuse from by omega] at HI4
          clear HI hT4 hD4
          go_wp2_with fail
          go_loopw [12, 14, 15] (fun sv uv i wr => ∃ (q : Nat) (jr ur : List (List UInt8)) (f : Int) (soon : List (Int × List UInt8)) (dead : Bool), q ≤ 25 ∧ q ≤ rs.length ∧ i = .int .i64 q ∧
              SureI w d sb mb w.heap.size m0 m1 j jr sv jr uv ur ⟨written jr 64, soon, f, dead⟩ wr ∧ jr.length ≤ 26 * k + q ∧ Hid (∀ r ∈ jr, r.length ≤ 59) ∧
              ((dead = false ∧ soon = [] ∧ ur = [] ∧ uv = .slice none 0 0 ∧ 0 ≤ f) ∨ (dead = true ∧ ∃ b0 ua uc, ur = [b0] ∧ uv = .slice ua 1 uc ∧ b0.length ≤ 59 ∧ Hid (soon = [] ∨ soon = [((jr.length : Int), secOf jr.length b0)]))))
            (fun _ _ i _ => rs.length - (intOf i).toNat)
          case atStart => exact ⟨0, recs, [], fuse, [], false, by omega, by omega, rfl, HI4.out, by omega, H59, .inl ⟨rfl, rfl, rfl, rfl, hf0⟩⟩
          case round =>
            clear HI4 H59
            obtain ⟨q, jr, ur, f, soon, dead, hq25, hqn, rfl, hI, hjl, H59, hph⟩ := hrel
            have HI := Lib.hid hI
            have hj64 : jr.length < 64 := by omega
            clear hI
            have hq25' : (q : Int) ≤ 25 := by omega
            by_cases hgo : q < rs.length ∧ q < 25
            · obtain ⟨hgq, hgo25⟩ := hgo
              have hgo1 : (q : Int) < (rs.length : Int) := by omega
              have hgo2 : (q : Int) < 25 := by omega
              have hr := HR.out.turn0 HI.out.tw
              have hqv : q < vs.length := by rw [hr.len]; exact hgq
              have hsv := hr.each q hqv hgq
              obtain ⟨av, nv, cv, hvv⟩ := H1.out vs[q] (List.getElem_mem hqv)
              obtain ⟨row, hrow⟩ : ∃ row, rs[q] = row := ⟨_, rfl⟩
              rw [hvv, hrow] at hsv
              have hsw := HR.out.each q hqv hgq
              rw [hvv, hrow] at hsw
              have h0v : ∀ g ∈ seatOf (.slice av nv cv), g < w.heap.size := by
                have := (HR.out.each q hqv hgq).below
                rwa [hvv] at this
              obtain rfl : nv = row.length := by
                rcases hsv with ⟨h2, _, _, h1⟩ | ⟨_, _, _, h1, _⟩
                · cases h1; omega
                · cases h1; rfl
              rcases hr.src with ⟨h0, _⟩ | ⟨g, o, cc, hga, _, _, hgl, hgr⟩
              · omega
              cases hga
              have cx := hgr q vs[q] (List.getElem?_eq_getElem hqv)
              rw [hvv] at cx
              have HS := Lib.hid hsv
              have HSW := Lib.hid hsw
              have H0 := Lib.hid h0v
              have hgw : g < w.heap.size := by
                rcases HR.out.src with ⟨h0, _⟩ | ⟨g', o', c', h, _, _, hl, _⟩
                · omega
                · cases h; exact hl
              have Hrow := Lib.hid hrow
              clear hr hsv hsw h0v hvv hgr hrow
              by_cases hbig : 59 < row.length
              · have hbig' : (59 : Int) < (row.length : Int) := by omega
                go_wp2
                go_ret
                exact ⟨rfl, HI.out.tw⟩
              · have hbig' : ¬ (59 : Int) < (row.length : Int) := by omega
                have hap : Calls Try.prog 19 #[.pointer (some ⟨j, 0, none⟩), .slice av row.length cv] wr fun e W' =>
                    (e = .returned (.int .i64 13) ∧ ∃ (f' : Int) (soon' : List (Int × List UInt8)) (b0 : List UInt8), (soon' = [] ∨ soon' = [((jr.length : Int), secOf jr.length b0)]) ∧ b0.length ≤ 59 ∧
                      SureI w d sb mb w.heap.size m0 m1 j jr u12 jr u14 ur ⟨written jr 64, soon', f', true⟩ W' ∧ ((ur = [] ∧ u14 = .slice none 0 0 ∧ b0 = row) ∨ ∃ ua uc, ur = [b0] ∧ u14 = .slice ua 1 uc)) ∨
                    (e = .returned (.int .i64 0) ∧ ur = [] ∧ u14 = .slice none 0 0 ∧ ∃ f' : Int, 0 ≤ f' ∧ SureI w d sb mb w.heap.size m0 m1 j (jr ++ [row]) u12 jr u14 ur ⟨written (jr ++ [row]) 64, [], f', false⟩ W') := by
                  rcases hph with ⟨rfl, rfl, rfl, rfl, h0⟩ | ⟨rfl, b0, ua, uc, rfl, rfl, h59, hsn⟩
                  · refine (append_live HI.out h0 av row cv (by omega) hj64 HS.out H0.out).mono ?_
                    rintro e W' (⟨rfl, f', soon', h1, h2⟩ | ⟨rfl, f', h1, h2⟩)
                    · exact .inl ⟨rfl, f', soon', row, h1, by omega, h2, .inl ⟨rfl, rfl, rfl⟩⟩
                    · exact .inr ⟨rfl, rfl, rfl, f', h1, h2⟩
                  · refine (append_dead HI.out av row cv (by omega) hj64 HS.out).mono ?_
                    rintro e W' ⟨rfl, _, h2⟩
                    exact .inl ⟨rfl, f, soon, b0, hsn.out, h59, h2, .inr ⟨ua, uc, rfl, rfl⟩⟩
                have hlen : Hid (∀ r ∈ jr ++ [row], r.length ≤ 59) := fun r hr => by
                  rcases List.mem_append.1 hr with h | h
                  · exact H59.out r h
                  · simp only [List.mem_singleton] at h; subst h; omega
                go_wp2_with fail
                refine hap.mono ?_
                clear hap hph
                rintro e W' (⟨rfl, f', soon', b0, hsn, hb59, hI', hu⟩ | ⟨rfl, rfl, rfl, f', hf', hI'⟩)
                · have HI' := Lib.hid hI'
                  have Hsn := Lib.hid hsn
                  have cx' : W'.cell? ⟨g, o + q, none⟩ = some (.slice av row.length cv) := by
                    have h1 := HI.out.tw.cell (p := ⟨g, o + q, none⟩) hgw (by simp)
                    have h2 := hI'.tw.cell (p := ⟨g, o + q, none⟩) hgw (by simp)
                    rw [h2, ← h1]; exact cx
                  clear hI' hsn HI cx hlen
                  rcases hu with ⟨rfl, rfl, rfl⟩ | ⟨ua, uc, rfl, rfl⟩
                  · go_wp2
                    go_roundw
                    case rel =>
                      obtain ⟨F, vs', us, hex⟩ := HI'.out.ex
                      have hS' : Src W' (.slice av b0.length cv) b0.length (bvs b0) := HSW.out.turn0 HI'.out.tw
                      exact ⟨q + 1, jr, [b0], f', soon', true, by omega, by omega, rfl, HI'.out.first hex ⟨_, _, _, rfl⟩ hS' H0.out, by omega, H59, .inr ⟨rfl, b0, _, _, rfl, rfl, hb59, Hsn⟩⟩
                    case measure => show rs.length - ((q : Int) + 1).toNat < rs.length - ((q : Int)).toNat; omega
                  · go_wp2
                    go_roundw
                    case rel => exact ⟨q + 1, jr, [b0], f', soon', true, by omega, by omega, rfl, HI'.out, by omega, H59, .inr ⟨rfl, b0, _, _, rfl, rfl, hb59, Hsn⟩⟩
                    case measure => show rs.length - ((q : Int) + 1).toNat < rs.length - ((q : Int)).toNat; omega
                · have hTa : Turn [] W' (W'.alloc (.cells #[.slice av row.length cv] 35)) := (Turn.refl _ _).alloc _
                  have HI' := Lib.hid hI'
                  have HI2 := Lib.hid (hI'.turn0 hTa)
                  have cx' : W'.cell? ⟨g, o + q, none⟩ = some (.slice av row.length cv) := by
                    have h1 := HI.out.tw.cell (p := ⟨g, o + q, none⟩) hgw (by simp)
                    have h2 := hI'.tw.cell (p := ⟨g, o + q, none⟩) hgw (by simp)
                    rw [h2, ← h1]; exact cx
                  obtain ⟨F, vs', us, hex⟩ := HI2.out.ex
                  obtain ⟨sa, sc, rfl⟩ := hex.2.2.1.own.form
                  have HE := Lib.hid hex
                  clear hI' HI cx hex
                  go_wp2_with (first
                    | (refine wpList_append rfl _ _ 50 rfl 35 (.slice none 0 0) 1 24 Try.underlying50 Try.info_slice rfl (by omega) (.slice sa jr.length sc) rfl jr.length vs' HE.out.2.2.1.own (.slice (some ⟨W'.heap.size, 0, none⟩) 1 1) rfl 1 [.slice av row.length cv] (Src.whole (Blk.new W' #[.slice av row.length cv] 35) 1 1 (by omega)) rfl (by simp [Value.oneCell']) (by unfold maxLen; omega) (by omega) ?_
                       intro a2 c2 w6 hO2 hT2 hF2
                       have HO2 := Lib.hid hO2
                       have HT2 := Lib.hid hT2
                       have HF2 := Lib.hid hF2
                       clear hO2 hT2 hF2
                       go_frame))
                  go_roundw
                  case rel =>
                    have hS' := (HSW.out.turn0 HI2.out.tw).turn HT2.out (fun b hb hb' => by have h1 := H0.out b hb; have h2 := HE.out.2.2.2.1 b hb'; omega)
                    exact ⟨q + 1, jr ++ [row], [], f', [], false, by omega, by omega, rfl, by
                      have := HI2.out.sure HE.out HT2.out HO2.out HF2.out ⟨_, _, _, rfl⟩ hS' H0.out
                      exact this, by simp; omega, hlen, .inl ⟨rfl, rfl, rfl, rfl, hf'⟩⟩
                  case measure => show rs.length - ((q : Int) + 1).toNat < rs.length - ((q : Int)).toNat; omega
            · have hstop : q = rs.length ∨ (q < rs.length ∧ q = 25) := by omega
              obtain ⟨mk, hmk⟩ : ∃ mk : Int, wr.cell? ⟨w.heap.size, k, none⟩ = some (.int .u64 mk) := by
                have hm := HI.out.mask.cells2
                have : k = 0 ∨ k = 1 := by omega
                rcases this with rfl | rfl
                · exact ⟨_, hm.1⟩
                · exact ⟨_, hm.2⟩
              have hu : ∃ b0 : List UInt8, b0.length ≤ 59 ∧ (soon = [] ∨ soon = [((jr.length : Int), secOf jr.length b0)]) ∧ (soon ≠ [] → ur = [b0]) ∧ ur.length ≤ 1 := by
                rcases hph with ⟨rfl, rfl, rfl, rfl, _⟩ | ⟨rfl, b0, ua, uc, rfl, rfl, h59, hsn⟩
                · exact ⟨[], by simp, .inl rfl, fun h => absurd rfl h, by simp⟩
                · exact ⟨b0, h59, hsn.out, fun _ => rfl, by simp⟩
              obtain ⟨b0, hb59, hsn, hur, hul⟩ := hu
              have Hsn := Lib.hid hsn
              have Hur := Lib.hid hur
              clear hsn hur hph hgo
              have hfin : Hid (∃ x : Nat, x = q) := ⟨q, rfl⟩
              rcases hstop with hq | ⟨hq1, hq2⟩
              · have hq' : ¬ (q : Int) < (rs.length : Int) := by omega
                clear hq
                go_wp2_with fail
                refine (crash_written d sb mb jr soon f dead mk b0 wr HI.out.disk hj64 hb59 Hsn.out).mono ?_
                rintro e w5 ⟨rfl, hT5, recs2, hrec2, hD5⟩
                have HI5 := Lib.hid (HI.out.disks (hT5.toP (by simp)) hD5)
                have hrc : recs2 = jr ∨ recs2 = jr ++ ur := by
                  rcases hrec2 with h | ⟨h1, h2⟩
                  · exact .inl h
                  · exact .inr (by rw [Hur.out h1]; exact h2)
                have hrl2 : recs2.length ≤ jr.length + 1 := by rcases hrc with h | h <;> rw [h] <;> simp; omega
                have h592 : ∀ r ∈ recs2, r.length ≤ 59 := by
                  intro r hr
                  rcases hrec2 with h | ⟨_, h⟩
                  · rw [h] at hr; exact H59.out r hr
                  · rw [h] at hr
                    rcases List.mem_append.1 hr with h | h
                    · exact H59.out r h
                    · simp only [List.mem_singleton] at h; subst h; exact hb59
                have Hrc := Lib.hid hrc
                have H592 := Lib.hid h592
                clear hT5 hrec2 hD5 hrc h592 HI hmk
                go_wp2_with fail
                refine (open_written d sb mb _ recs2 64 w5 HI5.out.disk rfl rfl (by omega) (by omega) H592.out).mono ?_
                rintro e w6 ⟨j2, rfl, hJ6, hT6⟩
                have HJ6 := Lib.hid hJ6
                have HT6 := Lib.hid hT6
                clear hJ6 hT6
                go_wp2_with fail
                refine (rows_here j2 d 64 _ recs2 w6 HJ6.out).mono ?_
                rintro e w7 ⟨lv, vs2, rfl, hR7, hT7, hl7, hv7⟩
                have HR7 := Lib.hid hR7
                have HI7 := Lib.hid (HI5.out.turn0 (HT6.out.trans hT7 (by simp)))
                have HT7 := Lib.hid hT7
                have Hl7 := Lib.hid hl7
                have Hv7 := Lib.hid hv7
                obtain ⟨ga, gc, rfl⟩ := hR7.own.form
                obtain ⟨F, vs', us, hex⟩ := HI7.out.ex
                have HE := Lib.hid hex
                obtain ⟨sa, sc, rfl⟩ := hex.2.2.1.own.form
                obtain ⟨ua, uc, rfl⟩ := hex.2.2.2.2.2.1.own.form
                clear hR7 hT7 hl7 hv7 hex
                go_wp2_with fail
                refine (same_any w7 _ _ vs2 vs' recs2 jr HR7.out.read HE.out.2.2.1.read (by omega) (by omega)).mono ?_
                rintro e w8 ⟨rfl, hT8⟩
                have HT8 := Lib.hid hT8
                have hE8 : Turn [] w8 (w8.alloc (.cells #[] 35)) := (Turn.refl _ _).alloc _
                have hO8 : Own (w8.alloc (.cells #[] 35)) 35 1 (.slice (some ⟨w8.heap.size, 0, none⟩) 0 0) 0 [] := Own.of_blk (l := []) (c := 0) (Blk.new w8 #[] 35) (by omega) (by unfold maxLen; omega) rfl rfl
                have HO8 := Lib.hid hO8
                have HSs := Lib.hid ((HE.out.2.2.1.own.src.turn0 hT8).turn0 hE8)
                have HSu := Lib.hid ((HE.out.2.2.2.2.2.1.own.src.turn0 hT8).turn0 hE8)
                have hle := HE.out.2.2.1.len
                have hlu := HE.out.2.2.2.2.2.1.len
                have hones : ∀ v ∈ vs', v.oneCell' = true := fun v hv => by obtain ⟨a, n, c, rfl⟩ := HE.out.2.2.1.one v hv; rfl
                have honeu : ∀ v ∈ us, v.oneCell' = true := fun v hv => by obtain ⟨a, n, c, rfl⟩ := HE.out.2.2.2.2.2.1.one v hv; rfl
                have Hx := Lib.hid (And.intro hle (And.intro hlu (And.intro hones honeu)))
                clear hT8 hO8 hle hlu hones honeu
                go_wp2_with (first
                  | (refine wpList_append rfl _ _ 50 rfl 35 (.slice none 0 0) 1 24 Try.underlying50 Try.info_slice rfl (by omega) (.slice (some ⟨w8.heap.size, 0, none⟩) 0 0) rfl 0 [] HO8.out (.slice sa jr.length sc) rfl jr.length vs' HSs.out (by rw [Hx.out.1, Nat.mul_one]) Hx.out.2.2.1 (by unfold maxLen; omega) (by omega) ?_
                     intro a3 c3 w9 hO9 hT9 hF9
                     simp only [Nat.zero_add, List.nil_append] at hO9 hF9 ⊢
                     have HO9 := Lib.hid hO9
                     have HF9 := Lib.hid hF9
                     have hT89 : Turn [] w8 w9 := hE8.trans hT9 (fun x hx => .inr (by simp [blockOf] at hx; omega))
                     have HT89 := Lib.hid hT89
                     have HSu9 := Lib.hid (HSu.out.turn hT9 (fun b hb hb' => by have h1 := HE.out.2.2.2.2.2.1.own.lt b (seatOf_sub hb); have h2 := HT8.out.size; simp [blockOf] at hb'; omega))
                     clear hO9 hT9 hF9 hT89
                     go_frame)
                  | (refine wpList_append rfl _ _ 50 rfl 35 (.slice none 0 0) 1 24 Try.underlying50 Try.info_slice rfl (by omega) (.slice a3 jr.length c3) rfl jr.length vs' HO9.out (.slice ua ur.length uc) rfl ur.length us HSu9.out (by rw [Hx.out.2.1, Nat.mul_one]) Hx.out.2.2.2 (by unfold maxLen; omega) (by omega) ?_
                     intro a4 c4 w10 hO10 hT10 hF10
                     have HO10 := Lib.hid hO10
                     have hT810 : Turn [] w8 w10 := HT89.out.trans hT10 (fun x hx => .inr (by
                       rcases HF9.out x hx with h | h
                       · simp [blockOf] at h; omega
                       · simp at h; omega))
                     have HT810 := Lib.hid hT810
                     clear hO10 hT10 hF10 hT810
                     go_frame))
                have t710 : Turn [] w7 w10 := HT8.out.trans HT810.out (by simp)
                refine (same_any w10 _ _ vs2 (vs' ++ us) recs2 (jr ++ ur) (HR7.out.read.turn0 t710) (RowsSrc.append HO10.out.src (HE.out.2.2.1.read.turn0 t710) (HE.out.2.2.2.2.2.1.read.turn0 t710)) (by omega) (by simp; omega)).mono ?_
                rintro e w11 ⟨rfl, hT11⟩
                have HTT := Lib.hid (t710.trans hT11 (by simp))
                have hor : Hid (((recs2 == jr) || (recs2 == (jr ++ ur))) = true) := by
                  unfold Hid
                  rcases Hrc.out with h | h
                  · rw [h]; simp
                  · rw [h]; simp
                obtain ⟨p1, hp1⟩ : ∃ p, (recs2 == jr) = p := ⟨_, rfl⟩
                obtain ⟨p2, hp2⟩ : ∃ p, (recs2 == (jr ++ ur)) = p := ⟨_, rfl⟩
                rw [hp2]
                rw [hp1, hp2] at hor
                have Hp := Lib.hid hp1
                clear t710 hT11 hp2
                rw [hp1]
                clear hp1
                have hAg := HI5.out.again HT6.out HJ6.out HT7.out HR7.out Hl7.out Hv7.out (HTT.out.toP0 (F := fun b => w7.heap.size ≤ b))
                have HAg := Lib.hid hAg
                have hl26 : recs2.length ≤ 26 * (k + 1) := by omega
                clear hAg
                have hpp : p1 = true ∨ (p1 = false ∧ p2 = true) := by
                  have h := hor.out
                  cases p1 <;> cases p2 <;> simp at h ⊢
                clear hor Hp
                rcases hpp with rfl | ⟨rfl, rfl⟩
                · cases p2
                  all_goals
                    go_wp2
                    go_roundw
                    case rel => exact ⟨k + 1, j2, recs2, -1, by omega, rfl, rfl, HAg.out, hl26, H592⟩
                    case measure => show 2 - ((k : Int) + 1).toNat < 2 - ((k : Int)).toNat; omega
                · go_wp2
                  go_roundw
                  case rel => exact ⟨k + 1, j2, recs2, -1, by omega, rfl, rfl, HAg.out, hl26, H592⟩
                  case measure => show 2 - ((k : Int) + 1).toNat < 2 - ((k : Int)).toNat; omega
              · have hq' : (q : Int) < (rs.length : Int) := by omega
                have hq'' : ¬ (q : Int) < 25 := by omega
                clear hq1 hq2
                go_wp2_with fail
                refine (crash_written d sb mb jr soon f dead mk b0 wr HI.out.disk hj64 hb59 Hsn.out).mono ?_
                rintro e w5 ⟨rfl, hT5, recs2, hrec2, hD5⟩
                have HI5 := Lib.hid (HI.out.disks (hT5.toP (by simp)) hD5)
                have hrc : recs2 = jr ∨ recs2 = jr ++ ur := by
                  rcases hrec2 with h | ⟨h1, h2⟩
                  · exact .inl h
                  · exact .inr (by rw [Hur.out h1]; exact h2)
                have hrl2 : recs2.length ≤ jr.length + 1 := by rcases hrc with h | h <;> rw [h] <;> simp; omega
                have h592 : ∀ r ∈ recs2, r.length ≤ 59 := by
                  intro r hr
                  rcases hrec2 with h | ⟨_, h⟩
                  · rw [h] at hr; exact H59.out r hr
                  · rw [h] at hr
                    rcases List.mem_append.1 hr with h | h
                    · exact H59.out r h
                    · simp only [List.mem_singleton] at h; subst h; exact hb59
                have Hrc := Lib.hid hrc
                have H592 := Lib.hid h592
                clear hT5 hrec2 hD5 hrc h592 HI hmk
                go_wp2_with fail
                refine (open_written d sb mb _ recs2 64 w5 HI5.out.disk rfl rfl (by omega) (by omega) H592.out).mono ?_
                rintro e w6 ⟨j2, rfl, hJ6, hT6⟩
                have HJ6 := Lib.hid hJ6
                have HT6 := Lib.hid hT6
                clear hJ6 hT6
                go_wp2_with fail
                refine (rows_here j2 d 64 _ recs2 w6 HJ6.out).mono ?_
                rintro e w7 ⟨lv, vs2, rfl, hR7, hT7, hl7, hv7⟩
                have HR7 := Lib.hid hR7
                have HI7 := Lib.hid (HI5.out.turn0 (HT6.out.trans hT7 (by simp)))
                have HT7 := Lib.hid hT7
                have Hl7 := Lib.hid hl7
                have Hv7 := Lib.hid hv7
                obtain ⟨ga, gc, rfl⟩ := hR7.own.form
                obtain ⟨F, vs', us, hex⟩ := HI7.out.ex
                have HE := Lib.hid hex
                obtain ⟨sa, sc, rfl⟩ := hex.2.2.1.own.form
                obtain ⟨ua, uc, rfl⟩ := hex.2.2.2.2.2.1.own.form
                clear hR7 hT7 hl7 hv7 hex
                go_wp2_with fail
                refine (same_any w7 _ _ vs2 vs' recs2 jr HR7.out.read HE.out.2.2.1.read (by omega) (by omega)).mono ?_
                rintro e w8 ⟨rfl, hT8⟩
                have HT8 := Lib.hid hT8
                have hE8 : Turn [] w8 (w8.alloc (.cells #[] 35)) := (Turn.refl _ _).alloc _
                have hO8 : Own (w8.alloc (.cells #[] 35)) 35 1 (.slice (some ⟨w8.heap.size, 0, none⟩) 0 0) 0 [] := Own.of_blk (l := []) (c := 0) (Blk.new w8 #[] 35) (by omega) (by unfold maxLen; omega) rfl rfl
                have HO8 := Lib.hid hO8
                have HSs := Lib.hid ((HE.out.2.2.1.own.src.turn0 hT8).turn0 hE8)
                have HSu := Lib.hid ((HE.out.2.2.2.2.2.1.own.src.turn0 hT8).turn0 hE8)
                have hle := HE.out.2.2.1.len
                have hlu := HE.out.2.2.2.2.2.1.len
                have hones : ∀ v ∈ vs', v.oneCell' = true := fun v hv => by obtain ⟨a, n, c, rfl⟩ := HE.out.2.2.1.one v hv; rfl
                have honeu : ∀ v ∈ us, v.oneCell' = true := fun v hv => by obtain ⟨a, n, c, rfl⟩ := HE.out.2.2.2.2.2.1.one v hv; rfl
                have Hx := Lib.hid (And.intro hle (And.intro hlu (And.intro hones honeu)))
                clear hT8 hO8 hle hlu hones honeu
                go_wp2_with (first
                  | (refine wpList_append rfl _ _ 50 rfl 35 (.slice none 0 0) 1 24 Try.underlying50 Try.info_slice rfl (by omega) (.slice (some ⟨w8.heap.size, 0, none⟩) 0 0) rfl 0 [] HO8.out (.slice sa jr.length sc) rfl jr.length vs' HSs.out (by rw [Hx.out.1, Nat.mul_one]) Hx.out.2.2.1 (by unfold maxLen; omega) (by omega) ?_
                     intro a3 c3 w9 hO9 hT9 hF9
                     simp only [Nat.zero_add, List.nil_append] at hO9 hF9 ⊢
                     have HO9 := Lib.hid hO9
                     have HF9 := Lib.hid hF9
                     have hT89 : Turn [] w8 w9 := hE8.trans hT9 (fun x hx => .inr (by simp [blockOf] at hx; omega))
                     have HT89 := Lib.hid hT89
                     have HSu9 := Lib.hid (HSu.out.turn hT9 (fun b hb hb' => by have h1 := HE.out.2.2.2.2.2.1.own.lt b (seatOf_sub hb); have h2 := HT8.out.size; simp [blockOf] at hb'; omega))
                     clear hO9 hT9 hF9 hT89
                     go_frame)
                  | (refine wpList_append rfl _ _ 50 rfl 35 (.slice none 0 0) 1 24 Try.underlying50 Try.info_slice rfl (by omega) (.slice a3 jr.length c3) rfl jr.length vs' HO9.out (.slice ua ur.length uc) rfl ur.length us HSu9.out (by rw [Hx.out.2.1, Nat.mul_one]) Hx.out.2.2.2 (by unfold maxLen; omega) (by omega) ?_
                     intro a4 c4 w10 hO10 hT10 hF10
                     have HO10 := Lib.hid hO10
                     have hT810 : Turn [] w8 w10 := HT89.out.trans hT10 (fun x hx => .inr (by
                       rcases HF9.out x hx with h | h
                       · simp [blockOf] at h; omega
                       · simp at h; omega))
                     have HT810 := Lib.hid hT810
                     clear hO10 hT10 hF10 hT810
                     go_frame))
                have t710 : Turn [] w7 w10 := HT8.out.trans HT810.out (by simp)
                refine (same_any w10 _ _ vs2 (vs' ++ us) recs2 (jr ++ ur) (HR7.out.read.turn0 t710) (RowsSrc.append HO10.out.src (HE.out.2.2.1.read.turn0 t710) (HE.out.2.2.2.2.2.1.read.turn0 t710)) (by omega) (by simp; omega)).mono ?_
                rintro e w11 ⟨rfl, hT11⟩
                have HTT := Lib.hid (t710.trans hT11 (by simp))
                have hor : Hid (((recs2 == jr) || (recs2 == (jr ++ ur))) = true) := by
                  unfold Hid
                  rcases Hrc.out with h | h
                  · rw [h]; simp
                  · rw [h]; simp
                obtain ⟨p1, hp1⟩ : ∃ p, (recs2 == jr) = p := ⟨_, rfl⟩
                obtain ⟨p2, hp2⟩ : ∃ p, (recs2 == (jr ++ ur)) = p := ⟨_, rfl⟩
                rw [hp2]
                rw [hp1, hp2] at hor
                have Hp := Lib.hid hp1
                clear t710 hT11 hp2
                rw [hp1]
                clear hp1
                have hAg := HI5.out.again HT6.out HJ6.out HT7.out HR7.out Hl7.out Hv7.out (HTT.out.toP0 (F := fun b => w7.heap.size ≤ b))
                have HAg := Lib.hid hAg
                have hl26 : recs2.length ≤ 26 * (k + 1) := by omega
                clear hAg
                have hpp : p1 = true ∨ (p1 = false ∧ p2 = true) := by
                  have h := hor.out
                  cases p1 <;> cases p2 <;> simp at h ⊢
                clear hor Hp
                rcases hpp with rfl | ⟨rfl, rfl⟩
                · cases p2
                  all_goals
                    go_wp2
                    go_roundw
                    case rel => exact ⟨k + 1, j2, recs2, -1, by omega, rfl, rfl, HAg.out, hl26, H592⟩
                    case measure => show 2 - ((k : Int) + 1).toNat < 2 - ((k : Int)).toNat; omega
                · go_wp2
                  go_roundw
                  case rel => exact ⟨k + 1, j2, recs2, -1, by omega, rfl, rfl, HAg.out, hl26, H592⟩
                  case measure => show 2 - ((k : Int) + 1).toNat < 2 - ((k : Int)).toNat; omega
end Go.Proofs.Ytkifggnjpgoamaa
