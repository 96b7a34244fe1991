/- The reference of layer 22: Open. -/
import Derived.Test.YtkifggnjpgoamaaRefK
namespace Go.Proofs.Ytkifggnjpgoamaa
open Go.RowKit
variable {w0 w w' : World} {R : List HA} {d sb nb ib rj : Nat} {Z : JSt}

theorem read_written (recs news : List (List UInt8)) (N : Nat) (f : Int) (dead : Bool) (k : Nat) (hk : k < N) : RSt.read ⟨written recs N, news, List.replicate N false, f, dead⟩ k = match recs[k]? with | some b => secOf k b | none => zsec := by
  unfold RSt.read
  have h1 : (List.replicate N false).getD k false = false := by rw [List.getD, List.getElem?_replicate, if_pos hk]; rfl
  simp only [h1, Bool.false_eq_true, if_false]
  rw [List.getD, written_get recs N k hk]
  rfl

set_option maxHeartbeats 400000 in
theorem ropen_nil (w : World) : Calls Try.prog 35 #[.pointer none] w fun e w' => e = .returned (.tuple #[.pointer none, .int .i64 1]) ∧ w = w' := by
  go_enter Try.func35, Try.ntmps35
  go_wp2
  go_ret2
  exact ⟨rfl, rfl⟩

set_option maxRecDepth 100000 in
set_option maxHeartbeats 3200000 in
theorem ropen_low (recs news : List (List UInt8)) (N : Nat) (f : Int) (dead : Bool) (hD : RDAt w d sb nb ib ⟨written recs N, news, List.replicate N false, f, dead⟩) (hl : recs.length ≤ N) (hN : N ≤ 64) (h59 : ∀ r ∈ recs, r.length ≤ 59) :
    Calls Try.prog 35 #[.pointer (some ⟨d, 0, none⟩)] w fun e w' => ∃ rj lv vs, e = .returned (.tuple #[.pointer (some ⟨rj, 0, none⟩), .int .i64 0]) ∧ Turn [] w w' ∧ w.heap.size ≤ rj ∧
      Blk w' rj #[.pointer (some ⟨d, 0, none⟩), lv] 201 ∧ RowsAt w' lv vs recs ∧ (∀ b ∈ blockOf lv, w.heap.size ≤ b ∧ b ≠ rj) ∧ (∀ v ∈ vs, ∀ b ∈ seatOf v, w.heap.size ≤ b ∧ b ≠ rj) := by
  have HD := Lib.hid hD
  have hlen : (written recs N).length = N := written_length _ _ hl
  have HLen := Lib.hid hlen
  have hN64 : (N : Int) ≤ 64 := by omega
  have H59 := Lib.hid h59
  clear hD h59 hlen
  go_enter Try.func35, Try.ntmps35
  go_wp2_with fail
  have hB0 := Blk.new w #[.pointer (some ⟨d, 0, none⟩), .slice none 0 0] 201
  have hT0 : Turn [] w (w.alloc (.cells #[.pointer (some ⟨d, 0, none⟩), .slice none 0 0] 201)) := (Turn.refl _ _).alloc _
  have HB0 := Lib.hid (And.intro hB0 hT0)
  clear hB0 hT0
  go_loopw [5] (fun i wr => ∃ (k : Nat) (lv : Value) (vs : List Value), k ≤ recs.length ∧ i = .int .i64 k ∧ Turn [] w wr ∧ Blk wr w.heap.size #[.pointer (some ⟨d, 0, none⟩), lv] 201 ∧ Hid (RowsAt wr lv vs (recs.take k)) ∧
      Hid ((∀ b ∈ blockOf lv, w.heap.size ≤ b ∧ b ≠ w.heap.size) ∧ (∀ v ∈ vs, ∀ b ∈ seatOf v, w.heap.size ≤ b ∧ b ≠ w.heap.size)))
    (fun i _ => recs.length - (intOf i).toNat)
  case atStart => exact ⟨0, _, [], Nat.zero_le _, rfl, HB0.out.2, HB0.out.1, RowsAt.nil _, ⟨by simp [blockOf], by simp⟩⟩
  case round =>
    clear HB0
    obtain ⟨k, lv, vs, hk, rfl, hT, hB, HR, HF⟩ := hrel
    have hDr := HD.out.turn0 hT
    have d0 := hDr.blk.cells5.1
    have hk64 : (k : Int) ≤ 64 := by omega
    have lj := hB.lt
    simp only [HLen.out] at d0
    by_cases hkN : k < N
    · have hkN' : (k : Int) < (N : Int) := by omega
      have hrd := read_written recs news N f dead k hkN
      have hsl : (RSt.read ⟨written recs N, news, List.replicate N false, f, dead⟩ k).length = 64 := (hDr.read_len k (by simp only [HLen.out]; exact hkN)).1
      obtain ⟨sec, hsec⟩ : ∃ x, RSt.read ⟨written recs N, news, List.replicate N false, f, dead⟩ k = x := ⟨_, rfl⟩
      rw [hsec] at hrd hsl
      have HSec := Lib.hid hsec
      have HSL := Lib.hid hsl
      have HDr := Lib.hid hDr
      clear hsec hsl hDr
      by_cases hkr : k < recs.length
      · rw [List.getElem?_eq_getElem hkr] at hrd
        have h59k := H59.out recs[k] (List.getElem_mem hkr)
        have hrec : recOf k sec = some recs[k] := by rw [hrd]; exact recOf_secOf k _ h59k
        have htk : recs.take (k + 1) = recs.take k ++ [recs[k]] := List.take_succ_eq_append_getElem hkr
        obtain ⟨b, hb⟩ : ∃ x, recs[k] = x := ⟨_, rfl⟩
        rw [hb] at hrec h59k htk
        have HRec := Lib.hid hrec
        have HTK := Lib.hid htk
        clear hrd hrec htk hb
        go_wp2_with fail
        refine (rread_any k HDr.out (by simp only [HLen.out]; exact hkN)).mono ?_
        rintro e w1 ⟨rfl, hT1⟩
        rw [HSec.out]
        have HT1 := Lib.hid (hT.trans hT1 (by simp))
        have HB1 := Lib.hid (hB.turn hT1 (by simp))
        have HR1 := Lib.hid (HR.out.turnP (F := fun _ => False) hT1.toP0 (fun _ _ h => h) (fun _ _ _ _ h => h))
        clear hT1 d0 hT hB
        go_wp2_with (first
          | (refine wpList_alloc rfl 202 rfl _ Try.zero_rsector ?_; intro w2 hT2 hN2 hz2; go_frame)
          | (refine wpList_storeW rfl 202 _ _ rfl w1.heap.size (bvs sec) rfl rfl _ 202 hN2 (len64 HSL.out) (info_rsec (lenb HSL.out)) (bvs_one _) ?_
             intro w3 hT3 hN3 hz3
             have hr3 : w3.rangeAt w1.heap.size 0 (bvs sec) := hN3.all
             have HT13 := Lib.hid (hT2.trans hT3 (by simp))
             go_frame)
          | (refine wpList_loadA rfl 202 _ rfl _ _ rfl _ _ hr3 Try.underlying202 rfl (info_rsec (lenb HSL.out)) ?_; go_frame)
          | (go_at_call 87
             refine (rrecord_any k sec _ HSL.out (by omega)).mono ?_
             rintro e w4 ⟨v, rfl, hT4, hv⟩
             rw [HRec.out]
             have hv' := hv b HRec.out
             obtain ⟨va, vc, rfl⟩ := hv'.1.form
             have hT14 : Turn [] w1 w4 := HT13.out.trans hT4 (by simp)
             have HT4 := Lib.hid hT14
             have hB4 := HB1.out.turn hT14 (by simp)
             have x0 := hB4.cells2.2
             have y0 := hB4.thaw 1
             have hE := (Turn.refl [] w4).alloc (.cells #[.slice va b.length vc] 35)
             have HE := Lib.hid hE
             have x1 := (hE.cell (p := ⟨w.heap.size, 1, none⟩) hB4.lt (by simp)).trans x0
             have HV := Lib.hid hv'
             have HB4 := Lib.hid hB4
             have HR4 := Lib.hid (HR1.out.turnP (F := fun _ => False) hT14.toP0 (fun _ _ h => h) (fun _ _ _ _ h => h))
             have hOl := HR4.out.own
             rw [List.length_take, Nat.min_eq_left (by omega)] at hOl
             obtain ⟨la, lc, hlv⟩ := hOl.form
             have HO := Lib.hid (hOl.turn0 hE)
             have HLV := Lib.hid hlv
             rw [hlv] at x0 x1
             clear hv hv' hT4 hT14 hB4 hE hOl hlv
             dsimp only [Option.isSome_some])
          | (refine wpList_append rfl _ _ 50 rfl 35 (.slice none 0 0) 1 24 Try.underlying50 Try.info_slice rfl (by omega) (.slice la k lc) rfl k vs (by rw [← HLV.out]; exact HO.out) (.slice (some ⟨w4.heap.size, 0, none⟩) 1 1) rfl 1 [.slice va b.length vc] (Src.whole (Blk.new w4 #[.slice va b.length vc] 35) 1 1 (by omega)) rfl (by simp [Value.oneCell']) (by unfold maxLen; omega) (by omega) ?_
             intro a5 c5 w5 hO5 hT5 hF5
             have HO5 := Lib.hid hO5
             have HT5 := Lib.hid hT5
             have HF5 := Lib.hid hF5
             have hbl : w.heap.size ∉ blockOf (.slice la k lc) := fun hx => by
               rw [← HLV.out] at hx; exact (HF.out.1 _ hx).2 rfl
             have hB5 := (HB4.out.turn HE.out (by simp)).turn hT5 hbl
             have x5 := hB5.cells2.2
             have y5 := hB5.thaw 1
             have HB5 := Lib.hid hB5
             clear hO5 hT5 hF5 hB5
             go_frame))
        go_roundw
        case rel =>
          have s1 := HT1.out.size
          have s2 := HB1.out.lt
          have s4 := HT4.out.size
          have hT8 : Turn [w.heap.size] w5 (w5.setCell ⟨w.heap.size, 1, none⟩ (.slice a5 (k + 1) c5)) := (Turn.refl _ _).setCell (by simp) _
          have hlb : ∀ g ∈ blockOf (.slice la k lc), w.heap.size ≤ g ∧ g ≠ w.heap.size ∧ g < w4.heap.size := fun g hg => by
            have := HF.out.1 g (by rw [HLV.out]; exact hg)
            have h2 := HR4.out.own.lt g (by rw [HLV.out]; exact hg)
            exact ⟨this.1, this.2, h2⟩
          have hfr : ∀ g ∈ blockOf (.slice a5 (k + 1) c5), w.heap.size ≤ g ∧ g ≠ w.heap.size := fun g hg => by
            rcases HF5.out g hg with h | h
            · have := hlb g h; exact ⟨this.1, this.2.1⟩
            · rw [World.size_alloc] at h; exact ⟨by omega, by omega⟩
          have hvf : ∀ g ∈ seatOf (.slice va b.length vc), w1.heap.size ≤ g ∧ g < w4.heap.size := fun g hg => by
            have h1 := HV.out.2 g (seatOf_sub hg)
            have h2 := HV.out.1.lt g (seatOf_sub hg)
            have h3 := HT13.out.size
            exact ⟨by omega, h2⟩
          have hRA : RowsAt (w4.alloc (.cells #[.slice va b.length vc] 35)) (.slice la k lc) vs (recs.take k) := by
            rw [← HLV.out]
            exact HR4.out.turnP (F := fun _ => False) HE.out.toP0 (fun _ _ h => h) (fun _ _ _ _ h => h)
          have hS5 : Src w5 (.slice va b.length vc) b.length (bvs b) := (HV.out.1.src.turn0 HE.out).turn HT5.out (fun g hg hx => by
            have h1 := hvf g hg
            have h2 := hlb g hx
            have h3 := HR1.out.own.lt g (by rw [HLV.out]; exact hx)
            omega)
          have hk1 : (recs.take k).length + 1 = k + 1 := by rw [List.length_take, Nat.min_eq_left (by omega)]
          have hR5 := hRA.snoc HT5.out _ b ⟨_, _, _, rfl⟩ hS5 (by rw [hk1]; exact HO5.out) (fun g hg => HF5.out g hg) (fun g hg hx => by
            have h1 := hvf g hg
            rcases HF5.out g hx with h | h
            · have h3 := HR1.out.own.lt g (by rw [HLV.out]; exact h); omega
            · rw [World.size_alloc] at h; omega)
          rw [← HTK.out] at hR5
          refine ⟨k + 1, .slice a5 (k + 1) c5, vs ++ [.slice va b.length vc], by omega, rfl, ?_, ?_, ?_, hfr, ?_⟩
          · exact (((HT1.out.trans HT4.out (by simp)).trans HE.out (by simp)).trans HT5.out (fun g hg => .inr (hlb g hg).1)).trans hT8 (fun g hg => .inr (by simp at hg; omega))
          · have := HB5.out.set 1 (.slice a5 (k + 1) c5)
            simpa using this
          · exact hR5.turnP (TurnP.of_T hT8) (fun g hg hx => by have := hfr g hg; simp only [List.mem_singleton] at hx; omega) (fun v hv g hg hx => by
              simp only [List.mem_singleton] at hx
              rcases List.mem_append.1 hv with h | h
              · exact (HF.out.2 v h g hg).2 hx
              · simp only [List.mem_singleton] at h
                subst h
                have := hvf g hg
                omega)
          · intro v hv g hg
            rcases List.mem_append.1 hv with h | h
            · exact HF.out.2 v h g hg
            · simp only [List.mem_singleton] at h
              subst h
              have := hvf g hg
              exact ⟨by omega, by omega⟩
        case measure => show recs.length - ((k : Int) + 1).toNat < recs.length - ((k : Int)).toNat; omega
      · obtain rfl : k = recs.length := by omega
        rw [List.getElem?_eq_none (Nat.le_refl _)] at hrd
        have hrec : recOf recs.length sec = none := by rw [hrd]; exact recOf_zero _ (by omega)
        have HRec := Lib.hid hrec
        clear hrd hrec
        go_wp2_with fail
        refine (rread_any recs.length HDr.out (by simp only [HLen.out]; exact hkN)).mono ?_
        rintro e w1 ⟨rfl, hT1⟩
        rw [HSec.out]
        have HT1 := Lib.hid (hT.trans hT1 (by simp))
        have HB1 := Lib.hid (hB.turn hT1 (by simp))
        have HR1 := Lib.hid (HR.out.turnP (F := fun _ => False) hT1.toP0 (fun _ _ h => h) (fun _ _ _ _ h => h))
        clear hT1 d0 hT hB
        go_wp2_with (first
          | (refine wpList_alloc rfl 202 rfl _ Try.zero_rsector ?_; intro w2 hT2 hN2 hz2; go_frame)
          | (refine wpList_storeW rfl 202 _ _ rfl w1.heap.size (bvs sec) rfl rfl _ 202 hN2 (len64 HSL.out) (info_rsec (lenb HSL.out)) (bvs_one _) ?_
             intro w3 hT3 hN3 hz3
             have hr3 : w3.rangeAt w1.heap.size 0 (bvs sec) := hN3.all
             have HT13 := Lib.hid (hT2.trans hT3 (by simp))
             go_frame)
          | (refine wpList_loadA rfl 202 _ rfl _ _ rfl _ _ hr3 Try.underlying202 rfl (info_rsec (lenb HSL.out)) ?_; go_frame)
          | (go_at_call 87
             refine (rrecord_any recs.length sec _ HSL.out (by omega)).mono ?_
             rintro e w4 ⟨v, rfl, hT4, hv⟩
             rw [HRec.out]
             have hT14 : Turn [] w1 w4 := HT13.out.trans hT4 (by simp)
             have HT4 := Lib.hid hT14
             clear hv hT4 hT14
             dsimp only [Option.isSome_none]))
        go_ret2
        have hR := HR1.out.turnP (F := fun _ => False) HT4.out.toP0 (fun _ _ h => h) (fun _ _ _ _ h => h)
        rw [List.take_length] at hR
        exact ⟨w.heap.size, lv, vs, rfl, HT1.out.trans HT4.out (by simp), Nat.le_refl _, HB1.out.turn HT4.out (by simp), hR, HF.out.1, HF.out.2⟩
    · have hkr : k = recs.length := by omega
      obtain rfl : k = N := by omega
      have hR := HR.out
      rw [hkr, List.take_length] at hR
      have HR2 := Lib.hid hR
      clear hR hkr
      go_wp2
      go_ret2
      exact ⟨w.heap.size, lv, vs, rfl, hT, Nat.le_refl _, hB, HR2.out, HF.out.1, HF.out.2⟩

theorem ropen_rr (recs : List (List UInt8)) (N : Nat) (f : Int) (dead : Bool) (S : RSt) (hS : ∃ news, S = ⟨written recs N, news, List.replicate N false, f, dead⟩) (h : St w0 (rdH d sb nb ib S :: R) w) (hl : recs.length ≤ N) (hN : N ≤ 64) (h59 : ∀ r ∈ recs, r.length ≤ 59) :
    Calls Try.prog 35 #[.pointer (some ⟨d, 0, none⟩)] w fun e w' => ∃ rj, e = .returned (.tuple #[.pointer (some ⟨rj, 0, none⟩), .int .i64 0]) ∧ St w0 (rrH d sb nb ib rj ⟨N, recs, none, f, dead⟩ :: R) w' := by
  obtain ⟨news, rfl⟩ := hS
  refine (ropen_low recs news N f dead h.rd hl hN h59).mono ?_
  rintro e w' ⟨rj, lv, vs, rfl, hT, h1, h2, h3, h4, h5⟩
  refine ⟨rj, rfl, ?_⟩
  obtain ⟨F, ⟨hD, rfl⟩, f2, f3⟩ := h.step1
  have l1 := hD.blk.lt
  have l2 := hD.row.lt
  have l3 := hD.rnew.lt
  have l4 := hD.ris.lt
  refine f3 (rrH d sb nb ib rj ⟨N, recs, none, f, dead⟩) w' _ ⟨news, lv, vs, ⟨⟨hl, hN, h59, (fun b hb => by cases hb)⟩, ?_, (fun b hb => by cases hb), h2, h3, ⟨by omega, by omega, by omega, by omega⟩, fun b hb => ?_, fun v hv b hb => ?_⟩, rfl⟩ hT.toP0 ?_
  · have := hD.turn0 hT
    simp only [rst]
    rw [isOf_none rfl]
    exact this
  · have := h4 b hb; exact ⟨by omega, by omega, by omega, by omega, by omega⟩
  · have := h5 v hv b hb; exact ⟨by omega, by omega, by omega, by omega, by omega⟩
  · rintro b (h | h | h | h | h | h | ⟨v, hv, h⟩)
    · exact .inl (.inl h)
    · exact .inl (.inr (.inl h))
    · exact .inl (.inr (.inr (.inl h)))
    · exact .inl (.inr (.inr (.inr h)))
    · exact .inr (by omega)
    · exact .inr (h4 b h).1
    · exact .inr (h5 v hv b h).1
end Go.Proofs.Ytkifggnjpgoamaa
