/- The reference of layer 22: Append. -/
import Derived.Test.YtkifggnjpgoamaaRefJ
import Derived.Test.YtkifggnjpgoamaaApp
namespace Go.Proofs.Ytkifggnjpgoamaa
open Go.RowKit
variable {w0 w w' : World} {R : List HA} {d sb nb ib rj : Nat} {Z : JSt}

theorem RDAt.turn {w w' : World} {d sb nb ib : Nat} {S : RSt} {L : List Nat} (h : RDAt w d sb nb ib S) (k : Turn L w w') (h1 : d ∉ L) (h2 : sb ∉ L) (h3 : nb ∉ L) (h4 : ib ∉ L) : RDAt w' d sb nb ib S := h.turnP (TurnP.of_T k) h1 h2 h3 h4

set_option maxRecDepth 100000 in
set_option maxHeartbeats 3200000 in
theorem rappend_rr (h : St w0 (rrH d sb nb ib rj Z :: R) w) (a : Option Addr) (n : Nat) (bs : List UInt8) (c : Nat) (hn : n = bs.length) (hs : Src w (.slice a n c) n (bvs bs)) (ha : Apart w0 R (seatOf (.slice a n c))) :
    Calls Try.prog 42 #[.pointer (some ⟨rj, 0, none⟩), .slice a n c] w fun e w' => e = .returned (.int .i64 (Z.append bs).1) ∧ St w0 (rrH d sb nb ib rj (Z.append bs).2 :: R) w' := by
  subst hn
  obtain ⟨news, lv, vs, hJ, hL, hB, hC⟩ := h.rr ha
  have hz := hJ.ok.append bs
  unfold JSt.append at hz ⊢
  by_cases h1 : 59 < bs.length
  · rw [if_pos h1]
    have h1' : (59 : Int) < (bs.length : Int) := by omega
    have H := Lib.hid h
    clear hz hC hB hL hJ h
    go_enter Try.func42, Try.ntmps42
    go_wp2
    go_ret
    exact ⟨rfl, H.out⟩
  rw [if_neg h1] at hz ⊢
  have h1' : ¬ (59 : Int) < (bs.length : Int) := by omega
  obtain ⟨la, lc, hlv⟩ := hJ.rows.own.form
  have hNS : (rst Z news).sure.length = Z.N := written_length _ _ hJ.ok.le
  have e0 := hJ.blk.cells2.1
  have e1 := hJ.blk.cells2.2
  have d0 := hJ.disk.blk.cells5.1
  rw [hNS] at d0
  rw [hlv] at e1
  have hN64 := hJ.ok.le64
  have hN64' : (Z.N : Int) ≤ 64 := by omega
  have hrl64 : (Z.recs.length : Int) ≤ 64 := by have := hJ.ok.le; omega
  have lj := hJ.blk.lt
  have ld := hJ.disk.blk.lt
  have HJ := Lib.hid hJ
  have H := Lib.hid h
  have HC := Lib.hid hC
  have HZ := Lib.hid hz
  have HNS := Lib.hid hNS
  have HLV := Lib.hid hlv
  have HL := Lib.hid hL
  clear hB hC hJ h hz hNS hlv hL
  by_cases h2 : Z.N ≤ Z.recs.length
  · rw [if_pos h2]
    have hd : decide (Z.N ≤ Z.recs.length) = true := by simpa using h2
    go_enter Try.func42, Try.ntmps42
    go_wp2
    go_quiet (fail)
    go_wp2
    go_ret
    exact ⟨rfl, H.out.turn0 ((Turn.refl [] w).drewN _)⟩
  rw [if_neg h2] at HZ ⊢
  have hd : decide (Z.N ≤ Z.recs.length) = false := by simpa using h2
  have hlt : Z.recs.length < Z.N := by omega
  have hltS : Z.recs.length < (rst Z news).sure.length := by rw [HNS.out]; exact hlt
  have hltI : (Z.recs.length : Int) < ((rst Z news).sure.length : Int) := by omega
  have HLT := Lib.hid (And.intro hltS hltI)
  have hbn : bs.length ≤ 59 := by omega
  have hrl : Z.recs.length < 1000000 := by omega
  have HJD := Lib.hid (HJ.out.disk)
  have nj1 := HJ.out.nj.1
  have nj3 := HJ.out.nj.2.2.1
  have nj4 := HJ.out.nj.2.2.2
  have nj2 := HJ.out.nj.2.1
  clear hltS hltI h2
  by_cases h3 : Z.dead = true ∨ Z.fuse = 0
  · rw [if_pos h3] at HZ ⊢
    have H3 := Lib.hid (show (rst Z news).dead = true ∨ (rst Z news).lit = 0 from h3)
    clear h3
    go_enter Try.func42, Try.ntmps42
    go_wp2
    go_quiet (fail)
    go_wp2
    have hq : Turn [] w (w.drewN nq) := (Turn.refl [] w).drewN _
    have hs1 := hs.turn0 hq
    have HD1 : Hid (RDAt (w.drewN nq) d sb nb ib (rst Z news)) := HJD.out.turn0 hq
    have lj1 : rj < (w.drewN nq).heap.size := lj
    obtain ⟨w1, hw1⟩ : ∃ w1, w.drewN nq = w1 := ⟨_, rfl⟩
    rw [hw1] at hq hs1 HD1 lj1 ⊢
    have c0' : w1.cell? ⟨rj, 0, none⟩ = some (.pointer (some ⟨d, 0, none⟩)) := by rw [← hw1]; exact e0
    have c1' : w1.cell? ⟨rj, 1, none⟩ = some (.slice la Z.recs.length lc) := by rw [← hw1]; exact e1
    clear hw1 e0 e1 d0
    go_region_held3 (fun w' => w'.cell? ⟨rj, 0, none⟩ = some (.pointer (some ⟨d, 0, none⟩)) ∧ w'.cell? ⟨rj, 1, none⟩ = some (.slice la Z.recs.length lc))
      (first
        | (exact ⟨c0', c1'⟩)
        | assumption
        | (exact ⟨(hT2.cell lj1 (by simp)).trans c0', (hT2.cell lj1 (by simp)).trans c1'⟩)
        | (exact ⟨(hT3.cell (Nat.lt_of_lt_of_le lj1 hT2.size) (by simp [nj1])).trans ((hT2.cell lj1 (by simp)).trans c0'), (hT3.cell (Nat.lt_of_lt_of_le lj1 hT2.size) (by simp [nj1])).trans ((hT2.cell lj1 (by simp)).trans c1')⟩))
      (first
        | (go_at_call 94; refine (rsector_any Z.recs.length _ bs _ ⟨a, c, rfl⟩ (hs1.turn0 (Turn.refl _ _).drew) hbn hrl).mono ?_; rintro e w2 ⟨rfl, hT2⟩; replace hT2 : Turn [] w1 w2 := (Turn.refl [] w1).drew.trans hT2 (by simp))
        | (go_at_call 93; refine (rwrite_dead _ (secOf Z.recs.length bs) (HD1.out.turn0 hT2) (by omega) HLT.out.2 H3.out).mono ?_; rintro e w3 ⟨rfl, hT3, hD3⟩))
    go_wp2
    go_ret
    have hT : Turn [d] w w3 := ((hq.trans hT2 (by simp)).mono (by simp)).trans hT3 (by simp)
    have hJ := HJ.out
    refine ⟨rfl, HC.out { Z with dead := true } w3 news lv vs ⟨HZ.out, hD3, hJ.news, hJ.blk.turn hT (by simp [nj1]), hJ.rows.turnP (TurnP.of_T hT) (fun b hb hx => ?_) (fun v hv b hb hx => ?_), hJ.nj, hJ.nl, hJ.nv⟩ (hT.toP (by simp)) (fun b hb => .inl hb) (fun v hv => .inl hv)⟩
    · simp only [List.mem_singleton] at hx; exact (hJ.nl b hb).1 hx
    · simp only [List.mem_singleton] at hx; exact (hJ.nv v hv b hb).1 hx
  rw [if_neg h3] at HZ ⊢
  have hdead : Z.dead = false := by
    cases hd : Z.dead with
    | false => rfl
    | true => exact absurd (.inl hd) h3
  have hlast : Z.last = none := by
    cases hl : Z.last with
    | none => rfl
    | some b => have := (HJ.out.ok.last b hl).1; rw [hdead] at this; cases this
  have hf0 : (rst Z news).lit ≠ 0 := fun h => h3 (.inr h)
  have hdd : (rst Z news).dead = false := hdead
  have HLF := Lib.hid (And.intro hdd (And.intro hf0 hlast))
  have hNn : news.length = Z.N := by have := HJD.out.lenN; rw [HNS.out] at this; exact this
  have HNn := Lib.hid hNn
  have h59l : (secOf Z.recs.length bs).length = 64 := secOf_length _ _ hbn
  have H59 := Lib.hid h59l
  clear hf0 hdd hlast hdead h3 hNn h59l
  by_cases h4 : Z.fuse = 1
  · rw [if_pos h4] at HZ ⊢
    have H4 := Lib.hid h4
    clear h4
    go_enter Try.func42, Try.ntmps42
    go_wp2
    go_quiet (fail)
    go_wp2
    have hq : Turn [] w (w.drewN nq) := (Turn.refl [] w).drewN _
    have hs1 := hs.turn0 hq
    have HD1 : Hid (RDAt (w.drewN nq) d sb nb ib (rst Z news)) := HJD.out.turn0 hq
    have lj1 : rj < (w.drewN nq).heap.size := lj
    obtain ⟨w1, hw1⟩ : ∃ w1, w.drewN nq = w1 := ⟨_, rfl⟩
    rw [hw1] at hq hs1 HD1 lj1 ⊢
    have c0' : w1.cell? ⟨rj, 0, none⟩ = some (.pointer (some ⟨d, 0, none⟩)) := by rw [← hw1]; exact e0
    have c1' : w1.cell? ⟨rj, 1, none⟩ = some (.slice la Z.recs.length lc) := by rw [← hw1]; exact e1
    clear hw1 e0 e1 d0
    go_region_held3 (fun w' => w'.cell? ⟨rj, 0, none⟩ = some (.pointer (some ⟨d, 0, none⟩)) ∧ w'.cell? ⟨rj, 1, none⟩ = some (.slice la Z.recs.length lc))
      (first
        | (exact ⟨c0', c1'⟩)
        | assumption
        | (exact ⟨(hT2.cell lj1 (by simp)).trans c0', (hT2.cell lj1 (by simp)).trans c1'⟩)
        | (exact ⟨(hT3.cell (Nat.lt_of_lt_of_le lj1 hT2.size) (by simp [nj1, nj3, nj4])).trans ((hT2.cell lj1 (by simp)).trans c0'), (hT3.cell (Nat.lt_of_lt_of_le lj1 hT2.size) (by simp [nj1, nj3, nj4])).trans ((hT2.cell lj1 (by simp)).trans c1')⟩))
      (first
        | (go_at_call 94; refine (rsector_any Z.recs.length _ bs _ ⟨a, c, rfl⟩ (hs1.turn0 (Turn.refl _ _).drew) hbn hrl).mono ?_; rintro e w2 ⟨rfl, hT2⟩; replace hT2 : Turn [] w1 w2 := (Turn.refl [] w1).drew.trans hT2 (by simp))
        | (go_at_call 93; refine (rwrite_ok Z.recs.length (secOf Z.recs.length bs) (HD1.out.turn0 hT2) H59.out HLT.out.1 HLF.out.1 HLF.out.2.1).mono ?_; rintro e w3 ⟨rfl, hT3, hD3⟩))
    have c3 : w3.cell? ⟨rj, 0, none⟩ = some (.pointer (some ⟨d, 0, none⟩)) := (hT3.cell (Nat.lt_of_lt_of_le lj1 hT2.size) (by simp [nj1, nj3, nj4])).trans ((hT2.cell lj1 (by simp)).trans c0')
    have HT3 := Lib.hid (((hq.trans hT2 (by simp)).mono (T := [d, nb, ib]) (by simp)).trans hT3 (by simp))
    have HD3 := Lib.hid hD3
    clear c0' c1' hT3 hD3 hT2
    go_wp2_with fail
    refine (rsync_dead HD3.out (.inr (by show max (Z.fuse - 1) (-1) = 0; rw [H4.out]; rfl))).mono ?_
    rintro e w4 ⟨rfl, hT4, hD4⟩
    go_wp2
    go_ret
    have hT : Turn [d, nb, ib] w w4 := HT3.out.trans hT4 (by simp)
    have hJ := HJ.out
    refine ⟨rfl, HC.out { Z with dead := true, fuse := 0, last := some bs } w4 (news.set Z.recs.length (secOf Z.recs.length bs)) lv vs ⟨HZ.out, ?_, ?_, hJ.blk.turn hT (by simp [nj1, nj3, nj4]), hJ.rows.turnP (TurnP.of_T hT) (fun b hb hx => ?_) (fun v hv b hb hx => ?_), hJ.nj, hJ.nl, hJ.nv⟩ (hT.toP (by simp)) (fun b hb => .inl hb) (fun v hv => .inl hv)⟩
    · have e1 : max (Z.fuse - 1) (-1) = 0 := by rw [H4.out]; rfl
      simp only [rst, e1] at hD4
      rw [isOf_set HLF.out.2.2 hlt bs true 0] at hD4
      exact hD4
    · intro b hb
      cases hb
      show (news.set Z.recs.length (secOf Z.recs.length bs)).getD Z.recs.length [] = _
      rw [List.getD, List.getElem?_set_self (by rw [HNn.out]; exact hlt)]; rfl
    · have := hJ.nl b hb
      simp only [List.mem_cons, List.not_mem_nil, or_false] at hx; omega
    · have := hJ.nv v hv b hb
      simp only [List.mem_cons, List.not_mem_nil, or_false] at hx; omega
  rw [if_neg h4] at HZ ⊢
  have H4 := Lib.hid h4
  clear h4
  go_enter Try.func42, Try.ntmps42
  go_wp2
  go_quiet (fail)
  go_wp2
  have hq : Turn [] w (w.drewN nq) := (Turn.refl [] w).drewN _
  have hs1 := hs.turn0 hq
  have HD1 : Hid (RDAt (w.drewN nq) d sb nb ib (rst Z news)) := HJD.out.turn0 hq
  have lj1 : rj < (w.drewN nq).heap.size := lj
  obtain ⟨w1, hw1⟩ : ∃ w1, w.drewN nq = w1 := ⟨_, rfl⟩
  rw [hw1] at hq hs1 HD1 lj1 ⊢
  have c0' : w1.cell? ⟨rj, 0, none⟩ = some (.pointer (some ⟨d, 0, none⟩)) := by rw [← hw1]; exact e0
  have c1' : w1.cell? ⟨rj, 1, none⟩ = some (.slice la Z.recs.length lc) := by rw [← hw1]; exact e1
  clear hw1 e0 e1 d0
  go_region_held3 (fun w' => w'.cell? ⟨rj, 0, none⟩ = some (.pointer (some ⟨d, 0, none⟩)) ∧ w'.cell? ⟨rj, 1, none⟩ = some (.slice la Z.recs.length lc))
    (first
      | (exact ⟨c0', c1'⟩)
      | assumption
      | (exact ⟨(hT2.cell lj1 (by simp)).trans c0', (hT2.cell lj1 (by simp)).trans c1'⟩)
      | (exact ⟨(hT3.cell (Nat.lt_of_lt_of_le lj1 hT2.size) (by simp [nj1, nj3, nj4])).trans ((hT2.cell lj1 (by simp)).trans c0'), (hT3.cell (Nat.lt_of_lt_of_le lj1 hT2.size) (by simp [nj1, nj3, nj4])).trans ((hT2.cell lj1 (by simp)).trans c1')⟩))
    (first
      | (go_at_call 94; refine (rsector_any Z.recs.length _ bs _ ⟨a, c, rfl⟩ (hs1.turn0 (Turn.refl _ _).drew) hbn hrl).mono ?_; rintro e w2 ⟨rfl, hT2⟩; replace hT2 : Turn [] w1 w2 := (Turn.refl [] w1).drew.trans hT2 (by simp))
      | (go_at_call 93; refine (rwrite_ok Z.recs.length (secOf Z.recs.length bs) (HD1.out.turn0 hT2) H59.out HLT.out.1 HLF.out.1 HLF.out.2.1).mono ?_; rintro e w3 ⟨rfl, hT3, hD3⟩))
  have c3 : w3.cell? ⟨rj, 0, none⟩ = some (.pointer (some ⟨d, 0, none⟩)) := (hT3.cell (Nat.lt_of_lt_of_le lj1 hT2.size) (by simp [nj1, nj3, nj4])).trans ((hT2.cell lj1 (by simp)).trans c0')
  have HT3 := Lib.hid (((hq.trans hT2 (by simp)).mono (T := [d, nb, ib]) (by simp)).trans hT3 (by simp))
  have HD3 := Lib.hid hD3
  clear c0' c1' hT3 hD3 hT2
  go_wp2_with fail
  refine (rsync_ok HD3.out HLF.out.1 (by
    show max (Z.fuse - 1) (-1) ≠ 0
    have h1 := H4.out
    have h2 : Z.fuse ≠ 0 := HLF.out.2.1
    have h3 : -1 ≤ Z.fuse := HJD.out.low
    omega)).mono ?_
  rintro e w4 ⟨rfl, hT4, hD4⟩
  have hT : Turn [d, sb, nb, ib] w w4 := (HT3.out.mono (by simp)).trans hT4 (by simp)
  have HT := Lib.hid hT
  have HD4 := Lib.hid hD4
  have hB4 := HJ.out.blk.turn hT (by simp [nj1, nj2, nj3, nj4])
  rw [HLV.out] at hB4
  have x0 := hB4.cells2.1
  have x1 := hB4.cells2.2
  have y1 := hB4.thaw 1
  have hR4 : RowsAt w4 lv vs Z.recs := HJ.out.rows.turnP (TurnP.of_T hT) (fun b hb hx => by have := HJ.out.nl b hb; simp only [List.mem_cons, List.not_mem_nil, or_false] at hx; omega) (fun v hv b hb hx => by have := HJ.out.nv v hv b hb; simp only [List.mem_cons, List.not_mem_nil, or_false] at hx; omega)
  have HR4 := Lib.hid hR4
  have hS4 : Src w4 (.slice a bs.length c) bs.length (bvs bs) := hs.turn hT (fun g hg hx => by
    have := HL.out g hg
    simp only [List.mem_cons, List.not_mem_nil, or_false] at hx
    apply this
    rcases hx with h | h | h | h
    · exact .inl h
    · exact .inr (.inl h)
    · exact .inr (.inr (.inl h))
    · exact .inr (.inr (.inr (.inl h))))
  have HS4 := Lib.hid hS4
  have HB4 := Lib.hid hB4
  clear hT hD4 hT4 hR4 hS4 c3 hs1
  have hE4 : Turn [] w4 (w4.alloc (.cells #[] 35)) := (Turn.refl _ _).alloc _
  have hO4 : Own (w4.alloc (.cells #[] 35)) 35 1 (.slice (some ⟨w4.heap.size, 0, none⟩) 0 0) 0 [] := Own.of_blk (l := []) (c := 0) (Blk.new w4 #[] 35) (by omega) (by unfold maxLen; omega) rfl rfl
  have HO4 := Lib.hid hO4
  have HE4 := Lib.hid hE4
  have x1e : (w4.alloc (.cells #[] 35)).cell? ⟨rj, 1, none⟩ = some (.slice la Z.recs.length lc) := (hE4.cell (p := ⟨rj, 1, none⟩) HB4.out.lt (by simp)).trans x1
  have HSl := Lib.hid ((show Src w4 (.slice la Z.recs.length lc) Z.recs.length vs from by rw [← HLV.out]; exact HR4.out.own.src).turn0 hE4)
  have hvl : vs.length = Z.recs.length * 1 := by rw [Nat.mul_one]; exact HR4.out.len
  have hone : ∀ v ∈ vs, v.oneCell' = true := fun v hv => by obtain ⟨a, n, c, rfl⟩ := HR4.out.one v hv; rfl
  have HVL := Lib.hid (And.intro hvl hone)
  clear hO4 hE4 hvl hone
  go_wp2_with (first
    | (refine wpList_append rfl _ _ 50 rfl 35 (.slice none 0 0) 1 24 Try.underlying50 Try.info_slice rfl (by omega) (.slice (some ⟨w4.heap.size, 0, none⟩) 0 0) rfl 0 [] HO4.out (.slice la Z.recs.length lc) rfl Z.recs.length vs HSl.out HVL.out.1 HVL.out.2 (by unfold maxLen; omega) (by omega) ?_
       intro a5 c5 w5 hO5 hT5 hF5
       simp only [Nat.zero_add, List.nil_append] at hO5 hF5 ⊢
       have hT45 : Turn [] w4 w5 := HE4.out.trans hT5 (fun x hx => .inr (by simp [blockOf] at hx; omega))
       have HO5 := Lib.hid hO5
       have HT5 := Lib.hid hT45
       have HF5 := Lib.hid (show ∀ g ∈ blockOf (.slice a5 Z.recs.length c5), w4.heap.size ≤ g from fun g hg => by
         rcases hF5 g hg with h | h
         · simp [blockOf] at h; omega
         · rw [World.size_alloc] at h; omega)
       have HE5 := Lib.hid (show Turn [] w5 (w5.alloc (.cells #[] 5)) from (Turn.refl _ _).alloc _)
       have HOb := Lib.hid (show Own (w5.alloc (.cells #[] 5)) 5 1 (.slice (some ⟨w5.heap.size, 0, none⟩) 0 0) 0 [] from Own.of_blk (l := []) (c := 0) (Blk.new w5 #[] 5) (by omega) (by unfold maxLen; omega) rfl rfl)
       have HSb := Lib.hid ((HS4.out.turn0 hT45).turn0 HE5.out)
       clear hO5 hT5 hF5 hT45
       go_frame)
    | (refine wpList_append rfl _ _ 35 rfl 5 (.int .u8 0) 1 1 Try.underlying35 Try.info_byte rfl (by omega) (.slice (some ⟨w5.heap.size, 0, none⟩) 0 0) rfl 0 [] HOb.out (.slice a bs.length c) rfl bs.length (bvs bs) HSb.out (by simp) (bvs_one _) (by unfold maxLen; omega) (by omega) ?_
       intro a6 c6 w6 hO6 hT6 hF6
       simp only [Nat.zero_add, List.nil_append] at hO6 hF6 ⊢
       have hT56 : Turn [] w5 w6 := HE5.out.trans hT6 (fun x hx => .inr (by simp [blockOf] at hx; omega))
       have HO6 := Lib.hid hO6
       have HT6 := Lib.hid hT56
       have HF6 := Lib.hid (show ∀ g ∈ blockOf (.slice a6 bs.length c6), w5.heap.size ≤ g from fun g hg => by
         rcases hF6 g hg with h | h
         · simp [blockOf] at h; omega
         · rw [World.size_alloc] at h; omega)
       have HE6 := Lib.hid (show Turn [] w6 (w6.alloc (.cells #[.slice a6 bs.length c6] 35)) from (Turn.refl _ _).alloc _)
       have HO56 := Lib.hid ((HO5.out.turn0 hT56).turn0 HE6.out)
       have HS6 := Lib.hid (Src.whole (Blk.new w6 #[.slice a6 bs.length c6] 35) (xs := [.slice a6 bs.length c6]) 1 1 (by omega))
       clear hO6 hT6 hF6 hT56
       go_frame)
    | (refine wpList_append rfl _ _ 50 rfl 35 (.slice none 0 0) 1 24 Try.underlying50 Try.info_slice rfl (by omega) (.slice a5 Z.recs.length c5) rfl Z.recs.length vs HO56.out (.slice (some ⟨w6.heap.size, 0, none⟩) 1 1) rfl 1 [.slice a6 bs.length c6] HS6.out rfl (by simp [Value.oneCell']) (by unfold maxLen; omega) (by omega) ?_
       intro a7 c7 w7 hO7 hT7 hF7
       have hs5 := HT5.out.size
       have hs6 := HT6.out.size
       have hT47 : Turn [] w4 w7 := (((HT5.out.trans HT6.out (by simp)).trans HE6.out (by simp))).trans hT7 (fun x hx => .inr (HF5.out x hx))
       have hB7 := HB4.out.turn hT47 (by simp)
       have y7 := hB7.thaw 1
       have x7 := hB7.cells2.2
       have HO7 := Lib.hid hO7
       have HT7 := Lib.hid hT7
       have HF7 := Lib.hid hF7
       have HT47 := Lib.hid hT47
       have HB7 := Lib.hid hB7
       clear hO7 hT7 hF7 hT47 hB7
       go_frame))
  go_ret
  have hJ := HJ.out
  have hs4 := HT.out.size
  have hs5 := HT5.out.size
  have hs6 := HT6.out.size
  have hs47 := HT47.out.size
  have lsb := hJ.disk.row.lt
  have lnb := hJ.disk.rnew.lt
  have lib := hJ.disk.ris.lt
  have hT8 : Turn [rj] w7 (w7.setCell ⟨rj, 1, none⟩ (.slice a7 (Z.recs.length + 1) c7)) := (Turn.refl _ _).setCell (by simp) _
  have hTw : TurnP (fun b => b = d ∨ b = sb ∨ b = nb ∨ b = ib ∨ b = rj) w (w7.setCell ⟨rj, 1, none⟩ (.slice a7 (Z.recs.length + 1) c7)) :=
    (((HT.out.trans HT47.out (by simp)).mono (T := [d, sb, nb, ib, rj]) (by simp)).trans hT8 (by simp)).toP (by simp)
  have hfr : ∀ b ∈ blockOf (.slice a7 (Z.recs.length + 1) c7), w4.heap.size ≤ b := fun b hb => by
    rcases HF7.out b hb with h | h
    · exact HF5.out b h
    · rw [World.size_alloc] at h; omega
  have hR6 : RowsAt (w6.alloc (.cells #[.slice a6 bs.length c6] 35)) (.slice a5 Z.recs.length c5) vs Z.recs :=
    ⟨HO56.out, HR4.out.len, fun i h1 h2 => (((HR4.out.src i h1 h2).turn0 HT5.out).turn0 HT6.out).turn0 HE6.out, fun v hv b hb hx => by have := HR4.out.seats v hv b hb; have := HF5.out b hx; omega, HR4.out.one⟩
  have hS6 : Src w7 (.slice a6 bs.length c6) bs.length (bvs bs) := ((HO6.out.src.turn0 HE6.out).turn HT7.out (fun g hg hx => by
    have h1 := HF6.out g (seatOf_sub hg)
    have h2 := HO5.out.lt g hx
    omega))
  have hR7 : RowsAt w7 (.slice a7 (Z.recs.length + 1) c7) (vs ++ [.slice a6 bs.length c6]) (Z.recs ++ [bs]) := hR6.snoc HT7.out _ bs ⟨_, _, _, rfl⟩ hS6 HO7.out (fun g hg => HF7.out g hg) (fun g hg hx => by
    have h1 := HF6.out g (seatOf_sub hg)
    have h3 := HO6.out.lt g (seatOf_sub hg)
    rcases HF7.out g hx with h | h
    · have := HO5.out.lt g h; omega
    · rw [World.size_alloc] at h; omega)
  refine ⟨rfl, HC.out { Z with recs := Z.recs ++ [bs], fuse := max (max (Z.fuse - 1) (-1) - 1) (-1) } _ (news.set Z.recs.length (secOf Z.recs.length bs)) (.slice a7 (Z.recs.length + 1) c7) (vs ++ [.slice a6 bs.length c6]) ⟨HZ.out, ?_, ?_, ?_, ?_, hJ.nj, ?_, ?_⟩ hTw (fun b hb => .inr (by have := hfr b hb; omega)) (fun v hv => ?_)⟩
  · have hD := (HD4.out.turn0 HT47.out).turn hT8 (by simp [Ne.symm nj1]) (by simp [Ne.symm nj2]) (by simp [Ne.symm nj3]) (by simp [Ne.symm nj4])
    have hm := merged_app news hJ.ok HLF.out.2.2 hlt HNn.out bs (max (Z.fuse - 1) (-1))
    have e1 : (rst Z news).dead = false := HLF.out.1
    have e2 : (rst Z news).sure.length = Z.N := HNS.out
    have e3 : Z.dead = false := e1
    simp only [rst, e3] at hD
    simp only [rst] at e2
    rw [hm, e2] at hD
    have e4 : List.replicate Z.N false = isOf { Z with recs := Z.recs ++ [bs], fuse := max (max (Z.fuse - 1) (-1) - 1) (-1) } := (isOf_none (Z := { Z with recs := Z.recs ++ [bs], fuse := max (max (Z.fuse - 1) (-1) - 1) (-1) }) HLF.out.2.2).symm
    rw [e4] at hD
    simp only [rst, e3]
    exact hD
  · intro b hb
    have hb' : Z.last = some b := hb
    rw [HLF.out.2.2] at hb'
    cases hb'
  · have := HB7.out.set 1 (.slice a7 (Z.recs.length + 1) c7)
    simpa using this
  · exact hR7.turnP (TurnP.of_T hT8) (fun b hb hx => by have := hfr b hb; simp only [List.mem_singleton] at hx; omega) (fun v hv b hb hx => by
      simp only [List.mem_singleton] at hx
      rcases List.mem_append.1 hv with h | h
      · exact (hJ.nv v h b hb).2.2.2.2 hx
      · simp only [List.mem_singleton] at h
        subst h
        have := HF6.out b (seatOf_sub hb)
        omega)
  · intro b hb
    have := hfr b hb
    exact ⟨by omega, by omega, by omega, by omega, by omega⟩
  · intro v hv b hb
    rcases List.mem_append.1 hv with h | h
    · exact hJ.nv v h b hb
    · simp only [List.mem_singleton] at h
      subst h
      have := HF6.out b (seatOf_sub hb)
      exact ⟨by omega, by omega, by omega, by omega, by omega⟩
  · rcases List.mem_append.1 hv with h | h
    · exact .inl h
    · simp only [List.mem_singleton] at h
      subst h
      exact .inr (fun b hb => by have := HF6.out b (seatOf_sub hb); omega)
end Go.Proofs.Ytkifggnjpgoamaa
