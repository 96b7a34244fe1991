/- Contracts of package journal: Append. -/
import Derived.Test.YtkifggnjpgoamaaObj
namespace Go.Proofs.Ytkifggnjpgoamaa
open Go.RowKit

theorem Try.info_slice : (Try.prog.info? 35).map (fun i => (i.zero, i.size, i.bytes)) = some (some (.slice none 0 0), 1, 24) := by kernel_rfl

set_option maxHeartbeats 400000 in
theorem append_long (w : World) (F : Nat → Prop) (j d size : Nat) (recs : List (List UInt8)) (a : Option Addr) (n c : Nat) (_hJ : JAt w F j d size recs) (hn : 59 < n) :
    Calls Try.prog 19 #[.pointer (some ⟨j, 0, none⟩), .slice a n c] w fun e w' => e = .returned (.int .i64 1) ∧ w = w' := by
  have h1 : (59 : Int) < (n : Int) := by omega
  go_enter Try.func19, Try.ntmps19
  go_wp2
  go_ret
  exact ⟨rfl, rfl⟩

set_option maxHeartbeats 400000 in
theorem append_full (w : World) (F : Nat → Prop) (j d size : Nat) (recs : List (List UInt8)) (a : Option Addr) (n c : Nat) (hJ : JAt w F j d size recs) (hn : n ≤ 59) (hf : size ≤ recs.length) :
    Calls Try.prog 19 #[.pointer (some ⟨j, 0, none⟩), .slice a n c] w fun e w' => e = .returned (.int .i64 8) ∧ Turn [] w w' := by
  have h1 : ¬ (59 : Int) < (n : Int) := by omega
  obtain ⟨⟨lv, vs, hB, _⟩, _⟩ := hJ
  have c1 := hB.cells4.2.1
  have c2 := hB.cells4.2.2.1
  have hd : decide (size ≤ recs.length) = true := by simpa using hf
  clear hB
  go_enter Try.func19, Try.ntmps19
  go_wp2
  go_quiet (fail)
  go_wp2
  go_ret
  exact ⟨rfl, (Turn.refl [] w).drewN _⟩

set_option maxRecDepth 100000 in
set_option maxHeartbeats 1600000 in
theorem append_dead1 (w : World) (F : Nat → Prop) (j d sb mb size : Nat) (S : DSt) (recs : List (List UInt8)) (a : Option Addr) (bs : List UInt8) (c : Nat) (hJ : JAt w F j d size recs) (hD : DiskAt w d sb mb S) (hF : ¬ F d ∧ ¬ F sb ∧ ¬ F mb)
    (hsz : size = S.sure.length) (hn : bs.length ≤ 59) (hf : recs.length < size) (hs : Src w (.slice a bs.length c) bs.length (bvs bs)) (hdead : S.dead = true ∨ S.fuse = 0) :
    Calls Try.prog 19 #[.pointer (some ⟨j, 0, none⟩), .slice a bs.length c] w fun e w' => e = .returned (.int .i64 13) ∧ Turn [d] w w' ∧ DiskAt w' d sb mb { S with dead := true } := by
  have h1 : ¬ (59 : Int) < (bs.length : Int) := by omega
  have hsm := hJ.small
  obtain ⟨⟨lv, vs, hB, _, hFj, _, _⟩, _⟩ := hJ
  have hjd : j ≠ d := fun e => hF.1 (e ▸ hFj)
  have c0 := hB.cells4.1
  have c1 := hB.cells4.2.1
  have c2 := hB.cells4.2.2.1
  have lj := hB.lt
  have hd : decide (size ≤ recs.length) = false := by simpa using hf
  have Hd := Lib.hid hdead
  have HD := Lib.hid hD
  have hrl : recs.length < 1000000 := by omega
  have hlt : (recs.length : Int) < (S.sure.length : Int) := by omega
  clear hdead hD hsz
  go_enter Try.func19, Try.ntmps19
  go_wp2
  go_quiet (fail)
  go_wp2
  have hq : Turn [] w (w.drewN nq) := (Turn.refl [] w).drewN _
  have hs1 := hs.turn0 hq
  have HD1 : Hid (DiskAt (w.drewN nq) d sb mb S) := HD.out.turn hq (by simp) (by simp) (by simp)
  have lj1 : j < (w.drewN nq).heap.size := lj
  obtain ⟨w1, hw1⟩ : ∃ w1, w.drewN nq = w1 := ⟨_, rfl⟩
  rw [hw1] at hq hs1 HD1 lj1 ⊢
  have c0' : w1.cell? ⟨j, 0, none⟩ = some (.pointer (some ⟨d, 0, none⟩)) := by rw [← hw1]; exact c0
  have c1' : w1.cell? ⟨j, 1, none⟩ = some (.int .i64 recs.length) := by rw [← hw1]; exact c1
  clear hw1
  go_region_held3 (fun w' => w'.cell? ⟨j, 0, none⟩ = some (.pointer (some ⟨d, 0, none⟩)) ∧ w'.cell? ⟨j, 1, none⟩ = some (.int .i64 recs.length))
    (first
      | (exact ⟨c0', c1'⟩)
      | assumption
      | (exact ⟨(hT2.cell lj1 (by simp)).trans c0', (hT2.cell lj1 (by simp)).trans c1'⟩)
      | (exact ⟨(hT3.cell (Nat.lt_of_lt_of_le lj1 hT2.size) (by simp [hjd])).trans ((hT2.cell lj1 (by simp)).trans c0'), (hT3.cell (Nat.lt_of_lt_of_le lj1 hT2.size) (by simp [hjd])).trans ((hT2.cell lj1 (by simp)).trans c1')⟩))
    (first
      | (go_at_call 70; refine (sector_any recs.length _ bs _ ⟨a, c, rfl⟩ (hs1.turn0 (Turn.refl _ _).drew) hn hrl).mono ?_; rintro e w2 ⟨rfl, hT2⟩; replace hT2 : Turn [] w1 w2 := (Turn.refl [] w1).drew.trans hT2 (by simp))
      | (go_at_call 69; refine (write_dead d sb mb S _ (secOf recs.length bs) _ (HD1.out.turn hT2 (by simp) (by simp) (by simp)) (by omega) hlt Hd.out).mono ?_; rintro e w3 ⟨rfl, hT3, hD3⟩))
  go_wp2
  go_ret
  exact ⟨rfl, ((hq.trans hT2 (by simp)).mono (by simp)).trans hT3 (by simp), hD3⟩

set_option maxRecDepth 100000 in
set_option maxHeartbeats 1600000 in
theorem append_dead2 (w : World) (F : Nat → Prop) (j d sb mb size : Nat) (S : DSt) (recs : List (List UInt8)) (a : Option Addr) (bs : List UInt8) (c : Nat) (hJ : JAt w F j d size recs) (hD : DiskAt w d sb mb S) (hF : ¬ F d ∧ ¬ F sb ∧ ¬ F mb)
    (hsz : size = S.sure.length) (hn : bs.length ≤ 59) (hf : recs.length < size) (hs : Src w (.slice a bs.length c) bs.length (bvs bs)) (hdead : S.dead = false) (hfuse : S.fuse = 1) (hsoon : S.soon = []) :
    Calls Try.prog 19 #[.pointer (some ⟨j, 0, none⟩), .slice a bs.length c] w fun e w' => e = .returned (.int .i64 13) ∧ Turn [d, mb] w w' ∧ DiskAt w' d sb mb { S with dead := true, fuse := 0, soon := [((recs.length : Int), secOf recs.length bs)] } := by
  have h1 : ¬ (59 : Int) < (bs.length : Int) := by omega
  have hsm := hJ.small
  obtain ⟨⟨lv, vs, hB, _, hFj, _, _⟩, _⟩ := hJ
  have hjd : j ≠ d := fun e => hF.1 (e ▸ hFj)
  have c0 := hB.cells4.1
  have c1 := hB.cells4.2.1
  have c2 := hB.cells4.2.2.1
  have lj := hB.lt
  have hd : decide (size ≤ recs.length) = false := by simpa using hf
  have hjm : j ≠ mb := fun e => hF.2.2 (e ▸ hFj)
  have hfuse0 : S.fuse ≠ 0 := by omega
  have Hf := Lib.hid hfuse
  have Hd := Lib.hid hdead
  have Hs := Lib.hid hsoon
  have HD := Lib.hid hD
  have hrl : recs.length < 1000000 := by omega
  have hlt : (recs.length : Int) < (S.sure.length : Int) := by omega
  clear hdead hD hsz hfuse hsoon
  go_enter Try.func19, Try.ntmps19
  go_wp2
  go_quiet (fail)
  go_wp2
  have hq : Turn [] w (w.drewN nq) := (Turn.refl [] w).drewN _
  have hs1 := hs.turn0 hq
  have HD1 : Hid (DiskAt (w.drewN nq) d sb mb S) := HD.out.turn hq (by simp) (by simp) (by simp)
  have lj1 : j < (w.drewN nq).heap.size := lj
  obtain ⟨w1, hw1⟩ : ∃ w1, w.drewN nq = w1 := ⟨_, rfl⟩
  rw [hw1] at hq hs1 HD1 lj1 ⊢
  have c0' : w1.cell? ⟨j, 0, none⟩ = some (.pointer (some ⟨d, 0, none⟩)) := by rw [← hw1]; exact c0
  have c1' : w1.cell? ⟨j, 1, none⟩ = some (.int .i64 recs.length) := by rw [← hw1]; exact c1
  clear hw1
  go_region_held3 (fun w' => w'.cell? ⟨j, 0, none⟩ = some (.pointer (some ⟨d, 0, none⟩)) ∧ w'.cell? ⟨j, 1, none⟩ = some (.int .i64 recs.length))
    (first
      | (exact ⟨c0', c1'⟩)
      | assumption
      | (exact ⟨(hT2.cell lj1 (by simp)).trans c0', (hT2.cell lj1 (by simp)).trans c1'⟩)
      | (exact ⟨(hT3.cell (Nat.lt_of_lt_of_le lj1 hT2.size) (by simp [hjd, hjm])).trans ((hT2.cell lj1 (by simp)).trans c0'), (hT3.cell (Nat.lt_of_lt_of_le lj1 hT2.size) (by simp [hjd, hjm])).trans ((hT2.cell lj1 (by simp)).trans c1')⟩))
    (first
      | (go_at_call 70; refine (sector_any recs.length _ bs _ ⟨a, c, rfl⟩ (hs1.turn0 (Turn.refl _ _).drew) hn hrl).mono ?_; rintro e w2 ⟨rfl, hT2⟩; replace hT2 : Turn [] w1 w2 := (Turn.refl [] w1).drew.trans hT2 (by simp))
      | (go_at_call 69; refine (write_ok d sb mb S _ (secOf recs.length bs) _ (HD1.out.turn hT2 (by simp) (by simp) (by simp)) (secOf_length _ _ hn) (by omega) hlt Hd.out hfuse0 Hs.out).mono ?_; rintro e w3 ⟨rfl, hT3, hD3⟩))
  have e0 : max (S.fuse - 1) (-1) = 0 := by rw [Hf.out]; rfl
  rw [e0] at hD3
  have c3 : w3.cell? ⟨j, 0, none⟩ = some (.pointer (some ⟨d, 0, none⟩)) := (hT3.cell (Nat.lt_of_lt_of_le lj1 hT2.size) (by simp [hjd, hjm])).trans ((hT2.cell lj1 (by simp)).trans c0')
  go_wp2_with fail
  refine (sync_dead d sb mb _ w3 hD3 (.inr rfl)).mono ?_
  rintro e w4 ⟨rfl, hT4, hD4⟩
  go_wp2
  go_ret
  exact ⟨rfl, (((hq.trans hT2 (by simp)).mono (by simp)).trans hT3 (by simp)).trans hT4 (by simp), hD4⟩

/-- The end of an Append that keeps its record. -/
theorem append_close {w w4 w5 w6 : World} {F : Nat → Prop} {j d sb mb size : Nat} {S : DSt} {recs : List (List UInt8)} {lv : Value} {vs : List Value} {bs : List UInt8} {a1 a2 : Option Addr} {c1 c2 : Nat}
    (hF : ¬ F d ∧ ¬ F sb ∧ ¬ F mb) (hT14 : Turn [d, sb, mb] w w4) (hD4 : DiskAt w4 d sb mb S) (hR4 : RowsAt w4 lv vs recs) (hB4 : Blk w4 j #[.pointer (some ⟨d, 0, none⟩), .int .i64 recs.length, .int .i64 size, lv] 148)
    (hFj : F j) (hFl : ∀ b ∈ blockOf lv, F b ∧ b ≠ j) (hFv : ∀ v ∈ vs, ∀ b ∈ seatOf v, F b ∧ b ≠ j) (hsz : recs.length < size) (hsz2 : size ≤ 64) (hsh : ∀ r ∈ recs, r.length ≤ 59) (hn : bs.length ≤ 59) (lj : j < w.heap.size)
    (hT46 : Turn [] w4 w5) (hO6 : Own w5 5 1 (.slice a1 bs.length c1) bs.length (bvs bs)) (hF56 : ∀ b ∈ blockOf (.slice a1 bs.length c1), w4.heap.size ≤ b)
    (hO7 : Own w6 35 1 (.slice a2 (recs.length + 1) c2) (recs.length + 1) (vs ++ [.slice a1 bs.length c1])) (hT67 : Turn (blockOf lv) (w5.alloc (.cells #[.slice a1 bs.length c1] 35)) w6)
    (hF67 : ∀ b ∈ blockOf (.slice a2 (recs.length + 1) c2), b ∈ blockOf lv ∨ (w5.alloc (.cells #[.slice a1 bs.length c1] 35)).heap.size ≤ b) (m : Int) (hm : m = (recs.length : Int) + 1) :
    TurnP (fun b => F b ∨ b = d ∨ b = sb ∨ b = mb) w ((w6.setCell ⟨j, 3, none⟩ (.slice a2 (recs.length + 1) c2)).setCell ⟨j, 1, none⟩ (.int .i64 m)) ∧
      DiskAt ((w6.setCell ⟨j, 3, none⟩ (.slice a2 (recs.length + 1) c2)).setCell ⟨j, 1, none⟩ (.int .i64 m)) d sb mb S ∧
      JAt ((w6.setCell ⟨j, 3, none⟩ (.slice a2 (recs.length + 1) c2)).setCell ⟨j, 1, none⟩ (.int .i64 m)) (fun b => F b ∨ w.heap.size ≤ b) j d size (recs ++ [bs]) := by
  have s14 := hT14.size
  have s46 := hT46.size
  have s67 := hT67.size
  rw [World.size_alloc] at s67 hF67
  have hTA : Turn [] w4 (w5.alloc (.cells #[.slice a1 bs.length c1] 35)) := hT46.alloc _
  have hll := hR4.own.lt
  have hRA : RowsAt (w5.alloc (.cells #[.slice a1 bs.length c1] 35)) lv vs recs := hR4.turnP (F := fun _ => False) (hTA.toP (by simp)) (fun _ _ h => h) (fun _ _ _ _ h => h)
  have hvl : ∀ g ∈ seatOf (Value.slice a1 bs.length c1), g ∉ blockOf lv := fun g hg h => by have := hll g h; have := hF56 g (seatOf_sub hg); omega
  have hT6 : Turn (j :: blockOf lv) w4 ((w6.setCell ⟨j, 3, none⟩ (.slice a2 (recs.length + 1) c2)).setCell ⟨j, 1, none⟩ (.int .i64 m)) :=
    (((hTA.mono (by simp)).trans hT67 (fun x hx => .inl (by simp [hx]))).setCell (by simp) _).setCell (by simp) _
  have hB6 : Blk w6 j #[.pointer (some ⟨d, 0, none⟩), .int .i64 recs.length, .int .i64 size, lv] 148 := (hB4.turn hTA (by simp)).turn hT67 (fun h => (hFl j h).2 rfl)
  have hR6 : RowsAt w6 (.slice a2 (recs.length + 1) c2) (vs ++ [.slice a1 bs.length c1]) (recs ++ [bs]) := by
    refine hRA.snoc hT67 _ bs ⟨_, _, _, rfl⟩ ((hO6.src.turn0 ((Turn.refl [] w5).alloc _)).turn hT67 hvl) hO7 (fun g hg => by rw [World.size_alloc]; exact hF67 g hg) (fun g hg h => ?_)
    have hlt := hO6.lt g (seatOf_sub hg)
    rcases hF67 g h with h | h
    · exact hvl g hg h
    · omega
  have hblk : ∀ b ∈ blockOf (Value.slice a2 (recs.length + 1) c2), (F b ∨ w.heap.size ≤ b) ∧ b ≠ j := fun b hb => by
    rcases hF67 b hb with h | h
    · exact ⟨.inl (hFl b h).1, (hFl b h).2⟩
    · exact ⟨.inr (by omega), by omega⟩
  have hblkv : ∀ v ∈ vs ++ [Value.slice a1 bs.length c1], ∀ b ∈ seatOf v, (F b ∨ w.heap.size ≤ b) ∧ b ≠ j := fun v hv b hb => by
    rcases List.mem_append.1 hv with h | h
    · exact ⟨.inl (hFv v h b hb).1, (hFv v h b hb).2⟩
    · simp only [List.mem_singleton] at h
      subst h
      have := hF56 b (seatOf_sub hb)
      exact ⟨.inr (by omega), by omega⟩
  have hTs : Turn [j] w6 ((w6.setCell ⟨j, 3, none⟩ (.slice a2 (recs.length + 1) c2)).setCell ⟨j, 1, none⟩ (.int .i64 m)) := ((Turn.refl [j] w6).setCell (by simp) _).setCell (by simp) _
  refine ⟨?_, ?_, ⟨⟨.slice a2 (recs.length + 1) c2, vs ++ [.slice a1 bs.length c1], ?_, ?_, .inl hFj, hblk, hblkv⟩, ?_, ?_⟩⟩
  · refine (hT14.toP (F := fun b => F b ∨ b = d ∨ b = sb ∨ b = mb) ?_).trans (hT6.toP (F := fun b => F b) ?_) (fun x hx => .inl (.inl hx))
    · intro x hx
      simp only [List.mem_cons, List.not_mem_nil, or_false] at hx
      exact .inl (.inr hx)
    · intro x hx
      rcases List.mem_cons.1 hx with h | h
      · rw [h]; exact .inl hFj
      · exact .inl (hFl x h).1
  · have hnot : ∀ x, ¬ F x → x ∉ (j :: blockOf lv) := fun x hx h => by
      rcases List.mem_cons.1 h with h | h
      · rw [h] at hx; exact hx hFj
      · exact hx (hFl x h).1
    exact hD4.turn hT6 (hnot _ hF.1) (hnot _ hF.2.1) (hnot _ hF.2.2)
  · have := (hB6.set 3 (.slice a2 (recs.length + 1) c2)).set 1 (.int .i64 m)
    rw [hm] at this ⊢
    simpa using this
  · refine hR6.turnP (TurnP.of_T hTs) (fun b hb h => ?_) (fun v hv b hb h => ?_)
    · simp only [List.mem_singleton] at h; exact (hblk b hb).2 h
    · simp only [List.mem_singleton] at h; exact (hblkv v hv b hb).2 h
  · simp only [List.length_append, List.length_cons, List.length_nil]; omega
  · intro r hr
    rcases List.mem_append.1 hr with h | h
    · exact hsh r h
    · simp only [List.mem_singleton] at h; rw [h]; exact hn

set_option maxRecDepth 100000 in
set_option maxHeartbeats 1600000 in
theorem append_ok (w : World) (F : Nat → Prop) (j d sb mb size : Nat) (S : DSt) (recs : List (List UInt8)) (a : Option Addr) (bs : List UInt8) (c : Nat) (hJ : JAt w F j d size recs) (hD : DiskAt w d sb mb S) (hF : ¬ F d ∧ ¬ F sb ∧ ¬ F mb)
    (hsz : size = S.sure.length) (hn : bs.length ≤ 59) (hf : recs.length < size) (hs : Src w (.slice a bs.length c) bs.length (bvs bs)) (hdead : S.dead = false) (hfuse : S.fuse ≠ 0 ∧ S.fuse ≠ 1) (hsoon : S.soon = []) (hbx : ∀ g ∈ seatOf (.slice a bs.length c), g ≠ d ∧ g ≠ sb ∧ g ≠ mb) :
    Calls Try.prog 19 #[.pointer (some ⟨j, 0, none⟩), .slice a bs.length c] w fun e w' => e = .returned (.int .i64 0) ∧ TurnP (fun b => F b ∨ b = d ∨ b = sb ∨ b = mb) w w' ∧
      DiskAt w' d sb mb { S with fuse := max (max (S.fuse - 1) (-1) - 1) (-1), sure := S.sure.set recs.length (secOf recs.length bs) } ∧ JAt w' (fun b => F b ∨ w.heap.size ≤ b) j d size (recs ++ [bs]) := by
  have h1 : ¬ (59 : Int) < (bs.length : Int) := by omega
  have hsm := hJ.small
  obtain ⟨⟨lv, vs, hB, hR, hFj, hFl, hFv⟩, hsm2, hsh⟩ := hJ
  have hjd : j ≠ d := fun e => hF.1 (e ▸ hFj)
  have c0 := hB.cells4.1
  have c1 := hB.cells4.2.1
  have c2 := hB.cells4.2.2.1
  have lj := hB.lt
  have hd : decide (size ≤ recs.length) = false := by simpa using hf
  have hjm : j ≠ mb := fun e => hF.2.2 (e ▸ hFj)
  have hfuse0 : S.fuse ≠ 0 := hfuse.1
  have Hf := Lib.hid hfuse
  have Hd := Lib.hid hdead
  have Hs := Lib.hid hsoon
  have HD := Lib.hid hD
  have hrl : recs.length < 1000000 := by omega
  have hlt : (recs.length : Int) < (S.sure.length : Int) := by omega
  clear hdead hD hsz hfuse hsoon
  go_enter Try.func19, Try.ntmps19
  go_wp2
  go_quiet (fail)
  go_wp2
  have hq : Turn [] w (w.drewN nq) := (Turn.refl [] w).drewN _
  have hs1 := hs.turn0 hq
  have HD1 : Hid (DiskAt (w.drewN nq) d sb mb S) := HD.out.turn hq (by simp) (by simp) (by simp)
  have lj1 : j < (w.drewN nq).heap.size := lj
  obtain ⟨w1, hw1⟩ : ∃ w1, w.drewN nq = w1 := ⟨_, rfl⟩
  rw [hw1] at hq hs1 HD1 lj1 ⊢
  have c0' : w1.cell? ⟨j, 0, none⟩ = some (.pointer (some ⟨d, 0, none⟩)) := by rw [← hw1]; exact c0
  have c1' : w1.cell? ⟨j, 1, none⟩ = some (.int .i64 recs.length) := by rw [← hw1]; exact c1
  clear hw1
  go_region_held3 (fun w' => w'.cell? ⟨j, 0, none⟩ = some (.pointer (some ⟨d, 0, none⟩)) ∧ w'.cell? ⟨j, 1, none⟩ = some (.int .i64 recs.length))
    (first
      | (exact ⟨c0', c1'⟩)
      | assumption
      | (exact ⟨(hT2.cell lj1 (by simp)).trans c0', (hT2.cell lj1 (by simp)).trans c1'⟩)
      | (exact ⟨(hT3.cell (Nat.lt_of_lt_of_le lj1 hT2.size) (by simp [hjd, hjm])).trans ((hT2.cell lj1 (by simp)).trans c0'), (hT3.cell (Nat.lt_of_lt_of_le lj1 hT2.size) (by simp [hjd, hjm])).trans ((hT2.cell lj1 (by simp)).trans c1')⟩))
    (first
      | (go_at_call 70; refine (sector_any recs.length _ bs _ ⟨a, c, rfl⟩ (hs1.turn0 (Turn.refl _ _).drew) hn hrl).mono ?_; rintro e w2 ⟨rfl, hT2⟩; replace hT2 : Turn [] w1 w2 := (Turn.refl [] w1).drew.trans hT2 (by simp))
      | (go_at_call 69; refine (write_ok d sb mb S _ (secOf recs.length bs) _ (HD1.out.turn hT2 (by simp) (by simp) (by simp)) (secOf_length _ _ hn) (by omega) hlt Hd.out hfuse0 Hs.out).mono ?_; rintro e w3 ⟨rfl, hT3, hD3⟩))
  have hn0 : max (S.fuse - 1) (-1) ≠ 0 := by have := Hf.out.1; have := Hf.out.2; have := HD.out.low; omega
  have c3 : w3.cell? ⟨j, 0, none⟩ = some (.pointer (some ⟨d, 0, none⟩)) := (hT3.cell (Nat.lt_of_lt_of_le lj1 hT2.size) (by simp [hjd, hjm])).trans ((hT2.cell lj1 (by simp)).trans c0')
  go_wp2_with fail
  refine (sync_ok d sb mb _ w3 recs.length (secOf recs.length bs) hD3 Hd.out hn0 rfl (show recs.length < S.sure.length by omega) (secOf_length _ _ hn)).mono ?_
  rintro e w4 ⟨rfl, hT4, hD4⟩
  have hjs : j ≠ sb := fun e => hF.2.1 (e ▸ hFj)
  have hT14 : Turn [d, sb, mb] w w4 := (((hq.trans hT2 (by simp)).mono (by simp)).trans hT3 (by simp)).trans hT4 (by simp)
  have hB4 := hB.turn hT14 (by simp [hjd, hjm, hjs])
  have hnd : ∀ b, F b → ¬ (b ∈ [d, sb, mb]) := fun b hb hm => by
    simp only [List.mem_cons, List.not_mem_nil, or_false] at hm
    rcases hm with rfl | rfl | rfl
    · exact hF.1 hb
    · exact hF.2.1 hb
    · exact hF.2.2 hb
  have hR4 : RowsAt w4 lv vs recs := hR.turnP (TurnP.of_T hT14) (fun b hb => hnd b (hFl b hb).1) (fun v hv b hb => hnd b (hFv v hv b hb).1)
  have c4 := hB4.cells4.2.2.2
  have l4 := hB4.lt
  clear c0 c1 c2 c0' c1' c3
  have hN5 : Blk (w4.drew.alloc (.cells #[] 5)) w4.heap.size #[] 5 := Blk.new w4.drew #[] 5
  have hT45 : Turn [] w4 (w4.drew.alloc (.cells #[] 5)) := (Turn.refl [] w4).drew.alloc _
  have hO5 : Own (w4.drew.alloc (.cells #[] 5)) 5 1 (.slice (some ⟨w4.heap.size, 0, none⟩) 0 0) 0 [] :=
    Own.of_blk (l := []) (c := 0) hN5 (by omega) (by unfold maxLen; omega) rfl rfl
  have hS4 : Src w4 (.slice a bs.length c) bs.length (bvs bs) := hs.turn hT14 (fun g hg h => by
    have := hbx g hg
    simp only [List.mem_cons, List.not_mem_nil, or_false] at h
    omega)
  have hS5 := hS4.turn0 hT45
  go_wp2
  go_region_law (first
    | (refine step_append rfl _ _ 35 rfl 5 (.int .u8 0) 1 1 Try.underlying35 Try.info_byte rfl (by omega) (.slice (some ⟨w4.heap.size, 0, none⟩) 0 0) rfl 0 [] hO5 (.slice a bs.length c) rfl bs.length (bvs bs) hS5 (by simp) (bvs_one _) (by unfold maxLen; omega) (by omega) ?_
       intro a1 c1 w5 hO6 hT56 hF56; simp only [Nat.zero_add, List.nil_append] at hO6 hF56
       have hT46 : Turn [] w4 w5 := hT45.trans hT56 (fun x hx => Or.inr (by simp [blockOf] at hx; omega))
       have hB5 := hB4.turn hT46 (by simp)
       have c5 := hB5.cells4.2.2.2
       have l5 := hB5.lt)
    | (refine step_append rfl _ _ 50 rfl 35 (.slice none 0 0) 1 24 Try.underlying50 Try.info_slice rfl (by omega) lv rfl recs.length vs (hR4.own.turn0 (hT46.alloc _)) (.slice (some ⟨w5.heap.size, 0, none⟩) 1 1) rfl 1 [.slice a1 bs.length c1] (Src.whole (Blk.new w5 _ _) 1 1 (by omega)) (by simp) (by simp [Value.oneCell']) (by unfold maxLen; omega) (by omega) ?_
       intro a2 c2 w6 hO7 hT67 hF67
       have hB6 : Blk w6 j #[.pointer (some ⟨d, 0, none⟩), .int .i64 recs.length, .int .i64 size, lv] 148 := (hB4.turn (hT46.alloc _) (by simp)).turn hT67 (fun h => (hFl j h).2 rfl)
       have c6 := hB6.cells4.2.2.2
       have f6 := hB6.thaw 3
       have c61 := hB6.cells4.2.1
       have f61 := hB6.thaw 1))
  all_goals
    go_wp2
    go_ret
    have hc := append_close hF hT14 hD4 hR4 hB4 hFj hFl hFv hf hsm2.2 hsh hn lj hT46 hO6 (fun b hb => by
      rcases hF56 b hb with h | h
      · simp only [blockOf, List.mem_singleton] at h; omega
      · have h2 : ∀ o : Obj, (w4.alloc o).drew.heap.size = w4.heap.size + 1 := fun o => World.size_alloc w4 o
        rw [h2] at h; omega) hO7 hT67 hF67 _ rfl
    exact ⟨rfl, hc.1, by rw [Hs.out]; exact hc.2.1, hc.2.2⟩
end Go.Proofs.Ytkifggnjpgoamaa
