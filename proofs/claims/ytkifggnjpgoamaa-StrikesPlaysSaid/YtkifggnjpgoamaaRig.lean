/- A disk with a journal on it, as one thing in memory ('rigH'), and what the calls do to it. -/
import Derived.Test.YtkifggnjpgoamaaStkP
import Derived.Test.YtkifggnjpgoamaaSep
import Derived.Test.YtkifggnjpgoamaaCrash
import Derived.Test.YtkifggnjpgoamaaSeen
import Derived.Test.YtkifggnjpgoamaaNew
namespace Go.Proofs.Ytkifggnjpgoamaa
open Go.RowKit

def diskH (d sb mb : Nat) (S : DSt) : HA where
  at' w F := DiskAt w d sb mb S ∧ F = (fun b => b = d ∨ b = sb ∨ b = mb)
  lt := by
    rintro w F ⟨h, rfl⟩ b hb
    rcases hb with rfl | rfl | rfl
    · exact h.blk.lt
    · exact h.row.lt
    · exact h.soon.lt
  keep := by rintro w w' F G ⟨h, rfl⟩ k hn; exact ⟨h.turnP k (hn d (.inl rfl)) (hn sb (.inr (.inl rfl))) (hn mb (.inr (.inr rfl))), rfl⟩
def rigH (d sb mb j : Nat) (Z : JSt) : HA where
  at' w F := Z.ok ∧ DiskAt w d sb mb Z.disk ∧ ∃ G : Nat → Prop, JAt w G j d Z.N Z.recs ∧ (∀ b, G b → b < w.heap.size) ∧ (¬ G d ∧ ¬ G sb ∧ ¬ G mb) ∧ F = (fun b => G b ∨ b = d ∨ b = sb ∨ b = mb)
  lt := by
    rintro w F ⟨_, h, G, _, g, _, rfl⟩ b hb
    rcases hb with hb | rfl | rfl | rfl
    · exact g b hb
    · exact h.blk.lt
    · exact h.row.lt
    · exact h.soon.lt
  keep := by
    rintro w w' F K ⟨z, h, G, j, g, g2, rfl⟩ k hn
    exact ⟨z, h.turnP k (hn d (.inr (.inl rfl))) (hn sb (.inr (.inr (.inl rfl)))) (hn mb (.inr (.inr (.inr rfl)))), G, j.turnP k (fun b hb => hn b (.inl hb)), fun b hb => Nat.lt_of_lt_of_le (g b hb) k.size, g2, rfl⟩

variable {w0 w w' : World} {R : List HA} {d sb mb j : Nat} {Z : JSt} {S : DSt}
theorem St.disk (h : St w0 (diskH d sb mb S :: R) w) : DiskAt w d sb mb S := by obtain ⟨F, a, _⟩ := h.fst; exact a
theorem St.setDisk {S' : DSt} (h : St w0 (diskH d sb mb S :: R) w) (k : Turn [d, sb, mb] w w') (hD : DiskAt w' d sb mb S') : St w0 (diskH d sb mb S' :: R) w' := by
  obtain ⟨F, ⟨a, rfl⟩, f2, f3⟩ := h.step1
  exact f3 (diskH d sb mb S') w' _ ⟨hD, rfl⟩ (k.toP (by simp)) (fun b hb => .inl hb)
theorem St.rigOk (h : St w0 (rigH d sb mb j Z :: R) w) : Z.ok := by obtain ⟨F, a, _⟩ := h.fst; exact a
theorem St.rigDisk (h : St w0 (rigH d sb mb j Z :: R) w) : DiskAt w d sb mb Z.disk := by obtain ⟨F, _, a, _⟩ := h.fst; exact a

/-- A rig opened. -/
theorem St.rig (h : St w0 (rigH d sb mb j Z :: R) w) {L : List Nat} (ha : Apart w0 R L) : ∃ G : Nat → Prop, Z.ok ∧ DiskAt w d sb mb Z.disk ∧ JAt w G j d Z.N Z.recs ∧ (¬ G d ∧ ¬ G sb ∧ ¬ G mb) ∧ (∀ b ∈ L, ¬ G b ∧ b ≠ d ∧ b ≠ sb ∧ b ≠ mb) ∧
    (∀ b, G b ∨ b = d ∨ b = sb ∨ b = mb → w0.heap.size ≤ b ∧ b < w.heap.size) ∧
    ∀ (Z' : JSt) (w' : World) (G' : Nat → Prop), Z'.ok → DiskAt w' d sb mb Z'.disk → JAt w' G' j d Z'.N Z'.recs → TurnP (fun b => G b ∨ b = d ∨ b = sb ∨ b = mb) w w' → (∀ b, G' b → G b ∨ w.heap.size ≤ b) → St w0 (rigH d sb mb j Z' :: R) w' := by
  have h' : St w0 ([rigH d sb mb j Z] ++ R) w := h
  obtain ⟨F, ⟨F1, F2, ⟨z, hD, G, hJ, g1, g2, rfl⟩, _, _, a4, _⟩, f2, f3, f4⟩ := St.openA [rigH d sb mb j Z] h' ha
  refine ⟨G, z, hD, hJ, g2, fun b hb => ?_, fun b hb => f2 b (a4 b hb), fun Z' w' G' z' hD' hJ' k hG => ?_⟩
  · have := f3 b hb
    refine ⟨fun hx => this (a4 b (.inl hx)), ?_, ?_, ?_⟩
    · rintro rfl; exact this (a4 b (.inr (.inl rfl)))
    · rintro rfl; exact this (a4 b (.inr (.inr (.inl rfl))))
    · rintro rfl; exact this (a4 b (.inr (.inr (.inr rfl))))
  · have hd := hD.blk.lt
    have hs := hD.row.lt
    have hm := hD.soon.lt
    refine f4 [rigH d sb mb j Z'] w' _ (Sep.one ⟨z', hD', _, hJ'.here, fun b hb => hb.2, ?_, rfl⟩) (k.mono (fun b hb => .inl (a4 b hb))) ?_
    · refine ⟨fun hx => ?_, fun hx => ?_, fun hx => ?_⟩
      · rcases hG _ hx.1 with h | h
        · exact g2.1 h
        · omega
      · rcases hG _ hx.1 with h | h
        · exact g2.2.1 h
        · omega
      · rcases hG _ hx.1 with h | h
        · exact g2.2.2 h
        · omega
    · rintro b (hb | hb)
      · rcases hG b hb.1 with h | h
        · exact .inl (a4 b (.inl h))
        · exact .inr h
      · exact .inl (a4 b (.inr hb))
theorem apart_nil : Apart w0 R [] := fun _ h => by cases h

theorem new_rig (n : Nat) (h : St w0 R w) (h1 : 1 ≤ n) (h2 : n ≤ 64) :
    Calls Try.prog 16 #[.int .i64 n] w fun e w' => ∃ d sb mb, e = .returned (.tuple #[.pointer (some ⟨d, 0, none⟩), .int .i64 0]) ∧ St w0 (diskH d sb mb ⟨written [] n, [], -1, false⟩ :: R) w' := by
  refine (new_ok n w h1 h2).mono ?_
  rintro e w' ⟨d, sb, mb, rfl, g1, g2, g3, hT, hD⟩
  refine ⟨d, sb, mb, rfl, h.more hT [diskH d sb mb _] _ (Sep.one ⟨by rw [written_nil]; exact hD, rfl⟩) ?_⟩
  rintro b (rfl | rfl | rfl)
  · exact g1
  · exact g2
  · exact g3

theorem open_rig (recs : List (List UInt8)) (N : Nat) (f : Int) (dead : Bool) (h : St w0 (diskH d sb mb ⟨written recs N, [], f, dead⟩ :: R) w) (hl : recs.length ≤ N) (hN : N ≤ 64) (h59 : ∀ r ∈ recs, r.length ≤ 59) :
    Calls Try.prog 17 #[.pointer (some ⟨d, 0, none⟩)] w fun e w' => ∃ j, e = .returned (.tuple #[.pointer (some ⟨j, 0, none⟩), .int .i64 0]) ∧ St w0 (rigH d sb mb j ⟨N, recs, none, f, dead⟩ :: R) w' := by
  refine (open_written d sb mb _ recs N w h.disk rfl rfl hl hN h59).mono ?_
  rintro e w' ⟨j, rfl, hJ, hT⟩
  refine ⟨j, rfl, ?_⟩
  obtain ⟨F, ⟨hD, rfl⟩, f2, f3⟩ := h.step1
  have hd := hD.blk.lt
  have hs := hD.row.lt
  have hm := hD.soon.lt
  refine f3 (rigH d sb mb j ⟨N, recs, none, f, dead⟩) w' _ ⟨⟨hl, hN, h59, fun b hb => by cases hb⟩, hD.turn hT (by simp) (by simp) (by simp), _, hJ.here, fun b hb => hb.2, ⟨fun hx => ?_, fun hx => ?_, fun hx => ?_⟩, rfl⟩ hT.toP0 ?_
  · have := hx.1; omega
  · have := hx.1; omega
  · have := hx.1; omega
  · rintro b (hb | hb)
    · exact .inr hb.1
    · exact .inl hb

theorem append_rig (h : St w0 (rigH d sb mb j Z :: R) w) (a : Option Addr) (n : Nat) (bs : List UInt8) (c : Nat) (hn : n = bs.length) (hs : Src w (.slice a n c) n (bvs bs)) (ha : Apart w0 R (seatOf (.slice a n c))) :
    Calls Try.prog 19 #[.pointer (some ⟨j, 0, none⟩), .slice a n c] w fun e w' => e = .returned (.int .i64 (Z.append bs).1) ∧ St w0 (rigH d sb mb j (Z.append bs).2 :: R) w' := by
  subst hn
  obtain ⟨G, z, hD, hJ, hG, hL, hB, hC⟩ := h.rig ha
  have hz := z.append bs
  unfold JSt.append at hz ⊢
  have hlen : Z.N = Z.disk.sure.length := (written_length _ _ z.le).symm
  by_cases h1 : 59 < bs.length
  · rw [if_pos h1]
    refine (append_long w G j d Z.N Z.recs a bs.length c hJ h1).mono ?_
    rintro e w' ⟨rfl, rfl⟩
    exact ⟨rfl, h⟩
  rw [if_neg h1] at hz ⊢
  by_cases h2 : Z.N ≤ Z.recs.length
  · rw [if_pos h2]
    refine (append_full w G j d Z.N Z.recs a bs.length c hJ (by omega) h2).mono ?_
    rintro e w' ⟨rfl, hT⟩
    exact ⟨rfl, h.turn0 hT⟩
  rw [if_neg h2] at hz ⊢
  by_cases h3 : Z.dead = true ∨ Z.fuse = 0
  · rw [if_pos h3] at hz ⊢
    refine (append_dead1 w G j d sb mb Z.N Z.disk Z.recs a bs c hJ hD hG hlen (by omega) (by omega) hs h3).mono ?_
    rintro e w' ⟨rfl, hT, hD'⟩
    refine ⟨rfl, hC { Z with dead := true } w' G hz hD' (hJ.turnP (hT.toP (F := fun b => b = d) (by simp)) (fun b hb hx => by subst hx; exact hG.1 hb)) (hT.toP (by simp)) (fun b hb => .inl hb)⟩
  rw [if_neg h3] at hz ⊢
  have hdead : Z.dead = false := by
    cases hd : Z.dead with
    | false => rfl
    | true => exact absurd (.inl hd) h3
  have hlast : Z.last = none := by
    cases hl : Z.last with
    | none => rfl
    | some b => have := (z.last b hl).1; rw [hdead] at this; cases this
  have hsoon : Z.disk.soon = [] := JSt.soon_none hlast
  by_cases h4 : Z.fuse = 1
  · rw [if_pos h4] at hz ⊢
    refine (append_dead2 w G j d sb mb Z.N Z.disk Z.recs a bs c hJ hD hG hlen (by omega) (by omega) hs hdead h4 hsoon).mono ?_
    rintro e w' ⟨rfl, hT, hD'⟩
    exact ⟨rfl, hC { Z with dead := true, fuse := 0, last := some bs } w' G hz hD' (hJ.turnP (hT.toP (F := fun b => b = d ∨ b = mb) (by simp)) (fun b hb hx => by
      rcases hx with rfl | rfl
      · exact hG.1 hb
      · exact hG.2.2 hb)) (hT.toP (by simp)) (fun b hb => .inl hb)⟩
  rw [if_neg h4] at hz ⊢
  refine (append_ok w G j d sb mb Z.N Z.disk Z.recs a bs c hJ hD hG hlen (by omega) (by omega) hs hdead ⟨fun h => h3 (.inr h), h4⟩ hsoon (fun g hg => (hL g hg).2)).mono ?_
  rintro e w' ⟨rfl, hT, hD', hJ'⟩
  refine ⟨rfl, hC { Z with recs := Z.recs ++ [bs], fuse := max (max (Z.fuse - 1) (-1) - 1) (-1) } w' _ hz ?_ hJ' hT (fun b hb => hb)⟩
  have e1 : Z.disk.sure.set Z.recs.length (secOf Z.recs.length bs) = written (Z.recs ++ [bs]) Z.N := written_snoc _ _ _ (by omega)
  rw [e1] at hD'
  have e2 : (JSt.disk { Z with recs := Z.recs ++ [bs], fuse := max (max (Z.fuse - 1) (-1) - 1) (-1) }) = { Z.disk with fuse := max (max (Z.disk.fuse - 1) (-1) - 1) (-1), sure := written (Z.recs ++ [bs]) Z.N } := by
    simp only [JSt.disk, JSt.soon, hlast]
  rw [e2]
  exact hD'

theorem fuse_rig (h : St w0 (rigH d sb mb j Z :: R) w) (n : Int) (hn : n ≤ 9223372036854775807) :
    Calls Try.prog 18 #[.pointer (some ⟨d, 0, none⟩), .int .i64 n] w fun e w' => e = .returned (.tuple #[]) ∧ St w0 (rigH d sb mb j { Z with fuse := max n (-1) } :: R) w' := by
  obtain ⟨G, z, hD, hJ, hG, hL, hB, hC⟩ := h.rig apart_nil
  refine (fuse_any d sb mb Z.disk n w hD hn).mono ?_
  rintro e w' ⟨rfl, hT, hD'⟩
  exact ⟨rfl, hC { Z with fuse := max n (-1) } w' G ⟨z.le, z.le64, z.short, z.last⟩ hD' (hJ.turnP (hT.toP (F := fun b => b = d) (by simp)) (fun b hb hx => by subst hx; exact hG.1 hb)) (hT.toP (by simp)) (fun b hb => .inl hb)⟩

theorem crash_rig (h : St w0 (rigH d sb mb j Z :: R) w) (mask : Int) :
    Calls Try.prog 20 #[.pointer (some ⟨d, 0, none⟩), .int .u64 mask] w fun e w' => e = .returned (.tuple #[]) ∧ St w0 (diskH d sb mb ⟨written (Z.crash (bit0 mask)) Z.N, [], -1, false⟩ :: R) w' := by
  have h' : St w0 ([rigH d sb mb j Z] ++ R) w := h
  obtain ⟨F, ⟨F1, F2, ⟨z, hD, G, hJ, g1, g2, rfl⟩, _, _, a4, _⟩, f2, f3⟩ := St.openL [rigH d sb mb j Z] h'
  have fin : ∀ (S : DSt) (w' : World), Turn [d, sb, mb] w w' → DiskAt w' d sb mb S → St w0 (diskH d sb mb S :: R) w' := fun S w' hT hD' =>
    f3 [diskH d sb mb S] w' _ (Sep.one ⟨hD', rfl⟩) (hT.toP (fun b hb => .inl (a4 b (.inr (by simpa using hb))))) (fun b hb => .inl (a4 b (.inr hb)))
  unfold JSt.crash
  cases hl : Z.last with
  | none =>
    refine (crash_none d sb mb Z.disk mask w hD (JSt.soon_none hl)).mono ?_
    rintro e w' ⟨rfl, hT, hD'⟩
    exact ⟨rfl, fin _ _ hT hD'⟩
  | some b =>
    obtain ⟨l1, l2, l3⟩ := z.last b hl
    have hlen : Z.recs.length < Z.disk.sure.length := by show Z.recs.length < (written Z.recs Z.N).length; rw [written_length _ _ z.le]; exact l3
    refine (crash_one d sb mb Z.disk mask Z.recs.length (secOf Z.recs.length b) w hD (JSt.soon_some hl) hlen (secOf_length _ _ l2)).mono ?_
    rintro e w' ⟨rfl, hT, hD'⟩
    refine ⟨rfl, fin _ _ hT ?_⟩
    have e1 : crashed (bit0 mask) Z.disk.sure Z.recs.length (secOf Z.recs.length b) = written (if bit0 mask then Z.recs ++ [b] else Z.recs) Z.N := by
      unfold crashed
      cases bit0 mask
      · rfl
      · exact written_snoc _ _ _ l3
    rw [e1] at hD'
    exact hD'
end Go.Proofs.Ytkifggnjpgoamaa
