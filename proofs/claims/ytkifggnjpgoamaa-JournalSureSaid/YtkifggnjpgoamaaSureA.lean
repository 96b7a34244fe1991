/- JournalSure: one Append, by the law's invariant. -/
import Derived.Test.YtkifggnjpgoamaaSureI
namespace Go.Proofs.Ytkifggnjpgoamaa
open Go.RowKit
variable {w : World} {d sb mb B5 : Nat} {m0 m1 : Int} {j : Nat} {jr : List (List UInt8)} {sv : Value} {sr : List (List UInt8)} {uv : Value} {ur : List (List UInt8)} {W : World}

theorem SureI.nots {S : DSt} (h : SureI w d sb mb B5 m0 m1 j jr sv sr uv ur S W) : ∃ F, JAt W F j d 64 jr ∧ (¬ F d ∧ ¬ F sb ∧ ¬ F mb) := by
  obtain ⟨_, _, _, _, F, vs, us, a1, a2, _⟩ := h
  exact ⟨F, a1, fun hb => (a2 _ hb).2.1 rfl, fun hb => (a2 _ hb).2.2.1 rfl, fun hb => (a2 _ hb).2.2.2.1 rfl⟩

theorem append_dead {soon : List (Int × List UInt8)} {f : Int} (h : SureI w d sb mb B5 m0 m1 j jr sv sr uv ur ⟨written jr 64, soon, f, true⟩ W) (a : Option Addr) (b : List UInt8) (c : Nat) (hb : b.length ≤ 59) (hl : jr.length < 64)
    (hs : Src W (.slice a b.length c) b.length (bvs b)) :
    Calls Try.prog 19 #[.pointer (some ⟨j, 0, none⟩), .slice a b.length c] W fun e W' => e = .returned (.int .i64 13) ∧ Turn [d] W W' ∧ SureI w d sb mb B5 m0 m1 j jr sv sr uv ur ⟨written jr 64, soon, f, true⟩ W' := by
  obtain ⟨F, hJ, hF⟩ := h.nots
  refine (append_dead1 W F j d sb mb 64 _ jr a b c hJ h.disk hF (by rw [written_length _ _ (by omega)]) hb hl hs (.inl rfl)).mono ?_
  rintro e W' ⟨rfl, hT, hD⟩
  exact ⟨rfl, hT, h.disks (hT.toP (by simp)) hD⟩

theorem append_live {f : Int} (h : SureI w d sb mb B5 m0 m1 j jr sv sr uv ur ⟨written jr 64, [], f, false⟩ W) (hf : 0 ≤ f) (a : Option Addr) (b : List UInt8) (c : Nat) (hb : b.length ≤ 59) (hl : jr.length < 64)
    (hs : Src W (.slice a b.length c) b.length (bvs b)) (hv0 : ∀ g ∈ seatOf (.slice a b.length c), g < w.heap.size) :
    Calls Try.prog 19 #[.pointer (some ⟨j, 0, none⟩), .slice a b.length c] W fun e W' =>
      (e = .returned (.int .i64 13) ∧ ∃ f' soon, (soon = [] ∨ soon = [((jr.length : Int), secOf jr.length b)]) ∧ SureI w d sb mb B5 m0 m1 j jr sv sr uv ur ⟨written jr 64, soon, f', true⟩ W') ∨
      (e = .returned (.int .i64 0) ∧ ∃ f', 0 ≤ f' ∧ SureI w d sb mb B5 m0 m1 j (jr ++ [b]) sv sr uv ur ⟨written (jr ++ [b]) 64, [], f', false⟩ W') := by
  obtain ⟨F, hJ, hF⟩ := h.nots
  have hlen : 64 = (written jr 64).length := by rw [written_length _ _ (by omega)]
  by_cases h0 : f = 0
  · refine (append_dead1 W F j d sb mb 64 _ jr a b c hJ h.disk hF hlen hb hl hs (.inr h0)).mono ?_
    rintro e W' ⟨rfl, hT, hD⟩
    exact .inl ⟨rfl, f, [], .inl rfl, h.disks (hT.toP (by simp)) hD⟩
  by_cases h1 : f = 1
  · refine (append_dead2 W F j d sb mb 64 _ jr a b c hJ h.disk hF hlen hb hl hs rfl h1 rfl).mono ?_
    rintro e W' ⟨rfl, hT, hD⟩
    exact .inl ⟨rfl, 0, _, .inr rfl, h.disks (hT.toP (by simp)) hD⟩
  · obtain ⟨_, _, hn, _, F, vs, us, a1, rest⟩ := id h
    have hz := h.tw.size
    refine (append_ok W F j d sb mb 64 _ jr a b c a1 h.disk ⟨fun hb => (rest.1 _ hb).2.1 rfl, fun hb => (rest.1 _ hb).2.2.1 rfl, fun hb => (rest.1 _ hb).2.2.2.1 rfl⟩ hlen hb hl hs rfl ⟨h0, h1⟩ rfl
      (fun g hg => by have := hv0 g hg; omega)).mono ?_
    rintro e W' ⟨rfl, hT, hD, hJ'⟩
    refine .inr ⟨rfl, max (max (f - 1) (-1) - 1) (-1), by omega, ?_⟩
    have := h.journal (b := b) ⟨vs, us, a1, rest⟩ hT hD hJ'
    simp only [written_snoc _ _ _ hl] at this
    exact this

theorem RowsSrc.append {W : World} {v s1 s2 : Value} {vs1 vs2 : List Value} {rs1 rs2 : List (List UInt8)} (ho : Src W v (rs1.length + rs2.length) (vs1 ++ vs2)) (h1 : RowsSrc W s1 vs1 rs1) (h2 : RowsSrc W s2 vs2 rs2) : RowsSrc W v (vs1 ++ vs2) (rs1 ++ rs2) := by
  refine ⟨by rw [List.length_append]; exact ho, by simp [h1.len, h2.len], fun i hi hi' => ?_⟩
  by_cases hlt : i < vs1.length
  · have hlt' : i < rs1.length := by rw [← h1.len]; exact hlt
    rw [List.getElem_append_left hlt, List.getElem_append_left hlt']
    exact h1.each i hlt hlt'
  · have hge : vs1.length ≤ i := by omega
    have hge' : rs1.length ≤ i := by rw [← h1.len]; exact hge
    have e : i - vs1.length = i - rs1.length := by rw [h1.len]
    rw [List.getElem_append_right hge, List.getElem_append_right hge']
    have h2i : i - vs1.length < vs2.length := by simp at hi; omega
    have h2i' : i - rs1.length < rs2.length := by simp at hi'; omega
    have := h2.each (i - vs1.length) h2i (by rw [e]; exact h2i')
    simp only [e] at this ⊢
    exact this
end Go.Proofs.Ytkifggnjpgoamaa
