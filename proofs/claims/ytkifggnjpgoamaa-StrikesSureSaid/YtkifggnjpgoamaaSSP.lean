/- StrikesSure: the plain laws: what holds between two Adds, and behind the crash. -/
import Derived.Test.YtkifggnjpgoamaaStkP
namespace Go.Proofs.Ytkifggnjpgoamaa
open Go.RowKit

def toldOf (M : Led) : List (Int × Bool) := M.map fun p => (p.1, true)
theorem aget_told (M : Led) (k : Int) : aget (toldOf M) k = (aget M k).map fun _ => true := by
  unfold aget toldOf
  rw [List.find?_map]
  have : ((fun p : Int × Bool => p.1 == k) ∘ fun p : Int × Stk => (p.1, true)) = fun p => p.1 == k := rfl
  rw [this]
  cases M.find? (fun p => p.1 == k) <;> rfl

/-- Between two Adds: the journal's state, the ledger, the first number that went down with the power. -/
structure SSI (q : Nat) (Z : JSt) (M : Led) (under : Int) : Prop where
  N : Z.N = 64
  few : Z.recs.length ≤ q
  led : M = ledOf Z.recs
  plain : ∀ p ∈ M, p.2.time = 5 ∧ p.2.cleared = false
  fuse : 0 ≤ Z.fuse
  way : (Z.dead = false ∧ Z.last = none ∧ under = -1) ∨ (Z.dead = true ∧ 0 ≤ under ∧ under ≤ 1000000 ∧ aget M under = none ∧ (Z.last = none ∨ ∃ a, a < 8 ∧ Z.last = some (recB 1 a under.toNat 5)))

theorem SSI.mono {q : Nat} {Z : JSt} {M : Led} {u : Int} (h : SSI q Z M u) : SSI (q + 1) Z M u := ⟨h.N, by have := h.few; omega, h.led, h.plain, h.fuse, h.way⟩

theorem SSI.step {q : Nat} {Z : JSt} {M : Led} {u : Int} (h : SSI q Z M u) (hq : q < 60) (a : Nat) (ha : a < 8) (id : Int) :
    ((addF a id 5 Z M).1 = 0 ∧ aget M id = none ∧ (addF a id 5 Z M).2.2 = M ++ [(id, ⟨a, 5, false⟩)] ∧ SSI (q + 1) (addF a id 5 Z M).2.1 (addF a id 5 Z M).2.2 u) ∨
    ((addF a id 5 Z M).1 = 13 ∧ u = -1 ∧ (addF a id 5 Z M).2.2 = M ∧ SSI (q + 1) (addF a id 5 Z M).2.1 M id) ∨
    ((addF a id 5 Z M).1 ≠ 0 ∧ ((addF a id 5 Z M).1 = 13 → 0 ≤ u) ∧ (addF a id 5 Z M).2.2 = M ∧ SSI (q + 1) (addF a id 5 Z M).2.1 M u) := by
  unfold addF
  by_cases hb : (a : Int) < 0 ∨ 8 ≤ (a : Int) ∨ isTime id = false ∨ isTime 5 = false
  · rw [if_pos hb]
    exact .inr (.inr ⟨by simp, by simp, rfl, h.mono⟩)
  rw [if_neg hb]
  by_cases hs : (aget M id).isSome = true
  · rw [if_pos hs]
    exact .inr (.inr ⟨by simp, by simp, rfl, h.mono⟩)
  rw [if_neg hs]
  have hn : aget M id = none := by cases hg : aget M id with
    | none => rfl
    | some s => rw [hg] at hs; simp at hs
  have hid : 0 ≤ id ∧ id ≤ 1000000 := by
    rw [← isTime_iff]
    cases ht : isTime id with
    | true => rfl
    | false => exact absurd (.inr (.inr (.inl ht))) hb
  have e5 : (5 : Int).toNat = 5 := rfl
  have ea : ((a : Nat) : Int).toNat = a := by omega
  unfold keepF
  rw [e5, ea]
  have hlen := recB_length 1 a id.toNat 5
  unfold JSt.append
  rw [if_neg (by rw [hlen]; omega), if_neg (by have := h.N; have := h.few; omega)]
  by_cases hd : Z.dead = true ∨ Z.fuse = 0
  · rw [if_pos hd]
    rcases h.way with ⟨w1, w2, w3⟩ | ⟨w1, w2, w3⟩
    · exact .inr (.inl ⟨rfl, w3, by simp, h.N, by have := h.few; simp only; omega, h.led, h.plain, h.fuse, .inr ⟨rfl, hid.1, hid.2, hn, .inl w2⟩⟩)
    · exact .inr (.inr ⟨by simp, fun _ => w2, by simp, h.N, by have := h.few; simp only; omega, h.led, h.plain, h.fuse, .inr ⟨rfl, w2, w3⟩⟩)
  rw [if_neg hd]
  have hw : Z.dead = false ∧ Z.last = none ∧ u = -1 := by
    rcases h.way with w | ⟨w1, _⟩
    · exact w
    · exact absurd (.inl w1) hd
  by_cases h1 : Z.fuse = 1
  · rw [if_pos h1]
    exact .inr (.inl ⟨rfl, hw.2.2, by simp, h.N, by have := h.few; simp only; omega, h.led, h.plain, by simp, .inr ⟨rfl, hid.1, hid.2, hn, .inr ⟨a, ha, rfl⟩⟩⟩)
  rw [if_neg h1]
  have htk : takeM M (recB 1 a id.toNat 5) = M ++ [(id, ⟨a, 5, false⟩)] := by
    have hi : ((id.toNat : Nat) : Int) = id := by omega
    rw [takeM_rec M 1 a id.toNat 5 (by omega) ha (by omega) (by omega), hi, hn]
    simp only [if_true]
    rw [aput_new hn]
    rfl
  refine .inl ⟨rfl, hn, by simp only [if_true]; exact htk, h.N, ?_, ?_, ?_, ?_, .inl ⟨hw.1, hw.2.1, hw.2.2⟩⟩
  · have := h.few; simp only [List.length_append, List.length_cons, List.length_nil]; omega
  · simp only [if_true]; rw [ledOf_snoc, ← h.led]
  · simp only [if_true]; rw [htk]
    intro p hp
    rcases List.mem_append.1 hp with h' | h'
    · exact h.plain p h'
    · simp only [List.mem_singleton] at h'; subst h'; exact ⟨rfl, rfl⟩
  · have := h.fuse; simp only; omega

/-- Behind the crash: the records, the ledger of them. -/
theorem SSI.crash {q : Nat} {Z : JSt} {M : Led} {u : Int} (h : SSI q Z M u) (keep : Bool) :
    (ledOf (Z.crash keep) = M ∧ aget M u = none) ∨ (0 ≤ u ∧ aget M u = none ∧ ∃ a : Nat, a < 8 ∧ ledOf (Z.crash keep) = M ++ [(u, ⟨a, 5, false⟩)]) := by
  have hwf := wf_ledOf Z.recs
  rw [← h.led] at hwf
  have hneg : u = -1 → aget M u = none := fun e => by
    cases hg : aget M u with
    | none => rfl
    | some s => have := (hwf _ (aget_mem hg)).1.1; simp only at this; omega
  unfold JSt.crash
  rcases h.way with ⟨w1, w2, w3⟩ | ⟨w1, w2, w3, w4, w5⟩
  · rw [w2]
    exact .inl ⟨h.led.symm, hneg w3⟩
  · rcases w5 with w5 | ⟨a, ha, w5⟩
    · rw [w5]
      exact .inl ⟨h.led.symm, w4⟩
    · rw [w5]
      cases keep
      · exact .inl ⟨h.led.symm, w4⟩
      · refine .inr ⟨w2, w4, a, ha, ?_⟩
        have hi : ((u.toNat : Nat) : Int) = u := by omega
        simp only [if_true]
        rw [ledOf_snoc, ← h.led, takeM_rec M 1 a u.toNat 5 (by omega) ha (by omega) (by omega), hi, w4]
        simp only [if_true]
        rw [aput_new w4]
        rfl
theorem SSI.crashPlain {q : Nat} {Z : JSt} {M : Led} {u : Int} (h : SSI q Z M u) (keep : Bool) : ∀ p ∈ ledOf (Z.crash keep), (0 ≤ p.2.account ∧ p.2.account < 8) ∧ p.2.time = 5 ∧ p.2.cleared = false := by
  intro p hp
  refine ⟨(wf_ledOf _ p hp).2.1, ?_⟩
  rcases h.crash keep with ⟨e, _⟩ | ⟨_, _, a, _, e⟩
  · rw [e] at hp; exact h.plain p hp
  · rw [e] at hp
    rcases List.mem_append.1 hp with h' | h'
    · exact h.plain p h'
    · simp only [List.mem_singleton] at h'; subst h'; exact ⟨rfl, rfl⟩

def sumC (M : Led) : Nat → Nat
  | 0 => 0
  | k + 1 => sumC M k + countM M k 5
theorem sumC_le (M : Led) (k : Nat) : sumC M k ≤ k * M.length := by
  induction k with
  | zero => simp [sumC]
  | succ k ih =>
    have : countM M k 5 ≤ M.length := List.length_filter_le _ _
    simp only [sumC]
    rw [Nat.succ_mul]
    omega
theorem sumC_cons (p : Int × Stk) (M : Led) (hp : (0 ≤ p.2.account ∧ p.2.account < 8) ∧ p.2.time = 5 ∧ p.2.cleared = false) (k : Nat) : sumC (p :: M) k = sumC M k + if p.2.account < k then 1 else 0 := by
  induction k with
  | zero => simp [sumC]; omega
  | succ k ih =>
    have e : countM (p :: M) k 5 = countM M k 5 + if p.2.account = k then 1 else 0 := by
      unfold countM
      rw [List.filter_cons]
      have hc : counts k 5 p.2 = decide (p.2.account = (k : Int)) := by
        simp [counts, hp.2.1, hp.2.2]
        rw [Bool.eq_iff_iff]; simp
      rw [hc]
      by_cases hk : p.2.account = (k : Int) <;> simp [hk]
    simp only [sumC]
    rw [ih, e]
    by_cases h1 : p.2.account < (k : Int)
    · rw [if_pos h1, if_neg (by omega), if_pos (by omega)]; omega
    · by_cases h2 : p.2.account = (k : Int)
      · rw [if_neg h1, if_pos h2, if_pos (by omega)]; omega
      · rw [if_neg h1, if_neg h2, if_neg (by omega)]; omega
theorem sumC_all : ∀ (M : Led), (∀ p ∈ M, (0 ≤ p.2.account ∧ p.2.account < 8) ∧ p.2.time = 5 ∧ p.2.cleared = false) → sumC M 8 = M.length
  | [], _ => rfl
  | p :: M, h => by
    have hp := h p (by simp)
    rw [sumC_cons p M hp 8, sumC_all M (fun q hq => h q (by simp [hq])), if_pos (by omega)]
    simp

/-- What the law asks of each number behind the crash. -/
theorem third {M M2 : Led} {u : Int} (h : M2 = M ∨ ∃ s, M2 = M ++ [(u, s)]) (id : Int) :
    ((aget M id).isSome = true → (aget M2 id).isSome = true) ∧ ((aget M id).isSome = false → (aget M2 id).isSome = true → id = u) := by
  rcases h with rfl | ⟨s, rfl⟩
  · exact ⟨fun h => h, fun h1 h2 => by rw [h1] at h2; cases h2⟩
  · rw [aget_append, aget_one]
    cases hg : aget M id with
    | some x => exact ⟨fun _ => rfl, fun h => by cases h⟩
    | none =>
      refine ⟨fun h => (by cases h), fun _ h => ?_⟩
      by_cases e : u = id
      · exact e.symm
      · rw [if_neg e] at h; cases h
theorem add_twice {M : Led} {id : Int} (hw : Led.wf M) (h : (aget M id).isSome = true) (a : Int) (ha : 0 ≤ a ∧ a < 8) (now : Int) (hn : isTime now = true) (Z : JSt) : addF a id now Z M = (9, Z, M) := by
  obtain ⟨s, hs⟩ := Option.isSome_iff_exists.1 h
  have := (hw _ (aget_mem hs)).1
  have ht : isTime id = true := (isTime_iff _).2 this
  unfold addF
  rw [if_neg (by rw [ht, hn]; simp; omega), if_pos h]
end Go.Proofs.Ytkifggnjpgoamaa
