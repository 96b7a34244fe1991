/- Plain laws on a journal's sectors: what was written is what is found. -/
import Derived.Test.YtkifggnjpgoamaaOpen
namespace Go.Proofs.Ytkifggnjpgoamaa
open Go.RowKit

theorem highB4 (x : Nat) : highB x 4 = [UInt8.ofNat (x >>> 24), UInt8.ofNat (x >>> 16), UInt8.ofNat (x >>> 8), UInt8.ofNat x] := by
  simp [highB, lowB, List.range_succ]

theorem recOf_secOf (i : Nat) (bs : List UInt8) (h : bs.length ≤ 59) : recOf i (secOf i bs) = some bs := by
  have h4 : (secOf i bs).getD 4 0 = UInt8.ofNat bs.length := by
    unfold secOf
    rw [highB4]
    rfl
  have hn : ((secOf i bs).getD 4 0).toNat = bs.length := by
    rw [h4, UInt8.toNat_ofNat']
    exact Nat.mod_eq_of_lt (by omega)
  have hd : ((secOf i bs).drop 5).take bs.length = bs := by
    unfold secOf
    rw [highB4]
    simp
  unfold recOf
  simp only [hn, hd]
  rw [if_neg (by omega), if_pos trivial]

theorem recOf_zero (i : Nat) (h : i < 64) : recOf i zsec = none := by
  have hn : (zsec.getD 4 0).toNat = 0 := rfl
  unfold recOf
  simp only [hn, List.take_zero]
  rw [if_neg (by omega), if_neg]
  intro e
  have h3 := congrArg (fun l => (l.getD 3 0).toNat) e
  have hz : (zsec.getD 3 0).toNat = 0 := rfl
  simp only [hz] at h3
  unfold secOf at h3
  rw [highB4] at h3
  have : (UInt8.ofNat (i + 1)).toNat = 0 := h3
  rw [UInt8.toNat_ofNat', Nat.mod_eq_of_lt (by omega)] at this
  omega

/-- The sectors of a journal of N that holds these records. -/
def written (recs : List (List UInt8)) (N : Nat) : List (List UInt8) := recs.mapIdx secOf ++ List.replicate (N - recs.length) zsec
theorem written_length (recs : List (List UInt8)) (N : Nat) (h : recs.length ≤ N) : (written recs N).length = N := by
  simp [written]; omega
theorem written_nil (N : Nat) : written [] N = List.replicate N zsec := by simp [written]
theorem written_get (recs : List (List UInt8)) (N : Nat) (k : Nat) (hk : k < N) : (written recs N)[k]? = some (match recs[k]? with | some b => secOf k b | none => zsec) := by
  unfold written
  by_cases h : k < recs.length
  · rw [List.getElem?_append_left (by simpa using h)]
    simp [List.getElem?_eq_getElem h]
  · rw [List.getElem?_append_right (by simp; omega)]
    have : recs[k]? = none := List.getElem?_eq_none (by omega)
    rw [this]
    simp [List.getElem?_replicate]
    omega
theorem written_snoc (recs : List (List UInt8)) (N : Nat) (b : List UInt8) (h : recs.length < N) : (written recs N).set recs.length (secOf recs.length b) = written (recs ++ [b]) N := by
  apply List.ext_getElem?
  intro k
  by_cases hk : k < N
  · rw [written_get _ _ _ hk, List.getElem?_set, written_get _ _ _ hk]
    by_cases e : recs.length = k
    · subst e
      rw [if_pos rfl, if_pos (by rw [written_length _ _ (by omega)]; exact hk)]
      simp
    · rw [if_neg e]
      congr 1
      by_cases hl : k < recs.length
      · rw [List.getElem?_append_left hl]
      · rw [List.getElem?_eq_none (by omega : recs.length ≤ k), List.getElem?_eq_none (by simp; omega)]
  · rw [List.getElem?_eq_none (by rw [List.length_set, written_length _ _ (by omega)]; omega), List.getElem?_eq_none (by rw [written_length _ _ (by simp; omega)]; omega)]

theorem opened_written (S : DSt) (recs : List (List UInt8)) (N : Nat) (hs : S.soon = []) (hw : S.sure = written recs N) (hl : recs.length ≤ N) (hN : N ≤ 64) (h59 : ∀ r ∈ recs, r.length ≤ 59) :
    (opened (upto (secAt S) N)).2 = recs := by
  have hread : ∀ k, k < N → S.read k = match recs[k]? with | some b => secOf k b | none => zsec := by
    intro k hk
    unfold DSt.read
    rw [hs, hw, written_get _ _ _ hk]
    rfl
  have hlen : ∀ k, k < N → (S.read k).length = 64 := by
    intro k hk
    rw [hread k hk]
    split
    · rename_i b hb
      exact secOf_length _ _ (h59 b (List.mem_of_getElem? hb))
    · rfl
  have step : ∀ k, k < N → (secAt S k).1 = (k, S.read k) := fun k hk => secAt_eq (hlen k hk) (by omega)
  have up : ∀ k, k ≤ recs.length → opened (upto (secAt S) k) = (true, recs.take k) := by
    intro k
    induction k with
    | zero => intro _; rfl
    | succ k ih =>
      intro hk
      have hk' : k < recs.length := by omega
      rw [upto_succ, opened_step, ih (by omega), step k (by omega), hread k (by omega), List.getElem?_eq_getElem hk']
      have hr : recOf k (secOf k recs[k]) = some recs[k] := recOf_secOf k _ (h59 _ (List.getElem_mem hk'))
      show (match true, recOf k (secOf k recs[k]) with | true, some b => (true, recs.take k ++ [b]) | _, _ => (false, recs.take k)) = _
      rw [hr, List.take_add_one, List.getElem?_eq_getElem hk']
      rfl
  have over : ∀ m, recs.length + m ≤ N → (opened (upto (secAt S) (recs.length + m))).2 = recs ∧ (m ≠ 0 → (opened (upto (secAt S) (recs.length + m))).1 = false) := by
    intro m
    induction m with
    | zero => intro _; rw [Nat.add_zero, up _ (Nat.le_refl _)]; simp
    | succ m ih =>
      intro hk
      obtain ⟨i1, i2⟩ := ih (by omega)
      rw [← Nat.add_assoc, upto_succ, opened_step, step _ (by omega), hread _ (by omega), List.getElem?_eq_none (by omega)]
      have hr : recOf (recs.length + m) zsec = none := recOf_zero _ (by omega)
      show ((match (opened (upto (secAt S) (recs.length + m))).1, recOf (recs.length + m) zsec with | true, some b => (true, (opened (upto (secAt S) (recs.length + m))).2 ++ [b]) | _, _ => (false, (opened (upto (secAt S) (recs.length + m))).2)) : Bool × List (List UInt8)).2 = recs ∧ (m + 1 ≠ 0 → ((match (opened (upto (secAt S) (recs.length + m))).1, recOf (recs.length + m) zsec with | true, some b => (true, (opened (upto (secAt S) (recs.length + m))).2 ++ [b]) | _, _ => (false, (opened (upto (secAt S) (recs.length + m))).2)) : Bool × List (List UInt8)).1 = false)
      rw [hr]
      refine ⟨?_, fun _ => ?_⟩
      · cases (opened (upto (secAt S) (recs.length + m))).1 <;> exact i1
      · cases (opened (upto (secAt S) (recs.length + m))).1 <;> rfl
  have := (over (N - recs.length) (by omega)).1
  rwa [show recs.length + (N - recs.length) = N by omega] at this

theorem open_written (d sb mb : Nat) (S : DSt) (recs : List (List UInt8)) (N : Nat) (w : World) (hD : DiskAt w d sb mb S) (hs : S.soon = []) (hw : S.sure = written recs N) (hl : recs.length ≤ N) (hN : N ≤ 64) (h59 : ∀ r ∈ recs, r.length ≤ 59) :
    Calls Try.prog 17 #[.pointer (some ⟨d, 0, none⟩)] w fun e w' => ∃ j, e = .returned (.tuple #[.pointer (some ⟨j, 0, none⟩), .int .i64 0]) ∧
      JAt w' (fun b => w.heap.size ≤ b) j d N recs ∧ Turn [] w w' := by
  refine (open_ok d sb mb S w hD hs).mono ?_
  rintro e w' ⟨j, rfl, h1, h2⟩
  have hn : S.sure.length = N := by rw [hw, written_length _ _ hl]
  rw [hn, opened_written S recs N hs hw hl hN h59] at h1
  exact ⟨j, rfl, h1, h2⟩
end Go.Proofs.Ytkifggnjpgoamaa
