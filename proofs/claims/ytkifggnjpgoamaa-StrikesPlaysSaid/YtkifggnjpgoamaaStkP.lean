/- Plain laws: rows of keyed things; a ledger of strikes as what its records come to. -/
import Derived.Test.YtkifggnjpgoamaaWritten
namespace Go.Proofs.Ytkifggnjpgoamaa
open Go.RowKit

section
variable {α : Type}
def aget (m : List (Int × α)) (k : Int) : Option α := (m.find? (fun p => p.1 == k)).map (·.2)
def aput (m : List (Int × α)) (k : Int) (v : α) : List (Int × α) := if m.any (fun p => p.1 == k) then m.map (fun p => if p.1 == k then (k, v) else p) else m ++ [(k, v)]
def asM (f : α → Value) (m : List (Int × α)) : List (Int × Value) := m.map fun p => (p.1, f p.2)
theorem mget_asM (f : α → Value) (m : List (Int × α)) (k : Int) : mget (asM f m) k = (aget m k).map f := by
  unfold mget aget asM
  rw [List.find?_map]
  have : ((fun p : Int × Value => p.1 == k) ∘ fun p : Int × α => (p.1, f p.2)) = fun p => p.1 == k := rfl
  rw [this]
  cases m.find? (fun p => p.1 == k) <;> rfl
theorem mput_asM (f : α → Value) (m : List (Int × α)) (k : Int) (v : α) : mput (asM f m) k (f v) = asM f (aput m k v) := by
  unfold mput aput asM
  rw [List.any_map]
  have : ((fun p : Int × Value => p.1 == k) ∘ fun p : Int × α => (p.1, f p.2)) = fun p => p.1 == k := rfl
  rw [this]
  split
  · simp only [List.map_map]
    refine List.map_congr_left fun p _ => ?_
    by_cases h : p.1 = k <;> simp [h]
  · simp
theorem aget_isSome (m : List (Int × α)) (k : Int) : (aget m k).isSome = m.any (fun p => p.1 == k) := by
  unfold aget
  rw [Option.isSome_map]
  cases hf : m.find? (fun p => p.1 == k) with
  | none =>
    rw [List.find?_eq_none] at hf
    symm
    rw [Option.isSome_none, ← Bool.not_eq_true, List.any_eq_true]
    rintro ⟨p, hp, h⟩
    exact hf p hp h
  | some p =>
    symm
    rw [Option.isSome_some, List.any_eq_true]
    exact ⟨p, List.mem_of_find?_eq_some hf, by have := List.find?_some hf; simpa using this⟩
theorem aput_new {m : List (Int × α)} {k : Int} (h : aget m k = none) (v : α) : aput m k v = m ++ [(k, v)] := by
  have := aget_isSome m k
  rw [h] at this
  unfold aput
  rw [← this]
  rfl
theorem aget_append (m n : List (Int × α)) (k : Int) : aget (m ++ n) k = (aget m k).or (aget n k) := by
  unfold aget
  rw [List.find?_append]
  cases m.find? (fun p => p.1 == k) <;> simp
theorem aget_one (k k' : Int) (v : α) : aget [(k, v)] k' = if k = k' then some v else none := by
  by_cases h : k = k' <;> simp [aget, h]
theorem aget_mem {m : List (Int × α)} {k : Int} {v : α} (h : aget m k = some v) : (k, v) ∈ m := by
  unfold aget at h
  simp only [Option.map_eq_some_iff] at h
  obtain ⟨p, hp, rfl⟩ := h
  have h1 := List.find?_some hp
  have h2 := List.mem_of_find?_eq_some hp
  simp only [beq_iff_eq] at h1
  obtain ⟨a, b⟩ := p
  simp only at h1
  subst h1
  exact h2
theorem aget_some_of_mem {m : List (Int × α)} {p : Int × α} (h : p ∈ m) : (aget m p.1).isSome = true := by
  rw [aget_isSome, List.any_eq_true]
  exact ⟨p, h, by simp⟩
theorem asM_length (f : α → Value) (m : List (Int × α)) : (asM f m).length = m.length := by simp [asM]
theorem aput_length (m : List (Int × α)) (k : Int) (v : α) : (aput m k v).length ≤ m.length + 1 := by
  unfold aput; split <;> simp
end

/-- A strike: whose, when, whether it was taken back. -/
structure Stk where
  account : Int
  time : Int
  cleared : Bool
def stkV (s : Stk) : Value := .agg #[.int .i64 s.account, .int .i64 s.time, .bool s.cleared]
abbrev Led := List (Int × Stk)
def isTime (n : Int) : Bool := decide (0 ≤ n) && decide (n ≤ 1000000)
theorem isTime_iff (n : Int) : isTime n = true ↔ 0 ≤ n ∧ n ≤ 1000000 := by simp [isTime]
theorem isTime_no (n : Int) : isTime n = false ↔ n < 0 ∨ 1000000 < n := by
  rw [← Bool.not_eq_true, isTime_iff]; omega

/-- A ledger behind a record. -/
def takeM (M : Led) (b : List UInt8) : Led :=
  if b.length = 10 ∧ (b.getD 1 0).toNat < 8 then
    let id : Int := (ofHigh ((b.drop 2).take 4) : Nat)
    let now : Int := (ofHigh ((b.drop 6).take 4) : Nat)
    if id ≤ 1000000 ∧ now ≤ 1000000 then
      match aget M id with
      | none => if (b.getD 0 0).toNat = 1 then aput M id ⟨(b.getD 1 0).toNat, now, false⟩ else M
      | some s => if (b.getD 0 0).toNat = 2 then aput M id { s with cleared := true } else M
    else M
  else M

/-- What a ledger holds is in bounds. -/
def Led.wf (M : Led) : Prop := ∀ p ∈ M, (0 ≤ p.1 ∧ p.1 ≤ 1000000) ∧ (0 ≤ p.2.account ∧ p.2.account < 8) ∧ (0 ≤ p.2.time ∧ p.2.time ≤ 1000000)

theorem wf_aput {M : Led} (h : Led.wf M) {k : Int} {s : Stk} (hk : 0 ≤ k ∧ k ≤ 1000000) (hs : (0 ≤ s.account ∧ s.account < 8) ∧ (0 ≤ s.time ∧ s.time ≤ 1000000)) : Led.wf (aput M k s) := by
  intro p hp
  unfold aput at hp
  split at hp
  · obtain ⟨q, hq, rfl⟩ := List.mem_map.1 hp
    by_cases e : q.1 == k
    · simp only [e, if_true]; exact ⟨hk, hs.1, hs.2⟩
    · simp only [e]; exact h q hq
  · rcases List.mem_append.1 hp with h' | h'
    · exact h p h'
    · simp only [List.mem_singleton] at h'
      subst h'; exact ⟨hk, hs.1, hs.2⟩
theorem wf_takeM {M : Led} (h : Led.wf M) (b : List UInt8) : Led.wf (takeM M b) := by
  unfold takeM
  split
  · rename_i h1
    simp only
    split
    · rename_i h2
      split
      · split
        · exact wf_aput h ⟨by omega, h2.1⟩ ⟨⟨by simp only; omega, by have := h1.2; simp only; omega⟩, by simp only; omega, h2.2⟩
        · exact h
      · rename_i s hs
        split
        · have := h _ (aget_mem hs)
          exact wf_aput h ⟨by omega, h2.1⟩ this.2
        · exact h
    · exact h
  · exact h
theorem len_takeM (M : Led) (b : List UInt8) : (takeM M b).length ≤ M.length + 1 := by
  unfold takeM
  split
  · simp only
    split
    · split
      · split
        · exact aput_length _ _ _
        · omega
      · split
        · exact aput_length _ _ _
        · omega
    · omega
  · omega
/-- A ledger of records. -/
def ledOf (recs : List (List UInt8)) : Led := recs.foldl takeM []
theorem ledOf_snoc (recs : List (List UInt8)) (b : List UInt8) : ledOf (recs ++ [b]) = takeM (ledOf recs) b := by simp [ledOf]
theorem wf_ledOf (recs : List (List UInt8)) : Led.wf (ledOf recs) := by
  suffices h : ∀ (M : Led), Led.wf M → Led.wf (recs.foldl takeM M) from h [] (fun p hp => by cases hp)
  induction recs with
  | nil => exact fun M h => h
  | cons b r ih => exact fun M h => ih _ (wf_takeM h b)
theorem len_ledOf (recs : List (List UInt8)) : (ledOf recs).length ≤ recs.length := by
  suffices h : ∀ (M : Led), (recs.foldl takeM M).length ≤ M.length + recs.length from by simpa [ledOf] using h []
  induction recs with
  | nil => intro M; simp
  | cons b r ih => intro M; have := ih (takeM M b); have := len_takeM M b; simp only [List.foldl_cons, List.length_cons]; omega

/-- A record's bytes. -/
def recB (kind account id now : Nat) : List UInt8 := [UInt8.ofNat kind, UInt8.ofNat account] ++ highB id 4 ++ highB now 4
theorem recB_length (k a i n : Nat) : (recB k a i n).length = 10 := by simp [recB]

theorem ofHigh_highB (x : Nat) (h : x < 4294967296) : ofHigh (highB x 4) = x := by
  rw [highB4]
  simp only [ofHigh, List.foldl_cons, List.foldl_nil, UInt8.toNat_ofNat', Nat.shiftRight_eq_div_pow]
  omega
theorem recB_parts (k a i n : Nat) : ((recB k a i n).drop 2).take 4 = highB i 4 ∧ ((recB k a i n).drop 6).take 4 = highB n 4 ∧ (recB k a i n).getD 0 0 = UInt8.ofNat k ∧ (recB k a i n).getD 1 0 = UInt8.ofNat a := by
  have h1 := highB4 i
  have h2 := highB4 n
  refine ⟨?_, ?_, rfl, rfl⟩
  · simp [recB, h1, h2]
  · simp [recB, h1, h2]
theorem takeM_rec (M : Led) (k a i n : Nat) (hk : k < 256) (ha : a < 8) (hi : i ≤ 1000000) (hn : n ≤ 1000000) : takeM M (recB k a i n) =
    match aget M (i : Int) with
    | none => if k = 1 then aput M i ⟨a, n, false⟩ else M
    | some s => if k = 2 then aput M i { s with cleared := true } else M := by
  obtain ⟨p1, p2, p3, p4⟩ := recB_parts k a i n
  unfold takeM
  rw [recB_length, p1, p2, p3, p4, ofHigh_highB i (by omega), ofHigh_highB n (by omega)]
  have e1 : (UInt8.ofNat k).toNat = k := by rw [UInt8.toNat_ofNat']; exact Nat.mod_eq_of_lt hk
  have e2 : (UInt8.ofNat a).toNat = a := by rw [UInt8.toNat_ofNat']; exact Nat.mod_eq_of_lt (by omega)
  rw [e1, e2, if_pos ⟨rfl, ha⟩]
  simp only
  rw [if_pos ⟨by omega, by omega⟩]

/-- Does a strike count? -/
def counts (account now : Int) (s : Stk) : Bool := s.account == account && !s.cleared && decide (s.time ≤ now) && decide (now - s.time ≤ 100)
def countM (M : Led) (account now : Int) : Nat := (M.filter fun p => counts account now p.2).length

/-! ### A journal on a disk, by its state -/
/-- So many sectors, the records, the record that was under way as the power went, the fuse, no power. -/
structure JSt where
  N : Nat
  recs : List (List UInt8)
  last : Option (List UInt8)
  fuse : Int
  dead : Bool
def JSt.soon (Z : JSt) : List (Int × List UInt8) := match Z.last with | none => [] | some b => [((Z.recs.length : Int), secOf Z.recs.length b)]
def JSt.disk (Z : JSt) : DSt := ⟨written Z.recs Z.N, Z.soon, Z.fuse, Z.dead⟩
structure JSt.ok (Z : JSt) : Prop where
  le : Z.recs.length ≤ Z.N
  le64 : Z.N ≤ 64
  short : ∀ r ∈ Z.recs, r.length ≤ 59
  last : ∀ b, Z.last = some b → Z.dead = true ∧ b.length ≤ 59 ∧ Z.recs.length < Z.N
/-- An Append: its answer, the state behind it. -/
def JSt.append (Z : JSt) (b : List UInt8) : Int × JSt :=
  if 59 < b.length then (1, Z)
  else if Z.N ≤ Z.recs.length then (8, Z)
  else if Z.dead = true ∨ Z.fuse = 0 then (13, { Z with dead := true })
  else if Z.fuse = 1 then (13, { Z with dead := true, fuse := 0, last := some b })
  else (0, { Z with recs := Z.recs ++ [b], fuse := max (max (Z.fuse - 1) (-1) - 1) (-1) })
theorem JSt.ok.append {Z : JSt} (h : Z.ok) (b : List UInt8) : (Z.append b).2.ok := by
  unfold JSt.append
  split
  · exact h
  split
  · exact h
  split
  · exact ⟨h.le, h.le64, h.short, fun b' hb' => ⟨rfl, (h.last b' hb').2⟩⟩
  split
  · exact ⟨h.le, h.le64, h.short, fun b' hb' => by cases hb'; exact ⟨rfl, by omega, by simp only; omega⟩⟩
  · rename_i h1 h2 h3 h4
    refine ⟨by simp only [List.length_append, List.length_cons, List.length_nil]; omega, h.le64, fun r hr => ?_, fun b' hb' => ?_⟩
    · rcases List.mem_append.1 hr with h' | h'
      · exact h.short r h'
      · simp only [List.mem_singleton] at h'; subst h'; omega
    · have := (h.last b' hb').1
      exact absurd (.inl this) h3
/-- The records behind a crash. -/
def JSt.crash (Z : JSt) (keep : Bool) : List (List UInt8) := match Z.last with | none => Z.recs | some b => if keep then Z.recs ++ [b] else Z.recs
theorem JSt.soon_none {Z : JSt} (h : Z.last = none) : Z.soon = [] := by unfold JSt.soon; rw [h]
theorem JSt.soon_some {Z : JSt} {b : List UInt8} (h : Z.last = some b) : Z.soon = [((Z.recs.length : Int), secOf Z.recs.length b)] := by unfold JSt.soon; rw [h]
theorem JSt.ok.crash {Z : JSt} (h : Z.ok) (keep : Bool) : (Z.crash keep).length ≤ Z.N ∧ ∀ r ∈ Z.crash keep, r.length ≤ 59 := by
  unfold JSt.crash
  cases hb : Z.last with
  | none => exact ⟨h.le, h.short⟩
  | some b =>
    have := h.last b hb
    cases keep
    · exact ⟨h.le, h.short⟩
    · simp only [if_true]
      refine ⟨by simp; omega, fun r hr => ?_⟩
      rcases List.mem_append.1 hr with h' | h'
      · exact h.short r h'
      · simp only [List.mem_singleton] at h'; subst h'; exact this.2.1

/-! ### A ledger's calls, by their states -/
def keepF (kind account id now : Nat) (Z : JSt) (M : Led) : Int × JSt × Led :=
  ((Z.append (recB kind account id now)).1, (Z.append (recB kind account id now)).2, if (Z.append (recB kind account id now)).1 = 0 then takeM M (recB kind account id now) else M)
def addF (account id now : Int) (Z : JSt) (M : Led) : Int × JSt × Led :=
  if account < 0 ∨ 8 ≤ account ∨ isTime id = false ∨ isTime now = false then (1, Z, M)
  else if (aget M id).isSome = true then (9, Z, M)
  else keepF 1 account.toNat id.toNat now.toNat Z M
def clearF (id now : Int) (Z : JSt) (M : Led) : Int × JSt × Led :=
  if isTime id = false ∨ isTime now = false then (1, Z, M)
  else match aget M id with
    | none => (7, Z, M)
    | some s => if s.cleared = true then (5, Z, M) else keepF 2 s.account.toNat id.toNat now.toNat Z M
end Go.Proofs.Ytkifggnjpgoamaa
