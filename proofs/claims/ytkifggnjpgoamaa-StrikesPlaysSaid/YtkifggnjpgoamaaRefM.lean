/- The reference of layer 23: a ledger in memory ('rledH'); at. -/
import Derived.Test.YtkifggnjpgoamaaRefO
namespace Go.Proofs.Ytkifggnjpgoamaa
open Go.RowKit

def stkCells (p : Int × Stk) : List Value := [.int .i64 p.1, .int .i64 p.2.account, .int .i64 p.2.time, .bool p.2.cleared]
def flatM (M : Led) : List Value := M.flatMap stkCells
theorem flatM_length (M : Led) : (flatM M).length = M.length * 4 := by
  induction M with
  | nil => rfl
  | cons p r ih => simp only [flatM, List.flatMap_cons, List.length_append] at ih ⊢; simp only [stkCells, List.length_cons, List.length_nil]; omega
theorem flatM_append (M N : Led) : flatM (M ++ N) = flatM M ++ flatM N := by simp [flatM]
theorem flatM_one (M : Led) : ∀ v ∈ flatM M, v.oneCell' = true := by
  intro v hv
  obtain ⟨p, _, h⟩ := List.mem_flatMap.1 hv
  simp only [stkCells, List.mem_cons, List.not_mem_nil, or_false] at h
  rcases h with rfl | rfl | rfl | rfl <;> rfl
theorem flatM_get : ∀ (M : Led) (i : Nat) (hi : i < M.length) (k : Nat), k < 4 → (flatM M)[i * 4 + k]? = (stkCells M[i])[k]? := by
  intro M
  induction M with
  | nil => intro i hi; simp at hi
  | cons p r ih =>
    intro i hi k hk
    have h4 : (stkCells p).length = 4 := rfl
    cases i with
    | zero =>
      simp only [flatM, List.flatMap_cons, Nat.zero_mul, Nat.zero_add, List.getElem_cons_zero]
      rw [List.getElem?_append_left (by omega)]
    | succ i =>
      simp only [flatM, List.flatMap_cons, List.getElem_cons_succ]
      rw [List.getElem?_append_right (by omega), h4, show (i + 1) * 4 + k - 4 = i * 4 + k by omega]
      exact ih i (by simpa using hi) k hk

theorem Own.cell4 {w : World} {E : Nat} {la : Option Addr} {n lc : Nat} {M : Led} (h : Own w E 4 (.slice la n lc) n (flatM M)) (i : Nat) (hi : i < M.length) :
    ∃ g, la = some ⟨g, 0, none⟩ ∧ g < w.heap.size ∧ w.cell? ⟨g, i * 4, none⟩ = some (.int .i64 M[i].1) ∧ w.cell? ⟨g, i * 4 + 1, none⟩ = some (.int .i64 M[i].2.account) ∧ w.cell? ⟨g, i * 4 + 2, none⟩ = some (.int .i64 M[i].2.time) ∧ w.cell? ⟨g, i * 4 + 3, none⟩ = some (.bool M[i].2.cleared) := by
  have hl := h.lt
  obtain ⟨h1, ⟨h2, h3⟩ | ⟨g, cap, cur, h2, _, hh, h3, h4, h5, h6⟩⟩ := h
  · rw [flatM_length] at h1
    subst h3
    omega
  · cases h2
    have hc : ∀ k (hk : k < 4), w.cell? ⟨g, i * 4 + k, none⟩ = (stkCells M[i])[k]? := by
      intro k hk
      rw [cell_of_row w g (i * 4 + k) cur E (0, 0) hh]
      have h7 := flatM_get M i hi k hk
      rw [← h6, List.getElem?_take, if_pos (by rw [flatM_length] at h1; omega)] at h7
      simpa using h7
    exact ⟨g, rfl, hl g (by simp [blockOf]), hc 0 (by omega), hc 1 (by omega), hc 2 (by omega), hc 3 (by omega)⟩

/-- Where an identifier stands in the list. -/
def atM (M : Led) (id : Int) : Int := match M.findIdx? (fun p => p.1 == id) with | some i => i | none => -1

/-- A ledger of the reference in memory. -/
def rledH (l rj : Nat) (M : Led) : HA where
  at' w F := ∃ la lc, Blk w l #[.pointer (some ⟨rj, 0, none⟩), .slice la M.length lc] 208 ∧ Own w 212 4 (.slice la M.length lc) M.length (flatM M) ∧ l ∉ blockOf (.slice la M.length lc) ∧ Led.wf M ∧ (M.map (·.1)).Nodup ∧ F = (fun b => b = l ∨ b ∈ blockOf (.slice la M.length lc))
  lt := by
    rintro w F ⟨la, lc, h, g, _, _, _, rfl⟩ b hb
    rcases hb with rfl | hb
    · exact h.lt
    · exact g.lt b hb
  keep := by rintro w w' F G ⟨la, lc, h, g, n, z, d, rfl⟩ k hn; exact ⟨la, lc, h.turnP k (hn l (.inl rfl)), g.turnP k (fun b hb => hn b (.inr hb)), n, z, d, rfl⟩

variable {w0 w w' : World} {R : List HA} {l rj : Nat} {M : Led}
theorem St.rled (h : St w0 (rledH l rj M :: R) w) : ∃ la lc, Blk w l #[.pointer (some ⟨rj, 0, none⟩), .slice la M.length lc] 208 ∧ Own w 212 4 (.slice la M.length lc) M.length (flatM M) ∧ l ∉ blockOf (.slice la M.length lc) ∧ Led.wf M ∧ (M.map (·.1)).Nodup := by
  obtain ⟨F, la, lc, a, b, c, d, e, _⟩ := h.fst; exact ⟨la, lc, a, b, c, d, e⟩

theorem atM_found {M : Led} {id : Int} {i : Nat} (hi : i < M.length) (hm : ∀ j (hj : j < i), (M[j]'(by omega)).1 ≠ id) (h : M[i].1 = id) : atM M id = i := by
  unfold atM
  have : M.findIdx? (fun p => p.1 == id) = some i := by
    rw [List.findIdx?_eq_some_iff_getElem]
    exact ⟨hi, by simpa using h, fun j hj => by simpa using hm j hj⟩
  rw [this]
theorem atM_none {M : Led} {id : Int} (hm : ∀ j (hj : j < M.length), M[j].1 ≠ id) : atM M id = -1 := by
  unfold atM
  have : M.findIdx? (fun p => p.1 == id) = none := by
    rw [List.findIdx?_eq_none_iff]
    intro p hp
    obtain ⟨i, hi, rfl⟩ := List.mem_iff_getElem.1 hp
    simpa using hm i hi
  rw [this]

set_option maxRecDepth 100000 in
set_option maxHeartbeats 800000 in
theorem rat_any (id : Int) (hlen : M.length ≤ 1000) (h : St w0 (rledH l rj M :: R) w) :
    Calls Try.prog 90 #[.pointer (some ⟨l, 0, none⟩), .int .i64 id] w fun e w' => e = .returned (.int .i64 (atM M id)) ∧ w = w' := by
  obtain ⟨la, lc, hB, hO, _⟩ := h.rled
  have c1 := hB.cells2.2
  have HO := Lib.hid hO
  clear h hO
  have HN := Lib.hid (fun (hm : ∀ j (hj : j < M.length), M[j].1 ≠ id) => atM_none hm)
  have HF := Lib.hid (fun (i : Nat) (hi : i < M.length) (hm : ∀ j (hj : j < i), (M[j]'(by omega)).1 ≠ id) (h : M[i].1 = id) => atM_found hi hm h)
  have hl64 : (M.length : Int) ≤ 1000 := by omega
  go_enter Try.func90, Try.ntmps90
  go_wp2_with fail
  go_loop [5] (fun i => ∃ (k : Nat) (hk : k ≤ M.length), i = .int .i64 k ∧ Hid (∀ j (hj : j < k), (M[j]'(by omega)).1 ≠ id))
    (fun i => M.length - (intOf i).toNat)
  case atStart => exact ⟨0, Nat.zero_le _, rfl, fun j hj => absurd hj (Nat.not_lt_zero _)⟩
  case round =>
    obtain ⟨k, hk, rfl, HM⟩ := hrel
    by_cases hlt : k < M.length
    · have hlt' : (k : Int) < (M.length : Int) := by omega
      have hk64 : (k : Int) < 1000 := by omega
      obtain ⟨g, rfl, hg, d0, _⟩ := HO.out.cell4 k hlt
      have HS := Lib.hid (HF.out k hlt HM.out)
      obtain ⟨x, hx⟩ : ∃ x, M[k].1 = x := ⟨_, rfl⟩
      rw [hx] at d0 HS
      have HX := Lib.hid hx
      clear hx
      by_cases he : x = id
      · subst he
        go_wp2
        go_ret
        exact ⟨by rw [HS.out trivial]; rfl, rfl⟩
      · go_wp2
        go_round
        case rel => exact ⟨k + 1, by omega, by go_num, fun j hj => by
          by_cases e : j = k
          · subst e; rw [HX.out]; exact he
          · exact HM.out j (by omega)⟩
        case measure => show M.length - ((k : Int) + 1).toNat < M.length - ((k : Int)).toNat; omega
    · obtain rfl : k = M.length := by omega
      go_wp2
      go_ret
      exact ⟨by rw [HN.out HM.out]; rfl, rfl⟩
end Go.Proofs.Ytkifggnjpgoamaa
namespace Go.Proofs.Ytkifggnjpgoamaa
open Go.RowKit

/-! ### The plain side -/
theorem atM_is (M : Led) (id : Int) : (aget M id = none ∧ atM M id = -1) ∨ ∃ (k : Nat) (s : Stk) (hk : k < M.length), M[k] = (id, s) ∧ aget M id = some s ∧ atM M id = k := by
  unfold atM aget
  cases hf : M.findIdx? (fun p => p.1 == id) with
  | none =>
    rw [List.findIdx?_eq_none_iff] at hf
    have : M.find? (fun p => p.1 == id) = none := by rw [List.find?_eq_none]; intro x hx; simpa using hf x hx
    rw [this]
    exact .inl ⟨rfl, rfl⟩
  | some i =>
    rw [List.findIdx?_eq_some_iff_getElem] at hf
    obtain ⟨hi, h1, h2⟩ := hf
    have : M.find? (fun p => p.1 == id) = some M[i] := by
      rw [List.find?_eq_some_iff_getElem]
      exact ⟨h1, i, hi, rfl, fun j hj => by simpa using h2 j hj⟩
    rw [this]
    simp only [beq_iff_eq] at h1
    exact .inr ⟨i, M[i].2, hi, by rw [← h1], rfl, rfl⟩
theorem keys_aput {M : Led} (h : (M.map (·.1)).Nodup) (k : Int) (s : Stk) : ((aput M k s).map (·.1)).Nodup := by
  unfold aput
  split
  · have : (M.map (fun p => if (p.1 == k) = true then (k, s) else p)).map (·.1) = M.map (·.1) := by
      rw [List.map_map]
      refine List.map_congr_left fun p _ => ?_
      by_cases e : p.1 = k <;> simp [e]
    rw [this]; exact h
  · rename_i hn
    rw [List.map_append, List.nodup_append]
    refine ⟨h, by simp, ?_⟩
    intro a ha b hb
    simp only [List.map_cons, List.map_nil, List.mem_singleton] at hb
    subst hb
    rintro rfl
    obtain ⟨p, hp, e⟩ := List.mem_map.1 ha
    exact hn (List.any_eq_true.2 ⟨p, hp, by simp [e]⟩)
theorem keys_takeM {M : Led} (h : (M.map (·.1)).Nodup) (b : List UInt8) : ((takeM M b).map (·.1)).Nodup := by
  unfold takeM
  split
  · simp only
    split
    · split
      · split
        · exact keys_aput h _ _
        · exact h
      · split
        · exact keys_aput h _ _
        · exact h
    · exact h
  · exact h
theorem keys_ledOf (recs : List (List UInt8)) : ((ledOf recs).map (·.1)).Nodup := by
  suffices h : ∀ (M : Led), (M.map (·.1)).Nodup → ((recs.foldl takeM M).map (·.1)).Nodup from h [] List.nodup_nil
  induction recs with
  | nil => exact fun M h => h
  | cons b r ih => exact fun M h => ih _ (keys_takeM h b)
theorem aput_set {M : Led} (h : (M.map (·.1)).Nodup) {k : Nat} {id : Int} {s : Stk} (hk : k < M.length) (e : M[k] = (id, s)) (s' : Stk) : aput M id s' = M.set k (id, s') := by
  unfold aput
  rw [if_pos (List.any_eq_true.2 ⟨M[k], List.getElem_mem hk, by rw [e]; simp⟩)]
  apply List.ext_getElem
  · simp
  · intro i h1 h2
    have hi : i < M.length := by simpa using h1
    rw [List.getElem_map, List.getElem_set]
    by_cases hik : k = i
    · subst hik
      rw [if_pos rfl, e]
      simp
    · have hne : M[i].1 ≠ id := by
        intro hc
        have h3 := List.pairwise_iff_getElem.1 h
        have ek : (M[k]).1 = id := by rw [e]
        rcases Nat.lt_or_gt_of_ne hik with h4 | h4
        · exact h3 k i (by simpa using hk) (by simpa using hi) h4 (by simp [hc, ek])
        · exact h3 i k (by simpa using hi) (by simpa using hk) h4 (by simp [hc, ek])
      rw [if_neg hik]
      simp [hne]
theorem flatM_set : ∀ (M : Led) (k : Nat) (hk : k < M.length) (id : Int) (s : Stk), M[k] = (id, s) → flatM (M.set k (id, { s with cleared := true })) = (flatM M).set (k * 4 + 3) (.bool true) := by
  intro M
  induction M with
  | nil => intro k hk; simp at hk
  | cons p r ih =>
    intro k hk id s e
    have h4 : (stkCells p).length = 4 := rfl
    cases k with
    | zero =>
      simp only [List.getElem_cons_zero] at e
      subst e
      simp only [List.set_cons_zero, flatM, List.flatMap_cons]
      rfl
    | succ k =>
      simp only [List.set_cons_succ, flatM, List.flatMap_cons]
      have := ih k (by simpa using hk) id s (by simpa using e)
      unfold flatM at this
      rw [this, List.set_append_right _ _ (by omega), h4, show (k + 1) * 4 + 3 - 4 = k * 4 + 3 by omega]

theorem Own.setC {w : World} {E sz : Nat} {g n c : Nat} {xs : List Value} (h : Own w E sz (.slice (some ⟨g, 0, none⟩) n c) n xs) (i : Nat) (hi : i < xs.length) (v : Value) :
    Own (w.setCell ⟨g, i, none⟩ v) E sz (.slice (some ⟨g, 0, none⟩) n c) n (xs.set i v) ∧ w.frozen? ⟨g, i, none⟩ = false := by
  obtain ⟨h1, ⟨h2, _⟩ | ⟨g', cap, cur, h2, h3, h4, h5, h6, h7, h8⟩⟩ := h
  · cases h2
  · cases h2
    have hB : Blk w g cur E := h4
    refine ⟨⟨by simpa using h1, .inr ⟨g, c, cur.setIfInBounds i v, rfl, h3, hB.set i v, h5, h6, by simpa using h7, ?_⟩⟩, hB.thaw i⟩
    rw [Array.toList_setIfInBounds, List.take_set, h8]

theorem Try.info_rstrike : (Try.prog.info? 212).map (fun i => (i.zero, i.size, i.bytes)) = some (some (.agg #[.int .i64 0, .int .i64 0, .int .i64 0, .bool false]), 4, 32) := by kernel_rfl

variable {w0 w w' : World} {R : List HA} {l rj : Nat} {M : Led}
theorem St.rledA (h : St w0 (rledH l rj M :: R) w) {L : List Nat} (ha : Apart w0 R L) : ∃ la lc, Blk w l #[.pointer (some ⟨rj, 0, none⟩), .slice la M.length lc] 208 ∧ Own w 212 4 (.slice la M.length lc) M.length (flatM M) ∧ l ∉ blockOf (.slice la M.length lc) ∧ Led.wf M ∧ (M.map (·.1)).Nodup ∧
    (∀ b ∈ L, ¬ (b = l ∨ b ∈ blockOf (.slice la M.length lc))) ∧
    ∀ (M' : Led) (w' : World) (la' : Option Addr) (lc' : Nat), Blk w' l #[.pointer (some ⟨rj, 0, none⟩), .slice la' M'.length lc'] 208 → Own w' 212 4 (.slice la' M'.length lc') M'.length (flatM M') → l ∉ blockOf (.slice la' M'.length lc') → Led.wf M' → (M'.map (·.1)).Nodup →
      TurnP (fun b => b = l ∨ b ∈ blockOf (.slice la M.length lc)) w w' → (∀ b ∈ blockOf (.slice la' M'.length lc'), b ∈ blockOf (.slice la M.length lc) ∨ w.heap.size ≤ b) → St w0 (rledH l rj M' :: R) w' := by
  have h' : St w0 ([rledH l rj M] ++ R) w := h
  obtain ⟨F, ⟨F1, F2, ⟨la, lc, a, b, c, d, e, rfl⟩, _, _, a4, _⟩, f2, f3, f4⟩ := St.openA [rledH l rj M] h' ha
  refine ⟨la, lc, a, b, c, d, e, fun b hb hx => f3 b hb (a4 b hx), fun M' w' la' lc' g1 g2 g3 g4 g5 k hl => ?_⟩
  refine f4 [rledH l rj M'] w' _ (Sep.one ⟨la', lc', g1, g2, g3, g4, g5, rfl⟩) (k.mono (fun b hb => .inl (a4 b hb))) (fun b hb => ?_)
  rcases hb with rfl | hb
  · exact .inl (a4 _ (.inl rfl))
  · exact (hl b hb).imp (fun h => a4 b (.inr h)) id
end Go.Proofs.Ytkifggnjpgoamaa
