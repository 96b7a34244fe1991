/- The reference of layer 23: Open. -/
import Derived.Test.YtkifggnjpgoamaaRefS
import Derived.Laws.Bits64b
namespace Go.Proofs.Ytkifggnjpgoamaa
open Go.RowKit

theorem RowsAt.at {w : World} {lv : Value} {vs : List Value} {rs : List (List UInt8)} (h : RowsAt w lv vs rs) (k : Nat) (hk : k < rs.length) :
    ∃ g lc a c, lv = .slice (some ⟨g, 0, none⟩) rs.length lc ∧ g < w.heap.size ∧ (Value.slice a rs[k].length c) ∈ vs ∧ w.cell? ⟨g, k, none⟩ = some (.slice a rs[k].length c) ∧ Src w (.slice a rs[k].length c) rs[k].length (bvs rs[k]) := by
  have hkv : k < vs.length := by rw [h.len]; exact hk
  obtain ⟨a, n, c, hv⟩ := h.one _ (List.getElem_mem hkv)
  have hs := h.src k hkv hk
  rw [hv] at hs
  have hn : n = rs[k].length := by
    rcases hs with ⟨h1, _, _, h2⟩ | ⟨_, _, _, h2, _⟩
    · cases h2; omega
    · cases h2; rfl
  subst hn
  have hlt := h.own.lt
  obtain ⟨h1, ⟨h2, h3⟩ | ⟨g, cap, cur, h2, _, hh, h3, h4, h5, h6⟩⟩ := h.own
  · omega
  · subst h2
    refine ⟨g, cap, a, c, rfl, hlt g (by simp [blockOf]), by rw [← hv]; exact List.getElem_mem hkv, ?_, hs⟩
    rw [cell_of_row w g k cur _ (0, 0) hh, ← hv]
    have h7 : vs[k]? = some vs[k] := List.getElem?_eq_getElem hkv
    have h8 : (cur.toList.take (rs.length * 1))[k]? = vs[k]? := by rw [h6]
    rw [List.getElem?_take, if_pos (by omega), h7] at h8
    simpa using h8

/-- A journal in memory, what lies where being named. -/
def rrX (d sb nb ib rj : Nat) (Z : JSt) (news : List (List UInt8)) (lv : Value) (vs : List Value) : HA where
  at' w F := RJ w d sb nb ib rj Z news lv vs ∧ F = RJF d sb nb ib rj lv vs
  lt := by rintro w F ⟨h, rfl⟩ b hb; exact (rrH d sb nb ib rj Z).lt ⟨news, lv, vs, h, rfl⟩ b hb
  keep := by
    rintro w w' F G ⟨h, rfl⟩ k hn
    exact ⟨⟨h.ok, h.disk.turnP k (hn d (.inl rfl)) (hn sb (.inr (.inl rfl))) (hn nb (.inr (.inr (.inl rfl)))) (hn ib (.inr (.inr (.inr (.inl rfl))))), h.news, h.blk.turnP k (hn rj (.inr (.inr (.inr (.inr (.inl rfl)))))),
      h.rows.turnP k (fun b hb => hn b (.inr (.inr (.inr (.inr (.inr (.inl hb))))))) (fun v hv b hb => hn b (.inr (.inr (.inr (.inr (.inr (.inr ⟨v, hv, hb⟩))))))), h.nj, h.nl, h.nv⟩, rfl⟩

variable {w0 w w' : World} {A B : HA} {R : List HA} {l d sb nb ib rj : Nat} {M : Led} {Z : JSt}
theorem St.weak (h : St w0 (A :: R) w) (k : ∀ F, A.at' w F → B.at' w F) : St w0 (B :: R) w := by
  obtain ⟨F, a, f2, f3⟩ := h.step1
  exact f3 B w F (k _ a) (TurnP.refl _ _) (fun b hb => .inl hb)
theorem St.rrOpen (h : St w0 (rrH d sb nb ib rj Z :: R) w) : ∃ news lv vs, RJ w d sb nb ib rj Z news lv vs ∧ St w0 (rrX d sb nb ib rj Z news lv vs :: R) w := by
  obtain ⟨F, ⟨news, lv, vs, hR, rfl⟩, f2, f3⟩ := h.step1
  exact ⟨news, lv, vs, hR, f3 (rrX d sb nb ib rj Z news lv vs) w _ ⟨hR, rfl⟩ (TurnP.refl _ _) (fun b hb => .inl hb)⟩
theorem St.rrShut {news : List (List UInt8)} {lv : Value} {vs : List Value} (h : St w0 (rrX d sb nb ib rj Z news lv vs :: R) w) : St w0 (rrH d sb nb ib rj Z :: R) w :=
  h.weak fun _ ⟨h, e⟩ => ⟨news, lv, vs, h, e⟩
theorem St.rrx {news : List (List UInt8)} {lv : Value} {vs : List Value} (h : St w0 (rrX d sb nb ib rj Z news lv vs :: R) w) : RJ w d sb nb ib rj Z news lv vs := by obtain ⟨F, a, _⟩ := h.fst; exact a
theorem St.newLed (h : St w0 R w) : St w0 (rledH w.heap.size rj [] :: R) (w.alloc (.cells #[.pointer (some ⟨rj, 0, none⟩), .slice none 0 0] 208)) :=
  h.more ((Turn.refl _ _).alloc _) [rledH w.heap.size rj []] (fun b => b = w.heap.size ∨ b ∈ blockOf (.slice none 0 0))
    (Sep.one ⟨none, 0, Blk.new _ _ _, Own.nil _ _ _, by simp [blockOf], fun p hp => (by cases hp), List.nodup_nil, rfl⟩) (by rintro b (rfl | h); exact Nat.le_refl _; simp [blockOf] at h)

set_option maxRecDepth 100000 in
set_option maxHeartbeats 1600000 in
theorem rlopen_any (h : St w0 (rrH d sb nb ib rj Z :: R) w) :
    Calls Try.prog 36 #[.pointer (some ⟨rj, 0, none⟩)] w fun e w' => ∃ l, e = .returned (.pointer (some ⟨l, 0, none⟩)) ∧ St w0 (rledH l rj (ledOf Z.recs) :: rrH d sb nb ib rj Z :: R) w' := by
  obtain ⟨news, lv, vs, hJ, hX⟩ := h.rrOpen
  have HX := Lib.hid hX
  have h64 := hJ.ok.le
  have h64' := hJ.ok.le64
  have HSh := Lib.hid hJ.ok.short
  have hk64 : (Z.recs.length : Int) ≤ 64 := by omega
  clear h hX hJ
  go_enter Try.func36, Try.ntmps36
  go_wp2_with fail
  have HN := Lib.hid (HX.out.newLed (rj := rj))
  go_loopw [4] (fun i wr => ∃ (k : Nat), k ≤ Z.recs.length ∧ i = .int .i64 k ∧ Hid (St w0 (rledH w.heap.size rj (ledOf (Z.recs.take k)) :: rrX d sb nb ib rj Z news lv vs :: R) wr))
    (fun i _ => Z.recs.length - (intOf i).toNat)
  case atStart => exact ⟨0, Nat.zero_le _, rfl, HN.out⟩
  case round =>
    clear HN
    obtain ⟨k, hk, rfl, HS⟩ := hrel
    have hJ := HS.out.to1.rrx
    have c1 := hJ.blk.cells2.2
    have lj := hJ.blk.lt
    by_cases hlt : k < Z.recs.length
    · have hlt' : (k : Int) < (Z.recs.length : Int) := by omega
      have hk' : (k : Int) < 64 := by omega
      obtain ⟨g, lc, a, c, rfl, hg, hm, d0, hs⟩ := hJ.rows.at k hlt
      have hap : Apart w0 (rrX d sb nb ib rj Z news (.slice (some ⟨g, 0, none⟩) Z.recs.length lc) vs :: R) (seatOf (.slice a Z.recs[k].length c)) := fun b hb => .inr ⟨_, List.mem_cons_self, fun w F hF => by
        obtain ⟨_, rfl⟩ := hF
        exact .inr (.inr (.inr (.inr (.inr (.inr ⟨_, hm, hb⟩)))))⟩
      have h59 := HSh.out _ (List.getElem_mem hlt)
      have htk : ledOf (Z.recs.take (k + 1)) = takeM (ledOf (Z.recs.take k)) Z.recs[k] := by rw [List.take_succ_eq_append_getElem hlt, ledOf_snoc]
      have hml : (ledOf (Z.recs.take k)).length ≤ 1000 := by have := len_ledOf (Z.recs.take k); rw [List.length_take] at this; omega
      have HSrc := Lib.hid hs
      have HAP := Lib.hid hap
      have HML := Lib.hid hml
      have HTK := Lib.hid htk
      clear hs hap hJ hm hml htk
      obtain ⟨b, hb⟩ : ∃ x, Z.recs[k] = x := ⟨_, rfl⟩
      rw [hb] at HSrc HAP HTK d0 h59
      clear hb
      go_wp2_with (first
        | (go_at_call 88
           refine (rtake_any b.length a c b rfl (by omega) HML.out HS.out HSrc.out HAP.out).mono ?_
           rintro e w2 ⟨rfl, hS2⟩
           rw [← HTK.out] at hS2
           have HS2 := Lib.hid hS2
           clear hS2))
      go_roundw
      case rel => exact ⟨k + 1, by omega, rfl, HS2⟩
      case measure => show Z.recs.length - ((k : Int) + 1).toNat < Z.recs.length - ((k : Int)).toNat; omega
    · obtain rfl : k = Z.recs.length := by omega
      obtain ⟨la, lc, rfl⟩ := hJ.rows.own.form
      have HS' := HS.out
      rw [List.take_length] at HS'
      have HF := Lib.hid HS'.to1.rrShut.to1
      clear HS'
      go_wp2
      go_ret
      exact ⟨w.heap.size, rfl, HF.out⟩
end Go.Proofs.Ytkifggnjpgoamaa
namespace Go.Proofs.Ytkifggnjpgoamaa
open Go.RowKit
variable {w0 w w' : World} {R : List HA} {d sb nb ib rj : Nat} {Z : JSt}

theorem bit0_mod (mask : Int) (hm : 0 ≤ mask) (hm2 : mask < 18446744073709551616) : bit0 mask = decide (mask % 2 = 1) := by
  obtain ⟨m, rfl⟩ := Int.eq_ofNat_of_zero_le hm
  unfold bit0
  have := bits_and_u64_nat m 1 (by omega) (by omega)
  rw [show ((1 : Nat) : Int) = 1 from rfl] at this
  rw [this, Nat.and_one_is_mod]
  have h2 : m % 2 = 0 ∨ m % 2 = 1 := by omega
  rcases h2 with h | h
  · rw [h]; have : ¬ ((m : Int) % 2 = 1) := by omega
    simp [this]
  · rw [h]; have : ((m : Int) % 2 = 1) := by omega
    simp [this]

theorem pend_none (k N : Nat) : pend (List.replicate N false) k = [] := by
  unfold pend
  rw [List.filter_eq_nil_iff]
  intro i _
  rw [List.getD, List.getElem?_replicate]
  split <;> simp
theorem pend_isOf {Z : JSt} {b : List UInt8} (h : Z.last = some b) (hl : Z.recs.length < Z.N) : pend (isOf Z) Z.N = [Z.recs.length] := by
  unfold pend
  have : (List.range Z.N).filter (fun i => (isOf Z).getD i false) = (List.range Z.N).filter (fun i => i == Z.recs.length) := by
    apply List.filter_congr
    intro i hi
    rw [isOf_get Z i (List.mem_range.1 hi), h]
    simp
  rw [this]
  obtain ⟨m, hm⟩ : ∃ m, Z.N = Z.recs.length + 1 + m := ⟨Z.N - Z.recs.length - 1, by omega⟩
  rw [hm, List.range_add, List.range_succ, List.filter_append, List.filter_append]
  have e1 : (List.range Z.recs.length).filter (fun i => i == Z.recs.length) = [] := by
    rw [List.filter_eq_nil_iff]; intro i hi; have := List.mem_range.1 hi; simp; omega
  have e2 : ((List.range m).map (Z.recs.length + 1 + ·)).filter (fun i => i == Z.recs.length) = [] := by
    rw [List.filter_eq_nil_iff]; intro i hi; obtain ⟨q, _, rfl⟩ := List.mem_map.1 hi; simp; omega
  rw [e1, e2]
  simp
theorem isOf_unset {Z : JSt} : (isOf Z).set Z.recs.length false = List.replicate Z.N false := by
  apply List.ext_getElem
  · simp [isOf]
  · intro i h1 h2
    rw [List.getElem_set]
    by_cases e : Z.recs.length = i
    · rw [if_pos e]; simp
    · rw [if_neg e]
      simp only [isOf, List.getElem_map, List.getElem_range, List.getElem_replicate, Bool.and_eq_false_iff, beq_eq_false_iff_ne, ne_eq]
      exact .inr (fun h => e h.symm)

theorem rnew_st (n : Nat) (h : St w0 R w) (h1 : 1 ≤ n) (h2 : n ≤ 64) :
    Calls Try.prog 34 #[.int .i64 n] w fun e w' => ∃ d sb nb ib, e = .returned (.tuple #[.pointer (some ⟨d, 0, none⟩), .int .i64 0]) ∧ St w0 (rdH d sb nb ib ⟨written [] n, List.replicate n zsec, List.replicate n false, -1, false⟩ :: R) w' := by
  refine (rnew_ok n w h1 h2).mono ?_
  rintro e w' ⟨d, sb, nb, ib, rfl, g1, g2, g3, g4, hT, hD⟩
  refine ⟨d, sb, nb, ib, rfl, h.more hT [rdH d sb nb ib _] _ (Sep.one ⟨by rw [written_nil]; exact hD, rfl⟩) ?_⟩
  rintro b (rfl | rfl | rfl | rfl)
  · exact g1
  · exact g2
  · exact g3
  · exact g4

theorem rfuse_rr (h : St w0 (rrH d sb nb ib rj Z :: R) w) (n : Int) (hn : n ≤ 9223372036854775807) :
    Calls Try.prog 40 #[.pointer (some ⟨d, 0, none⟩), .int .i64 n] w fun e w' => e = .returned (.tuple #[]) ∧ St w0 (rrH d sb nb ib rj { Z with fuse := max n (-1) } :: R) w' := by
  obtain ⟨F, ⟨news, lv, vs, hJ, rfl⟩, f2, f3⟩ := h.step1
  refine (rfuse_any n hJ.disk hn).mono ?_
  rintro e w' ⟨rfl, hT, hD⟩
  refine ⟨rfl, f3 (rrH d sb nb ib rj { Z with fuse := max n (-1) }) w' _ ⟨news, lv, vs, ⟨⟨hJ.ok.le, hJ.ok.le64, hJ.ok.short, hJ.ok.last⟩, hD, hJ.news, hJ.blk.turn hT (by simpa using hJ.nj.1), hJ.rows.turnP (TurnP.of_T hT) (fun b hb => by have := (hJ.nl b hb).1; simpa using this) (fun v hv b hb => by have := (hJ.nv v hv b hb).1; simpa using this), hJ.nj, hJ.nl, hJ.nv⟩, rfl⟩ (hT.toP (fun b hb => by simp at hb; exact .inl (.inl hb))) (fun b hb => .inl hb)⟩

theorem rcrash_rr (h : St w0 (rrH d sb nb ib rj Z :: R) w) (mask : Int) (hm : 0 ≤ mask) (hm2 : mask < 18446744073709551616) :
    Calls Try.prog 41 #[.pointer (some ⟨d, 0, none⟩), .int .u64 mask] w fun e w' => e = .returned (.tuple #[]) ∧ ∃ news, St w0 (rdH d sb nb ib ⟨written (Z.crash (bit0 mask)) Z.N, news, List.replicate Z.N false, -1, false⟩ :: R) w' := by
  obtain ⟨F, ⟨news, lv, vs, hJ, rfl⟩, f2, f3⟩ := h.step1
  have hlen : (rst Z news).sure.length = Z.N := written_length _ _ hJ.ok.le
  have fin : ∀ (w' : World) (S : RSt), Turn [d, sb, ib] w w' → RDAt w' d sb nb ib S → St w0 (rdH d sb nb ib S :: R) w' := fun w' S hT hD =>
    f3 (rdH d sb nb ib S) w' _ ⟨hD, rfl⟩ (hT.toP (fun b hb => by
      simp only [List.mem_cons, List.not_mem_nil, or_false] at hb
      rcases hb with h | h | h
      · exact .inl (.inl h)
      · exact .inl (.inr (.inl h))
      · exact .inl (.inr (.inr (.inr (.inl h)))))) (fun b hb => .inl (by
      rcases hb with h | h | h | h
      · exact .inl h
      · exact .inr (.inl h)
      · exact .inr (.inr (.inl h))
      · exact .inr (.inr (.inr (.inl h)))))
  cases hb : Z.last with
  | none =>
    have hc : Z.crash (bit0 mask) = Z.recs := by unfold JSt.crash; rw [hb]
    have hD := hJ.disk
    have hp : pend (rst Z news).is (rst Z news).sure.length = [] := by simp only [rst]; rw [isOf_none hb]; exact pend_none _ _
    refine (rcrash_none mask hD hp).mono ?_
    rintro e w' ⟨rfl, hT, hD'⟩
    refine ⟨rfl, news, ?_⟩
    rw [hc]
    have := fin w' _ (hT.mono (by simp)) hD'
    simp only [rst] at this
    rw [isOf_none hb] at this
    exact this
  | some b =>
    have hlt := (hJ.ok.last b hb).2.2
    have hp : pend (rst Z news).is (rst Z news).sure.length = [Z.recs.length] := by rw [hlen]; exact pend_isOf hb hlt
    have hbm := bit0_mod mask hm hm2
    by_cases hbit : mask % 2 = 1
    · have hk : bit0 mask = true := by rw [hbm]; simpa using hbit
      have hc : Z.crash (bit0 mask) = Z.recs ++ [b] := by unfold JSt.crash; rw [hb, hk]; rfl
      refine (rcrash_keep mask Z.recs.length hbit hm hm2 hJ.disk hp (by rw [hlen]; exact hlt)).mono ?_
      rintro e w' ⟨rfl, hT, hD'⟩
      refine ⟨rfl, news, ?_⟩
      have := fin w' _ hT hD'
      simp only [rst] at this
      rw [isOf_unset, hJ.news b hb, written_snoc _ _ _ hlt] at this
      rw [hc]
      exact this
    · have hk : bit0 mask = false := by rw [hbm]; simpa using hbit
      have hc : Z.crash (bit0 mask) = Z.recs := by unfold JSt.crash; rw [hb, hk]; rfl
      refine (rcrash_lose mask Z.recs.length hbit hm hm2 hJ.disk hp (by rw [hlen]; exact hlt)).mono ?_
      rintro e w' ⟨rfl, hT, hD'⟩
      refine ⟨rfl, news, ?_⟩
      have := fin w' _ hT hD'
      simp only [rst] at this
      rw [isOf_unset] at this
      rw [hc]
      exact this
end Go.Proofs.Ytkifggnjpgoamaa
