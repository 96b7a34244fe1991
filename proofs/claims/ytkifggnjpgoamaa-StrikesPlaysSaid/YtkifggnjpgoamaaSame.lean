/- palfreyref01.SameRows. -/
import Derived.Test.YtkifggnjpgoamaaObj
import Derived.Lib.BufferRead
import Derived.StillTailTactics
namespace Go.Proofs.Ytkifggnjpgoamaa
open Go.RowKit

/-- Rows that are read: the slice's elements, and what each holds. -/
structure RowsSrc (w : World) (lv : Value) (vs : List Value) (rs : List (List UInt8)) : Prop where
  src : Src w lv rs.length vs
  len : vs.length = rs.length
  each : ∀ i (h : i < vs.length) (h' : i < rs.length), Src w vs[i] rs[i].length (bvs rs[i])
theorem RowsAt.read {w : World} {lv : Value} {vs : List Value} {rs : List (List UInt8)} (h : RowsAt w lv vs rs) : RowsSrc w lv vs rs := ⟨h.own.src, h.len, h.src⟩
theorem RowsSrc.turn0 {w w' : World} {lv : Value} {vs : List Value} {rs : List (List UInt8)} (h : RowsSrc w lv vs rs) (k : Turn [] w w') : RowsSrc w' lv vs rs := ⟨h.src.turn0 k, h.len, fun i h1 h2 => (h.each i h1 h2).turn0 k⟩

theorem Src.form {w : World} {v : Value} {n : Nat} {xs : List Value} (h : Src w v n xs) : ∃ a c, v = .slice a n c := by
  rcases h with ⟨rfl, rfl, a, rfl⟩ | ⟨b, o, c, rfl, _⟩
  · exact ⟨_, _, rfl⟩
  · exact ⟨_, _, rfl⟩

/-- 'string(b)' of a slice of bytes. -/
theorem Src.string {P : Program} {w : World} {v : Value} {bs : List UInt8} (h : Src w v bs.length (bvs bs)) (src dst e : TypeId) (hs : P.underlying src = some (.slice e)) (he : P.underlying e = some (.int .u8)) (hd : P.underlying dst = some .string) :
    (convert src dst v).run P w = .ok (.string ⟨bs.toArray⟩) w := by
  rcases h with ⟨h0, _, a0, hv⟩ | ⟨b, o, c, rfl, hc, _, hb, hr⟩
  · obtain rfl : bs = [] := List.eq_nil_of_length_eq_zero h0
    cases hv
    cases a0 with
    | none => exact Lib.run_convert_nil_bytes w src dst e 0 hs he hd
    | some a0 => exact run_convert_bytes_back w src dst e a0 0 [] hs he hd (fun j hj => by simp at hj)
  · refine run_convert_bytes_back w src dst e ⟨b, o, none⟩ c bs hs he hd fun j hj => ?_
    rw [Addr.add_mid]
    exact hr j _ (by simp [bvs, bv, List.getElem?_eq_getElem hj])

set_option maxRecDepth 100000 in
set_option maxHeartbeats 1600000 in
theorem same_any (w : World) (lv1 lv2 : Value) (vs1 vs2 : List Value) (rs1 rs2 : List (List UInt8)) (h1 : RowsSrc w lv1 vs1 rs1) (h2 : RowsSrc w lv2 vs2 rs2) (hn : rs1.length ≤ 1000) (_hn2 : rs2.length ≤ 1000) :
    Calls Try.prog 22 #[lv1, lv2] w fun e w' => e = .returned (.bool (rs1 == rs2)) ∧ Turn [] w w' := by
  obtain ⟨a1, c1, rfl⟩ := h1.src.form
  obtain ⟨a2, c2, rfl⟩ := h2.src.form
  have H1 := Lib.hid h1
  have H2 := Lib.hid h2
  clear h1 h2
  by_cases hl : rs1.length = rs2.length
  · have hl' : (rs1.length : Int) = rs2.length := by omega
    have hn64 : (rs1.length : Int) ≤ 1000 := by omega
    have Hl := Lib.hid hl
    go_enter Try.func22, Try.ntmps22
    rw [← hl]
    clear hl hl' hn _hn2
    go_wp2_with fail
    go_loopw [5] (fun i wr => ∃ k : Nat, k ≤ rs1.length ∧ i = .int .i64 k ∧ Turn [] w wr ∧ Hid (rs1.take k = rs2.take k))
      (fun i _ => rs1.length - (intOf i).toNat)
    case atStart => exact ⟨0, Nat.zero_le _, rfl, Turn.refl _ _, by unfold Hid; simp⟩
    case round =>
      obtain ⟨k, hk, rfl, hT, HP⟩ := hrel
      have hk1000 : (k : Int) ≤ 1000 := by omega
      by_cases hlt : k < rs1.length
      · have hlt' : (k : Int) < (rs1.length : Int) := by omega
        have g1 := H1.out.turn0 hT
        have g2 := H2.out.turn0 hT
        have k1 : k < vs1.length := by rw [g1.len]; exact hlt
        have k2 : k < vs2.length := by rw [g2.len, ← Hl.out]; exact hlt
        have k2' : k < rs2.length := by rw [← Hl.out]; exact hlt
        have e1 := g1.each k k1 hlt
        have e2 := g2.each k k2 k2'
        rcases g1.src with ⟨h0, _⟩ | ⟨b1, o1, d1, hv1, _, _, _, r1⟩
        · omega
        rcases g2.src with ⟨h0, _⟩ | ⟨b2, o2, d2, hv2, _, _, _, r2⟩
        · omega
        cases hv1
        cases hv2
        have x1 := r1 k vs1[k] (List.getElem?_eq_getElem k1)
        have x2 := r2 k vs2[k] (List.getElem?_eq_getElem k2)
        have s1 : (convert 35 9 vs1[k]).run Try.prog wr.drew = .ok (.string ⟨(rs1[k]).toArray⟩) wr.drew := Src.string (w := wr.drew) e1 _ _ 5 Try.underlying35 Try.underlying5 Try.underlying9
        have s2 : (convert 35 9 vs2[k]).run Try.prog wr.drew = .ok (.string ⟨(rs2[k]).toArray⟩) wr.drew := Src.string (w := wr.drew) e2 _ _ 5 Try.underlying35 Try.underlying5 Try.underlying9
        obtain ⟨v1, hv1⟩ : ∃ v, vs1[k] = v := ⟨_, rfl⟩
        obtain ⟨v2, hv2⟩ : ∃ v, vs2[k] = v := ⟨_, rfl⟩
        rw [hv1] at x1 s1
        rw [hv2] at x2 s2
        clear hv1 hv2 e1 e2 g1 g2 r1 r2
        obtain ⟨q1, hq1⟩ : ∃ q, rs1[k] = q := ⟨_, rfl⟩
        obtain ⟨q2, hq2⟩ : ∃ q, rs2[k] = q := ⟨_, rfl⟩
        rw [hq1] at s1
        rw [hq2] at s2
        have Hq := Lib.hid (And.intro hq1 hq2)
        clear hq1 hq2
        by_cases hq : q1 = q2
        · subst hq
          have hqq : (q1 == q1) = true := by simp
          have HP' : Hid (rs1.take (k + 1) = rs2.take (k + 1)) := by
            unfold Hid
            rw [List.take_add_one, List.take_add_one, HP.out, List.getElem?_eq_getElem hlt, List.getElem?_eq_getElem k2', Hq.out.1, Hq.out.2]
          go_wp2
          refine wp_region_still_tail 10 (by kernel_rfl) (by kernel_rfl) ?_
          simp only [List.take_succ_cons, List.take_zero, List.drop_succ_cons, List.drop_zero]
          repeat (first
            | still_step)
          refine wpStill_nil ?_
          go_wp2
          go_roundw
          case rel => exact ⟨k + 1, by omega, rfl, hT.drew, HP'⟩
          case measure => show rs1.length - ((k : Int) + 1).toNat < rs1.length - ((k : Int)).toNat; omega
        · have hqq : (q1 == q2) = false := by simpa using hq
          have hne : (rs1 == rs2) = false := by
            rw [beq_eq_false_iff_ne]
            intro h
            have h1 := Hq.out.1
            have h2 := Hq.out.2
            subst h
            exact hq (h1.symm.trans h2)
          have Hne := Lib.hid hne
          clear hne
          go_wp2
          refine wp_region_still_tail 10 (by kernel_rfl) (by kernel_rfl) ?_
          simp only [List.take_succ_cons, List.take_zero, List.drop_succ_cons, List.drop_zero]
          repeat (first
            | still_step)
          refine wpStill_nil ?_
          go_wp2
          go_ret
          rw [Hne.out]
          exact ⟨rfl, hT.drew⟩
      · obtain rfl : k = rs1.length := by omega
        have he : (rs1 == rs2) = true := by
          have h := HP.out
          rw [List.take_length, Hl.out, List.take_length] at h
          rw [h]; simp
        have He := Lib.hid he
        clear he
        go_wp2
        go_ret
        rw [He.out]
        exact ⟨rfl, hT⟩
  · have hl' : ¬ (rs1.length : Int) = rs2.length := by omega
    have hne : (rs1 == rs2) = false := by
      rw [beq_eq_false_iff_ne]
      intro h
      exact hl (by rw [h])
    rw [hne]
    clear hne hl
    go_enter Try.func22, Try.ntmps22
    go_wp2
    go_ret
    exact ⟨rfl, Turn.refl _ _⟩
end Go.Proofs.Ytkifggnjpgoamaa
