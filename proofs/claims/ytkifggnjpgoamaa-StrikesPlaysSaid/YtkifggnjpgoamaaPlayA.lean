/- How a slice of operations comes in. -/
import Derived.Test.YtkifggnjpgoamaaPlayP
import Derived.Test.YtkifggnjpgoamaaArgs
namespace Go.Proofs.Ytkifggnjpgoamaa
open Go.RowKit Go.Deep Go.ChangeShapes Go.WideShapes

/-- One slice of bytes that came in, by its cell. -/
theorem bytes_one {H : Type} {enc : TypeId × Value → H} {P : Program} {w : World} {base : Nat} {held : Bool} {t e : TypeId} {fuel : Nat} {v : Value} {x : DataW H × List MemPlace} (ht : P.underlying t = some (.slice e)) (he : P.underlying e = some (.int .u8))
    (ce : P.cellsOf e = 1) (h : DataW.trod enc P w base (fun _ => true) held fuel t [v] = some x) : ∃ (a : Option Addr) (bs : List UInt8) (c : Nat), v = .slice a bs.length c ∧ Src w v bs.length (bvs bs) ∧ bs.length ≤ maxLen := by
  have hv : ∃ a n c, v = .slice a n c := by
    rcases open_ints ht he ce h with ⟨hc, _⟩ | ⟨a, len, cap, zs, hc, _⟩
    · simp only [List.cons.injEq, and_true] at hc; exact ⟨_, _, _, hc⟩
    · simp only [List.cons.injEq, and_true] at hc; exact ⟨_, _, _, hc⟩
  obtain ⟨a, n, c, rfl⟩ := hv
  obtain ⟨zs, hz, hs, hc, hm, hw⟩ := ints_in (A := a) (n := n) (c := c) ht he ce h
  have hl : (byteL zs).length = n := by simp [byteL, hz]
  refine ⟨a, byteL zs, c, by rw [hl], ?_, by rw [hl]; exact Nat.le_trans hc hm⟩
  rw [hl, bvs_byteL hw]
  exact hs

theorem wf_i64 {n : Int} (h : (Lit.int .i64 n).wf = true) : n ≤ 9223372036854775807 := by
  have hx : (-9223372036854775808 : Int) ≤ n ∧ n ≤ 9223372036854775807 := by simpa [Lit.wf, IntKind.min, IntKind.max, IntKind.signed, IntKind.bits] using h
  exact hx.2
theorem wf_u64 {n : Int} (h : (Lit.int .u64 n).wf = true) : 0 ≤ n ∧ n < 18446744073709551616 := by
  have hx : (0 : Int) ≤ n ∧ n ≤ 18446744073709551615 := by simpa [Lit.wf, IntKind.min, IntKind.max, IntKind.signed, IntKind.bits] using h
  omega

instance : Inhabited OpI := ⟨⟨0, 0, 0, 0, 0, none, 0, []⟩⟩
theorem list_six {α : Type} {l : List α} (h : l.length = 6) : ∃ v0 v1 v2 v3 v4 v5, l = [v0, v1, v2, v3, v4, v5] := by
  match l, h with
  | [v0, v1, v2, v3, v4, v5], _ => exact ⟨_, _, _, _, _, _, rfl⟩
set_option maxRecDepth 100000 in
theorem op_in {H : Type} {enc : TypeId × Value → H} {w : World} {base : Nat} {held : Bool} {fuel : Nat} {cs : List Value} {x : DataW H × List MemPlace} (h : DataW.trod enc Try.prog w base (fun _ => true) held fuel 95 cs = some x) :
    ∃ o : OpI, cs = opCells o ∧ OpIn w o := by
  obtain ⟨xs, m, _, _, hl, hxl, hf⟩ := DataW.trod_struct Try.underlying95 h
  have c6 : Try.prog.cellsOf 95 = 6 := by kernel_rfl
  have ci : Try.prog.cellsOf 3 = 1 := by kernel_rfl
  have cu : Try.prog.cellsOf 51 = 1 := by kernel_rfl
  have cb : Try.prog.cellsOf 35 = 1 := by kernel_rfl
  have cB : Try.prog.cellsOf 5 = 1 := by kernel_rfl
  rw [c6] at hl
  obtain ⟨v0, v1, v2, v3, v4, v5, rfl⟩ := list_six hl
  have hx : ∀ i, i < 6 → ∃ y, xs[i]? = some y := fun i hi => ⟨_, List.getElem?_eq_getElem (by rw [hxl]; exact hi)⟩
  obtain ⟨y0, e0⟩ := hx 0 (by omega)
  obtain ⟨y1, e1⟩ := hx 1 (by omega)
  obtain ⟨y2, e2⟩ := hx 2 (by omega)
  obtain ⟨y3, e3⟩ := hx 3 (by omega)
  obtain ⟨y4, e4⟩ := hx 4 (by omega)
  obtain ⟨y5, e5⟩ := hx 5 (by omega)
  have f0 : DataW.trod enc Try.prog w base (fun _ => true) held m 3 ((List.drop 0 [v0, v1, v2, v3, v4, v5]).take (Try.prog.cellsOf 3)) = xs[0]? := hf 0 _ rfl
  have f1 : DataW.trod enc Try.prog w base (fun _ => true) held m 3 ((List.drop 1 [v0, v1, v2, v3, v4, v5]).take (Try.prog.cellsOf 3)) = xs[1]? := hf 1 _ rfl
  have f2 : DataW.trod enc Try.prog w base (fun _ => true) held m 3 ((List.drop 2 [v0, v1, v2, v3, v4, v5]).take (Try.prog.cellsOf 3)) = xs[2]? := hf 2 _ rfl
  have f3 : DataW.trod enc Try.prog w base (fun _ => true) held m 3 ((List.drop 3 [v0, v1, v2, v3, v4, v5]).take (Try.prog.cellsOf 3)) = xs[3]? := hf 3 _ rfl
  have f4 : DataW.trod enc Try.prog w base (fun _ => true) held m 51 ((List.drop 4 [v0, v1, v2, v3, v4, v5]).take (Try.prog.cellsOf 51)) = xs[4]? := hf 4 _ rfl
  have f5 : DataW.trod enc Try.prog w base (fun _ => true) held m 35 ((List.drop 5 [v0, v1, v2, v3, v4, v5]).take (Try.prog.cellsOf 35)) = xs[5]? := hf 5 _ rfl
  rw [e0] at f0
  rw [e1] at f1
  rw [e2] at f2
  rw [e3] at f3
  rw [e4] at f4
  rw [e5] at f5
  rw [ci] at f0 f1 f2 f3
  rw [cu] at f4
  rw [cb] at f5
  simp only [List.drop_zero, List.drop_succ_cons, List.take_succ_cons, List.take_zero] at f0 f1 f2 f3 f4 f5
  obtain ⟨a0, g0, _, _⟩ := DataW.trod_int Try.underlying3 f0
  obtain ⟨a1, g1, _, _⟩ := DataW.trod_int Try.underlying3 f1
  obtain ⟨a2, g2, _, k2⟩ := DataW.trod_int Try.underlying3 f2
  obtain ⟨a3, g3, _, k3⟩ := DataW.trod_int Try.underlying3 f3
  obtain ⟨a4, g4, _, k4⟩ := DataW.trod_int Try.underlying51 f4
  obtain ⟨ba, bs, bc, g5, hs, hm⟩ := bytes_one Try.underlying35 Try.underlying5 cB f5
  simp only [List.cons.injEq, and_true] at g0 g1 g2 g3 g4
  subst g0 g1 g2 g3 g4 g5
  exact ⟨⟨a0, a1, a2, a3, a4, ba, bc, bs⟩, rfl, hs, wf_i64 k2, wf_i64 k3, wf_u64 k4, hm⟩

set_option maxRecDepth 100000 in
theorem ops_in {H : Type} {enc : TypeId × Value → H} {w : World} {base : Nat} {held : Bool} {fuel : Nat} {A : Option Addr} {n c : Nat} {x : DataW H × List MemPlace} (h : DataW.trod enc Try.prog w base (fun _ => true) held fuel 85 (Value.slice A n c).cells.toList = some x) :
    ∃ ops : List OpI, ops.length = n ∧ Src w (.slice A n c) n (ops.flatMap opCells) ∧ (∀ o ∈ ops, OpIn w o) ∧ n ≤ c ∧ c ≤ maxLen := by
  have c6 : Try.prog.cellsOf 95 = 6 := by kernel_rfl
  rcases open_slice Try.underlying85 h with ⟨hc, _⟩ | ⟨a, len, cap, m, q, D, Pl, hc, _, hl, hm, hmm, _, hx⟩
  · simp [Value.cells] at hc
    obtain ⟨rfl, rfl, rfl⟩ := hc
    exact ⟨[], rfl, .inl ⟨rfl, rfl, _, rfl⟩, by simp, Nat.le_refl _, by unfold maxLen; omega⟩
  · simp [Value.cells] at hc
    obtain ⟨rfl, rfl, rfl⟩ := hc
    simp only [if_true] at hmm
    subst hmm
    rw [c6] at hx
    have each : ∀ i, i < m → ∃ o : OpI, (∀ k, k < 6 → w.cell? ((a.add (i * 6)).add k) = (opCells o)[k]?) ∧ OpIn w o := by
      intro i hi
      obtain ⟨cs', h1, h2⟩ := hx i hi
      obtain ⟨_, hlen, hcell⟩ := World.cells?_some h1
      obtain ⟨o, rfl, ho⟩ := op_in h2
      exact ⟨o, hcell, ho⟩
    obtain ⟨y, hy⟩ := choose_lt each
    refine ⟨(List.range n).map y, by simp, ?_, ?_, hl, hm⟩
    · by_cases hz : m = 0
      · subst hz
        obtain rfl : n = 0 := by omega
        exact .inl ⟨rfl, rfl, _, rfl⟩
      · have h0 := (hy 0 (by omega)).1 0 (by omega)
        rw [Nat.zero_mul] at h0
        have ha0 : a.add 0 = a := by cases a; rfl
        rw [ha0] at h0
        have h0' : w.cell? (a.add 0) = some (.int .i64 (y 0).doo) := h0
        obtain ⟨ha, hb⟩ := cell_at h0'
        obtain ⟨b, o, s⟩ := a
        cases ha
        refine .inr ⟨b, o, m, rfl, hl, hz, hb, fun j v hv => ?_⟩
        have hjl : j < n * 6 := by
          have := (List.getElem?_eq_some_iff.1 hv).1
          have hlen : (((List.range n).map y).flatMap opCells).length = n * 6 := by
            rw [List.length_flatMap]
            have : ((List.range n).map y).map (fun o => (opCells o).length) = List.replicate n 6 := by
              apply List.ext_getElem
              · simp
              · intro i h1 h2; simp [opCells]
            rw [this, List.sum_replicate_nat]
          omega
        have hj1 : j / 6 < n := by omega
        have hj2 : j % 6 < 6 := by omega
        have hg := ops_get ((List.range n).map y) (j / 6) (by simpa using hj1) (j % 6) hj2
        rw [show j / 6 * 6 + j % 6 = j by omega, hv] at hg
        simp only [List.getElem_map, List.getElem_range] at hg
        have hcell := (hy (j / 6) (by omega)).1 (j % 6) hj2
        rw [← hg] at hcell
        rw [show (⟨b, o + j, none⟩ : Addr) = ((⟨b, o, none⟩ : Addr).add (j / 6 * 6)).add (j % 6) from by
          rw [Addr.add_mid, Addr.add_mid]; congr 1; omega]
        exact hcell
    · intro o ho
      obtain ⟨i, hi, rfl⟩ := List.mem_map.1 ho
      exact (hy i (by have := List.mem_range.1 hi; omega)).2
end Go.Proofs.Ytkifggnjpgoamaa
