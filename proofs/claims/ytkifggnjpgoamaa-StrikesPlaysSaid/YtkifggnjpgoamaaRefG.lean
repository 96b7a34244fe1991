/- Contracts of the reference of layer 21: New, Crash. -/
import Derived.Test.YtkifggnjpgoamaaRefF
import Derived.Test.YtkifggnjpgoamaaRig
import Derived.Deep.RegionLaw
namespace Go.Proofs.Ytkifggnjpgoamaa
open Go.RowKit

section
variable {P : Program} {ops : Array Oper} {o : Oper} {a : Act} {w : World} {Q : Exit → Act → World → Prop}
theorem step_run {E : Prop} {K : Act → World → Prop} {w' : World} (hg : o.guard = none) {v : Value} (hrun : (execOp a.eval o).run P w = .ok (.value v) w') (h : K (a.put o.dst v) w') :
    if Region.wanted o (yielded ops a.tmps) = true then Oper.wp P o a w K Q else E := by
  rw [if_pos (by simp [Region.wanted, hg])]
  unfold Oper.wp
  rw [hrun]
  exact h
theorem run_make1 (T : TypeId) (El : TypeId) (z : Value) (bytes : Nat) (hT : P.underlying T = some (.slice El))
    (hI : (P.info? El).map (fun i => (i.zero, i.size, i.bytes)) = some (some z, 1, bytes)) (hz : z.cells = #[z]) (n : Nat) (hb : bytes * n ≤ 281474976710656) (h63 : n ≤ 9223372036854775807) (w : World) :
    (Instr.makeSlice T (.int .i64 n) (.int .i64 n)).run P w = .ok (.slice (some ⟨w.heap.size, 0, none⟩) n n) (w.alloc (.cells (List.replicate n z).toArray El)) := by
  obtain ⟨i, hi, hi1, hi2, hi3⟩ := info_parts hI
  have hbb : (i.bytes : Int) * (n : Int) ≤ 281474976710656 := by
    have hq : ((bytes * n : Nat) : Int) ≤ 281474976710656 := by omega
    rw [hi3]
    rwa [Int.natCast_mul] at hq
  have hr := run_make (P := P) w T El i z hT hi hi1 .i64 .i64 n n (by omega) (by omega) hbb (by omega)
  simpa only [Int.toNat_natCast, hi2, Nat.mul_one, hz, madeCells_one] using hr
theorem run_makeA (T : TypeId) (El : TypeId) (zs : List Value) (size bytes : Nat) (hT : P.underlying T = some (.slice El))
    (hI : (P.info? El).map (fun i => (i.zero, i.size, i.bytes)) = some (some (.agg zs.toArray), size, bytes)) (hz : zs ≠ []) (hsz : zs.length = size) (n : Nat) (hb : bytes * n ≤ 281474976710656) (h63 : n ≤ 9223372036854775807) (w : World) :
    (Instr.makeSlice T (.int .i64 n) (.int .i64 n)).run P w = .ok (.slice (some ⟨w.heap.size, 0, none⟩) n n) (w.alloc (.cells (List.replicate n zs).flatten.toArray El)) := by
  obtain ⟨i, hi, hi1, hi2, hi3⟩ := info_parts hI
  have hbb : (i.bytes : Int) * (n : Int) ≤ 281474976710656 := by
    have hq : ((bytes * n : Nat) : Int) ≤ 281474976710656 := by omega
    rw [hi3]
    rwa [Int.natCast_mul] at hq
  have hr := run_make (P := P) w T El i (.agg zs.toArray) hT hi hi1 .i64 .i64 n n (by omega) (by omega) hbb (by omega)
  simp only [Int.toNat_natCast, hi2, ← hsz] at hr
  rwa [show (Value.agg zs.toArray).cells = zs.toArray from rfl, madeCells_many zs hz] at hr
theorem step_make1 {E : Prop} {K : Act → World → Prop} (hg : o.guard = none) (T : TypeId) (x y : Operand) (ho : o.op = .makeSlice T x y) (El : TypeId) (z : Value) (bytes : Nat) (hT : P.underlying T = some (.slice El))
    (hI : (P.info? El).map (fun i => (i.zero, i.size, i.bytes)) = some (some z, 1, bytes)) (hz : z.cells = #[z]) (n : Nat) (hx : a.eval x = .int .i64 n) (hy : a.eval y = .int .i64 n) (hb : bytes * n ≤ 281474976710656) (h63 : n ≤ 9223372036854775807)
    (h : ∀ w', Turn [] w w' → Blk w' w.heap.size (List.replicate n z).toArray El → w.heap.size < w'.heap.size → K (a.put o.dst (.slice (some ⟨w.heap.size, 0, none⟩) n n)) w') :
    if Region.wanted o (yielded ops a.tmps) = true then Oper.wp P o a w K Q else E := by
  obtain ⟨i, hi, hi1, hi2, hi3⟩ := info_parts hI
  have hbb : (i.bytes : Int) * (n : Int) ≤ 281474976710656 := by
    have hq : ((bytes * n : Nat) : Int) ≤ 281474976710656 := by omega
    rw [hi3]
    rwa [Int.natCast_mul] at hq
  have hr := run_make (P := P) w T El i z hT hi hi1 .i64 .i64 n n (by omega) (by omega) hbb (by omega)
  simp only [Int.toNat_natCast, hi2, Nat.mul_one, hz, madeCells_one] at hr
  refine step_run hg (v := .slice (some ⟨w.heap.size, 0, none⟩) n n) ?_ (h _ ((Turn.refl _ _).alloc _) (Blk.new _ _ _) (alloc_lt _ _))
  unfold execOp
  simp only [ho, hx, hy, Sem.run_bind, hr, Result.andThen_ok, Sem.run_pure]
theorem step_makeA {E : Prop} {K : Act → World → Prop} (hg : o.guard = none) (T : TypeId) (x y : Operand) (ho : o.op = .makeSlice T x y) (El : TypeId) (zs : List Value) (size bytes : Nat) (hT : P.underlying T = some (.slice El))
    (hI : (P.info? El).map (fun i => (i.zero, i.size, i.bytes)) = some (some (.agg zs.toArray), size, bytes)) (hz : zs ≠ []) (hsz : zs.length = size) (n : Nat) (hx : a.eval x = .int .i64 n) (hy : a.eval y = .int .i64 n) (hb : bytes * n ≤ 281474976710656) (h63 : n ≤ 9223372036854775807)
    (h : ∀ w', Turn [] w w' → Blk w' w.heap.size (List.replicate n zs).flatten.toArray El → w.heap.size < w'.heap.size → K (a.put o.dst (.slice (some ⟨w.heap.size, 0, none⟩) n n)) w') :
    if Region.wanted o (yielded ops a.tmps) = true then Oper.wp P o a w K Q else E := by
  obtain ⟨i, hi, hi1, hi2, hi3⟩ := info_parts hI
  have hbb : (i.bytes : Int) * (n : Int) ≤ 281474976710656 := by
    have hq : ((bytes * n : Nat) : Int) ≤ 281474976710656 := by omega
    rw [hi3]
    rwa [Int.natCast_mul] at hq
  have hr := run_make (P := P) w T El i (.agg zs.toArray) hT hi hi1 .i64 .i64 n n (by omega) (by omega) hbb (by omega)
  simp only [Int.toNat_natCast, hi2, ← hsz] at hr
  rw [show (Value.agg zs.toArray).cells = zs.toArray from rfl, madeCells_many zs hz] at hr
  refine step_run hg (v := .slice (some ⟨w.heap.size, 0, none⟩) n n) ?_ (h _ ((Turn.refl _ _).alloc _) (Blk.new _ _ _) (alloc_lt _ _))
  unfold execOp
  simp only [ho, hx, hy, Sem.run_bind, hr, Result.andThen_ok, Sem.run_pure]
end

theorem Try.info_rsector3 : (Try.prog.info? 202).map (fun i => (i.zero, i.size, i.bytes)) = some (some (.agg (bvs zsec).toArray), 64, 64) := by kernel_rfl
theorem Try.info_bool : (Try.prog.info? 4).map (fun i => (i.zero, i.size, i.bytes)) = some (some (.bool false), 1, 1) := by kernel_rfl

def rdH (d sb nb ib : Nat) (S : RSt) : HA where
  at' w F := RDAt w d sb nb ib S ∧ F = (fun b => b = d ∨ b = sb ∨ b = nb ∨ b = ib)
  lt := by
    rintro w F ⟨h, rfl⟩ b hb
    rcases hb with rfl | rfl | rfl | rfl
    · exact h.blk.lt
    · exact h.row.lt
    · exact h.rnew.lt
    · exact h.ris.lt
  keep := by rintro w w' F G ⟨h, rfl⟩ k hn; exact ⟨h.turnP k (hn d (.inl rfl)) (hn sb (.inr (.inl rfl))) (hn nb (.inr (.inr (.inl rfl)))) (hn ib (.inr (.inr (.inr rfl)))), rfl⟩
variable {w0 w w' : World} {R : List HA} {d sb nb ib : Nat} {S : RSt}
theorem St.rd (h : St w0 (rdH d sb nb ib S :: R) w) : RDAt w d sb nb ib S := by obtain ⟨F, a, _⟩ := h.fst; exact a
theorem St.setRd {S' : RSt} (h : St w0 (rdH d sb nb ib S :: R) w) (k : Turn [d, sb, nb, ib] w w') (hD : RDAt w' d sb nb ib S') : St w0 (rdH d sb nb ib S' :: R) w' := by
  obtain ⟨F, ⟨a, rfl⟩, f2, f3⟩ := h.step1
  exact f3 (rdH d sb nb ib S') w' _ ⟨hD, rfl⟩ (k.toP (by simp)) (fun b hb => .inl hb)

theorem rnew_close (n : Nat) (w W : World) (d sb nb ib : Nat) (h2 : n ≤ 64) (hT : Turn [] w W) (h0 : w.heap.size ≤ sb) (h1 : w.heap.size ≤ nb) (h3 : w.heap.size ≤ ib) (e1 : sb ≠ nb) (e2 : sb ≠ ib) (e3 : nb ≠ ib) (l1 : sb < W.heap.size) (l2 : nb < W.heap.size) (l3 : ib < W.heap.size)
    (b1 : Blk W sb (List.replicate n (bvs zsec)).flatten.toArray 202) (b2 : Blk W nb (List.replicate n (bvs zsec)).flatten.toArray 202) (b3 : Blk W ib (List.replicate n (Value.bool false)).toArray 4) (hd : d = W.heap.size) :
    RDAt (W.alloc (.cells #[.slice (some ⟨sb, 0, none⟩) n n, .slice (some ⟨nb, 0, none⟩) n n, .slice (some ⟨ib, 0, none⟩) n n, .int .i64 (-1), .bool false] 199)) d sb nb ib ⟨List.replicate n zsec, List.replicate n zsec, List.replicate n false, -1, false⟩ := by
  subst hd
  rw [flat_rep] at b1 b2
  refine ⟨?_, b1.alloc _, b2.alloc _, ?_, ?_, ?_, by simp, by simp, by omega, by omega, by omega, e1, e2, e3, by simpa using h2, by show (-1 : Int) ≤ -1; omega, by show (-1 : Int) ≤ 9223372036854775807; omega⟩
  · simpa using Blk.new W #[.slice (some ⟨sb, 0, none⟩) n n, .slice (some ⟨nb, 0, none⟩) n n, .slice (some ⟨ib, 0, none⟩) n n, .int .i64 (-1), .bool false] 199
  · rw [List.map_replicate]; exact b3.alloc _
  · intro s hs; rw [(List.mem_replicate.1 hs).2]; rfl
  · intro s hs; rw [(List.mem_replicate.1 hs).2]; rfl

set_option maxHeartbeats 400000 in
theorem rnew_bad (n : Int) (w : World) (h : n < 1 ∨ 64 < n) :
    Calls Try.prog 34 #[.int .i64 n] w fun e w' => e = .returned (.tuple #[.pointer none, .int .i64 1]) ∧ w = w' := by
  rcases h with h | h
  all_goals
    go_enter Try.func34, Try.ntmps34
    go_wp2
    go_ret2
    exact ⟨rfl, rfl⟩

theorem alloc3 (w : World) (X0 X1 X2 : Array Value) (T0 T1 T2 : TypeId) : Blk (((w.alloc (.cells X0 T0)).alloc (.cells X1 T1)).alloc (.cells X2 T2)) w.heap.size X0 T0 ∧ Blk (((w.alloc (.cells X0 T0)).alloc (.cells X1 T1)).alloc (.cells X2 T2)) (w.heap.size + 1) X1 T1 ∧
    Blk (((w.alloc (.cells X0 T0)).alloc (.cells X1 T1)).alloc (.cells X2 T2)) (w.heap.size + 1 + 1) X2 T2 ∧ Turn [] w (((w.alloc (.cells X0 T0)).alloc (.cells X1 T1)).alloc (.cells X2 T2)) ∧ (((w.alloc (.cells X0 T0)).alloc (.cells X1 T1)).alloc (.cells X2 T2)).heap.size = w.heap.size + 1 + 1 + 1 := by
  refine ⟨((Blk.new w _ _).alloc _).alloc _, ?_, ?_, (((Turn.refl _ _).alloc _).alloc _).alloc _, by simp⟩
  · have := Blk.new (w.alloc (.cells X0 T0)) X1 T1
    rw [World.size_alloc] at this
    exact this.alloc _
  · have := Blk.new ((w.alloc (.cells X0 T0)).alloc (.cells X1 T1)) X2 T2
    rw [World.size_alloc, World.size_alloc] at this
    exact this

set_option maxRecDepth 100000 in
set_option maxHeartbeats 3200000 in
theorem rnew_ok (n : Nat) (w : World) (h1 : 1 ≤ n) (h2 : n ≤ 64) :
    Calls Try.prog 34 #[.int .i64 n] w fun e w' => ∃ d sb nb ib, e = .returned (.tuple #[.pointer (some ⟨d, 0, none⟩), .int .i64 0]) ∧
      w.heap.size ≤ d ∧ w.heap.size ≤ sb ∧ w.heap.size ≤ nb ∧ w.heap.size ≤ ib ∧ Turn [] w w' ∧ RDAt w' d sb nb ib ⟨List.replicate n zsec, List.replicate n zsec, List.replicate n false, -1, false⟩ := by
  go_enter Try.func34, Try.ntmps34
  go_wp2
  have mk1 : ∀ w, (Instr.makeSlice 197 (.int .i64 n) (.int .i64 n)).run Try.prog w = .ok (.slice (some ⟨w.heap.size, 0, none⟩) n n) (w.alloc (.cells (List.replicate n (bvs zsec)).flatten.toArray 202)) := run_makeA 197 202 (bvs zsec) 64 64 Try.underlying197 Try.info_rsector3 (by decide) rfl n (by omega) (by omega)
  have mk2 : ∀ w, (Instr.makeSlice 65 (.int .i64 n) (.int .i64 n)).run Try.prog w = .ok (.slice (some ⟨w.heap.size, 0, none⟩) n n) (w.alloc (.cells (List.replicate n (Value.bool false)).toArray 4)) := run_make1 65 4 (.bool false) 1 Try.underlying65 Try.info_bool rfl n (by omega) (by omega)
  obtain ⟨X, hX⟩ : ∃ X, (List.replicate n (bvs zsec)).flatten.toArray = X := ⟨_, rfl⟩
  obtain ⟨Y, hY⟩ : ∃ Y, (List.replicate n (Value.bool false)).toArray = Y := ⟨_, rfl⟩
  rw [hX] at mk1
  rw [hY] at mk2
  have HX := Lib.hid (And.intro hX hY)
  clear hX hY
  go_region
  all_goals
    go_wp2
    go_ret2
    obtain ⟨rfl, rfl⟩ := HX.out
    clear mk1 mk2 HX
    obtain ⟨p1, p2, p3, pT, pz⟩ := alloc3 w (List.replicate n (bvs zsec)).flatten.toArray (List.replicate n (bvs zsec)).flatten.toArray (List.replicate n (Value.bool false)).toArray 202 202 4
    obtain ⟨q1, q2, q3, qT, qz⟩ := alloc3 w (List.replicate n (bvs zsec)).flatten.toArray (List.replicate n (Value.bool false)).toArray (List.replicate n (bvs zsec)).flatten.toArray 202 4 202
    obtain ⟨r1, r2, r3, rT, rz⟩ := alloc3 w (List.replicate n (Value.bool false)).toArray (List.replicate n (bvs zsec)).flatten.toArray (List.replicate n (bvs zsec)).flatten.toArray 4 202 202
    first
      | exact ⟨w.heap.size + 1 + 1 + 1, w.heap.size, w.heap.size + 1, w.heap.size + 1 + 1, rfl, by omega, by omega, by omega, by omega, (pT.alloc _).drew, (rnew_close n w _ _ _ _ _ h2 pT (by omega) (by omega) (by omega) (by omega) (by omega) (by omega) (by omega) (by omega) (by omega) p1 p2 p3 pz.symm).turn0 (Turn.refl _ _).drew⟩
      | exact ⟨w.heap.size + 1 + 1 + 1, w.heap.size + 1, w.heap.size, w.heap.size + 1 + 1, rfl, by omega, by omega, by omega, by omega, (pT.alloc _).drew, (rnew_close n w _ _ _ _ _ h2 pT (by omega) (by omega) (by omega) (by omega) (by omega) (by omega) (by omega) (by omega) (by omega) p2 p1 p3 pz.symm).turn0 (Turn.refl _ _).drew⟩
      | exact ⟨w.heap.size + 1 + 1 + 1, w.heap.size, w.heap.size + 1 + 1, w.heap.size + 1, rfl, by omega, by omega, by omega, by omega, (qT.alloc _).drew, (rnew_close n w _ _ _ _ _ h2 qT (by omega) (by omega) (by omega) (by omega) (by omega) (by omega) (by omega) (by omega) (by omega) q1 q3 q2 qz.symm).turn0 (Turn.refl _ _).drew⟩
      | exact ⟨w.heap.size + 1 + 1 + 1, w.heap.size + 1 + 1, w.heap.size, w.heap.size + 1, rfl, by omega, by omega, by omega, by omega, (qT.alloc _).drew, (rnew_close n w _ _ _ _ _ h2 qT (by omega) (by omega) (by omega) (by omega) (by omega) (by omega) (by omega) (by omega) (by omega) q3 q1 q2 qz.symm).turn0 (Turn.refl _ _).drew⟩
      | exact ⟨w.heap.size + 1 + 1 + 1, w.heap.size + 1, w.heap.size + 1 + 1, w.heap.size, rfl, by omega, by omega, by omega, by omega, (rT.alloc _).drew, (rnew_close n w _ _ _ _ _ h2 rT (by omega) (by omega) (by omega) (by omega) (by omega) (by omega) (by omega) (by omega) (by omega) r2 r3 r1 rz.symm).turn0 (Turn.refl _ _).drew⟩
      | exact ⟨w.heap.size + 1 + 1 + 1, w.heap.size + 1 + 1, w.heap.size + 1, w.heap.size, rfl, by omega, by omega, by omega, by omega, (rT.alloc _).drew, (rnew_close n w _ _ _ _ _ h2 rT (by omega) (by omega) (by omega) (by omega) (by omega) (by omega) (by omega) (by omega) (by omega) r3 r2 r1 rz.symm).turn0 (Turn.refl _ _).drew⟩
end Go.Proofs.Ytkifggnjpgoamaa
