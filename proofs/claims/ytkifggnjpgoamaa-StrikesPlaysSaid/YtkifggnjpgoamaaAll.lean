/- journal.All and its iterator. -/
import Derived.Test.YtkifggnjpgoamaaRange
import Derived.Test.YtkifggnjpgoamaaIter
import Derived.Test.YtkifggnjpgoamaaApp
namespace Go.Proofs.Ytkifggnjpgoamaa
open Go.RowKit Go.Shelf
attribute [local go_sem] Oper.semAt_some

set_option maxHeartbeats 400000 in
theorem all_any (j : Nat) (w : World) :
    Calls Try.prog 73 #[.pointer (some ⟨j, 0, none⟩)] w fun e w' => e = .returned (.func (.func 124) #[] #[.pointer (some ⟨w.heap.size, 0, none⟩)]) ∧ w' = w.alloc (.cells #[.pointer (some ⟨j, 0, none⟩)] 56) := by
  go_enter Try.func73, Try.ntmps73
  go_wp2
  go_ret
  exact ⟨rfl, rfl⟩

/-- A record as the iterator hands it out: its number, the slice, its bytes. -/
abbrev RecAt := { x : Nat × (Option Addr × Nat) × List UInt8 // x.1 < 64 ∧ x.2.2.length ≤ 59 }
def RecAt.val' (x : RecAt) : Value := .slice x.1.2.1.1 x.1.2.2.length x.1.2.1.2
/-- .. and what is known of it as it comes: the call that has it owns it; it lies beyond B. -/
def RecAt.Pre (x : RecAt) (B : Nat) (W : World) : Prop := Own W 5 1 x.val' x.1.2.2.length (bvs x.1.2.2) ∧ ∀ b ∈ blockOf x.val', B ≤ b

set_option maxRecDepth 100000 in
set_option maxHeartbeats 2000000 in
theorem all1_in (n : Nat) (l Bn n₀ j d size : Nat) (F : Nat → Prop) (recs : List (List UInt8)) (J Jx : List RecAt → World → Prop)
    (hY : ∀ pre x W0 W, J pre W0 → Turn [] W0 W → RecAt.Pre x W0.heap.size W → pre.length < recs.length → YieldAt Fence.wide (n - 1) Try.prog l #[.int .i64 (x.1.1 : Int), x.val'] W fun e W' =>
      (e = .returned (.bool true) ∧ J (pre ++ [x]) W' ∧ Keeps n₀ Bn W W') ∨ (e = .returned (.bool false) ∧ Jx (pre ++ [x]) W'))
    (W : World) (hF : ∀ b, F b → b < n₀) (_hJ : AbidesFrom W.heap.size J)
    (hBn : Blk W Bn #[.pointer (some ⟨j, 0, none⟩)] 56) (hJA : JAt W F j d size recs) (h0 : J [] W) :
    CallsIn Fence.wide n Try.prog 124 #[.func (.yield l) #[] #[], .pointer (some ⟨Bn, 0, none⟩)] W fun e W' => (∃ v, e = .returned v) ∧
      ((∃ ys, (ys.map (·.1.2.2) = recs ∧ ys.map (·.1.1) = List.range recs.length) ∧ J ys W') ∨ (∃ pre, pre.map (·.1.1) = List.range pre.length ∧ Jx pre W')) := by
  refine callsIn_of_wp Try.func124 rfl trivial ?_ rfl
  simp only [Try.ntmps124, List.size_toArray, List.length_cons, List.length_nil, Nat.reduceAdd, Nat.reduceSub, Array.replicate_succ, Array.replicate_zero, List.push_toArray, List.append_toArray, List.nil_append, List.cons_append]
  gi_wp2
  gi_loopw [3] (fun i wr => ∃ (k : Nat) (pre : List RecAt), k ≤ recs.length ∧ i = .int .i64 k ∧ pre.map (·.1.2.2) = recs.take k ∧ pre.map (·.1.1) = List.range k ∧ J pre wr ∧ Keeps n₀ Bn W wr)
    (fun i _ => recs.length - (intOf i).toNat)
  case atStart => exact ⟨0, [], Nat.zero_le _, rfl, by simp, by simp, h0, TurnP.refl _ _⟩
  case round =>
    obtain ⟨k, pre, hk, rfl, hp1, hp2, hJs, hnx⟩ := hrel
    have hBk := hBn.turnP hnx (by simp)
    have cB := hBk.cells1
    have hJk := hJA.turnP hnx (fun b hb h => by have := hF b hb; omega)
    have hsm := hJk.small
    obtain ⟨⟨lv, vs, hj, hR, hFj, hFl, hFv⟩, _, hsh⟩ := hJk
    have c1 := hj.cells4.2.1
    have c3 := hj.cells4.2.2.2
    have hk64 : (k : Int) ≤ 64 := by omega
    have Hp := Lib.hid (And.intro hp1 hp2)
    clear hp1 hp2
    by_cases hlt : k < recs.length
    · have hlt' : (k : Int) < (recs.length : Int) := by omega
      have hkv : k < vs.length := by rw [hR.len]; exact hlt
      obtain ⟨a, m, c, hv⟩ := hR.one vs[k] (List.getElem_mem hkv)
      have hS := hR.src k hkv hlt
      have hg := hR.own.src
      have hne := hR.ne vs[k] (List.getElem_mem hkv)
      rcases hg with ⟨h0, _⟩ | ⟨g, o, lc, rfl, hlc, _, hgl, hgr⟩
      · omega
      have ck := hgr k vs[k] (List.getElem?_eq_getElem hkv)
      rw [hv] at ck hS
      have HR := Lib.hid hR
      have HV := Lib.hid hv
      have HS := Lib.hid hS
      have HN := Lib.hid hne
      have HJ := Lib.hid hj
      obtain ⟨row, hrow⟩ : ∃ row, recs[k] = row := ⟨_, rfl⟩
      have hr59 : row.length ≤ 59 := by rw [← hrow]; exact hsh _ (List.getElem_mem hlt)
      rw [hrow] at HS hS
      have Hrow := Lib.hid hrow
      obtain rfl : m = row.length := by
        rcases hS with ⟨h2, _, _, h1⟩ | ⟨_, _, _, h1, _⟩
        · cases h1; omega
        · cases h1; rfl
      clear hR hv hS hne hgr hj hFl hFv hsh hrow
      have hBa := (hBk.alloc (.cells #[] 5)).cells1
      have hja := (HJ.out.alloc (.cells #[] 5)).cells4.2.2.2
      have cka : (wr.alloc (.cells #[] 5)).cell? ⟨g, o + k, none⟩ = some (.slice a row.length c) := (World.cell?_of_block (w := wr) (Below.heap_alloc wr _ g hgl)).trans ck
      have hT1 : Turn [] wr (wr.alloc (.cells #[] 5)) := (Turn.refl _ _).alloc _
      have hO1 : Own (wr.alloc (.cells #[] 5)) 5 1 (.slice (some ⟨wr.heap.size, 0, none⟩) 0 0) 0 [] := Own.of_blk (l := []) (c := 0) (Blk.new wr #[] 5) (by omega) (by unfold maxLen; omega) rfl rfl
      have HO1 := Lib.hid hO1
      have HS1 := Lib.hid (HS.out.turn0 hT1)
      have hWs : W.heap.size ≤ wr.heap.size := hnx.size
      clear hO1 c3 ck hlc
      gi_wp2_with (first
        | (refine wpListIn_append rfl _ _ 35 rfl 5 (.int .u8 0) 1 1 Try.underlying35 Try.info_byte rfl (by omega) (.slice (some ⟨wr.heap.size, 0, none⟩) 0 0) rfl 0 [] HO1.out (.slice a row.length c) rfl row.length (bvs row) HS1.out (by simp) (bvs_one _) (by unfold maxLen; omega) (by omega) ?_
           intro a1 c1 w2 hO2 hT2 hF2
           simp only [Nat.zero_add, List.nil_append] at hO2 hF2
           have hT02 : Turn [] wr w2 := hT1.trans hT2 (fun x hx => .inr (by simp [blockOf] at hx; omega))
           have hP : RecAt.Pre ⟨(k, (a1, c1), row), by omega, hr59⟩ wr.heap.size w2 := ⟨hO2, fun b hb => by
             rcases hF2 b hb with h | h
             · simp [blockOf] at h; omega
             · simp at h; omega⟩
           obtain ⟨fn, tmps, assign, body, hy, hR⟩ := hY pre ⟨(k, (a1, c1), row), by omega, hr59⟩ wr w2 hJs hT02 hP (by rw [← List.length_map (f := fun x : RecAt => x.1.1), Hp.out.2, List.length_range]; exact hlt)
           simp only [RecAt.val'] at hy
           clear hP hO2 hT2 hF2
           simp only [Nat.zero_add]
           go_frame))
      have hB03 : Keeps n₀ Bn wr w2 := hT02.toP0
      have h1 := Hp.out.1
      have h2 := Hp.out.2
      refine ⟨fun h => (by cases h), hR.mono ?_⟩
      rintro e W3 (⟨rfl, hJ3, hk3⟩ | ⟨rfl, hJx3⟩)
      · clear h1 h2
        gi_wp2
        go_roundw
        case rel => exact ⟨k + 1, pre ++ [⟨(k, (a1, c1), row), by omega, hr59⟩], by omega, rfl,
          by rw [List.map_append, Hp.out.1, List.take_add_one, List.getElem?_eq_getElem hlt, Hrow.out]; rfl, by rw [List.map_append, Hp.out.2, List.range_succ]; rfl, hJ3, (hnx.trans hB03 (fun _ h => .inl h)).trans hk3 (fun _ h => .inl h)⟩
        case measure => show recs.length - ((k : Int) + 1).toNat < recs.length - ((k : Int)).toNat; omega
      · clear h1 h2
        gi_wp2
        refine bodyPost_ret (results_none rfl _ _ _) rfl ?_
        exact ⟨⟨_, rfl⟩, .inr ⟨_, by rw [List.map_append, Hp.out.2, List.length_append, ← List.length_map (f := fun x : RecAt => x.1.1), Hp.out.2, List.length_range]; exact List.range_succ.symm, hJx3⟩⟩
    · obtain rfl : k = recs.length := by omega
      gi_wp2
      go_end0
      exact ⟨⟨_, rfl⟩, .inl ⟨pre, ⟨by rw [Hp.out.1, List.take_length], Hp.out.2⟩, hJs⟩⟩

theorem all_stops (n : Nat) (Bn n₀ j d size : Nat) (F : Nat → Prop) (recs : List (List UInt8)) (w : World) (hF : ∀ b, F b → b < n₀)
    (hBn : Blk w Bn #[.pointer (some ⟨j, 0, none⟩)] 56) (hJA : JAt w F j d size recs) :
    SeqP n Try.prog 124 #[.pointer (some ⟨Bn, 0, none⟩)] (fun x : RecAt => #[.int .i64 (x.1.1 : Int), x.val']) (Keeps n₀ Bn) RecAt.Pre
      (fun ys => ys.map (·.1.2.2) = recs ∧ ys.map (·.1.1) = List.range recs.length) (fun pre => pre.map (·.1.1) = List.range pre.length) recs.length w := fun l J Jx W hW hJ _ hY h0 => by
  have hT : Turn [] w W := ⟨hW.os, hW.tape, hW.output, hW.size, fun k hk _ => hW.block k hk⟩
  exact all1_in n l Bn n₀ j d size F recs J Jx hY W hF hJ (hBn.turn hT (by simp)) (hJA.turnP (G := fun _ => False) hT.toP0 (fun _ _ h => h)) h0
end Go.Proofs.Ytkifggnjpgoamaa
