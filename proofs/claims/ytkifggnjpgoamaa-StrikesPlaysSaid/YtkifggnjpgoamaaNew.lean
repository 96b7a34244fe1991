/- disk.New. -/
import Derived.Test.YtkifggnjpgoamaaDiskB
import Derived.Carry
namespace Go.Proofs.Ytkifggnjpgoamaa
open Go.RowKit

theorem Try.info_sector3 : (Try.prog.info? 153).map (fun i => (i.zero, i.size, i.bytes)) = some (some (.agg (bvs zsec).toArray), 64, 64) := by kernel_rfl

set_option maxHeartbeats 400000 in
theorem new_bad (n : Int) (w : World) (h : n < 1 ∨ 64 < n) :
    Calls Try.prog 16 #[.int .i64 n] w fun e w' => e = .returned (.tuple #[.pointer none, .int .i64 1]) ∧ w = w' := by
  rcases h with h | h
  all_goals
    go_enter Try.func16, Try.ntmps16
    go_wp2
    go_ret2
    exact ⟨rfl, rfl⟩

theorem flat_rep (n : Nat) : (List.replicate n (bvs zsec)).flatten = bvs (List.replicate n zsec).flatten := by
  induction n with
  | zero => rfl
  | succ n ih => rw [List.replicate_succ, List.replicate_succ, List.flatten_cons, List.flatten_cons, bvs_append, ih]

set_option maxHeartbeats 800000 in
theorem new_ok (n : Nat) (w : World) (h1 : 1 ≤ n) (h2 : n ≤ 64) :
    Calls Try.prog 16 #[.int .i64 n] w fun e w' => ∃ d sb mb, e = .returned (.tuple #[.pointer (some ⟨d, 0, none⟩), .int .i64 0]) ∧
      w.heap.size ≤ d ∧ w.heap.size ≤ sb ∧ w.heap.size ≤ mb ∧ Turn [] w w' ∧ DiskAt w' d sb mb ⟨List.replicate n zsec, [], -1, false⟩ := by
  have hmm := @run_makeMap Try.prog
  go_enter Try.func16, Try.ntmps16
  go_wp2_with (first
    | (refine wpList_makeA rfl 143 _ _ rfl 153 (bvs zsec) 64 64 Try.underlying143 Try.info_sector3 (by decide) rfl n rfl rfl (by omega) (by omega) ?_; intro w1 hT1 hB1 hz1; go_frame))
  go_ret2
  have hT2 : Turn [] w (w1.alloc (.map #[] 0)) := hT1.alloc _
  have hm := IMap.new w1
  have hD := Blk.new (w1.alloc (.map #[] 0)) #[.slice (some ⟨w.heap.size, 0, none⟩) n n, .map (some w1.heap.size), .int .i64 (-1), .bool false] 146
  rw [World.size_alloc] at hD
  rw [flat_rep] at hB1
  refine ⟨w1.heap.size + 1, w.heap.size, w1.heap.size, rfl, by omega, by omega, by omega, hT2.alloc _, ?_⟩
  refine ⟨?_, (hB1.alloc _).alloc _, ?_, hm.alloc _, by omega, by omega, by omega, by simpa using h2, by show (-1 : Int) ≤ -1; omega, by show (-1 : Int) ≤ 9223372036854775807; omega⟩
  · simpa using hD
  · intro s hs
    rw [(List.mem_replicate.1 hs).2]
    rfl

end Go.Proofs.Ytkifggnjpgoamaa
