/- palfreylaw22.awake. -/
import Derived.Test.YtkifggnjpgoamaaWritten
import Derived.Test.YtkifggnjpgoamaaSeen
import Derived.Test.YtkifggnjpgoamaaSame
import Derived.Test.YtkifggnjpgoamaaNew
import Derived.Test.YtkifggnjpgoamaaCrash
import Derived.Lib.SlBytesConst
namespace Go.Proofs.Ytkifggnjpgoamaa
open Go.RowKit

set_option maxRecDepth 100000 in
set_option maxHeartbeats 1600000 in
theorem awake_any (w : World) : Calls Try.prog 15 #[] w fun e w' => e = .returned (.bool true) ∧ Turn [] w w' := by
  go_enter Try.func15, Try.ntmps15
  go_wp2_with fail
  refine (new_ok 1 w (by omega) (by omega)).mono ?_
  rintro e w1 ⟨d, sb, mb, rfl, g1, g2, g3, hT1, hD1⟩
  have lD1 := hD1.blk.lt
  have lS1 := hD1.row.lt
  have lM1 := hD1.soon.lt
  have HD1 := Lib.hid hD1
  have HT1 := Lib.hid hT1
  clear hD1 hT1
  go_wp2_with fail
  refine (open_written d sb mb _ [] 1 w1 HD1.out rfl (written_nil 1).symm (by simp) (by omega) (by simp)).mono ?_
  rintro e w2 ⟨j, rfl, hJ2, hT2⟩
  have HD2 := Lib.hid (HD1.out.turn hT2 (by simp) (by simp) (by simp))
  have HJ2 := Lib.hid hJ2
  have HT2 := Lib.hid hT2
  have hz2 := hT2.size
  clear hJ2 hT2
  have kc := fun (w : World) (C : Array Value) (n c : Nat) => Lib.run_convert_bytes_const (P := Try.prog) w 35 5 C n c Try.underlying35 Try.underlying5
  go_wp2_with fail
  obtain ⟨w3, hw3⟩ : ∃ w3, w2.alloc (.cells #[.int .u8 97, .int .u8 98] 5 (2, 3)) = w3 := ⟨_, rfl⟩
  have hT3 : Turn [] w2 w3 := by rw [← hw3]; exact (Turn.refl _ _).alloc _
  have hS3 : Src w3 (.slice (some ⟨w2.heap.size, 0, none⟩) 2 2) 2 (bvs [97, 98]) := by
    refine .inr ⟨w2.heap.size, 0, 2, rfl, by omega, by omega, by rw [← hw3]; exact alloc_lt _ _, fun k v hv => ?_⟩
    rw [← hw3, Nat.zero_add]
    have := World.cell?_alloc_mark w2 #[.int .u8 97, .int .u8 98] 5 (2, 3) k
    rw [this, ← hv]
    show (bvs [97, 98]).toArray[k]? = _
    simp
  rw [hw3]
  clear hw3 kc
  have HD3 := Lib.hid (HD2.out.turn hT3 (by simp) (by simp) (by simp))
  have HJ3 := Lib.hid (HJ2.out.turnP (G := fun _ => False) hT3.toP0 (fun _ _ h => h))
  have HT3 := Lib.hid hT3
  have hz3 := hT3.size
  refine (append_ok w3 (fun b => w1.heap.size ≤ b) j d sb mb 1 _ [] (some ⟨w2.heap.size, 0, none⟩) [97, 98] 2 HJ3.out HD3.out ⟨by omega, by omega, by omega⟩ rfl (by decide) (by decide) hS3 rfl ⟨by decide, by decide⟩ rfl (by simp [seatOf]; omega)).mono ?_
  rintro e w4 ⟨rfl, hT4, hD4, hJ4⟩
  have HD4 := Lib.hid hD4
  have HJ4 := Lib.hid hJ4
  have HT4 := Lib.hid hT4
  have hz4 := hT4.size
  clear hD4 hJ4 hT4 hT3 hS3
  go_wp2_with fail
  refine (append_full w4 _ j d 1 _ none 0 0 HJ4.out (by omega) (by simp)).mono ?_
  rintro e w5 ⟨rfl, hT5⟩
  have HD5 := Lib.hid (HD4.out.turn hT5 (by simp) (by simp) (by simp))
  have HT5 := Lib.hid hT5
  have hz5 := hT5.size
  clear hT5
  go_wp2_with fail
  refine (open_written d sb mb _ [[97, 98]] 1 w5 HD5.out rfl (written_snoc [] 1 [97, 98] (by simp)) (by simp) (by omega) (by simp)).mono ?_
  rintro e w6 ⟨j2, rfl, hJ6, hT6⟩
  have HJ6 := Lib.hid hJ6
  have HT6 := Lib.hid hT6
  have hz6 := hT6.size
  clear hJ6 hT6
  go_wp2_with fail
  refine (open_nil w6).mono ?_
  rintro e w6' ⟨rfl, rfl⟩
  go_wp2_with fail
  refine (rows_here j2 d 1 _ [[97, 98]] w6 HJ6.out).mono ?_
  rintro e w7 ⟨lv, vs, rfl, hR7, hT7, _, _⟩
  have hl := hR7.len
  obtain ⟨v, rfl⟩ : ∃ v, vs = [v] := by
    match vs, hl with
    | [v], _ => exact ⟨v, rfl⟩
  have hSv := hR7.src 0 (by simp) (by simp)
  simp only [List.getElem_cons_zero] at hSv
  rcases hR7.own.src with ⟨_, h0, _⟩ | ⟨g, o, c, rfl, _, _, _, hr⟩
  · simp at h0
  have x0 := hr 0 v rfl
  have s0 := Src.string hSv 35 9 5 Try.underlying35 Try.underlying5 Try.underlying9 (P := Try.prog)
  have HT7 := Lib.hid hT7
  simp only [Nat.add_zero] at x0
  clear hR7 hl hSv hr hT7
  simp only [List.length_cons, List.length_nil, Nat.zero_add]
  go_wp2
  go_ret
  refine ⟨rfl, ?_⟩
  have hz1 := HT1.out.size
  have t1 : TurnP (fun b => w.heap.size ≤ b) w w3 := ((HT1.out.trans HT2.out (by simp)).trans HT3.out (by simp)).toP0
  have t2 := t1.trans HT4.out (fun b hb => .inl (by omega))
  have t3 := t2.trans (G := fun _ => False) ((HT5.out.trans HT6.out (by simp)).trans HT7.out (by simp)).toP0 (fun _ h => h.elim)
  exact t3.toT (fun b hb => .inr hb)
end Go.Proofs.Ytkifggnjpgoamaa
