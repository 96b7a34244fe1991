/- The reference of layer 23: take, where a strike is new. -/
import Derived.Test.YtkifggnjpgoamaaRefM
namespace Go.Proofs.Ytkifggnjpgoamaa
open Go.RowKit
variable {w0 w w' : World} {R : List HA} {l rj : Nat} {M : Led}

set_option maxRecDepth 100000 in
set_option maxHeartbeats 4000000 in
theorem rtake_new (b o c id tm ac : Nat) (la : Option Addr) (lc : Nat) (hlen : M.length ≤ 1000) (h : St w0 (rledH l rj M :: R) w) (hB : Blk w l #[.pointer (some ⟨rj, 0, none⟩), .slice la M.length lc] 208) (hO : Own w 212 4 (.slice la M.length lc) M.length (flatM M))
    (hb : b < w.heap.size) (hbl : b ≠ l) (hcb : (10 : Int) ≤ (c : Int)) (b0 : w.cell? ⟨b, o, none⟩ = some (.int .u8 1)) (b1 : w.cell? ⟨b, o + 1, none⟩ = some (.int .u8 (ac : Int))) (h8 : ac < 8) (q1 : id < 4294967296) (q2 : tm < 4294967296)
    (O1 : Hid (∀ (k : Nat), (k = 2 ∨ k = 6) → Calls Try.prog 139 #[.slice (some ⟨b, o + k, none⟩) 4 (c - k)] w fun e w'' => e = .returned (.int .u64 (if k = 2 then (id : Int) else (tm : Int))) ∧ w = w''))
    (HQ : Hid (isTime (id : Int) = true ∧ isTime (tm : Int) = true)) (HI : Hid (atM M (id : Int) = -1)) (Q : World → Prop)
    (HCL : Hid (∀ (w6 : World) (a2 : Option Addr) (c2 : Nat), Turn [] w w6 → Own w6 212 4 (.slice a2 (M.length + 1) c2) (M.length + 1) (flatM M ++ [.int .i64 id, .int .i64 ac, .int .i64 tm, .bool false]) → (∀ g ∈ blockOf (.slice a2 (M.length + 1) c2), w.heap.size ≤ g) → Q (w6.setCell ⟨l, 1, none⟩ (.slice a2 (M.length + 1) c2)))) :
    Calls Try.prog 88 #[.pointer (some ⟨l, 0, none⟩), .slice (some ⟨b, o, none⟩) 10 c] w fun e w' => e = .returned (.tuple #[]) ∧ Q w' := by
  have H := Lib.hid h
  have HLen := Lib.hid hlen
  have HO := Lib.hid hO
  have h8' : ¬ (8 : Int) ≤ (ac : Int) := by omega
  have c1 := hB.cells2.2
  have l1 := hB.lt
  have y1 := hB.thaw 1
  clear h hO
  have hNA := Blk.new w.drew #[] 212
  have hTA : Turn [] w (w.drew.alloc (.cells #[] 212)) := (Turn.refl [] w).drew.alloc _
  have hNB := hNA.alloc (.cells #[.int .i64 id, .int .i64 ac, .int .i64 tm, .bool false] 212)
  have hMB := Blk.new (w.drew.alloc (.cells #[] 212)) #[.int .i64 id, .int .i64 ac, .int .i64 tm, .bool false] 212
  have hTB : Turn [] w ((w.drew.alloc (.cells #[] 212)).alloc (.cells #[.int .i64 id, .int .i64 ac, .int .i64 tm, .bool false] 212)) := hTA.alloc _
  have hNC := Blk.new (w.drew.alloc (.cells #[.int .i64 id, .int .i64 ac, .int .i64 tm, .bool false] 212)) #[] 212
  have hMC := (Blk.new w.drew #[.int .i64 id, .int .i64 ac, .int .i64 tm, .bool false] 212).alloc (.cells #[] 212)
  have hTC : Turn [] w ((w.drew.alloc (.cells #[.int .i64 id, .int .i64 ac, .int .i64 tm, .bool false] 212)).alloc (.cells #[] 212)) := ((Turn.refl [] w).drew.alloc _).alloc _
  rw [World.size_alloc] at hMB hNC
  change Blk _ (w.heap.size + 1) _ _ at hMB
  change Blk _ (w.heap.size + 1) _ _ at hNC
  have hOA : Own (w.drew.alloc (.cells #[] 212)) 212 4 (.slice (some ⟨w.heap.size, 0, none⟩) 0 0) 0 [] := Own.of_blk (l := []) (c := 0) hNA (by omega) (by unfold maxLen; omega) rfl rfl
  have hOB : Own ((w.drew.alloc (.cells #[] 212)).alloc (.cells #[.int .i64 id, .int .i64 ac, .int .i64 tm, .bool false] 212)) 212 4 (.slice (some ⟨w.heap.size, 0, none⟩) 0 0) 0 [] := Own.of_blk (l := []) (c := 0) hNB (by omega) (by unfold maxLen; omega) rfl rfl
  have hOC : Own ((w.drew.alloc (.cells #[.int .i64 id, .int .i64 ac, .int .i64 tm, .bool false] 212)).alloc (.cells #[] 212)) 212 4 (.slice (some ⟨w.heap.size + 1, 0, none⟩) 0 0) 0 [] := Own.of_blk (l := []) (c := 0) hNC (by omega) (by unfold maxLen; omega) rfl rfl
  have HOA := Lib.hid (And.intro hOA (HO.out.src.turn0 hTA))
  have HOB := Lib.hid (And.intro hOB (HO.out.src.turn0 hTB))
  have HOC := Lib.hid (And.intro hOC (HO.out.src.turn0 hTC))
  have HMB := Lib.hid hMB
  have HMC := Lib.hid hMC
  have HTA := Lib.hid hTA
  have HTB := Lib.hid hTB
  have HTC := Lib.hid hTC
  have bA := (hTA.cell (p := ⟨b, o + 1, none⟩) hb (by simp)).trans b1
  have cA := (hTA.cell (p := ⟨l, 1, none⟩) l1 (by simp)).trans c1
  have cB := (hTB.cell (p := ⟨l, 1, none⟩) l1 (by simp)).trans c1
  have cC := (hTC.cell (p := ⟨l, 1, none⟩) l1 (by simp)).trans c1
  have cD := ((((Turn.refl [] w).drew.alloc (.cells #[.int .i64 id, .int .i64 ac, .int .i64 tm, .bool false] 212)).cell (p := ⟨l, 1, none⟩) l1 (by simp))).trans c1
  clear hNA hTA hNB hMB hTB hNC hMC hTC hOA hOB hOC
  go_enter Try.func88, Try.ntmps88
  go_wp2_with (first
    | (go_at_call 139; refine (O1.out _ (by omega)).mono ?_; rintro e w' ⟨rfl, rfl⟩)
    | (go_at_call 89; refine (rtime_any _ _).mono ?_; rintro e w' ⟨rfl, rfl⟩; first | rw [HQ.out.1] | rw [HQ.out.2])
    | (go_at_call 90; refine (rat_any _ HLen.out H.out).mono ?_; rintro e w' ⟨rfl, rfl⟩; rw [HI.out]))
  have hwr : IntKind.i64.wrap (ac : Int) = (ac : Int) := by rw [IntKind.wrap_i64]; omega
  go_region_law (first
    | (refine step_append rfl _ _ 206 rfl 212 (.agg #[.int .i64 0, .int .i64 0, .int .i64 0, .bool false]) 4 32 Try.underlying206 Try.info_rstrike rfl (by omega) (.slice (some ⟨w.heap.size, 0, none⟩) 0 0) rfl 0 [] HOA.out.1 (.slice la M.length lc) rfl M.length (flatM M) HOA.out.2 (flatM_length M) (flatM_one M) (by have := HLen.out; unfold maxLen; omega) (by have := HLen.out; omega) ?_
       intro a1 c1' w5 hO6 hT56 hF56; simp only [Nat.zero_add, List.nil_append] at hO6 hF56
       have hT46 : Turn [] w w5 := HTA.out.trans hT56 (fun x hx => Or.inr (by simp [blockOf] at hx; omega))
       have hF5 : ∀ g ∈ blockOf (.slice a1 M.length c1'), w.heap.size ≤ g := fun g hg => by
         have hz := HTA.out.size
         rcases hF56 g hg with h | h
         · simp [blockOf] at h; omega
         · exact Nat.le_trans hz h
       have HF5 := Lib.hid hF5
       have hB5 := hB.turn hT46 (by simp)
       have c5 := hB5.cells2.2
       have l5 := hB5.lt
       have b5 := (hT46.cell (p := ⟨b, o + 1, none⟩) hb (by simp)).trans b1
       have lb5 : b < w5.heap.size := Nat.lt_of_lt_of_le hb hT46.size
       have HT46 := Lib.hid hT46
       have HO6 := Lib.hid hO6
       clear hT46 hF5 hT56 hF56 hO6)
    | (refine step_append rfl _ _ 206 rfl 212 (.agg #[.int .i64 0, .int .i64 0, .int .i64 0, .bool false]) 4 32 Try.underlying206 Try.info_rstrike rfl (by omega) (.slice (some ⟨w.heap.size, 0, none⟩) 0 0) rfl 0 [] HOB.out.1 (.slice la M.length lc) rfl M.length (flatM M) HOB.out.2 (flatM_length M) (flatM_one M) (by have := HLen.out; unfold maxLen; omega) (by have := HLen.out; omega) ?_
       intro a1 c1' w5 hO6 hT56 hF56; simp only [Nat.zero_add, List.nil_append] at hO6 hF56
       have hT46 : Turn [] w w5 := HTB.out.trans hT56 (fun x hx => Or.inr (by simp [blockOf] at hx; omega))
       have hF5 : ∀ g ∈ blockOf (.slice a1 M.length c1'), w.heap.size ≤ g := fun g hg => by
         have hz := HTB.out.size
         rcases hF56 g hg with h | h
         · simp [blockOf] at h; omega
         · exact Nat.le_trans hz h
       have HF5 := Lib.hid hF5
       have hS5 : Src w5 (.slice (some ⟨w.heap.size + 1, 0, none⟩) 1 1) 1 [.int .i64 id, .int .i64 ac, .int .i64 tm, .bool false] := (Src.whole (xs := [.int .i64 id, .int .i64 ac, .int .i64 tm, .bool false]) HMB.out 1 1 (by omega)).turn hT56 (by simp [seatOf, blockOf])
       have HS5 := Lib.hid hS5
       clear hS5
       have hB5 := hB.turn hT46 (by simp)
       have c5 := hB5.cells2.2
       have l5 := hB5.lt
       have b5 := (hT46.cell (p := ⟨b, o + 1, none⟩) hb (by simp)).trans b1
       have lb5 : b < w5.heap.size := Nat.lt_of_lt_of_le hb hT46.size
       have HT46 := Lib.hid hT46
       have HO6 := Lib.hid hO6
       clear hT46 hF5 hT56 hF56 hO6)
    | (refine step_append rfl _ _ 206 rfl 212 (.agg #[.int .i64 0, .int .i64 0, .int .i64 0, .bool false]) 4 32 Try.underlying206 Try.info_rstrike rfl (by omega) (.slice (some ⟨w.heap.size + 1, 0, none⟩) 0 0) rfl 0 [] HOC.out.1 (.slice la M.length lc) rfl M.length (flatM M) HOC.out.2 (flatM_length M) (flatM_one M) (by have := HLen.out; unfold maxLen; omega) (by have := HLen.out; omega) ?_
       intro a1 c1' w5 hO6 hT56 hF56; simp only [Nat.zero_add, List.nil_append] at hO6 hF56
       have hT46 : Turn [] w w5 := HTC.out.trans hT56 (fun x hx => Or.inr (by simp [blockOf] at hx; omega))
       have hF5 : ∀ g ∈ blockOf (.slice a1 M.length c1'), w.heap.size ≤ g := fun g hg => by
         have hz := HTC.out.size
         rcases hF56 g hg with h | h
         · simp [blockOf] at h; omega
         · exact Nat.le_trans hz h
       have HF5 := Lib.hid hF5
       have hS5 : Src w5 (.slice (some ⟨w.heap.size, 0, none⟩) 1 1) 1 [.int .i64 id, .int .i64 ac, .int .i64 tm, .bool false] := (Src.whole (xs := [.int .i64 id, .int .i64 ac, .int .i64 tm, .bool false]) HMC.out 1 1 (by omega)).turn hT56 (by simp [seatOf, blockOf])
       have HS5 := Lib.hid hS5
       clear hS5
       have hB5 := hB.turn hT46 (by simp)
       have c5 := hB5.cells2.2
       have l5 := hB5.lt
       have b5 := (hT46.cell (p := ⟨b, o + 1, none⟩) hb (by simp)).trans b1
       have lb5 : b < w5.heap.size := Nat.lt_of_lt_of_le hb hT46.size
       have HT46 := Lib.hid hT46
       have HO6 := Lib.hid hO6
       clear hT46 hF5 hT56 hF56 hO6)
    | (refine step_append rfl _ _ 206 rfl 212 (.agg #[.int .i64 0, .int .i64 0, .int .i64 0, .bool false]) 4 32 Try.underlying206 Try.info_rstrike rfl (by omega) (.slice a1 M.length c1') rfl M.length (flatM M) (HO6.out) (.slice (some ⟨_, 0, none⟩) 1 1) rfl 1 [.int .i64 id, .int .i64 ac, .int .i64 tm, .bool false] (HS5.out) (by simp) (by simp [Value.oneCell']) (by have := HLen.out; unfold maxLen; omega) (by have := HLen.out; omega) ?_
       intro a2 c2 w6 hO7 hT67 hF67
       have hT06 : Turn [] w w6 := (HT46.out.trans (Turn.refl [] w5) (by simp)).trans hT67 (fun x hx => Or.inr (HF5.out x hx))
       have hB6 := hB.turn hT06 (by simp)
       have c6 := hB6.cells2.2
       have f6 := hB6.thaw 1
       have b6 := (hT06.cell (p := ⟨b, o, none⟩) hb (by simp)).trans b0
       have lb6 : b < w6.heap.size := Nat.lt_of_lt_of_le hb hT06.size
       have hF6 : ∀ g ∈ blockOf (.slice a2 (M.length + 1) c2), w.heap.size ≤ g := fun g hg => by
         rcases hF67 g hg with h | h
         · exact HF5.out g h
         · exact Nat.le_trans HT46.out.size (Nat.le_trans ((Turn.refl [] w5) : Turn [] w5 _).size h)
       have HO7 := Lib.hid hO7
       have HT06 := Lib.hid hT06
       have HF6 := Lib.hid hF6
       have HB6 := Lib.hid hB6
       clear hO7 hT67 hF67 hT06 hF6 hB6)
    | (refine step_append rfl _ _ 206 rfl 212 (.agg #[.int .i64 0, .int .i64 0, .int .i64 0, .bool false]) 4 32 Try.underlying206 Try.info_rstrike rfl (by omega) (.slice a1 M.length c1') rfl M.length (flatM M) (HO6.out.turn0 ((Turn.refl [] _).alloc _)) (.slice (some ⟨w5.heap.size, 0, none⟩) 1 1) rfl 1 [.int .i64 id, .int .i64 ac, .int .i64 tm, .bool false] (Src.whole (Blk.new w5 _ _) 1 1 (by omega)) (by simp) (by simp [Value.oneCell']) (by have := HLen.out; unfold maxLen; omega) (by have := HLen.out; omega) ?_
       intro a2 c2 w6 hO7 hT67 hF67
       have hT06 : Turn [] w w6 := (HT46.out.trans ((Turn.refl [] w5).alloc _) (by simp)).trans hT67 (fun x hx => Or.inr (HF5.out x hx))
       have hB6 := hB.turn hT06 (by simp)
       have c6 := hB6.cells2.2
       have f6 := hB6.thaw 1
       have b6 := (hT06.cell (p := ⟨b, o, none⟩) hb (by simp)).trans b0
       have lb6 : b < w6.heap.size := Nat.lt_of_lt_of_le hb hT06.size
       have hF6 : ∀ g ∈ blockOf (.slice a2 (M.length + 1) c2), w.heap.size ≤ g := fun g hg => by
         rcases hF67 g hg with h | h
         · exact HF5.out g h
         · exact Nat.le_trans HT46.out.size (Nat.le_trans (((Turn.refl [] w5).alloc _) : Turn [] w5 _).size h)
       have HO7 := Lib.hid hO7
       have HT06 := Lib.hid hT06
       have HF6 := Lib.hid hF6
       have HB6 := Lib.hid hB6
       clear hO7 hT67 hF67 hT06 hF6 hB6))
  all_goals
    go_wp2
    go_end0
    exact ⟨rfl, HCL.out w6 a2 c2 HT06.out HO7.out HF6.out⟩
end Go.Proofs.Ytkifggnjpgoamaa
