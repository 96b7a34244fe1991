/- Contracts of the reference of layer 21: Read, Fuse, Pending. -/
import Derived.Test.YtkifggnjpgoamaaRefE
namespace Go.Proofs.Ytkifggnjpgoamaa
open Go.RowKit
variable {w w' : World} {d sb nb ib : Nat} {S : RSt}

def RSt.read (S : RSt) (i : Nat) : List UInt8 := if S.is.getD i false then S.news.getD i [] else S.sure.getD i []

theorem RDAt.sector (h : RDAt w d sb nb ib S) (i : Nat) (hi : i < S.sure.length) : w.rangeAt sb (i * 64) (bvs (S.sure.getD i [])) := by
  have := h.row.range (i * 64) 64
  have e := drop_flatten S.sure i h.full hi
  rw [List.getD, ← e]
  simpa [bvs, List.map_drop, List.map_take] using this
theorem RDAt.sectorN (h : RDAt w d sb nb ib S) (i : Nat) (hi : i < S.sure.length) : w.rangeAt nb (i * 64) (bvs (S.news.getD i [])) := by
  have := h.rnew.range (i * 64) 64
  have e := drop_flatten S.news i h.fullN (by rw [h.lenN]; exact hi)
  rw [List.getD, ← e]
  simpa [bvs, List.map_drop, List.map_take] using this
theorem RDAt.read_len (h : RDAt w d sb nb ib S) (i : Nat) (hi : i < S.sure.length) : (S.read i).length = 64 ∧ (S.news.getD i []).length = 64 ∧ (S.sure.getD i []).length = 64 := by
  have h1 : (S.news.getD i []).length = 64 := by rw [List.getD, List.getElem?_eq_getElem (by rw [h.lenN]; exact hi)]; exact h.fullN _ (List.getElem_mem _)
  have h2 : (S.sure.getD i []).length = 64 := by rw [List.getD, List.getElem?_eq_getElem hi]; exact h.full _ (List.getElem_mem _)
  refine ⟨?_, h1, h2⟩
  unfold RSt.read
  split
  · exact h1
  · exact h2

set_option maxRecDepth 100000 in
set_option maxHeartbeats 1600000 in
theorem rread_any (i : Nat) (hD : RDAt w d sb nb ib S) (hi : i < S.sure.length) :
    Calls Try.prog 86 #[.pointer (some ⟨d, 0, none⟩), .int .i64 i] w fun e w' => e = .returned (.tuple #[secV (S.read i), .int .i64 0]) ∧ Turn [] w w' := by
  have hI : (i : Int) < (S.sure.length : Int) := by omega
  have hl := hD.read_len i hi
  have HL := Lib.hid hl
  have HD := Lib.hid hD
  have hrd : S.read i = if S.is.getD i false then S.news.getD i [] else S.sure.getD i [] := rfl
  obtain ⟨bk, hbk⟩ : ∃ x, S.is.getD i false = x := ⟨_, rfl⟩
  rw [hbk] at hrd
  have HBK := Lib.hid hbk
  clear hbk hl hD
  cases bk
  all_goals
    simp only [if_true, Bool.false_eq_true, if_false] at hrd
    rw [hrd]
    clear hrd
    go_enter Try.func86, Try.ntmps86
    go_wp2_with (first
      | (refine wpList_alloc rfl 202 rfl _ Try.zero_rsector ?_
         intro w1 hT1 hB1 hz1
         have hD1 := HD.out.turn0 hT1
         have c0 := hD1.blk.cells5.1
         have c1 := hD1.blk.cells5.2.1
         have c2 := hD1.blk.cells5.2.2.1
         have ci := (hD1.bools i hi).1
         rw [HBK.out] at ci
         have hs := hD1.sector i hi
         have hn := hD1.sectorN i hi
         clear hD1
         go_frame)
      | (refine wpList_loadA rfl 202 _ rfl sb (i * 64) rfl _ _ hs Try.underlying202 rfl (info_rsec (lenb HL.out.2.2)) ?_; go_frame)
      | (refine wpList_loadA rfl 202 _ rfl nb (i * 64) rfl _ _ hn Try.underlying202 rfl (info_rsec (lenb HL.out.2.1)) ?_; go_frame)
      | (refine wpList_storeW rfl 202 _ _ rfl w.heap.size (bvs (S.sure.getD i [])) rfl rfl _ 202 hB1 (len64 HL.out.2.2) (info_rsec (lenb HL.out.2.2)) (bvs_one _) ?_; intro w9 hT9 hB9 hz9; go_frame)
      | (refine wpList_storeW rfl 202 _ _ rfl w.heap.size (bvs (S.news.getD i [])) rfl rfl _ 202 hB1 (len64 HL.out.2.1) (info_rsec (lenb HL.out.2.1)) (bvs_one _) ?_; intro w9 hT9 hB9 hz9; go_frame))
    first
      | (refine bodyPost_ret (results_cell_tmp rfl _ _ w.heap.size (bvs (S.sure.getD i [])) _ rfl hB9.all Try.underlying202 rfl (info_rsec (lenb HL.out.2.2))) rfl ⟨rfl, ?_⟩
         exact hT1.trans hT9 (by simp))
      | (refine bodyPost_ret (results_cell_tmp rfl _ _ w.heap.size (bvs (S.news.getD i [])) _ rfl hB9.all Try.underlying202 rfl (info_rsec (lenb HL.out.2.1))) rfl ⟨rfl, ?_⟩
         exact hT1.trans hT9 (by simp))

set_option maxHeartbeats 400000 in
theorem rfuse_any (n : Int) (hD : RDAt w d sb nb ib S) (hn : n ≤ 9223372036854775807) :
    Calls Try.prog 40 #[.pointer (some ⟨d, 0, none⟩), .int .i64 n] w fun e w' => e = .returned (.tuple #[]) ∧ Turn [d] w w' ∧ RDAt w' d sb nb ib { S with lit := max n (-1) } := by
  have c3 := hD.blk.cells5.2.2.2.1
  have f3 := hD.blk.thaw 3
  have hBs := fun m : Int => hD.blk.set 3 (.int .i64 m)
  have fin : ∀ m : Int, m = max n (-1) → Turn [d] w (w.setCell ⟨d, 3, none⟩ (.int .i64 m)) ∧ RDAt (w.setCell ⟨d, 3, none⟩ (.int .i64 m)) d sb nb ib { S with lit := max n (-1) } := fun m hm =>
    ⟨(Turn.refl _ _).setCell (by simp) _, by rw [← hm]; exact hBs m, hD.row.setOther _ _ (Ne.symm hD.ne1), hD.rnew.setOther _ _ (Ne.symm hD.ne2), hD.ris.setOther _ _ (Ne.symm hD.ne3), hD.full, hD.fullN, hD.lenN, hD.lenI, hD.ne1, hD.ne2, hD.ne3, hD.ne4, hD.ne5, hD.ne6, hD.many, by simp only; omega, by simp only; omega⟩
  have Fin := Lib.hid fin
  clear fin hBs hD
  go_enter Try.func40, Try.ntmps40
  go_wp2
  all_goals
    go_end0
    refine ⟨rfl, ?_⟩
    exact Fin.out _ (by omega)

/-- What is not sure, rising. -/
def pend (is : List Bool) (k : Nat) : List Nat := (List.range k).filter fun i => is.getD i false
theorem pend_succ (is : List Bool) (k : Nat) : pend is (k + 1) = if is.getD k false then pend is k ++ [k] else pend is k := by
  unfold pend
  rw [List.range_succ, List.filter_append]
  cases h : is.getD k false with
  | true => rw [List.filter_cons, List.filter_nil, h]; rfl
  | false => rw [List.filter_cons, List.filter_nil, h]; simp
theorem pend_len (is : List Bool) (k : Nat) : (pend is k).length ≤ k := by
  unfold pend; have := List.length_filter_le (fun i => is.getD i false) (List.range k); simpa using this
def natV (l : List Nat) : List Value := l.map fun (k : Nat) => Value.int .i64 (k : Int)

theorem Try.info_int : (Try.prog.info? 3).map (fun i => (i.zero, i.size, i.bytes)) = some (some (.int .i64 0), 1, 8) := by kernel_rfl

set_option maxRecDepth 100000 in
set_option maxHeartbeats 1600000 in
theorem rpending_any (hD : RDAt w d sb nb ib S) :
    Calls Try.prog 92 #[.pointer (some ⟨d, 0, none⟩)] w fun e w' => ∃ a c, e = .returned (.slice a (pend S.is S.sure.length).length c) ∧ Turn [] w w' ∧ Own w' 3 1 (.slice a (pend S.is S.sure.length).length c) (pend S.is S.sure.length).length (natV (pend S.is S.sure.length)) ∧
      ∀ b ∈ blockOf (.slice a (pend S.is S.sure.length).length c), w.heap.size ≤ b := by
  have HD := Lib.hid hD
  have hN64 := hD.many
  have hN64' : (S.sure.length : Int) ≤ 64 := by omega
  clear hD
  go_enter Try.func92, Try.ntmps92
  go_wp2_with fail
  go_loopw [3, 4] (fun v i wr => ∃ (k m : Nat) (a : Option Addr) (c : Nat), k ≤ S.sure.length ∧ i = .int .i64 k ∧ v = .slice a m c ∧ m ≤ k ∧ Hid (m = (pend S.is k).length) ∧ Turn [] w wr ∧ Hid (Own wr 3 1 (.slice a m c) m (natV (pend S.is k))) ∧ Hid (∀ b ∈ blockOf (.slice a m c), w.heap.size ≤ b))
    (fun _ i _ => S.sure.length - (intOf i).toNat)
  case atStart => exact ⟨0, 0, none, 0, Nat.zero_le _, rfl, rfl, Nat.le_refl _, rfl, Turn.refl _ _, Own.nil _ _ _, by unfold Hid; simp [blockOf]⟩
  case round =>
    obtain ⟨k, m, a, c, hk, rfl, rfl, hmk, HM, hT, HO, HF⟩ := hrel
    have hk64 : (k : Int) ≤ 64 := by omega
    have hDr := HD.out.turn0 hT
    have c2 := hDr.blk.cells5.2.2.1
    by_cases hlt : k < S.sure.length
    · have hlt' : (k : Int) < (S.sure.length : Int) := by omega
      have ci := (hDr.bools k hlt).1
      have hps := pend_succ S.is k
      obtain ⟨bk, hbk⟩ : ∃ x, S.is.getD k false = x := ⟨_, rfl⟩
      rw [hbk] at ci hps
      have HP := Lib.hid hps
      clear hDr hbk hps
      cases bk
      · go_wp2
        go_roundw
        case rel => exact ⟨k + 1, m, a, c, by omega, rfl, rfl, by omega, by unfold Hid; rw [HP.out, HM.out]; rfl, hT, by rw [HP.out]; exact HO, HF⟩
        case measure => show S.sure.length - ((k : Int) + 1).toNat < S.sure.length - ((k : Int)).toNat; omega
      · have hTa : Turn [] wr (wr.alloc (.cells #[.int .i64 (k : Int)] 3)) := (Turn.refl _ _).alloc _
        have HTa := Lib.hid hTa
        go_wp2_with (first
          | (refine wpList_append rfl _ _ 78 rfl 3 (.int .i64 0) 1 8 Try.underlying78 Try.info_int rfl (by omega) (.slice a m c) rfl m _ (HO.out.turn0 HTa.out) (.slice (some ⟨wr.heap.size, 0, none⟩) 1 1) rfl 1 [.int .i64 (k : Int)] (Src.whole (Blk.new wr #[.int .i64 (k : Int)] 3) 1 1 (by omega)) rfl (by simp [Value.oneCell']) (by unfold maxLen; omega) (by omega) ?_
             intro a2 c2 w2 hO2 hT2 hF2
             have HO2 := Lib.hid hO2
             have HT2 := Lib.hid ((hT.trans HTa.out (by simp)).trans hT2 (fun g hg => .inr (HF.out g hg)))
             have HF2 := Lib.hid (show ∀ g ∈ blockOf (.slice a2 (m + 1) c2), w.heap.size ≤ g from fun g hg => by
               rcases hF2 g hg with h | h
               · exact HF.out g h
               · rw [World.size_alloc] at h; have := hT.size; omega)
             clear hO2 hT2 hF2
             go_frame))
        go_roundw
        case rel =>
          refine ⟨k + 1, m + 1, a2, c2, by omega, rfl, rfl, by omega, ?_, HT2.out, ?_, HF2⟩
          · unfold Hid; rw [HP.out, HM.out]; simp
          · have := HO2.out
            rw [HP.out]
            unfold Hid natV at *
            simpa using this
        case measure => show S.sure.length - ((k : Int) + 1).toNat < S.sure.length - ((k : Int)).toNat; omega
    · obtain rfl : k = S.sure.length := by omega
      have hm := HM.out
      go_wp2
      go_ret
      refine ⟨a, c, ?_, hT, ?_, ?_⟩
      · rw [← HM.out]; rfl
      · rw [← HM.out]; exact HO.out
      · rw [← HM.out]; exact HF.out
end Go.Proofs.Ytkifggnjpgoamaa
