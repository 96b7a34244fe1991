/- Contracts of the reference of layer 21: Sync, Read, Fuse, New, Pending, Crash. -/
import Derived.Test.YtkifggnjpgoamaaRefD
namespace Go.Proofs.Ytkifggnjpgoamaa
open Go.RowKit

section
variable {α : Type}
theorem mix_set (A B : List α) (hl : A.length = B.length) (k : Nat) (hk : k < A.length) : (A.take k ++ B.drop k).set k A[k] = A.take (k + 1) ++ B.drop (k + 1) := by
  have hb : k < B.length := by omega
  rw [List.set_append_right _ _ (by rw [List.length_take]; omega), List.length_take, Nat.min_eq_left (by omega), Nat.sub_self, List.drop_eq_getElem_cons hb, List.set_cons_zero, List.take_succ_eq_append_getElem hk, List.append_assoc]
  rfl
theorem mix_same (A B : List α) (hl : A.length = B.length) (k : Nat) (hk : k < A.length) (h : A[k] = B[k]'(by omega)) : A.take k ++ B.drop k = A.take (k + 1) ++ B.drop (k + 1) := by
  have hb : k < B.length := by omega
  rw [List.drop_eq_getElem_cons hb, List.take_succ_eq_append_getElem hk, List.append_assoc, h]
  rfl
end

/-- All that was written is sure. -/
def RSt.merged (S : RSt) : List (List UInt8) := (List.range S.sure.length).map fun k => if S.is.getD k false then S.news.getD k [] else S.sure.getD k []
theorem RSt.merged_length (S : RSt) : S.merged.length = S.sure.length := by simp [RSt.merged]
theorem RSt.merged_get (S : RSt) (k : Nat) (hk : k < S.sure.length) : S.merged[k]'(by rw [S.merged_length]; exact hk) = if S.is.getD k false then S.news.getD k [] else S.sure.getD k [] := by simp [RSt.merged]

variable {w w' : World} {d sb nb ib : Nat} {S : RSt}
set_option maxHeartbeats 400000 in
theorem rsync_dead (hD : RDAt w d sb nb ib S) (h : S.dead = true ∨ S.lit = 0) :
    Calls Try.prog 95 #[.pointer (some ⟨d, 0, none⟩)] w fun e w' => e = .returned (.int .i64 13) ∧ Turn [d] w w' ∧ RDAt w' d sb nb ib { S with dead := true } := by
  have HD := Lib.hid hD
  clear hD
  have Hh := Lib.hid h
  clear h
  go_enter Try.func95, Try.ntmps95
  go_wp2_with fail
  refine (rburn_dead d _ _ _ _ _ _ _ HD.out.blk Hh.out).mono ?_
  rintro e w1 ⟨rfl, hT', hB⟩
  go_wp2
  go_ret
  have hD := HD.out
  exact ⟨rfl, hT', hB, hD.row.turn hT' (by simp [Ne.symm hD.ne1]), hD.rnew.turn hT' (by simp [Ne.symm hD.ne2]), hD.ris.turn hT' (by simp [Ne.symm hD.ne3]), hD.full, hD.fullN, hD.lenN, hD.lenI, hD.ne1, hD.ne2, hD.ne3, hD.ne4, hD.ne5, hD.ne6, hD.many, hD.low, hD.high⟩

set_option maxRecDepth 100000 in
set_option maxHeartbeats 1600000 in
theorem rsync_ok (hD : RDAt w d sb nb ib S) (hd : S.dead = false) (hf : S.lit ≠ 0) :
    Calls Try.prog 95 #[.pointer (some ⟨d, 0, none⟩)] w fun e w' => e = .returned (.int .i64 0) ∧ Turn [d, sb, ib] w w' ∧
      RDAt w' d sb nb ib { S with lit := max (S.lit - 1) (-1), sure := S.merged, is := List.replicate S.sure.length false } := by
  obtain ⟨sure, news, is, lit, dead⟩ := S
  simp only at hd hf
  subst hd
  have HD := Lib.hid hD
  clear hD
  go_enter Try.func95, Try.ntmps95
  go_wp2_with fail
  refine (rburn_ok d _ _ _ _ _ _ HD.out.blk hf HD.out.low HD.out.high).mono ?_
  rintro e w1 ⟨rfl, hT, hB⟩
  have hD := HD.out
  have hrow := hD.row.turn hT (by simp [Ne.symm hD.ne1])
  have hnew := hD.rnew.turn hT (by simp [Ne.symm hD.ne2])
  have his := hD.ris.turn hT (by simp [Ne.symm hD.ne3])
  obtain ⟨MG, hMG⟩ : ∃ x, RSt.merged ⟨sure, news, is, lit, false⟩ = x := ⟨_, rfl⟩
  have hML : MG.length = sure.length := by rw [← hMG]; exact RSt.merged_length _
  have hMget : ∀ k, k < sure.length → MG[k]? = some (if is.getD k false then news.getD k [] else sure.getD k []) := fun k hk => by
    subst hMG
    rw [List.getElem?_eq_getElem (by rw [RSt.merged_length]; exact hk), RSt.merged_get ⟨sure, news, is, lit, false⟩ k hk]
  have hNl : news.length = sure.length := hD.lenN
  have hIl : is.length = sure.length := hD.lenI
  have hfN : ∀ s ∈ news, s.length = 64 := hD.fullN
  have hfS : ∀ s ∈ sure, s.length = 64 := hD.full
  have hMf : ∀ s ∈ MG, s.length = 64 := by
    intro s hs
    obtain ⟨k, hk, rfl⟩ := List.mem_iff_getElem.1 hs
    have hg := hMget k (by omega)
    rw [List.getElem?_eq_getElem hk] at hg
    rw [Option.some.inj hg]
    split
    · rw [List.getD, List.getElem?_eq_getElem (by omega)]; exact hfN _ (List.getElem_mem _)
    · rw [List.getD, List.getElem?_eq_getElem (by omega)]; exact hfS _ (List.getElem_mem _)
  have HM := Lib.hid (And.intro hML (And.intro hMget (And.intro hNl (And.intro hIl (And.intro hfN (And.intro hfS hMf))))))
  have n5 := hD.ne5
  have n1 := hD.ne1
  have n3 := hD.ne3
  have n4 := hD.ne4
  have n6 := hD.ne6
  have hN64 : sure.length ≤ 64 := hD.many
  have HN := Lib.hid hN64
  have hN64' : (sure.length : Int) ≤ 64 := by omega
  have HMG0 := Lib.hid hMG
  clear hMG hML hMget hNl hIl hfN hfS hMf hN64
  have HB := Lib.hid hB
  have HNEW := Lib.hid hnew
  go_wp2_with fail
  go_loopw [3] (fun i wr => ∃ k : Nat, k ≤ sure.length ∧ i = .int .i64 k ∧ Turn [sb, ib] w1 wr ∧ Blk wr sb (bvs (MG.take k ++ sure.drop k).flatten).toArray 202 ∧
      Blk wr ib ((List.replicate k false ++ is.drop k).map Value.bool).toArray 4)
    (fun i _ => sure.length - (intOf i).toNat)
  case atStart => exact ⟨0, Nat.zero_le _, rfl, Turn.refl _ _, by simpa using hrow, by simpa using his⟩
  case round =>
    clear hrow his hnew hB
    obtain ⟨k, hk, rfl, hTk, hRk, hIk⟩ := hrel
    have hk64 : (k : Int) ≤ sure.length := by omega
    have hBk := HB.out.turn hTk (by simp [n1, n3])
    have c0 := hBk.cells5.1
    have c1 := hBk.cells5.2.1
    have c2 := hBk.cells5.2.2.1
    by_cases hlt : k < sure.length
    · have hlt' : (k : Int) < (sure.length : Int) := by omega
      have hkI : k < is.length := by rw [HM.out.2.2.2.1]; exact hlt
      have hkN : k < news.length := by rw [HM.out.2.2.1]; exact hlt
      have hkM : k < MG.length := by rw [HM.out.1]; exact hlt
      have ci := hIk.cell k (v := .bool is[k]) (by
        rw [List.getElem?_toArray, List.getElem?_map, List.getElem?_append_right (by simp), List.length_replicate, Nat.sub_self, List.getElem?_drop, Nat.add_zero, List.getElem?_eq_getElem hkI]; rfl)
      have fi := hIk.thaw k
      have hIset : ∀ W : World, Blk W ib ((List.replicate k false ++ is.drop k).map Value.bool).toArray 4 → Blk (W.setCell ⟨ib, k, none⟩ (.bool false)) ib ((List.replicate (k + 1) false ++ is.drop (k + 1)).map Value.bool).toArray 4 := fun W hW => by
        have h1 := hW.setL k (.bool false)
        rw [← List.map_set (f := Value.bool) (a := false)] at h1
        have h2 : (List.replicate k false ++ is.drop k).set k false = List.replicate (k + 1) false ++ is.drop (k + 1) := by
          rw [List.set_append_right _ _ (by simp), List.length_replicate, Nat.sub_self, List.drop_eq_getElem_cons hkI, List.set_cons_zero, List.replicate_succ', List.append_assoc]; rfl
        rwa [h2] at h1
      have HIS := Lib.hid hIset
      have hmg : MG[k] = if is[k] then news[k] else sure[k] := by
        have hg := HM.out.2.1 k hlt
        rw [List.getElem?_eq_getElem hkM] at hg
        rw [Option.some.inj hg]
        simp [List.getD, List.getElem?_eq_getElem hkI, List.getElem?_eq_getElem hkN, List.getElem?_eq_getElem hlt]
      have HMG := Lib.hid hmg
      clear hIset hmg
      obtain ⟨bk, hbk⟩ : ∃ x, is[k] = x := ⟨_, rfl⟩
      rw [hbk] at ci HMG
      clear hbk
      cases bk
      · have hsame := mix_same MG sure HM.out.1 k hkM (by rw [HMG.out]; rfl)
        rw [hsame] at hRk
        have HR := Lib.hid hRk
        have HI := Lib.hid hIk
        clear hsame hRk hIk
        go_wp2
        go_roundw
        case rel => exact ⟨k + 1, by omega, rfl, hTk.setCell (by simp) _, HR.out.setOther _ _ n5, HIS.out _ HI.out⟩
        case measure => show sure.length - ((k : Int) + 1).toNat < sure.length - ((k : Int)).toNat; omega
      · have hset := mix_set MG sure HM.out.1 k hkM
        rw [HMG.out] at hset
        simp only [if_true] at hset
        have hfull : ∀ t ∈ MG.take k ++ sure.drop k, t.length = 64 := fun t ht => by
          rcases List.mem_append.1 ht with h | h
          · exact HM.out.2.2.2.2.2.2 t (List.mem_of_mem_take h)
          · exact HM.out.2.2.2.2.2.1 t (List.mem_of_mem_drop h)
        have hmixl : (MG.take k ++ sure.drop k).length = sure.length := by rw [List.length_append, List.length_take, List.length_drop, HM.out.1]; omega
        have h64 : news[k].length = 64 := HM.out.2.2.2.2.1 _ (List.getElem_mem hkN)
        have hlay := lay_sector (MG.take k ++ sure.drop k) k news[k] hfull (by rw [hmixl]; exact hlt) h64
        rw [hset] at hlay
        have hnk := (HNEW.out.turn hTk (by simp [Ne.symm n4, n6])).range (k * 64) 64
        have hnn : ((bvs news.flatten).drop (k * 64)).take 64 = bvs news[k] := by
          have := drop_flatten news k HM.out.2.2.2.2.1 hkN
          rw [List.getElem?_eq_getElem hkN, Option.getD_some] at this
          rw [← this]; simp [bvs, List.map_drop, List.map_take]
        rw [hnn] at hnk
        obtain ⟨sec, hsec⟩ : ∃ x, news[k] = x := ⟨_, rfl⟩
        rw [hsec] at hlay hnk h64
        have HLay := Lib.hid hlay
        have H64 := Lib.hid h64
        have hll : (bvs sec).length = 64 := by rw [bvs_length]; exact h64
        have hfl : (bvs (MG.take k ++ sure.drop k).flatten).length = 64 * sure.length := by rw [bvs_length, flatten_length _ hfull, hmixl]
        have HFL := Lib.hid hfl
        have hnd : wr.drew.rangeAt nb (k * 64) (bvs sec) := (World.rangeAt_drew _ _ _ _).2 hnk
        have hRd : Blk wr.drew sb (bvs (MG.take k ++ sure.drop k).flatten).toArray 202 := hRk.drew
        have hId : Blk wr.drew ib ((List.replicate k false ++ is.drop k).map Value.bool).toArray 4 := hIk.drew
        have hBd : Blk wr.drew d #[.slice (some ⟨sb, 0, none⟩) sure.length sure.length, .slice (some ⟨nb, 0, none⟩) sure.length sure.length, .slice (some ⟨ib, 0, none⟩) sure.length sure.length, .int .i64 (max (lit - 1) (-1)), .bool false] 199 := hBk.drew
        have cd0 := hBd.cells5.1
        have cd1 := hBd.cells5.2.1
        clear hset hfull hmixl h64 hlay hnk hnn hsec hfl hRk hIk HMG
        go_wp2
        refine wp_region_still_tail 13 (by kernel_rfl) (by kernel_rfl) ?_
        simp only [List.take_succ_cons, List.take_zero, List.drop_succ_cons, List.drop_zero]
        repeat (first
          | (refine wpStill_load rfl 202 _ rfl _ _ rfl _ _ hnd Try.underlying202 rfl (info_rsec hll) ?_; go_frame)
          | still_step)
        refine wpStill_nil ?_
        go_wp2_with (first
          | (refine wpList_storeA rfl 202 _ _ rfl sb (k * 64) (bvs sec) rfl rfl _ 202 hRd (by rw [HFL.out, hll]; omega) (info_rsec hll) (bvs_one _) ?_
             intro w2 hT2 hR2 hz2
             rw [HLay.out] at hR2
             have hB2 := hBd.turn hT2 (by simp [n1])
             have c22 := hB2.cells5.2.2.1
             have hI2 := hId.turn hT2 (by simp [Ne.symm n5])
             have ci2 := hI2.cell k (v := .bool is[k]) (by
               rw [List.getElem?_toArray, List.getElem?_map, List.getElem?_append_right (by simp), List.length_replicate, Nat.sub_self, List.getElem?_drop, Nat.add_zero, List.getElem?_eq_getElem hkI]; rfl)
             have fi2 := hI2.thaw k
             have HR2 := Lib.hid hR2
             have HI2 := Lib.hid hI2
             have HT2 := Lib.hid (hTk.drew.trans hT2 (by simp))
             clear hR2 hI2 hT2 hB2 ci fi
             go_frame))
        go_roundw
        case rel => exact ⟨k + 1, by omega, rfl, HT2.out.setCell (by simp) _, HR2.out.setOther _ _ n5, HIS.out _ HI2.out⟩
        case measure => show sure.length - ((k : Int) + 1).toNat < sure.length - ((k : Int)).toNat; omega
    · obtain rfl : k = sure.length := by omega
      go_wp2
      go_ret
      have hT3 : Turn [d, sb, ib] w wr := (hT.mono (by simp)).trans hTk (by simp)
      have lo := hD.low
      have hi := hD.high
      simp only at lo hi
      have hm : MG.take sure.length ++ sure.drop sure.length = MG := by rw [List.drop_length, List.append_nil, List.take_of_length_le (by rw [HM.out.1]; exact Nat.le_refl _)]
      have hr : List.replicate sure.length false ++ is.drop sure.length = List.replicate sure.length false := by rw [List.drop_of_length_le (by rw [HM.out.2.2.2.1]; exact Nat.le_refl _), List.append_nil]
      rw [hm] at hRk
      rw [hr] at hIk
      rw [HMG0.out]
      refine ⟨rfl, hT3, ?_, hRk, (HNEW.out.turn hTk (by simp [Ne.symm n4, n6])), hIk, HM.out.2.2.2.2.2.2, hD.fullN, ?_, ?_, hD.ne1, hD.ne2, hD.ne3, hD.ne4, hD.ne5, hD.ne6, ?_, by simp only; omega, by simp only; omega⟩
      · simp only [HM.out.1]; exact hBk
      · simp only [HM.out.1]; exact HM.out.2.2.1
      · simp only [HM.out.1, List.length_replicate]
      · simp only [HM.out.1]; exact HN.out
end Go.Proofs.Ytkifggnjpgoamaa
