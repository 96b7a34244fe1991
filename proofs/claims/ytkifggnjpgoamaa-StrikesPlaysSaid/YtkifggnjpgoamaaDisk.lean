/- Contracts of package disk: what each call does to a disk whose block, sectors and map of unsure sectors are known. -/
import Derived.Test.YtkifggnjpgoamaaMaps
import Derived.Test.YtkifggnjpgoamaaProg
import Derived.BigQuiet
import Derived.StillTailTactics
import Derived.Deep.DeepFit
namespace Go.Proofs.Ytkifggnjpgoamaa
open Go.RowKit

theorem Try.info_sector : (Try.prog.info? 153).map (·.size) = some 64 := by kernel_rfl

/-- A disk's state. -/
structure DSt where
  sure : List (List UInt8)
  soon : List (Int × List UInt8)
  fuse : Int
  dead : Bool

/-- A sector of noughts. -/
def zsec : List UInt8 := List.replicate 64 0
abbrev secV (s : List UInt8) : Value := .agg (bvs s).toArray
def soonOf (l : List (Int × List UInt8)) : List (Int × Value) := l.map fun p => (p.1, secV p.2)

/-- The disk lies in block d, its sure sectors in sb, its map of unsure ones in mb. -/
structure DiskAt (w : World) (d sb mb : Nat) (S : DSt) : Prop where
  blk : Blk w d #[.slice (some ⟨sb, 0, none⟩) S.sure.length S.sure.length, .map (some mb), .int .i64 S.fuse, .bool S.dead] 146
  row : Blk w sb (bvs S.sure.flatten).toArray 153
  full : ∀ s ∈ S.sure, s.length = 64
  soon : IMap w mb (soonOf S.soon)
  ne1 : d ≠ sb
  ne2 : d ≠ mb
  ne3 : sb ≠ mb
  many : S.sure.length ≤ 64
  low : -1 ≤ S.fuse
  high : S.fuse ≤ 9223372036854775807

theorem DiskAt.turn {w w' : World} {d sb mb : Nat} {S : DSt} {L : List Nat} (h : DiskAt w d sb mb S) (k : Turn L w w') (h1 : d ∉ L) (h2 : sb ∉ L) (h3 : mb ∉ L) : DiskAt w' d sb mb S :=
  ⟨h.blk.turn k h1, h.row.turn k h2, h.full, h.soon.turn k h3, h.ne1, h.ne2, h.ne3, h.many, h.low, h.high⟩

set_option maxHeartbeats 400000 in
theorem has_yes (b : Nat) (i : Int) (n c : Nat) (a : Option Addr) (w : World) (h0 : w.cell? ⟨b, 0, none⟩ = some (.slice a n c)) (h : 0 ≤ i) (hn : i < n) :
    Calls Try.prog 119 #[.pointer (some ⟨b, 0, none⟩), .int .i64 i] w fun e w' => e = .returned (.bool true) ∧ w = w' := by
  go_enter Try.func119, Try.ntmps119
  go_wp2
  go_ret
  exact ⟨by simp, rfl⟩

set_option maxHeartbeats 400000 in
theorem has_no (b : Nat) (i : Int) (n c : Nat) (a : Option Addr) (w : World) (h0 : w.cell? ⟨b, 0, none⟩ = some (.slice a n c)) (hn : i < 0 ∨ n ≤ i) :
    Calls Try.prog 119 #[.pointer (some ⟨b, 0, none⟩), .int .i64 i] w fun e w' => e = .returned (.bool false) ∧ w = w' := by
  rcases hn with hn | hn
  · go_enter Try.func119, Try.ntmps119
    go_wp2
    go_ret
    exact ⟨rfl, rfl⟩
  · have hp : 0 ≤ i := by omega
    go_enter Try.func119, Try.ntmps119
    go_wp2
    go_ret
    exact ⟨by simp; omega, rfl⟩

set_option maxHeartbeats 400000 in
theorem burn_dead (d : Nat) (x0 x1 : Value) (f : Int) (dead : Bool) (w : World) (T : TypeId) (hB : Blk w d #[x0, x1, .int .i64 f, .bool dead] T) (h : dead = true ∨ f = 0) :
    Calls Try.prog 120 #[.pointer (some ⟨d, 0, none⟩)] w fun e w' => e = .returned (.int .i64 13) ∧ Turn [d] w w' ∧ Blk w' d #[x0, x1, .int .i64 f, .bool true] T := by
  have c2 := hB.cells4.2.2.1
  have c3 := hB.cells4.2.2.2
  have f3 := hB.thaw 3
  have fin : Turn [d] w (w.setCell ⟨d, 3, none⟩ (.bool true)) ∧ Blk (w.setCell ⟨d, 3, none⟩ (.bool true)) d #[x0, x1, .int .i64 f, .bool true] T :=
    ⟨(Turn.refl _ _).setCell (by simp) _, hB.set 3 _⟩
  have Fin := Lib.hid fin
  clear fin hB
  by_cases hd : dead = true
  · subst hd
    go_enter Try.func120, Try.ntmps120
    go_wp2
    go_ret
    exact ⟨rfl, Fin.out⟩
  · obtain rfl : dead = false := by simpa using hd
    obtain rfl : f = 0 := by simpa using h
    go_enter Try.func120, Try.ntmps120
    go_wp2
    go_ret
    exact ⟨rfl, Fin.out⟩

set_option maxHeartbeats 400000 in
theorem burn_ok (d : Nat) (x0 x1 : Value) (f : Int) (w : World) (T : TypeId) (hB : Blk w d #[x0, x1, .int .i64 f, .bool false] T) (h : f ≠ 0) (h1 : -1 ≤ f) (h2 : f ≤ 9223372036854775807) :
    Calls Try.prog 120 #[.pointer (some ⟨d, 0, none⟩)] w fun e w' => e = .returned (.int .i64 0) ∧ Turn [d] w w' ∧ Blk w' d #[x0, x1, .int .i64 (max (f - 1) (-1)), .bool false] T := by
  have c2 := hB.cells4.2.2.1
  have c3 := hB.cells4.2.2.2
  have f2 := hB.thaw 2
  have f3 := hB.thaw 3
  have hf : (f == 0) = false := by simpa using h
  have fin : ∀ m : Int, Turn [d] w ((w.setCell ⟨d, 3, none⟩ (.bool false)).setCell ⟨d, 2, none⟩ (.int .i64 m)) ∧ Blk ((w.setCell ⟨d, 3, none⟩ (.bool false)).setCell ⟨d, 2, none⟩ (.int .i64 m)) d #[x0, x1, .int .i64 m, .bool false] T :=
    fun m => ⟨((Turn.refl _ _).setCell (by simp) _).setCell (by simp) _, (hB.set 3 _).set 2 _⟩
  have Fin := Lib.hid fin
  clear fin hB
  go_enter Try.func120, Try.ntmps120
  go_wp2
  all_goals
    go_ret
    refine ⟨rfl, ?_⟩
    first
      | (rw [show max (f - 1) (-1) = f - 1 from by omega]; exact Fin.out _)
      | (rw [show max (f - 1) (-1) = -1 from by omega]; exact Fin.out _)
      | exact Fin.out _

theorem load_sector {w : World} {b o : Nat} {cs : List Value} (h : w.rangeAt b o cs) (hl : cs.length = 64) :
    (Instr.loadAt 153 (.pointer (some ⟨b, o, none⟩))).run Try.prog w = .ok (.agg cs.toArray) w :=
  run_loadAt_mid w b o 153 cs _ h Try.underlying153 rfl (by rw [Try.info_sector, hl])

section
attribute [local go_sem ↓] load_sector

set_option maxHeartbeats 400000 in
theorem write_dead (d sb mb : Nat) (S : DSt) (i : Int) (s : List UInt8) (w : World) (hD : DiskAt w d sb mb S) (h0 : 0 ≤ i) (h1 : i < S.sure.length) (h : S.dead = true ∨ S.fuse = 0) :
    Calls Try.prog 69 #[.pointer (some ⟨d, 0, none⟩), .int .i64 i, secV s] w fun e w' => e = .returned (.int .i64 13) ∧ Turn [d] w w' ∧ DiskAt w' d sb mb { S with dead := true } := by
  have c0 := hD.blk.cells4.1
  have l0 := hD.blk.lt
  have HD := Lib.hid hD
  clear hD
  have Hh := Lib.hid h
  clear h
  unfold secV
  go_enter Try.func69, Try.ntmps69
  go_wp2_with fail
  refine (has_yes d i S.sure.length S.sure.length (some ⟨sb, 0, none⟩) _ (by go_simp) h0 h1).mono ?_
  rintro e w1 ⟨rfl, rfl⟩
  go_wp2_with fail
  refine (burn_dead d _ _ _ _ _ _ (HD.out.blk.alloc _) Hh.out).mono ?_
  rintro e w1 ⟨rfl, hT, hB⟩
  go_wp2
  go_ret
  have hD := HD.out
  have hA : Turn [] w (w.alloc (.cells (bvs s).toArray 153)) := (Turn.refl _ _).alloc _
  have hT' : Turn [d] w w1 := (hA.mono (by simp)).trans hT (by simp)
  exact ⟨rfl, hT', hB, hD.row.turn hT' (by simp [Ne.symm hD.ne1]), hD.full, hD.soon.turn hT' (by simp [Ne.symm hD.ne2]), hD.ne1, hD.ne2, hD.ne3, hD.many, hD.low, hD.high⟩

set_option maxRecDepth 100000 in
set_option maxHeartbeats 400000 in
theorem write_ok (d sb mb : Nat) (S : DSt) (i : Int) (s : List UInt8) (w : World) (hD : DiskAt w d sb mb S) (hs : s.length = 64) (h0 : 0 ≤ i) (h1 : i < S.sure.length) (hd : S.dead = false) (hf : S.fuse ≠ 0) (hsoon : S.soon = []) :
    Calls Try.prog 69 #[.pointer (some ⟨d, 0, none⟩), .int .i64 i, secV s] w fun e w' => e = .returned (.int .i64 0) ∧ Turn [d, mb] w w' ∧
      DiskAt w' d sb mb { S with fuse := max (S.fuse - 1) (-1), soon := [(i, s)] } := by
  obtain ⟨sure, soon, fuse, dead⟩ := S
  simp only at hd hf hsoon h1
  subst hd hsoon
  have c0 := hD.blk.cells4.1
  have l0 := hD.blk.lt
  have Hs := Lib.hid hs
  clear hs
  have HD := Lib.hid hD
  clear hD
  unfold secV
  go_enter Try.func69, Try.ntmps69
  go_wp2_with fail
  refine (has_yes d i sure.length sure.length (some ⟨sb, 0, none⟩) _ (by go_simp) h0 h1).mono ?_
  rintro e w1 ⟨rfl, rfl⟩
  go_wp2_with fail
  refine (burn_ok d _ _ _ _ _ (HD.out.blk.alloc _) hf HD.out.low HD.out.high).mono ?_
  rintro e w1 ⟨rfl, hT, hB⟩
  have hD := HD.out
  have hN := (Blk.new w (bvs s).toArray 153).turn hT (by simp; omega)
  have hr := hN.range 0 64
  have hr' : w1.rangeAt w.heap.size 0 (bvs s) := by have := Hs.out; simpa [List.take_of_length_le, this] using hr
  have hr2 : w1.drew.rangeAt w.heap.size 0 (bvs s) := (World.rangeAt_drew _ _ _ _).2 hr'
  have hl : (bvs s).length = 64 := by rw [bvs_length]; exact Hs.out
  have c1 := hB.cells4.2.1
  have hA : Turn [] w (w.alloc (.cells (bvs s).toArray 153)) := (Turn.refl _ _).alloc _
  have hT' : Turn [d] w w1 := (hA.mono (by simp)).trans hT (by simp)
  have hM := hD.soon.turn hT' (by simp [Ne.symm hD.ne2])
  clear hr hN
  go_wp2
  refine wp_region_still_tail 6 (by kernel_rfl) (by kernel_rfl) ?_
  simp only [List.take_succ_cons, List.take_zero, List.drop_succ_cons, List.drop_zero]
  repeat (first
    | (refine wpStill_load rfl 153 _ rfl _ _ rfl _ _ hr2 Try.underlying153 rfl (by rw [Try.info_sector, hl]) ?_; go_frame)
    | still_step)
  refine wpStill_nil ?_
  have hM' : IMap (w1.drew) mb (soonOf []) := hM
  go_wp2_with (refine wpList_mput rfl 144 _ _ _ rfl Try.underlying144 Try.underlying3 mb i (secV s) rfl rfl rfl _ hM' ?_; intro w2 hM2 hT2)
  go_ret
  have hTd : Turn [d] w w1.drew := hT'.drew
  have hTt : Turn [d, mb] w w2 := (hTd.mono (by simp)).trans hT2 (by simp)
  have hBd : Blk w1.drew d #[.slice (some ⟨sb, 0, none⟩) sure.length sure.length, .map (some mb), .int .i64 (max (fuse - 1) (-1)), .bool false] 146 := hB
  have n1 := hD.ne1
  have n2 := hD.ne2
  have n3 := hD.ne3
  have lo := hD.low
  have hi := hD.high
  refine ⟨rfl, hTt, hBd.turn hT2 (by simp [n2]), hD.row.turn hTt (by simp [Ne.symm n1, n3]), hD.full, hM2, n1, n2, n3, hD.many, ?_, ?_⟩
  · simp only; omega
  · simp only at lo hi ⊢; omega

set_option maxHeartbeats 400000 in
theorem fuse_any (d sb mb : Nat) (S : DSt) (n : Int) (w : World) (hD : DiskAt w d sb mb S) (hn : n ≤ 9223372036854775807) :
    Calls Try.prog 18 #[.pointer (some ⟨d, 0, none⟩), .int .i64 n] w fun e w' => e = .returned (.tuple #[]) ∧ Turn [d] w w' ∧ DiskAt w' d sb mb { S with fuse := max n (-1) } := by
  have c2 := hD.blk.cells4.2.2.1
  have f2 := hD.blk.thaw 2
  have hBs := fun m : Int => hD.blk.set 2 (.int .i64 m)
  have fin : ∀ m : Int, m = max n (-1) → Turn [d] w (w.setCell ⟨d, 2, none⟩ (.int .i64 m)) ∧ DiskAt (w.setCell ⟨d, 2, none⟩ (.int .i64 m)) d sb mb { S with fuse := max n (-1) } := fun m hm =>
    ⟨(Turn.refl _ _).setCell (by simp) _, by rw [← hm]; exact hBs m, hD.row.setOther _ _ (Ne.symm hD.ne1), hD.full, hD.soon.setOther _ _ (Ne.symm hD.ne2), hD.ne1, hD.ne2, hD.ne3, hD.many, by simp only; omega, by simp only; omega⟩
  have Fin := Lib.hid fin
  clear fin hBs hD
  go_enter Try.func18, Try.ntmps18
  go_wp2
  all_goals
    go_end0
    refine ⟨rfl, ?_⟩
    exact Fin.out _ (by omega)

theorem Try.zero_sector : ∀ w, (zeroValue 153).run Try.prog w = .ok (.agg (bvs zsec).toArray) w := fun _ => by kernel_rfl

/-- What a read of sector i tells. -/
def DSt.read (S : DSt) (i : Nat) : List UInt8 := ((S.soon.find? fun p => p.1 == (i : Int)).map (·.2)).getD ((S.sure[i]?).getD [])

theorem mget_soon (l : List (Int × List UInt8)) (i : Int) : mget (soonOf l) i = ((l.find? fun p => p.1 == i).map (·.2)).map secV := by
  unfold mget soonOf
  rw [List.find?_map]
  cases h : l.find? ((fun p => p.1 == i) ∘ fun p => (p.1, secV p.2)) with
  | none => 
    have h' : l.find? (fun p => p.1 == i) = none := h
    rw [h']; rfl
  | some p =>
    have h' : l.find? (fun p => p.1 == i) = some p := h
    rw [h']; rfl

theorem drop_flatten : ∀ (l : List (List UInt8)) (i : Nat), (∀ s ∈ l, s.length = 64) → i < l.length → ((l.flatten).drop (i * 64)).take 64 = (l[i]?).getD []
  | [], _, _, h => by simp at h
  | s :: l, 0, hs, _ => by
    have := hs s (by simp)
    simp [this]
  | s :: l, i + 1, hs, h => by
    have h1 := hs s (by simp)
    have ih := drop_flatten l i (fun t ht => hs t (by simp [ht])) (by simpa using h)
    rw [List.flatten_cons, List.drop_append, h1]
    rw [show (i + 1) * 64 - 64 = i * 64 from by omega, List.drop_of_length_le (by omega), List.nil_append, ih]
    simp

theorem DiskAt.sector {w : World} {d sb mb : Nat} {S : DSt} (h : DiskAt w d sb mb S) (i : Nat) (hi : i < S.sure.length) : w.rangeAt sb (i * 64) (bvs ((S.sure[i]?).getD [])) := by
  have := h.row.range (i * 64) 64
  rw [← drop_flatten S.sure i h.full hi]
  simpa [bvs] using this

theorem flatten_length : ∀ (l : List (List UInt8)), (∀ s ∈ l, s.length = 64) → l.flatten.length = 64 * l.length
  | [], _ => rfl
  | s :: l, h => by
    have h1 := h s (by simp)
    have := flatten_length l (fun t ht => h t (by simp [ht]))
    simp [h1, this]; omega

theorem sector_length {S : List (List UInt8)} (h : ∀ s ∈ S, s.length = 64) (i : Nat) (hi : i < S.length) : ((S[i]?).getD []).length = 64 := by
  rw [List.getElem?_eq_getElem hi]; exact h _ (List.getElem_mem hi)

theorem info_sec {cs : List Value} (h : cs.length = 64) : (Try.prog.info? 153).map (·.size) = some cs.length := by rw [Try.info_sector, h]
theorem zeros64 : (bvs zsec).length = 64 := rfl
theorem lenb {s : List UInt8} (h : s.length = 64) : (bvs s).length = 64 := by rw [bvs_length, h]
theorem len64 {s : List UInt8} (h : s.length = 64) : (bvs zsec).length = (bvs s).length := by rw [lenb h]; rfl

set_option maxRecDepth 100000 in
set_option maxHeartbeats 800000 in
theorem read_out (d sb mb : Nat) (S : DSt) (i : Int) (w : World) (hD : DiskAt w d sb mb S) (hi : i < 0 ∨ S.sure.length ≤ i) :
    Calls Try.prog 118 #[.pointer (some ⟨d, 0, none⟩), .int .i64 i] w fun e w' => e = .returned (.tuple #[secV zsec, .int .i64 1]) ∧ Turn [] w w' := by
  have HD := Lib.hid hD
  clear hD
  go_enter Try.func118, Try.ntmps118
  go_wp2_with (refine wpList_alloc rfl 153 rfl _ Try.zero_sector ?_; intro w1 hT1 hB1 hz1; go_frame)
  have c0 := (HD.out.blk.turn hT1 (by simp)).cells4.1
  refine (has_no d i S.sure.length S.sure.length (some ⟨sb, 0, none⟩) _ c0 hi).mono ?_
  rintro e w2 ⟨rfl, rfl⟩
  go_wp2_with (refine wpList_storeW rfl 153 _ _ rfl w.heap.size (bvs zsec) rfl rfl _ 153 hB1 rfl (info_sec rfl) (bvs_one _) ?_; intro w2 hT2 hB2 hz2; go_frame)
  refine bodyPost_ret (results_cell_tmp rfl _ _ w.heap.size (bvs zsec) _ rfl hB2.all Try.underlying153 rfl (info_sec rfl)) rfl ⟨rfl, ?_⟩
  exact hT1.trans hT2 (by simp)

set_option maxRecDepth 100000 in
set_option maxHeartbeats 800000 in
theorem read_in (d sb mb : Nat) (S : DSt) (i : Nat) (w : World) (hD : DiskAt w d sb mb S) (hi : i < S.sure.length) (hsoon : ∀ p ∈ S.soon, p.2.length = 64) :
    Calls Try.prog 118 #[.pointer (some ⟨d, 0, none⟩), .int .i64 i] w fun e w' => e = .returned (.tuple #[secV (S.read i), .int .i64 0]) ∧ Turn [] w w' := by
  have HD := Lib.hid hD
  clear hD
  have h0 : (0 : Int) ≤ i := Int.natCast_nonneg _
  have h1 : (i : Int) < S.sure.length := by omega
  cases hf : S.soon.find? (fun p => p.1 == (i : Int)) with
  | none =>
    have Hr : Hid (S.read i = (S.sure[i]?).getD []) := by unfold DSt.read; rw [hf]; rfl
    have Hm : Hid (mget (soonOf S.soon) i = none) := by unfold Hid; rw [mget_soon, hf]; rfl
    have Hl := Lib.hid (sector_length HD.out.full i hi)
    clear hf hsoon
    go_enter Try.func118, Try.ntmps118
    go_wp2_with (refine wpList_alloc rfl 153 rfl _ Try.zero_sector ?_; intro w1 hT1 hB1 hz1; go_frame)
    have hD1 := HD.out.turn hT1 (by simp) (by simp) (by simp)
    have c0 := hD1.blk.cells4.1
    have c1 := hD1.blk.cells4.2.1
    refine (has_yes d i S.sure.length S.sure.length (some ⟨sb, 0, none⟩) _ c0 h0 h1).mono ?_
    rintro e w2 ⟨rfl, rfl⟩
    have HD1 := Lib.hid hD1
    clear hD1
    go_wp2_with (first
      | (refine wpList_mget rfl 144 _ _ _ rfl Try.underlying144 Try.underlying3 _ Try.zero_sector mb i rfl rfl _ HD1.out.soon ?_; rw [Hm.out]; simp only [Option.getD_none, Option.isSome_none, if_true])
      | (refine wpList_alloc rfl 153 rfl _ Try.zero_sector ?_; intro w2 hT2 hB2 hz2; go_frame)
      | (refine wpList_storeW rfl 153 _ _ rfl w1.heap.size (bvs zsec) rfl rfl _ 153 hB2 rfl (info_sec rfl) (bvs_one _) ?_; intro w3 hT3 hB3 hz3; go_frame
         have hl1 := HD1.out.blk.lt
         have hl2 := HD1.out.row.lt
         have hl3 := HD1.out.soon.lt
         have hD3 := (HD1.out.turn hT2 (by simp) (by simp) (by simp)).turn hT3 (by simp; omega) (by simp; omega) (by simp; omega)
         have hR3 := hD3.sector i hi
         have c3 := hD3.blk.cells4.1
         have hB13 := (hB1.turn hT2 (by simp)).turn hT3 (by simp; omega)
         clear hD3)
      | (refine wpList_loadA rfl 153 _ rfl _ _ rfl _ _ hR3 Try.underlying153 rfl (info_sec (lenb Hl.out)) ?_; go_frame)
      | (refine wpList_storeW rfl 153 _ _ rfl w.heap.size (bvs ((S.sure[i]?).getD [])) rfl rfl _ 153 hB13 (len64 Hl.out) (info_sec (lenb Hl.out)) (bvs_one _) ?_; intro w4 hT4 hB4 hz4; go_frame))
    refine bodyPost_ret (results_cell_tmp rfl _ _ w.heap.size (bvs ((S.sure[i]?).getD [])) _ rfl hB4.all Try.underlying153 rfl (info_sec (lenb Hl.out))) rfl ⟨?_, ?_⟩
    · rw [Hr.out]; rfl
    · exact ((hT1.trans hT2 (by simp)).trans hT3 (by simp; omega)).trans hT4 (by simp)
  | some p =>
    have Hr : Hid (S.read i = p.2) := by unfold DSt.read; rw [hf]; rfl
    have Hm : Hid (mget (soonOf S.soon) i = some (secV p.2)) := by unfold Hid; rw [mget_soon, hf]; rfl
    have Hl := Lib.hid (hsoon p (List.mem_of_find?_eq_some hf))
    clear hf hsoon
    go_enter Try.func118, Try.ntmps118
    go_wp2_with (refine wpList_alloc rfl 153 rfl _ Try.zero_sector ?_; intro w1 hT1 hB1 hz1; go_frame)
    have hD1 := HD.out.turn hT1 (by simp) (by simp) (by simp)
    have c0 := hD1.blk.cells4.1
    have c1 := hD1.blk.cells4.2.1
    refine (has_yes d i S.sure.length S.sure.length (some ⟨sb, 0, none⟩) _ c0 h0 h1).mono ?_
    rintro e w2 ⟨rfl, rfl⟩
    have HD1 := Lib.hid hD1
    clear hD1
    go_wp2_with (first
      | (refine wpList_mget rfl 144 _ _ _ rfl Try.underlying144 Try.underlying3 _ Try.zero_sector mb i rfl rfl _ HD1.out.soon ?_; rw [Hm.out]; simp only [Option.getD_some, Option.isSome_some, if_true, secV])
      | (refine wpList_alloc rfl 153 rfl _ Try.zero_sector ?_; intro w2 hT2 hB2 hz2; go_frame)
      | (refine wpList_storeW rfl 153 _ _ rfl w1.heap.size (bvs p.2) rfl rfl _ 153 hB2 (len64 Hl.out) (info_sec (lenb Hl.out)) (bvs_one _) ?_; intro w3 hT3 hB3 hz3; go_frame
         have hR3 := hB3.all
         have hB13 := (hB1.turn hT2 (by simp)).turn hT3 (by simp; omega))
      | (refine wpList_loadA rfl 153 _ rfl _ _ rfl _ _ hR3 Try.underlying153 rfl (info_sec (lenb Hl.out)) ?_; go_frame)
      | (refine wpList_storeW rfl 153 _ _ rfl w.heap.size (bvs p.2) rfl rfl _ 153 hB13 (len64 Hl.out) (info_sec (lenb Hl.out)) (bvs_one _) ?_; intro w4 hT4 hB4 hz4; go_frame))
    refine bodyPost_ret (results_cell_tmp rfl _ _ w.heap.size (bvs p.2) _ rfl hB4.all Try.underlying153 rfl (info_sec (lenb Hl.out))) rfl ⟨?_, ?_⟩
    · rw [Hr.out]; rfl
    · exact ((hT1.trans hT2 (by simp)).trans hT3 (by simp; omega)).trans hT4 (by simp)
end
end Go.Proofs.Ytkifggnjpgoamaa
