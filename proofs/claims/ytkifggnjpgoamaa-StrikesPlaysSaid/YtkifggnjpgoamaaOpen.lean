/- journal.Open. -/
import Derived.Test.YtkifggnjpgoamaaIter
import Derived.Test.YtkifggnjpgoamaaRange
import Derived.Test.YtkifggnjpgoamaaApp
namespace Go.Proofs.Ytkifggnjpgoamaa
open Go.RowKit Go.Shelf
attribute [local go_sem] Oper.semAt_some
attribute [-go_sem] Builtin.append_
attribute [local go_sem high] run_app_here

set_option maxHeartbeats 400000 in
theorem open_nil (w : World) : Calls Try.prog 17 #[.pointer none] w fun e w' => e = .returned (.tuple #[.pointer none, .int .i64 1]) ∧ w = w' := by
  go_enter Try.func17, Try.ntmps17
  go_wp2
  go_ret2
  exact ⟨rfl, rfl⟩

/-- The records that a journal finds, sector by sector, and whether the next one may still be one. -/
def opened (pre : List SecAt) : Bool × List (List UInt8) :=
  pre.foldl (fun s x => match s.1, recOf x.1.1 x.1.2 with
    | true, some b => (true, s.2 ++ [b])
    | _, _ => (false, s.2)) (true, [])
theorem opened_step (pre : List SecAt) (x : SecAt) : opened (pre ++ [x]) = match (opened pre).1, recOf x.1.1 x.1.2 with
    | true, some b => (true, (opened pre).2 ++ [b])
    | _, _ => (false, (opened pre).2) := by
  unfold opened
  rw [List.foldl_append]
  rfl
theorem opened_snoc (pre : List SecAt) (x : SecAt) : opened (pre ++ [x]) = match (opened pre).1, recOf x.1.1 x.1.2 with
    | true, some b => (true, (opened pre).2 ++ [b])
    | _, _ => (false, (opened pre).2) := by
  unfold opened
  rw [List.foldl_append]
  rfl
abbrev openStep (s : Bool × List (List UInt8)) (x : SecAt) : Bool × List (List UInt8) :=
  match s.1, recOf x.1.1 x.1.2 with
    | true, some b => (true, s.2 ++ [b])
    | _, _ => (false, s.2)
theorem openStep_len (s : Bool × List (List UInt8)) (x : SecAt) : (openStep s x).2.length ≤ s.2.length + 1 := by
  unfold openStep
  split <;> simp
theorem opened_len (pre : List SecAt) : (opened pre).2.length ≤ pre.length := by
  have h : ∀ (pre : List SecAt) (s : Bool × List (List UInt8)), (pre.foldl openStep s).2.length ≤ s.2.length + pre.length := by
    intro pre
    induction pre with
    | nil => intro s; simp
    | cons x pre ih =>
      intro s
      have h1 := ih (openStep s x)
      have h2 := openStep_len s x
      simp only [List.foldl_cons, List.length_cons]
      omega
  have := h pre (true, [])
  rw [show pre.foldl openStep (true, []) = opened pre from rfl] at this
  simpa using this
theorem recOf_short {i : Nat} {s b : List UInt8} (h : recOf i s = some b) : b.length ≤ 59 := by
  unfold recOf at h
  dsimp only at h
  split at h
  · cases h
  · split at h
    · cases h
      rw [List.length_take]
      omega
    · cases h
theorem opened_short (pre : List SecAt) : ∀ r ∈ (opened pre).2, r.length ≤ 59 := by
  have h : ∀ (pre : List SecAt) (s : Bool × List (List UInt8)), (∀ r ∈ s.2, r.length ≤ 59) → ∀ r ∈ (pre.foldl openStep s).2, r.length ≤ 59 := by
    intro pre
    induction pre with
    | nil => intro s h; exact h
    | cons x pre ih =>
      intro s h
      rw [List.foldl_cons]
      refine ih _ ?_
      unfold openStep
      split
      · rename_i b _ hb
        intro r hr
        rcases List.mem_append.1 hr with h' | h'
        · exact h r h'
        · simp only [List.mem_singleton] at h'
          subst h'
          exact recOf_short hb
      · exact h
  exact h pre (true, []) (by simp)
def sized (pre : List SecAt) : Nat := (pre.getLast?.map (·.1.1 + 1)).getD 0
theorem sized_snoc (pre : List SecAt) (x : SecAt) : sized (pre ++ [x]) = x.1.1 + 1 := by simp [sized]

/-- Between two rounds. -/
structure OpenI (n₀ j B4 B5 Bn d : Nat) (pre : List SecAt) (W : World) : Prop where
  b4 : Blk W B4 #[.pointer (some ⟨j, 0, none⟩)] 56
  b5 : Blk W B5 #[.bool (opened pre).1] 4
  ex : ∃ lv vs, Blk W j #[.pointer (some ⟨d, 0, none⟩), .int .i64 0, .int .i64 (sized pre), lv] 148 ∧ RowsAt W lv vs (opened pre).2 ∧
    (∀ b ∈ blockOf lv, n₀ ≤ b ∧ b ≠ j ∧ b ≠ B4 ∧ b ≠ B5 ∧ b ≠ Bn ∧ CellB W b) ∧ (∀ v ∈ vs, ∀ b ∈ seatOf v, n₀ ≤ b ∧ b ≠ j ∧ b ≠ B4 ∧ b ≠ B5 ∧ b ≠ Bn ∧ CellB W b)

theorem OpenI.turnP {n₀ j B4 B5 Bn d : Nat} {pre : List SecAt} {W W' : World} {F : Nat → Prop} (h : OpenI n₀ j B4 B5 Bn d pre W) (k : TurnP F W W') (hF : ∀ b, CellB W b → ¬ F b) : OpenI n₀ j B4 B5 Bn d pre W' := by
  obtain ⟨h1, h2, lv, vs, h3, h4, h5, h6⟩ := h
  exact ⟨h1.turnP k (hF _ h1.cellB), h2.turnP k (hF _ h2.cellB), lv, vs, h3.turnP k (hF _ h3.cellB), h4.turnP k (fun b hb => hF _ (h5 b hb).2.2.2.2.2) (fun v hv b hb => hF _ (h6 v hv b hb).2.2.2.2.2),
    fun b hb => let q := h5 b hb; ⟨q.1, q.2.1, q.2.2.1, q.2.2.2.1, q.2.2.2.2.1, q.2.2.2.2.2.turnP k (hF _ q.2.2.2.2.2)⟩,
    fun v hv b hb => let q := h6 v hv b hb; ⟨q.1, q.2.1, q.2.2.1, q.2.2.2.1, q.2.2.2.2.1, q.2.2.2.2.2.turnP k (hF _ q.2.2.2.2.2)⟩⟩

set_option maxRecDepth 100000 in
set_option maxHeartbeats 8000000 in
theorem open_ok (d sb mb : Nat) (S : DSt) (w : World) (hD : DiskAt w d sb mb S) (hsoon : S.soon = []) :
    Calls Try.prog 17 #[.pointer (some ⟨d, 0, none⟩)] w fun e w' => ∃ j, e = .returned (.tuple #[.pointer (some ⟨j, 0, none⟩), .int .i64 0]) ∧
      JAt w' (fun b => w.heap.size ≤ b) j d S.sure.length (opened (upto (secAt S) S.sure.length)).2 ∧ Turn [] w w' := by
  refine (callsIn_wide (n := 6)).1 ?_
  refine callsIn_of_wp_marks Try.func17 rfl trivial ?_ rfl
  simp only [Try.ntmps17, List.size_toArray, List.length_cons, List.length_nil, Nat.reduceAdd, Nat.reduceSub, Array.replicate_succ, Array.replicate_zero, List.push_toArray, List.append_toArray, List.nil_append, List.cons_append]
  refine wpIn_wide.2 ?_
  go_wp2_with fail
  refine (sectors_any d _).mono ?_
  rintro e w1 ⟨rfl, hw1⟩
  have hj : Blk w1 w.heap.size #[.pointer (some ⟨d, 0, none⟩), .int .i64 0, .int .i64 0, .slice none 0 0] 148 := by
    rw [hw1]; exact (((Blk.new w _ _).alloc _).alloc _).alloc _
  have hb4 : Blk w1 (w.heap.size + 1) #[.pointer (some ⟨w.heap.size, 0, none⟩)] 56 := by
    rw [hw1]; have := Blk.new (w.alloc (.cells #[.pointer (some ⟨d, 0, none⟩), .int .i64 0, .int .i64 0, .slice none 0 0] 148)) #[.pointer (some ⟨w.heap.size, 0, none⟩)] 56
    rw [World.size_alloc] at this
    exact (this.alloc _).alloc _
  have hb5 : Blk w1 (w.heap.size + 2) #[.bool true] 4 := by
    rw [hw1]; have := Blk.new ((w.alloc (.cells #[.pointer (some ⟨d, 0, none⟩), .int .i64 0, .int .i64 0, .slice none 0 0] 148)).alloc (.cells #[.pointer (some ⟨w.heap.size, 0, none⟩)] 56)) #[.bool true] 4
    simp only [World.size_alloc] at this
    exact this.alloc _
  have hbn : Blk w1 (w.heap.size + 3) #[.pointer (some ⟨d, 0, none⟩)] 53 := by
    rw [hw1]; have := Blk.new (((w.alloc (.cells #[.pointer (some ⟨d, 0, none⟩), .int .i64 0, .int .i64 0, .slice none 0 0] 148)).alloc (.cells #[.pointer (some ⟨w.heap.size, 0, none⟩)] 56)).alloc (.cells #[.bool true] 4)) #[.pointer (some ⟨d, 0, none⟩)] 53
    simp only [World.size_alloc] at this
    exact this
  have hT1 : Turn [] w w1 := by rw [hw1]; exact ((((Turn.refl _ _).alloc _).alloc _).alloc _).alloc _
  have hs1 : w.heap.size + 4 ≤ w1.heap.size := hbn.lt
  simp only [World.size_alloc]
  clear hw1
  have hD1 := hD.turn hT1 (by simp) (by simp) (by simp)
  have l1 := hD.blk.lt
  have l2 := hD.row.lt
  have l3 := hD.soon.lt
  go_wp2
  refine (wpIn_wide (n := 6)).1 ?_
  refine wpIn_rangeFunc_ownH rfl (by omega) (gf := 117) (lb := #[.pointer (some ⟨w.heap.size + 3, 0, none⟩)]) rfl trivial (enters_of Try.func117 (by kernel_rfl) rfl)
    (sectors_stops 5 (by omega) (w.heap.size + 3) w.heap.size d sb mb S w1 l1 l2 l3 hbn hD1 hsoon)
    (fun h k => TurnP.trans h k (fun _ h => .inl h)) (fun W l o o' hl h1 h2 h3 => ?kb) (Below.refl _ _) (fun _ => rfl)
    (fun pre W => OpenI w.heap.size w.heap.size (w.heap.size + 1) (w.heap.size + 2) (w.heap.size + 3) d pre W ∧ Keeps w.heap.size (w.heap.size + 3) w1 W)
    (fun _ _ _ => False) ?hI (fun _ _ _ _ _ hs _ _ => hs) ⟨⟨hb4, hb5, _, [], hj, RowsAt.nil _, by simp [blockOf], by simp⟩, TurnP.refl _ _⟩
    (fun x a' W => ∃ Bx, w1.heap.size ≤ Bx ∧ Blk W Bx (bvs x.1.2).toArray 153 ∧ a' = { tmps := #[.pointer (some ⟨d, 0, none⟩), undef, .pointer none, .int .i64 0, .pointer (some ⟨w.heap.size + 1, 0, none⟩), .pointer (some ⟨w.heap.size + 1 + 1, 0, none⟩), .int .i64 x.1.1, .pointer (some ⟨Bx, 0, none⟩), undef, undef, .pointer (some ⟨d, 0, none⟩), .bool false, .pointer (some ⟨d, 0, none⟩), .agg #[.pointer (some ⟨d, 0, none⟩), .int .i64 0, .int .i64 0, .slice none 0 0], .pointer (some ⟨w.heap.size, 0, none⟩), .pointer (some ⟨d, 0, none⟩), .func (.func 117) #[] #[.pointer (some ⟨w.heap.size + 1 + 1 + 1, 0, none⟩)], .int .i64 x.1.1, secV x.1.2, undef, undef, undef, undef, undef, undef, undef, undef, undef, undef, undef, undef, undef, undef, undef, undef, undef, undef, undef, undef, undef, undef, undef, undef, undef, undef, undef, undef, undef, undef, undef, undef, undef, undef, undef], defers := [] }) ?hAx ?assign ?body ?done ?stop
  case kb =>
    exact ⟨rfl, rfl, rfl, by simp, fun k hk hn => World.putObj_heap_other (fun e => hn ⟨by omega, by omega⟩)⟩
  case hI =>
    rintro pre A B row ⟨hs, hk⟩ hg hr
    exact ⟨hs.turnP (TurnP.of_row hg) (fun b hb => hb.not_row hr), hk.trans (TurnP.of_row hg) (fun x hx => .inr (hr x hx).1)⟩
  case hAx =>
    rintro x a' _ A B row ⟨Bx, h1, h2, h3⟩ hg hr
    exact ⟨Bx, h1, h2.turnP (TurnP.of_row hg) (h2.cellB.not_row hr), h3⟩
  case assign =>
    rintro l pre x W K hi hK
    have hlx := Lib.hid x.2.1
    gi_wp2_with (first
      | (refine wpListIn_alloc rfl 153 rfl _ Try.zero_sector ?_; intro w2 hT2 hB2 hz2; go_frame)
      | (refine wpListIn_storeW rfl 153 _ _ rfl W.heap.size (bvs x.1.2) rfl rfl _ 153 hB2 (len64 hlx.out) (info_sec (lenb hlx.out)) (bvs_one _) ?_; intro w3 hT3 hB3 hz3; go_frame))
    have hT03 : Turn [] W w3 := hT2.trans hT3 (by simp)
    have hWs := hi.2.size
    exact hK _ _ (hT03.toP0.keeps (F := fun _ => False) (fun _ h => h.elim) _) hT03.toP0 ⟨hi.1.turnP (F := fun _ => False) hT03.toP0 (fun _ _ h => h), hi.2.trans (G := fun _ => False) hT03.toP0 (fun _ h => h.elim)⟩ ⟨W.heap.size, hWs, hB3, rfl⟩
  case body =>
    rintro l pre ⟨⟨i, s⟩, hlen, hi64⟩ a' W hl ⟨r, hr⟩ ⟨⟨hb4', hb5', lv, vs, hj', hR, hlv, hvs⟩, hKp⟩ ⟨Bx, hBx, bX, rfl⟩ hlt
    simp only at hlen hi64 bX ⊢
    have hk64 : (i : Int) + 1 ≤ 64 := by omega
    have c4 := hb4'.cells1
    have c2 := hj'.cells4.2.2.1
    have f2 := hj'.thaw 2
    have hBj : Bx ≠ w.heap.size := by omega
    have hX1 := (bX.setOther ⟨w.heap.size, 2, none⟩ (.int .i64 ((i : Int) + 1)) hBj).all
    have HI := Lib.hid (And.intro hb4' (And.intro hb5' (And.intro hj' (And.intro hR (And.intro hlv hvs)))))
    clear hb4' hb5' hj' hR hlv hvs
    gi_wp2_with (first
      | (refine wpListIn_load (by kernel_rfl) 153 _ rfl _ _ rfl _ _ hX1 Try.underlying153 rfl (info_sec (lenb hlen)) ?_; go_frame))
    refine ⟨trivial, (CallsIn.inRound l (callsIn_wide.2 (record_any i s _ hlen (by omega)))).mono ?_⟩
    rintro e w2 ⟨v, rfl, hT2, hv⟩
    obtain ⟨hb4', hb5', hj', hR, hlv, hvs⟩ := HI.out
    have hT02 : Turn [w.heap.size] W w2 := ((Turn.refl _ W).setCell (p := ⟨w.heap.size, 2, none⟩) (by simp) _).trans hT2 (by simp)
    have b42 := hb4'.turn hT02 (by simp)
    have b52 := hb5'.turn hT02 (by simp)
    have hj2 : Blk w2 w.heap.size #[.pointer (some ⟨d, 0, none⟩), .int .i64 0, .int .i64 ((i : Int) + 1), lv] 148 := (hj'.set 2 _).turn hT2 (by simp)
    have c42 := b42.cells1
    have c52 : w2.cell? ⟨w.heap.size + 1 + 1, 0, none⟩ = some (.bool (opened pre).1) := b52.cells1
    have f52 : w2.frozen? ⟨w.heap.size + 1 + 1, 0, none⟩ = false := b52.thaw 0
    have hv' : ∀ b, recOf i s = some b → Own w2 5 1 v b.length (bvs b) ∧ ∀ g ∈ blockOf v, W.heap.size ≤ g := fun b hb => by have h1 := hv b hb; simpa using h1
    have Hv := Lib.hid hv'
    have HT := Lib.hid hT2
    clear hv hv' hT2 hX1
    by_cases hok : (opened pre).1 = true ∧ (recOf i s).isSome = true
    · rw [hok.2]
      rw [hok.1] at c52
      obtain ⟨b, hb⟩ := Option.isSome_iff_exists.1 hok.2
      have hvb := Hv.out b hb
      have hb59 := recOf_short hb
      have Hb := Lib.hid hb
      clear hb
      gi_wp2
      obtain ⟨w3, hw3⟩ : ∃ w3, w2.setCell ⟨w.heap.size + 1 + 1, 0, none⟩ (.bool true) = w3 := ⟨_, rfl⟩
      have hT23 : Turn [w.heap.size + 1 + 1] w2 w3 := by rw [← hw3]; exact (Turn.refl _ _).setCell (p := ⟨w.heap.size + 1 + 1, 0, none⟩) (by simp) _
      have b43 := b42.turn hT23 (by simp)
      have b53 : Blk w3 (w.heap.size + 1 + 1) #[.bool true] 4 := by rw [← hw3]; exact b52.set 0 _
      have hj3 := hj2.turn hT23 (by simp; omega)
      have c43 := b43.cells1
      have c33 := hj3.cells4.2.2.2
      rw [hw3] at ⊢
      clear hw3
      have hOv := hvb.1.turn hT23 (by intro g hg; have := hvb.2 g hg; have := b42.lt; have hx := hKp.size; simp; omega)
      obtain ⟨va, vc, rfl⟩ := hOv.form
      have hT03 : TurnP (fun b => b = w.heap.size ∨ b = w.heap.size + 1 + 1) W w3 := ((hT02.mono (T := [w.heap.size, w.heap.size + 1 + 1]) (by simp)).trans hT23 (by simp)).toP (by simp)
      have hR3 := hR.turnP hT03 (fun b hb h => by have := hlv b hb; omega) (fun v hv b hb h => by have := hvs v hv b hb; omega)
      obtain ⟨oa, oc, rfl⟩ := hR3.own.form
      have hTa : Turn [] w3 (w3.alloc (.cells #[.slice va b.length vc] 35)).drew := ((Turn.refl _ _).alloc _).drew
      have hlen2 := opened_len pre
      have hN64 := hD.many
      obtain ⟨a1, c1, w4, hrun, hO4, hT4, hF4⟩ := run_append (P := Try.prog) 50 50 35 (.slice none 0 0) 1 24 Try.underlying50 Try.info_slice rfl (by omega) _ _ _ (hR3.own.turn0 hTa)
        (.slice (some ⟨w3.heap.size, 0, none⟩) 1 1) 1 [.slice va b.length vc] (Src.whole ((Blk.new w3 #[.slice va b.length vc] 35).drew) 1 1 (by omega)) rfl (by simp [Value.oneCell']) (by unfold maxLen; omega) (by omega)
      have hAv : appV Try.prog (w3.alloc (.cells #[.slice va b.length vc] 35)).drew 50 (.slice oa (opened pre).2.length oc) (.slice (some ⟨w3.heap.size, 0, none⟩) 1 1) = .slice a1 ((opened pre).2.length + 1) c1 := by unfold appV; rw [hrun]
      have hAw : appW Try.prog (w3.alloc (.cells #[.slice va b.length vc] 35)).drew 50 (.slice oa (opened pre).2.length oc) (.slice (some ⟨w3.heap.size, 0, none⟩) 1 1) = w4 := by unfold appW; rw [hrun]
      have hAo : AppOk Try.prog (w3.alloc (.cells #[.slice va b.length vc] 35)).drew 50 (.slice oa (opened pre).2.length oc) (.slice (some ⟨w3.heap.size, 0, none⟩) 1 1) := by unfold AppOk; rw [hAv, hAw]; exact hrun
      have hjA : Blk w4 w.heap.size #[.pointer (some ⟨d, 0, none⟩), .int .i64 0, .int .i64 ((i : Int) + 1), .slice oa (opened pre).2.length oc] 148 := (hj3.turn hTa (by simp)).turn hT4 (fun h => (hlv _ h).2.1 rfl)
      have c33a := (hj3.alloc (.cells #[.slice va b.length vc] 35)).cells4.2.2.2
      have c43a := (b43.alloc (.cells #[.slice va b.length vc] 35)).cells1
      have c4A := hjA.cells4.2.2.2
      have f4A := hjA.thaw 3
      have hj4 : w.heap.size < W.heap.size := hj'.lt
      have hWv : ∀ g ∈ blockOf (.slice va b.length vc), W.heap.size ≤ g ∧ g < w3.heap.size := fun g hg => ⟨hvb.2 g hg, hOv.lt g hg⟩
      have hWl : ∀ g ∈ blockOf (.slice oa (opened pre).2.length oc), g < W.heap.size := fun g hg => by obtain ⟨cs, T, z, hc⟩ := (hlv g hg).2.2.2.2.2; exact (Array.getElem?_eq_some_iff.1 hc).1
      have hW3 : W.heap.size ≤ w3.heap.size := hT03.size
      have hWA : w3.heap.size < (w3.alloc (.cells #[.slice va b.length vc] 35)).drew.heap.size := alloc_lt _ _
      have hb5lt := hb5'.lt
      have b4A : Blk w4 (w.heap.size + 1) #[.pointer (some ⟨w.heap.size, 0, none⟩)] 56 := (b43.turn hTa (by simp)).turn hT4 (fun h => (hlv _ h).2.2.1 rfl)
      have b5A : Blk w4 (w.heap.size + 2) #[.bool true] 4 := (b53.turn hTa (by simp)).turn hT4 (fun h => (hlv _ h).2.2.2.1 rfl)
      have c44 := b4A.cells1
      have hop : opened (pre ++ [⟨(i, s), hlen, hi64⟩]) = (true, (opened pre).2 ++ [b]) := by
        rw [opened_step, hok.1, show recOf i s = some b from Hb.out]
      have fin : ∀ w5, w4.setCell ⟨w.heap.size, 3, none⟩ (.slice a1 ((opened pre).2.length + 1) c1) = w5 → KeepsFrom w1.heap.size W w5 ∧ Keeps w.heap.size (w.heap.size + 3) W w5 ∧
          OpenI w.heap.size w.heap.size (w.heap.size + 1) (w.heap.size + 2) (w.heap.size + 3) d (pre ++ [⟨(i, s), hlen, hi64⟩]) w5 ∧ Keeps w.heap.size (w.heap.size + 3) w1 w5 := by
        intro w5 hw5
        have hT45 : Turn [w.heap.size] w4 w5 := by rw [← hw5]; exact (Turn.refl _ _).setCell (p := ⟨w.heap.size, 3, none⟩) (by simp) _
        have hjF : Blk w5 w.heap.size #[.pointer (some ⟨d, 0, none⟩), .int .i64 0, .int .i64 ((i : Int) + 1), .slice a1 ((opened pre).2.length + 1) c1] 148 := by rw [← hw5]; exact hjA.set 3 _
        have hTA4 : TurnP (fun g => g = w.heap.size ∨ g = w.heap.size + 2 ∨ g ∈ blockOf (.slice oa (opened pre).2.length oc)) W w4 :=
          ((hT03.mono (G := fun g => g = w.heap.size ∨ g = w.heap.size + 2 ∨ g ∈ blockOf (.slice oa (opened pre).2.length oc)) (fun g hg => .inl (by omega))).trans (G := fun _ => False) hTa.toP0 (fun _ h => h.elim)).trans (TurnP.of_T hT4) (fun g hg => .inl (.inr (.inr hg)))
        have hTF := hTA4.trans (TurnP.of_T hT45) (fun g hg => .inl (.inl (by simpa using hg)))
        have hFc : ∀ g, (g = w.heap.size ∨ g = w.heap.size + 2 ∨ g ∈ blockOf (.slice oa (opened pre).2.length oc)) → CellB W g := by
          rintro g (rfl | rfl | h)
          · exact hj'.cellB
          · exact hb5'.cellB
          · exact (hlv g h).2.2.2.2.2
        have hKF : Keeps w.heap.size (w.heap.size + 3) W w5 := hTF.mono (fun g hg => .inl (by
          rcases hg with h | h | h
          · omega
          · omega
          · have := hlv g h; omega))
        have hRA := hR3.turnP (F := fun _ => False) hTa.toP0 (fun _ _ h => h) (fun _ _ _ _ h => h)
        have hS4 := ((hOv.turn hTa (by simp)).turn hT4 (fun g hg hg' => by have := hWv g hg; have := hWl g hg'; omega)).src
        have hR4 := hRA.snoc hT4 (.slice va b.length vc) b ⟨_, _, _, rfl⟩ hS4 hO4 hF4 (fun g hg hg' => by
          have h1 := hWv g (seatOf_sub hg)
          rcases hF4 g hg' with h | h
          · have := hWl g h; omega
          · omega)
        have hlv' : ∀ g ∈ blockOf (.slice a1 ((opened pre).2.length + 1) c1), w.heap.size ≤ g ∧ g ≠ w.heap.size ∧ g ≠ w.heap.size + 1 ∧ g ≠ w.heap.size + 2 ∧ g ≠ w.heap.size + 3 ∧ CellB w5 g := by
          intro g hg
          have hne : w.heap.size ≤ g ∧ g ≠ w.heap.size ∧ g ≠ w.heap.size + 1 ∧ g ≠ w.heap.size + 2 ∧ g ≠ w.heap.size + 3 := by
            rcases hF4 g hg with h | h
            · have := hlv g h; omega
            · have := hKp.size; omega
          exact ⟨hne.1, hne.2.1, hne.2.2.1, hne.2.2.2.1, hne.2.2.2.2, (hO4.cellB g hg).turnP (TurnP.of_T hT45) (by simp; omega)⟩
        have hvs' : ∀ x ∈ vs ++ [.slice va b.length vc], ∀ g ∈ seatOf x, w.heap.size ≤ g ∧ g ≠ w.heap.size ∧ g ≠ w.heap.size + 1 ∧ g ≠ w.heap.size + 2 ∧ g ≠ w.heap.size + 3 ∧ CellB w5 g := by
          intro x hx g hg
          rcases List.mem_append.1 hx with h | h
          · have q := hvs x h g hg
            exact ⟨q.1, q.2.1, q.2.2.1, q.2.2.2.1, q.2.2.2.2.1, q.2.2.2.2.2.turnP hTF (fun h' => by
              rcases h' with h' | h' | h'
              · omega
              · omega
              · exact hR.ne x h g hg h')⟩
          · simp only [List.mem_singleton] at h
            subst h
            replace hg := seatOf_sub hg
            have q := hWv g hg
            have := hKp.size
            refine ⟨by omega, by omega, by omega, by omega, by omega, ?_⟩
            exact (((hOv.cellB g hg).turnP (F := fun _ => False) hTa.toP0 (fun h => h)).turnP (TurnP.of_T hT4) (fun h => by have := hWl g h; omega)).turnP (TurnP.of_T hT45) (by simp; omega)
        refine ⟨hTF.keeps hFc _, hKF, ⟨b4A.turn hT45 (by simp), ?_, _, _, ?_, ?_, hlv', hvs'⟩, hKp.trans hKF (fun _ h => .inl h)⟩
        · rw [hop]; exact b5A.turn hT45 (by simp)
        · rw [sized_snoc]; exact hjF
        · rw [hop]; exact hR4.turnP (TurnP.of_T hT45) (fun g hg h => by have := hlv' g hg; simp at h; omega) (fun x hx g hg h => by have := hvs' x hx g hg; simp at h; omega)
      have Fin := Lib.hid fin
      clear fin hop b4A b5A hb5lt hWA hW3 hWl hWv hj4 hrun hO4 hT4 hF4 hjA hTa hR3 hOv hT03 hvb Hb Hv hok hb59 hlen2 hN64 hj3 b43 b53 hT23 HT hT02 b42 b52 hj2 c42 c52 f52 HI hb4' hb5' hj' hR hlv hvs bX c4 c2 f2 hBj hk64 hr hl hD1 hbn hb5 hb4 hj hT1 hD hsoon hs1 l1 l2 l3
      gi_region
      all_goals exact Fin.out _ rfl
    · have hst : openStep (opened pre) ⟨(i, s), hlen, hi64⟩ = (false, (opened pre).2) := by
        unfold openStep
        split
        · rename_i h1 h2
          exact absurd ⟨h1, by rw [h2]; rfl⟩ hok
        · rfl
      have hfl : ((opened pre).1 && (recOf i s).isSome) = false := by
        cases h1 : (opened pre).1 with
        | false => rfl
        | true =>
          cases h2 : (recOf i s).isSome with
          | false => rfl
          | true => exact absurd ⟨h1, h2⟩ hok
      have Hfl := Lib.hid hfl
      have hop : opened (pre ++ [⟨(i, s), hlen, hi64⟩]) = (false, (opened pre).2) := (opened_step pre ⟨(i, s), hlen, hi64⟩).trans hst
      have hT03 : TurnP (fun b => b = w.heap.size ∨ b = w.heap.size + 1 + 1) W (w2.setCell ⟨w.heap.size + 1 + 1, 0, none⟩ (.bool false)) :=
        ((hT02.mono (T := [w.heap.size, w.heap.size + 1 + 1]) (by simp)).setCell (p := ⟨w.heap.size + 1 + 1, 0, none⟩) (by simp) _).toP (by simp)
      have hF : ∀ b, (b = w.heap.size ∨ b = w.heap.size + 1 + 1) → CellB W b := by rintro b (rfl | rfl); exact hj'.cellB; exact hb5'.cellB
      have fin : KeepsFrom w1.heap.size W (w2.setCell ⟨w.heap.size + 1 + 1, 0, none⟩ (.bool false)) ∧ Keeps w.heap.size (w.heap.size + 3) W (w2.setCell ⟨w.heap.size + 1 + 1, 0, none⟩ (.bool false)) ∧
          OpenI w.heap.size w.heap.size (w.heap.size + 1) (w.heap.size + 2) (w.heap.size + 3) d (pre ++ [⟨(i, s), hlen, hi64⟩]) (w2.setCell ⟨w.heap.size + 1 + 1, 0, none⟩ (.bool false)) ∧ Keeps w.heap.size (w.heap.size + 3) w1 (w2.setCell ⟨w.heap.size + 1 + 1, 0, none⟩ (.bool false)) := by
        have hK3 : Keeps w.heap.size (w.heap.size + 3) W (w2.setCell ⟨w.heap.size + 1 + 1, 0, none⟩ (.bool false)) := hT03.mono (fun b hb => .inl (by omega))
        refine ⟨hT03.keeps hF _, hK3, ⟨b42.setOther _ _ (by simp), ?_, lv, vs, ?_, ?_, ?_, ?_⟩, hKp.trans hK3 (fun _ h => .inl h)⟩
        · rw [hop]; exact b52.set 0 _
        · rw [sized_snoc]; exact hj2.setOther _ _ (by simp; omega)
        · rw [hop]; exact hR.turnP hT03 (fun b hb h => by have := hlv b hb; omega) (fun v hv b hb h => by have := hvs v hv b hb; omega)
        · intro b hb; have q := hlv b hb; exact ⟨q.1, q.2.1, q.2.2.1, q.2.2.2.1, q.2.2.2.2.1, q.2.2.2.2.2.turnP hT03 (by omega)⟩
        · intro v hv b hb; have q := hvs v hv b hb; exact ⟨q.1, q.2.1, q.2.2.1, q.2.2.2.1, q.2.2.2.2.1, q.2.2.2.2.2.turnP hT03 (by omega)⟩
      have Fin := Lib.hid fin
      clear hst hfl hop hT03 hF fin
      obtain ⟨q1, hq1⟩ : ∃ q, (opened pre).1 = q := ⟨_, rfl⟩
      obtain ⟨q2, hq2⟩ : ∃ q, (recOf i s).isSome = q := ⟨_, rfl⟩
      rw [hq2]
      rw [hq1] at c52
      have Hq := Lib.hid (And.intro hq1 hq2)
      clear hok hq1 hq2
      cases q1
      · gi_wp2
        exact Fin.out
      · obtain rfl : q2 = false := by have h1 := Hfl.out; rw [Hq.out.1, Hq.out.2] at h1; simpa using h1
        gi_wp2
        exact Fin.out
  case done =>
    rintro D xs W hD' rfl ⟨⟨hb4', hb5', lv, vs, hj', hR, hlv, hvs⟩, hKp⟩ hK
    have c4 := hb4'.cells1
    have c3 := hj'.cells4.2.2.2
    have f1 := hj'.thaw 1
    have c1 := hj'.cells4.2.1
    obtain ⟨a, c, rfl⟩ := hR.own.form
    go_wp2
    go_region
    go_wp2
    have hDj : D ≠ w.heap.size := by omega
    have hKf : (W.setCell ⟨w.heap.size, 1, none⟩ (.int .i64 (opened (upto (secAt S) S.sure.length)).2.length)).drew.heap[D]? = some (.deferred (some [])) :=
      (heap_setCell_other W ⟨w.heap.size, 1, none⟩ D _ hDj).trans hK
    refine ⟨by simp, .inl ⟨_, _, rfl, run_takeDeferred hKf, ⟨_, results_tmp2 rfl _ _ _, w.heap.size, rfl, ?_, ?_⟩⟩⟩
    · have hTd : TurnP (fun b => some D = some b) _ _ := TurnP.of_row (grownBy_putObj' (W.setCell ⟨w.heap.size, 1, none⟩ (.int .i64 (opened (upto (secAt S) S.sure.length)).2.length)).drew D (.deferred none))
      have hTj : TurnP (fun b => b = w.heap.size) W (W.setCell ⟨w.heap.size, 1, none⟩ (.int .i64 (opened (upto (secAt S) S.sure.length)).2.length)).drew := ((Turn.refl [w.heap.size] W).setCell (p := ⟨w.heap.size, 1, none⟩) (by simp) _).drew.toP (by simp)
      have hnD : ∀ b, CellB W b → ¬ (some D = some b) := fun b hb e => by
        obtain ⟨cs, T, z, hc⟩ := hb
        cases e
        rw [hK] at hc
        cases hc
      have hsz : sized (upto (secAt S) S.sure.length) = S.sure.length := by
        cases hN : S.sure.length with
        | zero => rfl
        | succ m => rw [upto_succ, sized_snoc, secAt_eq (read_length hD (by omega) hsoon) (by have := hD.many; omega)]
      have hjF := ((hj'.set 1 (.int .i64 (opened (upto (secAt S) S.sure.length)).2.length)).drew).turnP hTd (hnD _ hj'.cellB)
      rw [hsz] at hjF
      refine ⟨⟨_, vs, hjF, (hR.turnP hTj (fun b hb => (hlv b hb).2.1) (fun v hv b hb => (hvs v hv b hb).2.1)).turnP hTd (fun b hb => hnD b (hlv b hb).2.2.2.2.2) (fun v hv b hb => hnD b (hvs v hv b hb).2.2.2.2.2), Nat.le_refl _,
        fun b hb => ⟨(hlv b hb).1, (hlv b hb).2.1⟩, fun v hv b hb => ⟨(hvs v hv b hb).1, (hvs v hv b hb).2.1⟩⟩, ⟨?_, hD.many⟩, opened_short _⟩
      have := opened_len (upto (secAt S) S.sure.length)
      rwa [upto_length] at this
    · have hTd : TurnP (fun b => some D = some b) _ _ := TurnP.of_row (grownBy_putObj' (W.setCell ⟨w.heap.size, 1, none⟩ (.int .i64 (opened (upto (secAt S) S.sure.length)).2.length)).drew D (.deferred none))
      have hTj : TurnP (fun b => b = w.heap.size) W (W.setCell ⟨w.heap.size, 1, none⟩ (.int .i64 (opened (upto (secAt S) S.sure.length)).2.length)).drew := ((Turn.refl [w.heap.size] W).setCell (p := ⟨w.heap.size, 1, none⟩) (by simp) _).drew.toP (by simp)
      have h1 : TurnP (fun b => w.heap.size ≤ b) w w1 := hT1.toP0
      have h2 := h1.trans hKp (fun b hb => .inl hb.1)
      have h3 := h2.trans hTj (fun b hb => .inl (by omega))
      have h4 := h3.trans hTd (fun b hb => .inl (by cases hb; omega))
      exact h4.toT (fun b hb => .inr hb)
  case stop =>
    rintro D c pre W _ _ h
    exact h.elim

end Go.Proofs.Ytkifggnjpgoamaa
