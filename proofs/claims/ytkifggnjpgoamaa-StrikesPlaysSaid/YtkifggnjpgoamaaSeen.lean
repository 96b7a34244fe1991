/- palfreylaw22.all: a journal's records as rows. -/
import Derived.Test.YtkifggnjpgoamaaAll
--OPEN
namespace Go.Proofs.Ytkifggnjpgoamaa
open Go.RowKit Go.Shelf
attribute [local go_sem] Oper.semAt_some

theorem results_cell_one {P : Program} {fn : Func} {p : Tmp} {ty : TypeId} (h : fn.results = #[.cell p ty]) (tmps : Array Value) (w : World) (b : Nat) (v : Value)
    (hp : tmps.getD p undef = .pointer (some ⟨b, 0, none⟩)) (hc : w.cell? ⟨b, 0, none⟩ = some v) (ha : ∀ w, (isAgg ty).run P w = .ok false w) :
    (results fn tmps).run P w = .ok v w := by
  have hp' : tmps[p]?.getD undef = .pointer (some ⟨b, 0, none⟩) := by simpa using hp
  simp [results, h, hp', asAddr, go_sem, ha, hc]

/-- Between two rounds. -/
structure RowsI (B0 B2 B3 Bn : Nat) (pre : List RecAt) (W : World) : Prop where
  b2 : Blk W B2 #[.slice none 0 0] 50
  good : pre.map (·.1.1) = List.range pre.length
  ex : ∃ lv vs, Blk W B3 #[lv] 50 ∧ RowsAt W lv vs (pre.map (·.1.2.2)) ∧
    (∀ b ∈ blockOf lv, B0 ≤ b ∧ b ≠ B2 ∧ b ≠ B3 ∧ b ≠ Bn ∧ CellB W b) ∧ (∀ v ∈ vs, ∀ b ∈ seatOf v, B0 ≤ b ∧ b ≠ B2 ∧ b ≠ B3 ∧ b ≠ Bn ∧ CellB W b)

theorem RowsI.turnP {B0 B2 B3 Bn : Nat} {pre : List RecAt} {W W' : World} {F : Nat → Prop} (h : RowsI B0 B2 B3 Bn pre W) (k : TurnP F W W') (hF : ∀ b, CellB W b → ¬ F b) : RowsI B0 B2 B3 Bn pre W' := by
  obtain ⟨h1, h2, lv, vs, h3, h4, h5, h6⟩ := h
  exact ⟨h1.turnP k (hF _ h1.cellB), h2, lv, vs, h3.turnP k (hF _ h3.cellB), h4.turnP k (fun b hb => hF _ (h5 b hb).2.2.2.2) (fun v hv b hb => hF _ (h6 v hv b hb).2.2.2.2),
    fun b hb => let q := h5 b hb; ⟨q.1, q.2.1, q.2.2.1, q.2.2.2.1, q.2.2.2.2.turnP k (hF _ q.2.2.2.2)⟩,
    fun v hv b hb => let q := h6 v hv b hb; ⟨q.1, q.2.1, q.2.2.1, q.2.2.2.1, q.2.2.2.2.turnP k (hF _ q.2.2.2.2)⟩⟩

theorem Try.eql_nilfunc (f : Fn) (x y : Array Value) (w : World) : (binOp .eql 161 (.func f x y) .nilFunc).run Try.prog w = .ok (.bool false) w := by kernel_rfl
attribute [local go_sem] Try.eql_nilfunc

set_option maxRecDepth 100000 in
set_option maxHeartbeats 2000000 in
theorem rows_any (j d size : Nat) (F : Nat → Prop) (recs : List (List UInt8)) (w : World) (hJ : JAt w F j d size recs) (hF : ∀ b, F b → b < w.heap.size) :
    Calls Try.prog 21 #[.pointer (some ⟨j, 0, none⟩)] w fun e w' => ∃ lv vs, e = .returned lv ∧ RowsAt w' lv vs recs ∧ Turn [] w w' ∧
      (∀ b ∈ blockOf lv, w.heap.size ≤ b) ∧ (∀ v ∈ vs, ∀ b ∈ seatOf v, w.heap.size ≤ b) := by
  refine (callsIn_wide (n := 6)).1 ?_
  refine callsIn_of_wp_marks Try.func21 rfl trivial ?_ rfl
  simp only [Try.ntmps21, List.size_toArray, List.length_cons, List.length_nil, Nat.reduceAdd, Nat.reduceSub, Array.replicate_succ, Array.replicate_zero, List.push_toArray, List.append_toArray, List.nil_append, List.cons_append]
  refine wpIn_wide.2 ?_
  go_wp2_with fail
  refine (all_any j _).mono ?_
  rintro e w1 ⟨rfl, hw1⟩
  have hb2 : Blk w1 w.heap.size #[.slice none 0 0] 50 := by
    rw [hw1]; exact ((Blk.new w _ _).alloc _).alloc _
  have hb3 : Blk w1 (w.heap.size + 1) #[.slice none 0 0] 50 := by
    rw [hw1]; have := Blk.new (w.alloc (.cells #[.slice none 0 0] 50)) #[.slice none 0 0] 50
    rw [World.size_alloc] at this
    exact this.alloc _
  have hbn : Blk w1 (w.heap.size + 2) #[.pointer (some ⟨j, 0, none⟩)] 56 := by
    rw [hw1]; have := Blk.new ((w.alloc (.cells #[.slice none 0 0] 50)).alloc (.cells #[.slice none 0 0] 50)) #[.pointer (some ⟨j, 0, none⟩)] 56
    simp only [World.size_alloc] at this
    exact this
  have hT1 : Turn [] w w1 := by rw [hw1]; exact (((Turn.refl _ _).alloc _).alloc _).alloc _
  have hs1 : w.heap.size + 3 ≤ w1.heap.size := hbn.lt
  simp only [World.size_alloc]
  clear hw1
  have hJ1 := hJ.turnP (G := fun _ => False) hT1.toP0 (fun _ _ h => h)
  go_wp2
  refine (wpIn_wide (n := 6)).1 ?_
  refine wpIn_rangeP (gf := 124) (lb := #[.pointer (some ⟨w.heap.size + 2, 0, none⟩)]) rfl (enters_of Try.func124 (by kernel_rfl) rfl)
    (all_stops 5 (w.heap.size + 2) w.heap.size j d size F recs w1 hF hbn hJ1)
    (fun h k => TurnP.trans h k (fun _ h => .inl h)) (fun W l o o' hl h1 h2 h3 => ?kb) (fun _ => rfl)
    (fun pre W => RowsI w.heap.size w.heap.size (w.heap.size + 1) (w.heap.size + 2) pre W ∧ Keeps w.heap.size (w.heap.size + 2) w1 W)
    (fun pre _ => ¬ pre.map (·.1.1) = List.range pre.length) ?hI (fun _ _ _ _ hs _ _ => hs) ?hPre ⟨⟨hb2, rfl, _, [], hb3, RowsAt.nil _, by simp [blockOf], by simp⟩, TurnP.refl _ _⟩
    (fun x a' W => a' = { tmps := #[.pointer (some ⟨j, 0, none⟩), undef, .pointer (some ⟨w.heap.size, 0, none⟩), .pointer (some ⟨w.heap.size + 1, 0, none⟩), .func (.func 124) #[] #[.pointer (some ⟨w.heap.size + 1 + 1, 0, none⟩)], .int .i64 x.1.1, x.val', .pointer (some ⟨j, 0, none⟩), .func (.func 124) #[] #[.pointer (some ⟨w.heap.size + 1 + 1, 0, none⟩)], .func (.func 124) #[] #[.pointer (some ⟨w.heap.size + 1 + 1, 0, none⟩)], .bool false, .func (.func 124) #[] #[.pointer (some ⟨w.heap.size + 1 + 1, 0, none⟩)], .int .i64 x.1.1, x.val', undef, undef, undef, undef, undef, undef, undef, undef, undef, undef, undef, undef, undef], defers := [] }) ?hAx ?assign ?body ?done ?stop
  case kb =>
    exact ⟨rfl, rfl, rfl, by simp, fun k hk hn => World.putObj_heap_other (fun e => hn ⟨by omega, by omega⟩)⟩
  case hI =>
    rintro pre A B row ⟨hs, hk⟩ hg hr
    exact ⟨hs.turnP (TurnP.of_row hg) (fun b hb => hb.not_row hr), hk.trans (TurnP.of_row hg) (fun x hx => .inr (hr x hx).1)⟩
  case hPre =>
    rintro C x A B row ⟨h1, h2⟩ hg hr
    exact ⟨h1.turnP (TurnP.of_row hg) (fun b hb => (h1.cellB b hb).not_row hr), h2⟩
  case hAx =>
    rintro a' x A B row h hg hr
    exact h
  case assign =>
    rintro l pre x W K hi hp hK
    gi_wp2
    exact hK _ _ (KeepsFrom.refl _ _) (TurnP.refl _ _) hi hp rfl
  case body =>
    rintro l pre ⟨⟨i, ⟨a, c⟩, row⟩, hi64, hr59⟩ a' W hl ⟨_, hKp⟩ ⟨W0, ⟨⟨gb2, hgood, lv, vs, gb3, gR, glv, gvs⟩, hK0⟩, hSi, hO, hfr⟩ rfl hlt
    simp only [RecAt.val'] at hO hfr hi64 hr59 ⊢
    have hb2 := gb2.turnP hSi (fun h => h gb2.cellB)
    have hb3 := gb3.turnP hSi (fun h => h gb3.cellB)
    have hR := gR.turnP hSi (fun b hb h => h (glv b hb).2.2.2.2) (fun v hv b hb h => h (gvs v hv b hb).2.2.2.2)
    have hlv : ∀ b ∈ blockOf lv, w.heap.size ≤ b ∧ b ≠ w.heap.size ∧ b ≠ w.heap.size + 1 ∧ b ≠ w.heap.size + 2 ∧ CellB W b ∧ b < W0.heap.size := fun b hb =>
      let q := glv b hb; ⟨q.1, q.2.1, q.2.2.1, q.2.2.2.1, q.2.2.2.2.turnP hSi (fun h => h q.2.2.2.2), by obtain ⟨_, _, _, h⟩ := q.2.2.2.2; exact (Array.getElem?_eq_some_iff.1 h).1⟩
    have hvs : ∀ v ∈ vs, ∀ b ∈ seatOf v, w.heap.size ≤ b ∧ b ≠ w.heap.size ∧ b ≠ w.heap.size + 1 ∧ b ≠ w.heap.size + 2 ∧ CellB W b := fun v hv b hb =>
      let q := gvs v hv b hb; ⟨q.1, q.2.1, q.2.2.1, q.2.2.2.1, q.2.2.2.2.turnP hSi (fun h => h q.2.2.2.2)⟩
    have hW0 := hSi.size
    have hW0s : w1.heap.size ≤ W0.heap.size := hK0.size
    have hb3l : w.heap.size + 1 < W0.heap.size := gb3.lt
    clear gb2 gb3 gR glv gvs
    obtain ⟨la, lc, rfl⟩ := hR.own.form
    rw [List.length_map] at hb3
    have c3 := hb3.cells1
    have hn64 := hJ.small
    have hi100 : (i : Int) ≤ 64 := by omega
    by_cases hip : i = pre.length
    · subst hip
      rw [List.length_map] at hR hlv
      have hT1 : Turn [] W (W.alloc (.cells #[.slice a row.length c] 35)) := (Turn.refl _ _).alloc _
      have hOw := hR.own.turn0 hT1
      rw [List.length_map] at hOw
      have HOw := Lib.hid hOw
      have hb31 := hb3.turn hT1 (by simp)
      have f31 := hb31.thaw 0
      have c31 := hb31.cells1
      have Hgood := Lib.hid hgood
      clear hOw hgood
      gi_wp2_with (first
        | (refine wpListIn_append rfl _ _ 50 rfl 35 (.slice none 0 0) 1 24 Try.underlying50 Try.info_slice rfl (by omega) (.slice la pre.length lc) rfl pre.length vs HOw.out (.slice (some ⟨W.heap.size, 0, none⟩) 1 1) rfl 1 [.slice a row.length c] (Src.whole (Blk.new W #[.slice a row.length c] 35) 1 1 (by omega)) rfl (by simp [Value.oneCell']) (by unfold maxLen; omega) (by omega) ?_
           intro a2 c2 w2 hO2 hT2 hF2
           have hb32 := hb31.turn hT2 (fun h => (hlv _ h).2.2.1 rfl)
           have c32 := hb32.cells1
           have f32 := hb32.thaw 0
           have HO2 := Lib.hid hO2
           have HT2 := Lib.hid hT2
           have HF2 := Lib.hid hF2
           clear hO2 hT2 hF2
           go_frame))
      have hT2 := HT2.out
      have hO2 := HO2.out
      have hF2 := HF2.out
      obtain ⟨w3, hw3⟩ : ∃ w3, w2.setCell ⟨w.heap.size + 1, 0, none⟩ (.slice a2 (pre.length + 1) c2) = w3 := ⟨_, rfl⟩
      rw [hw3]
      have hT23 : Turn [w.heap.size + 1] w2 w3 := by rw [← hw3]; exact (Turn.refl _ _).setCell (p := ⟨w.heap.size + 1, 0, none⟩) (by simp) _
      have hb33 : Blk w3 (w.heap.size + 1) #[.slice a2 (pre.length + 1) c2] 50 := by rw [← hw3]; exact hb32.set 0 _
      have hal := alloc_lt W (.cells #[.slice a row.length c] 35)
      have hKs := hKp.size
      have hTF : TurnP (fun b => b = w.heap.size + 1 ∨ b ∈ blockOf (.slice la pre.length lc)) W w3 :=
        (TurnP.trans (G := fun b => b ∈ blockOf (.slice la pre.length lc)) (hT1.toP0 (F := fun b => b = w.heap.size + 1 ∨ b ∈ blockOf (.slice la pre.length lc))) (TurnP.of_T hT2) (fun b hb => .inl (.inr hb))).trans (TurnP.of_T hT23) (fun b hb => .inl (.inl (by simpa using hb)))
      have hFc : ∀ b, (b = w.heap.size + 1 ∨ b ∈ blockOf (.slice la pre.length lc)) → CellB W b := by
        rintro b (rfl | h)
        · exact hb3.cellB
        · exact (hlv b h).2.2.2.2.1
      have hKF : Keeps w.heap.size (w.heap.size + 2) W w3 := hTF.mono (fun b hb => .inl (by
        rcases hb with h | h
        · omega
        · have := hlv b h; omega))
      have hWv : ∀ g ∈ blockOf (.slice a row.length c), W0.heap.size ≤ g ∧ g < W.heap.size := fun g hg => ⟨hfr g hg, hO.lt g hg⟩
      have hRA := hR.turnP (F := fun _ => False) hT1.toP0 (fun _ _ h => h) (fun _ _ _ _ h => h)
      have hS2 := ((hO.turn hT1 (by simp)).turn hT2 (fun g hg hg' => by have := hWv g hg; have := hlv g hg'; omega)).src
      have hR2 := hRA.snoc hT2 (.slice a row.length c) row ⟨_, _, _, rfl⟩ hS2 (by rw [List.length_map]; exact hO2) hF2 (fun g hg hg' => by
        have h1 := hWv g (seatOf_sub hg)
        rcases hF2 g hg' with h | h
        · have := hlv g h; omega
        · omega)
      have hlv' : ∀ g ∈ blockOf (.slice a2 (pre.length + 1) c2), w.heap.size ≤ g ∧ g ≠ w.heap.size ∧ g ≠ w.heap.size + 1 ∧ g ≠ w.heap.size + 2 ∧ CellB w3 g := by
        intro g hg
        have hne : w.heap.size ≤ g ∧ g ≠ w.heap.size ∧ g ≠ w.heap.size + 1 ∧ g ≠ w.heap.size + 2 := by
          rcases hF2 g hg with h | h
          · have := hlv g h; omega
          · have := hSi.size; have := hbn.lt; omega
        exact ⟨hne.1, hne.2.1, hne.2.2.1, hne.2.2.2, (hO2.cellB g hg).turnP (TurnP.of_T hT23) (by simp; omega)⟩
      have hvs' : ∀ x ∈ vs ++ [.slice a row.length c], ∀ g ∈ seatOf x, w.heap.size ≤ g ∧ g ≠ w.heap.size ∧ g ≠ w.heap.size + 1 ∧ g ≠ w.heap.size + 2 ∧ CellB w3 g := by
        intro x hx g hg
        rcases List.mem_append.1 hx with h | h
        · have q := hvs x h g hg
          exact ⟨q.1, q.2.1, q.2.2.1, q.2.2.2.1, q.2.2.2.2.turnP hTF (fun h' => by
            rcases h' with h' | h'
            · omega
            · exact hR.ne x h g hg h')⟩
        · simp only [List.mem_singleton] at h
          subst h
          replace hg := seatOf_sub hg
          have q := hWv g hg
          have := hbn.lt
          have := hW0s
          refine ⟨by omega, by omega, by omega, by omega, ?_⟩
          exact (((hO.cellB g hg).turnP (F := fun _ => False) hT1.toP0 (fun h => h)).turnP (TurnP.of_T hT2) (fun h => by have := hlv g h; omega)).turnP (TurnP.of_T hT23) (by simp; omega)
      refine ⟨hTF.keeps hFc _, hKF, ⟨(hb2.turnP hTF (fun h => by
          rcases h with h | h
          · omega
          · exact (hlv _ h).2.1 rfl)), ?_, _, _, hb33, ?_, hlv', hvs'⟩, hKp.trans hKF (fun _ h => .inl h)⟩
      · rw [List.map_append, Hgood.out, List.length_append, List.length_singleton, List.range_succ]; rfl
      · rw [List.map_append]
        exact hR2.turnP (TurnP.of_T hT23) (fun g hg h => by have := hlv' g hg; simp at h; omega) (fun x hx g hg h => by have := hvs' x hx g hg; simp at h; omega)
    · have hip' : ¬ ((i : Int) = (pre.length : Int)) := by omega
      have f2 := hb2.thaw 0
      have c2 := hb2.cells1
      have bad : ¬ (pre ++ [(⟨(i, (a, c), row), hi64, hr59⟩ : RecAt)]).map (·.1.1) = List.range (pre ++ [(⟨(i, (a, c), row), hi64, hr59⟩ : RecAt)]).length := by
        rw [List.map_append, hgood, List.length_append, List.length_singleton, List.range_succ]
        intro h
        have := (List.append_cancel_left h)
        simp at this
        exact hip this
      have Bad := Lib.hid bad
      clear bad
      gi_wp2
      refine ⟨(KeepsOthers.setCell _ _ _).from _, Bad.out⟩
  case done =>
    rintro D xs W hD' ⟨hS1, hS2⟩ ⟨⟨hb2, hgood, lv, vs, hb3, hR, hlv, hvs⟩, hKp⟩ hK
    have c3 := hb3.cells1
    have f2 := hb2.thaw 0
    have c2 := hb2.cells1
    rw [hS1] at hR
    obtain ⟨la, lc, rfl⟩ := hR.own.form
    have HS := Lib.hid (And.intro hS1 hS2)
    clear hS1 hS2 hgood
    go_wp2
    obtain ⟨Wf, hWf⟩ : ∃ Wf, W.setCell ⟨w.heap.size, 0, none⟩ (.slice la recs.length lc) = Wf := ⟨_, rfl⟩
    have hTf : TurnP (fun b => b = w.heap.size) W Wf := by rw [← hWf]; exact ((Turn.refl [w.heap.size] W).setCell (p := ⟨w.heap.size, 0, none⟩) (by simp) _).toP (by simp)
    have hbf : Blk Wf w.heap.size #[.slice la recs.length lc] 50 := by rw [← hWf]; exact hb2.set 0 _
    rw [hWf]
    have hDj : D ≠ w.heap.size := by omega
    have hKf : Wf.heap[D]? = some (.deferred (some [])) := (hTf.block D (Array.getElem?_eq_some_iff.1 hK).1 hDj).trans hK
    have hTd : TurnP (fun b => some D = some b) Wf (Wf.putObj D (.deferred none)) := TurnP.of_row (grownBy_putObj' Wf D (.deferred none))
    have hnD : ∀ b, CellB W b → ¬ (some D = some b) := fun b hb e => by
      obtain ⟨cs, T, z, hc⟩ := hb
      cases e
      rw [hK] at hc
      cases hc
    refine ⟨by simp, .inl ⟨_, _, rfl, run_takeDeferred hKf, ⟨_, results_cell_one rfl _ _ w.heap.size (.slice la recs.length lc) rfl (hbf.turnP hTd (hnD _ hb2.cellB)).cells1 Try.isAgg50, _, vs, rfl, ?_, ?_, fun b hb => (hlv b hb).1, fun v hv b hb => (hvs v hv b hb).1⟩⟩⟩
    · exact (hR.turnP hTf (fun b hb => (hlv b hb).2.1) (fun v hv b hb => (hvs v hv b hb).2.1)).turnP hTd (fun b hb => hnD b (hlv b hb).2.2.2.2) (fun v hv b hb => hnD b (hvs v hv b hb).2.2.2.2)
    · have h1 : TurnP (fun b => w.heap.size ≤ b) w w1 := hT1.toP0
      have h2 := h1.trans hKp (fun b hb => .inl hb.1)
      have h3 := h2.trans hTf (fun b hb => .inl (by omega))
      have h4 := h3.trans hTd (fun b hb => .inl (by cases hb; omega))
      exact h4.toT (fun b hb => .inr hb)
  case stop =>
    rintro D pre W _ h1 h2 _
    exact absurd h1 h2

theorem JAt.here {w : World} {F : Nat → Prop} {j d size : Nat} {recs : List (List UInt8)} (h : JAt w F j d size recs) : JAt w (fun b => F b ∧ b < w.heap.size) j d size recs := by
  obtain ⟨⟨lv, vs, h1, h2, h3, h4, h5⟩, h6, h7⟩ := h
  refine ⟨⟨lv, vs, h1, h2, ⟨h3, h1.lt⟩, fun b hb => ⟨⟨(h4 b hb).1, h2.own.lt b hb⟩, (h4 b hb).2⟩, fun v hv b hb => ⟨⟨(h5 v hv b hb).1, ?_⟩, (h5 v hv b hb).2⟩⟩, h6, h7⟩
  obtain ⟨i, hi, rfl⟩ := List.mem_iff_getElem.1 hv
  exact (h2.src i hi (by rw [← h2.len]; exact hi)).below b hb

theorem rows_here (j d size : Nat) (F : Nat → Prop) (recs : List (List UInt8)) (w : World) (hJ : JAt w F j d size recs) :
    Calls Try.prog 21 #[.pointer (some ⟨j, 0, none⟩)] w fun e w' => ∃ lv vs, e = .returned lv ∧ RowsAt w' lv vs recs ∧ Turn [] w w' ∧
      (∀ b ∈ blockOf lv, w.heap.size ≤ b) ∧ (∀ v ∈ vs, ∀ b ∈ seatOf v, w.heap.size ≤ b) :=
  rows_any j d size _ recs w hJ.here (fun _ h => h.2)
end Go.Proofs.Ytkifggnjpgoamaa
