/- Contracts of package strikes: Open. -/
import Derived.Test.YtkifggnjpgoamaaAdd
import Derived.Test.YtkifggnjpgoamaaAll
namespace Go.Proofs.Ytkifggnjpgoamaa
open Go.RowKit Go.Shelf
attribute [local go_sem] Oper.semAt_some
variable {w0 w w' : World} {R : List HA} {l lm j d sb mb : Nat} {M : Led} {Z : JSt}

theorem led_at (h1 : Blk w l #[.pointer (some ⟨j, 0, none⟩), .map (some lm)] 191) (h2 : IMap w lm (asM stkV M)) (h3 : l ≠ lm) (h4 : Led.wf M) : (ledH l lm j M).at' w (fun b => b = l ∨ b = lm) := ⟨h1, h2, h3, h4, rfl⟩
theorem take_low (n : Nat) (a : Option Addr) (c : Nat) (bs : List UInt8) (hn : n = bs.length) (hx : n ≤ 1000) (h1 : Blk w l #[.pointer (some ⟨j, 0, none⟩), .map (some lm)] 191) (h2 : IMap w lm (asM stkV M)) (h3 : l ≠ lm) (h4 : Led.wf M) (hs : Src w (.slice a n c) n (bvs bs)) :
    Calls Try.prog 125 #[.pointer (some ⟨l, 0, none⟩), .slice a n c] w fun e w' => e = .returned (.tuple #[]) ∧ TurnP (fun b => b = l ∨ b = lm) w w' ∧ Blk w' l #[.pointer (some ⟨j, 0, none⟩), .map (some lm)] 191 ∧ IMap w' lm (asM stkV (takeM M bs)) ∧ Led.wf (takeM M bs) := by
  refine (take_any n a c bs hn hx (St.all (led_at h1 h2 h3 h4)) hs).mono ?_
  rintro e w' ⟨rfl, h⟩
  obtain ⟨k, _⟩ := h.unall
  obtain ⟨a1, a2, a3, a4⟩ := h.led
  exact ⟨rfl, k, a1, a2, a4⟩

theorem TurnP.keepsLt {w w' : World} {F : Nat → Prop} {B : Nat} (k : TurnP F w w') (hF : ∀ b, F b → b < B) : KeepsFrom B w w' :=
  ⟨k.size, fun b o hB hb ho => (k.block b (Array.getElem?_eq_some_iff.1 hb).1 (fun h => by have := hF b h; omega)).trans hb⟩

set_option maxRecDepth 100000 in
set_option maxHeartbeats 2000000 in
theorem sopen_low (j d size : Nat) (F : Nat → Prop) (recs : List (List UInt8)) (w : World) (hJ : JAt w F j d size recs) (hF : ∀ b, F b → b < w.heap.size) :
    Calls Try.prog 74 #[.pointer (some ⟨j, 0, none⟩)] w fun e w' => ∃ l lm, e = .returned (.tuple #[.pointer (some ⟨l, 0, none⟩), .int .i64 0]) ∧ Turn [] w w' ∧ w.heap.size ≤ l ∧ w.heap.size ≤ lm ∧ l ≠ lm ∧
      Blk w' l #[.pointer (some ⟨j, 0, none⟩), .map (some lm)] 191 ∧ IMap w' lm (asM stkV (ledOf recs)) := by
  refine (callsIn_wide (n := 6)).1 ?_
  have hmm := @run_makeMap Try.prog
  refine callsIn_of_wp_marks Try.func74 rfl trivial ?_ rfl
  simp only [Try.ntmps74, List.size_toArray, List.length_cons, List.length_nil, Nat.reduceAdd, Nat.reduceSub, Array.replicate_succ, Array.replicate_zero, List.push_toArray, List.append_toArray, List.nil_append, List.cons_append]
  refine wpIn_wide.2 ?_
  go_wp2_with fail
  refine (all_any j _).mono ?_
  rintro e w1 ⟨rfl, hw1⟩
  have hmp : IMap w1 w.heap.size [] := by
    rw [hw1]; exact (((IMap.new w).alloc _).alloc _).alloc _
  have hbl : Blk w1 (w.heap.size + 1) #[.pointer (some ⟨j, 0, none⟩), .map (some w.heap.size)] 191 := by
    rw [hw1]; have := Blk.new (w.alloc (.map #[] 0)) #[.pointer (some ⟨j, 0, none⟩), .map (some w.heap.size)] 191
    rw [World.size_alloc] at this
    exact (this.alloc _).alloc _
  have hb4 : Blk w1 (w.heap.size + 2) #[.pointer (some ⟨w.heap.size + 1, 0, none⟩)] 67 := by
    rw [hw1]; have := Blk.new ((w.alloc (.map #[] 0)).alloc (.cells #[.pointer (some ⟨j, 0, none⟩), .map (some w.heap.size)] 191)) #[.pointer (some ⟨w.heap.size + 1, 0, none⟩)] 67
    simp only [World.size_alloc] at this
    exact this.alloc _
  have hbn : Blk w1 (w.heap.size + 3) #[.pointer (some ⟨j, 0, none⟩)] 56 := by
    rw [hw1]; have := Blk.new (((w.alloc (.map #[] 0)).alloc (.cells #[.pointer (some ⟨j, 0, none⟩), .map (some w.heap.size)] 191)).alloc (.cells #[.pointer (some ⟨w.heap.size + 1, 0, none⟩)] 67)) #[.pointer (some ⟨j, 0, none⟩)] 56
    simp only [World.size_alloc] at this
    exact this
  have hT1 : Turn [] w w1 := by rw [hw1]; exact ((((Turn.refl _ _).alloc _).alloc _).alloc _).alloc _
  have hs1 : w.heap.size + 4 ≤ w1.heap.size := hbn.lt
  simp only [World.size_alloc]
  clear hw1 hmm
  have hJ1 := hJ.turnP (G := fun _ => False) hT1.toP0 (fun _ _ h => h)
  go_wp2
  refine (wpIn_wide (n := 6)).1 ?_
  refine wpIn_rangeP (gf := 124) (lb := #[.pointer (some ⟨w.heap.size + 3, 0, none⟩)]) rfl (enters_of Try.func124 (by kernel_rfl) rfl)
    (all_stops 5 (w.heap.size + 3) w.heap.size j d size F recs w1 hF hbn hJ1)
    (fun h k => TurnP.trans h k (fun _ h => .inl h)) (fun W l o o' hl h1 h2 h3 => ?kb) (fun _ => rfl)
    (fun pre W => (Blk W (w.heap.size + 2) #[.pointer (some ⟨w.heap.size + 1, 0, none⟩)] 67 ∧ Blk W (w.heap.size + 1) #[.pointer (some ⟨j, 0, none⟩), .map (some w.heap.size)] 191 ∧ IMap W w.heap.size (asM stkV (ledOf (pre.map (·.1.2.2))))) ∧ Keeps w.heap.size (w.heap.size + 3) w1 W)
    (fun _ _ => False) ?hI (fun _ _ _ _ hs _ _ => hs) ?hPre ⟨⟨hb4, hbl, hmp⟩, TurnP.refl _ _⟩
    (fun x a' W => a' = { tmps := #[.pointer (some ⟨j, 0, none⟩), undef, .pointer none, .int .i64 0, .pointer (some ⟨w.heap.size + 1 + 1, 0, none⟩), undef, x.val', .pointer (some ⟨j, 0, none⟩), .bool false, .pointer (some ⟨j, 0, none⟩), .map (some w.heap.size), .agg #[.pointer (some ⟨j, 0, none⟩), .map (some w.heap.size)], .pointer (some ⟨w.heap.size + 1, 0, none⟩), .pointer (some ⟨j, 0, none⟩), .func (.func 124) #[] #[.pointer (some ⟨w.heap.size + 1 + 1 + 1, 0, none⟩)], .int .i64 x.1.1, x.val', undef, undef, undef, undef], defers := [] }) ?hAx ?assign ?body ?done ?stop
  case kb =>
    exact ⟨rfl, rfl, rfl, by simp, fun k hk hn => World.putObj_heap_other (fun e => hn ⟨by omega, by omega⟩)⟩
  case hI =>
    rintro pre A B row ⟨⟨g1, g2, g3⟩, hk⟩ hg hr
    have hlt : ∀ b, b < w1.heap.size → ¬ row = some b := fun b hb e => by have := (hr b e).1; omega
    exact ⟨⟨g1.turnP (TurnP.of_row hg) (hlt _ (by omega)), g2.turnP (TurnP.of_row hg) (hlt _ (by omega)), g3.turnP (TurnP.of_row hg) (hlt _ (by omega))⟩, hk.trans (TurnP.of_row hg) (fun x hx => .inr (hr x hx).1)⟩
  case hPre =>
    rintro C x A B row ⟨h1, h2⟩ hg hr
    exact ⟨h1.turnP (TurnP.of_row hg) (fun b hb => (h1.cellB b hb).not_row hr), h2⟩
  case hAx =>
    rintro a' x A B row h hg hr
    exact h
  case assign =>
    rintro l pre x W K hi hp hK
    gi_wp2
    exact hK _ _ (KeepsFrom.refl _ _) (TurnP.refl _ _) hi hp rfl
  case body =>
    rintro l pre ⟨⟨i, ⟨a, c⟩, row⟩, hi64, hr59⟩ a' W hl ⟨⟨g1, g2, g3⟩, hKp⟩ ⟨W0, _, hSi, hO, hfr⟩ rfl hlt
    simp only [RecAt.val'] at hO hfr hi64 hr59 ⊢
    have c4 := g1.cells1
    have hled : ledOf ((pre ++ [(⟨(i, (a, c), row), hi64, hr59⟩ : RecAt)]).map (·.1.2.2)) = takeM (ledOf (pre.map (·.1.2.2))) row := by
      rw [List.map_append]; exact ledOf_snoc _ _
    have HL := Lib.hid hled
    clear hled
    gi_wp2
    refine ⟨trivial, (CallsIn.inRound l (callsIn_wide.2 (take_low row.length a c row rfl (by omega) g2 g3 (by omega) (wf_ledOf _) hO.src))).mono ?_⟩
    rintro e w2 ⟨rfl, hk, hB2, hM2, _⟩
    have hK2 : Keeps w.heap.size (w.heap.size + 3) W w2 := hk.mono (fun b hb => .inl (by omega))
    have fin : KeepsFrom w1.heap.size W w2 ∧ Keeps w.heap.size (w.heap.size + 3) W w2 ∧ (Blk w2 (w.heap.size + 2) #[.pointer (some ⟨w.heap.size + 1, 0, none⟩)] 67 ∧ Blk w2 (w.heap.size + 1) #[.pointer (some ⟨j, 0, none⟩), .map (some w.heap.size)] 191 ∧
        IMap w2 w.heap.size (asM stkV (ledOf ((pre ++ [(⟨(i, (a, c), row), hi64, hr59⟩ : RecAt)]).map (·.1.2.2))))) ∧ Keeps w.heap.size (w.heap.size + 3) w1 w2 := by
      rw [HL.out]
      exact ⟨hk.keepsLt (fun b hb => by omega), hK2, ⟨g1.turnP hk (by omega), hB2, hM2⟩, hKp.trans hK2 (fun _ h => .inl h)⟩
    have Fin := Lib.hid fin
    clear fin hK2 hB2 hM2 hk g1 g2 g3 HL c4
    gi_wp2
    exact Fin.out
  case done =>
    rintro D xs W hD' ⟨hS1, hS2⟩ ⟨⟨g1, g2, g3⟩, hKp⟩ hK
    have c4 := g1.cells1
    rw [hS1] at g3
    have HS := Lib.hid (And.intro hS1 hS2)
    clear hS1 hS2
    go_wp2
    have hTd : TurnP (fun b => some D = some b) W (W.putObj D (.deferred none)) := TurnP.of_row (grownBy_putObj' W D (.deferred none))
    refine ⟨by simp, .inl ⟨_, _, rfl, run_takeDeferred hK, ⟨_, results_tmp2 rfl _ _ _, w.heap.size + 1, w.heap.size, rfl, ?_, by omega, by omega, by omega, g2.turnP hTd (fun e => by cases e; omega), g3.turnP hTd (fun e => by cases e; omega)⟩⟩⟩
    have h1 : TurnP (fun b => w.heap.size ≤ b) w w1 := hT1.toP0
    have h2 := h1.trans hKp (fun b hb => .inl hb.1)
    have h3 := h2.trans hTd (fun b hb => .inl (by cases hb; omega))
    exact h3.toT (fun b hb => .inr hb)
  case stop =>
    rintro D pre W _ _ h
    exact h.elim

theorem sopen_any (h : St w0 (rigH d sb mb j Z :: R) w) : Calls Try.prog 74 #[.pointer (some ⟨j, 0, none⟩)] w fun e w' => ∃ l lm, e = .returned (.tuple #[.pointer (some ⟨l, 0, none⟩), .int .i64 0]) ∧ St w0 (ledH l lm j (ledOf Z.recs) :: rigH d sb mb j Z :: R) w' := by
  obtain ⟨G, z, hD, hJ, hG, hL, hB, hC⟩ := h.rig apart_nil
  refine (sopen_low j d Z.N G Z.recs w hJ (fun b hb => (hB b (.inl hb)).2)).mono ?_
  rintro e w' ⟨l, lm, rfl, hT, h1, h2, h3, h4, h5⟩
  refine ⟨l, lm, rfl, h.more hT [ledH l lm j (ledOf Z.recs)] _ (Sep.one (led_at h4 h5 h3 (wf_ledOf _))) ?_⟩
  rintro b (rfl | rfl)
  · exact h1
  · exact h2

set_option maxHeartbeats 400000 in
theorem sopen_nil (w : World) : Calls Try.prog 74 #[.pointer none] w fun e w' => e = .returned (.tuple #[.pointer none, .int .i64 1]) ∧ w = w' := by
  go_enter Try.func74, Try.ntmps74
  go_wp2
  go_ret2
  exact ⟨rfl, rfl⟩
end Go.Proofs.Ytkifggnjpgoamaa
