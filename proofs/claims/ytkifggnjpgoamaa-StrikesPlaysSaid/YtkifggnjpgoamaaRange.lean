/- A range over a function whose body may lean on what the iterator has just laid in memory ('Pre x W'): the loop's law at the wide fence, for loops that run out or return. -/
import Derived.Test.YtkifggnjpgoamaaFence
namespace Go.Proofs.Ytkifggnjpgoamaa
open Go.RowKit

/-- A block of cells. -/
def CellB (w : World) (b : Nat) : Prop := ∃ cs T z, w.heap[b]? = some (.cells cs T z)
theorem CellB.turnP {w w' : World} {b : Nat} {F : Nat → Prop} (h : CellB w b) (k : TurnP F w w') (hn : ¬ F b) : CellB w' b := by
  obtain ⟨cs, T, z, h⟩ := h
  exact ⟨cs, T, z, (k.block b (Array.getElem?_eq_some_iff.1 h).1 hn).trans h⟩
theorem Blk.cellB {w : World} {b : Nat} {cs : Array Value} {T : TypeId} (h : Blk w b cs T) : CellB w b := ⟨_, _, _, h⟩
theorem Own.cellB {w : World} {E size : Nat} {v : Value} {n : Nat} {xs : List Value} (h : Own w E size v n xs) : ∀ b ∈ blockOf v, CellB w b := by
  obtain ⟨_, ⟨rfl, _⟩ | ⟨g, cap, cur, rfl, _, hh, _⟩⟩ := h
  · simp [blockOf]
  · intro b hb
    simp only [blockOf, List.mem_singleton] at hb
    subst hb
    exact ⟨_, _, _, hh⟩
theorem CellB.not_row {w : World} {b : Nat} (h : CellB w b) {row : Option Nat} {B : Nat} (hr : ∀ r, row = some r → B ≤ r ∧ ∃ o : Obj, w.heap[r]? = some o ∧ o.isCells = false) : ¬ (row = some b) := by
  intro e
  obtain ⟨_, o, ho, hc⟩ := hr b e
  obtain ⟨cs, T, z, hb⟩ := h
  rw [hb] at ho
  cases ho
  cases hc
theorem TurnP.keeps {w w' : World} {F : Nat → Prop} (k : TurnP F w w') (hF : ∀ b, F b → CellB w b) (B : Nat) : KeepsFrom B w w' :=
  ⟨k.size, fun b o _ hb ho => (k.block b (Array.getElem?_eq_some_iff.1 hb).1 (fun h => by
    obtain ⟨cs, T, z, hc⟩ := hF b h
    rw [hb] at hc
    cases hc
    cases ho)).trans hb⟩
theorem TurnP.of_row {w w' : World} {row : Option Nat} (g : w.grownBy w' row) : TurnP (fun b => row = some b) w w' := ⟨g.os, g.tape, g.output, g.size, fun k hk hn => g.block k hk (fun e => hn e.symm)⟩

/-- What is no cells may have turned since. -/
abbrev Since (W0 W : World) : Prop := TurnP (fun b => ¬ CellB W0 b) W0 W
/-- The iterator's contract: it hands out elements of which 'Pre x B' holds as they come, B being the heap's size a little before, where the caller's own word held. -/
def SeqP {α : Type} (n : Nat) (P : Program) (gf : Nat) (lb : Array Value) (encs : α → Array Value) (Kp : World → World → Prop) (Pre : α → Nat → World → Prop) (S Sp : List α → Prop) (N : Nat) (w : World) : Prop :=
  ∀ (l : Nat) (J Jx : List α → World → Prop) (W : World), Below w.heap.size w W → AbidesFrom W.heap.size J → AbidesFrom W.heap.size Jx →
    (∀ pre x W0 W1, J pre W0 → Turn [] W0 W1 → Pre x W0.heap.size W1 → pre.length < N → YieldAt Fence.wide (n - 1) P l (encs x) W1 fun e W' =>
      (e = .returned (.bool true) ∧ J (pre ++ [x]) W' ∧ Kp W1 W') ∨ (e = .returned (.bool false) ∧ Jx (pre ++ [x]) W')) →
    J [] W →
    CallsIn Fence.wide n P gf (#[.func (.yield l) #[] #[]] ++ lb) W fun e W' => (∃ v, e = .returned v) ∧ ((∃ xs, S xs ∧ J xs W') ∨ (∃ pre, Sp pre ∧ Jx pre W'))

/-- The caller's word a little before an element came, and what is known of the element. -/
def Come {α : Type} (I : List α → World → Prop) (Pre : α → Nat → World → Prop) (pre : List α) (x : α) (W : World) : Prop := ∃ W0, I pre W0 ∧ Since W0 W ∧ Pre x W0.heap.size W
theorem Come.own {α : Type} {B : Nat} {I : List α → World → Prop} {Pre : α → Nat → World → Prop} (hPre : ∀ C, OwnFrom B (fun x W => Pre x C W)) (pre : List α) : OwnFrom B (fun x W => Come I Pre pre x W) := by
  rintro x A C row ⟨W0, h1, h2, h3⟩ hg hr
  refine ⟨W0, h1, h2.trans (TurnP.of_row hg) (fun b hb => ?_), hPre _ x A C row h3 hg hr⟩
  by_cases hc : CellB W0 b
  · exact absurd hb ((hc.turnP h2 (fun h => h hc)).not_row hr)
  · exact .inl hc

/-- Where a round's body may end: it goes on, or it returns. -/
def endP {α : Type} (B : Nat) (Kp : World → World → Prop) (I Ix : List α → World → Prop) (xs : List α) (W : World) : Exit → Act → World → Prop
  | .normal, _, W' => KeepsFrom B W W' ∧ Kp W W' ∧ I xs W'
  | .ret, _, W' => KeepsFrom B W W' ∧ Ix xs W'
  | _, _, _ => False

section
variable {α : Type} {n : Nat} {P : Program} {w : World} {a : Act}
theorem wpIn_rangeP {g : Operand} {ps : Array Tmp} {assign body : Code} {Q : Exit → Act → World → Prop}
    {gf : Nat} {lb : Array Value} (hg : a.eval g = .func (.func gf) #[] lb) (eg : ∀ args w, (callFunc gf args).run P w = .ok (.enter gf args) w)
    {encs : α → Array Value} {Kp : World → World → Prop} {Pre : α → Nat → World → Prop} {S Sp : List α → Prop} {N : Nat} (hseq : SeqP (n - 1) P gf lb encs Kp Pre S Sp N w)
    (hKt : ∀ {A B C : World}, Kp A B → Kp B C → Kp A C) (hKb : ∀ (W : World) (l : Nat) (o o' : Obj), w.heap.size ≤ l → W.heap[l]? = some o → o.isCells = false → o.isWalk = false → Kp W (W.putObj l o')) (hps : ∀ x, (encs x).size = ps.size)
    (I Ix : List α → World → Prop) (hI : OwnFrom w.heap.size I) (hIx : OwnFrom w.heap.size Ix) (hPre : ∀ C, OwnFrom w.heap.size (fun x W => Pre x C W)) (h0 : I [] w)
    (Ax : α → Act → World → Prop) (hAx : ∀ a', OwnFrom w.heap.size (fun x W => Ax x a' W))
    (hassign : ∀ (l : Nat) (pre : List α) (x : α) (W : World) (K : Act → World → Prop), I pre W → Come I Pre pre x W → (∀ a' W', KeepsFrom w.heap.size W W' → Kp W W' → I pre W' → Come I Pre pre x W' → Ax x a' W' → K a' W') →
      assign.wpIn (Fence.wide.inRound l) (n - 1 - 1) P (Exit.then K (fun _ _ _ => False)) { tmps := (ps.zip (encs x)).foldl (fun t (p, v) => t.setIfInBounds p v) a.tmps, defers := [] } W)
    (hbody : ∀ (l : Nat) (pre : List α) (x : α) (a' : Act) (W : World), w.heap.size ≤ l → I pre W → Come I Pre pre x W → Ax x a' W → pre.length < N → body.wpIn (Fence.wide.inRound l) (n - 1 - 1) P (endP w.heap.size Kp I Ix (pre ++ [x]) W) a' W)
    (hdone : ∀ (D : Nat) (xs : List α) (W : World), w.heap.size ≤ D → S xs → I xs W → W.heap[D]? = some (.deferred (some [])) → Q .normal { a with defers := { target := .collected D, args := #[] } :: a.defers } W)
    (hstop : ∀ (D : Nat) (pre : List α) (W : World), w.heap.size ≤ D → Sp pre → Ix pre W → W.heap[D]? = some (.deferred (some [])) → Code.ret.wpIn Fence.wide n P Q { a with defers := { target := .collected D, args := #[] } :: a.defers } W) :
    (Code.rangeFunc g ps assign body).wpIn Fence.wide n P Q a w := by
  refine wpIn_rangeFunc fun fn _ => ?_
  -- the loop's record, and the world in which it has just been laid
  let rec' : LoopState → Option Code → Loop := fun st pe => { state := st, pending := pe, fn, tmps := a.tmps, params := ps, assign, body, defers := w.heap.size }
  obtain ⟨R, hR⟩ : ∃ R, rec' = R := ⟨_, rfl⟩
  have hRf : ∀ st pe, R st pe = { state := st, pending := pe, fn, tmps := a.tmps, params := ps, assign, body, defers := w.heap.size } := fun st pe => by rw [← hR]
  obtain ⟨V, hV⟩ : ∃ V, (w.alloc (.deferred (some []))).alloc (.loop (R .ready none)) = V := ⟨_, rfl⟩
  have hl0 : V.heap[w.heap.size + 1]? = some (.loop (R .ready none)) := by
    have := World.alloc_heap_new (w.alloc (.deferred (some []))) (.loop (R .ready none))
    rw [World.size_alloc] at this
    rwa [hV] at this
  have hk0 : V.heap[w.heap.size]? = some (.deferred (some [])) := by
    rw [← hV]; exact (Below.heap_alloc _ _ _ (by simp)).trans (World.alloc_heap_new w _)
  have hi0 : I [] V := by rw [← hV]; exact hI.alloc _ (hI.alloc _ h0)
  have hbV : Below w.heap.size w V := by rw [← hV]; exact ((Below.refl _ w).alloc (Nat.le_refl _) _).alloc (by simp) _
  have hsV : w.heap.size ≤ V.heap.size := hbV.size
  clear rec' hR
  refine ⟨w.heap.size + 1, [{ target := .collected w.heap.size, args := #[] }], V, { target := .fn (.func gf) lb, args := #[.func (.yield (w.heap.size + 1)) #[] #[]] }, V, gf,
    #[.func (.yield (w.heap.size + 1)) #[] #[]] ++ lb, V, ?_, ?_, fun _ _ => trivial, ?_, fun h => (by cases h), ?_⟩
  · rw [← hV, hRf]; exact run_enterLoop_outer _ _ _ _ _
  · simp only [resolve, hg]; simp [go_sem]
  · simp [invoke, go_sem, eg]
  have down : ∀ {A B : World} {row : Option Nat}, (∀ r, row = some r → V.heap.size ≤ r ∧ ∃ o : Obj, A.heap[r]? = some o ∧ o.isWalk = true) → (∀ r, row = some r → w.heap.size ≤ r ∧ ∃ o : Obj, A.heap[r]? = some o ∧ o.isCells = false) :=
    fun h r e => by obtain ⟨h1, o, ho, hw⟩ := h r e; exact ⟨by omega, o, ho, Obj.not_cells_of_walk hw⟩
  refine (hseq (w.heap.size + 1)
    (fun pre W => I pre W ∧ W.heap[w.heap.size + 1]? = some (.loop (R .ready none)) ∧ W.heap[w.heap.size]? = some (.deferred (some [])))
    (fun pre W => Ix pre W ∧ W.heap[w.heap.size + 1]? = some (.loop (R .done (some .ret))) ∧ W.heap[w.heap.size]? = some (.deferred (some [])))
    V hbV
    (fun s A B row hs g hr => ⟨hI s A B row hs.1 g (down (B := B) hr), (grownBy_keeps g (fun r e => (hr r e).2) hs.2.1 rfl).trans hs.2.1, (grownBy_keeps g (fun r e => (hr r e).2) hs.2.2 rfl).trans hs.2.2⟩)
    (fun s A B row hs g hr => ⟨hIx s A B row hs.1 g (down (B := B) hr), (grownBy_keeps g (fun r e => (hr r e).2) hs.2.1 rfl).trans hs.2.1, (grownBy_keeps g (fun r e => (hr r e).2) hs.2.2 rfl).trans hs.2.2⟩)
    ?_ ⟨hi0, hl0, hk0⟩).mono ?_
  · -- a round
    rintro pre x W0 W ⟨hi0', hl0', hk0'⟩ hT hp0 hlen
    have hg0 : W0.grownBy W none := ⟨hT.os, hT.tape, hT.output, hT.size, fun b hb _ => hT.block b hb (by simp)⟩
    have hi : I pre W := hI _ _ _ none hi0' hg0 (fun r e => by cases e)
    have hl := (hT.block _ (Array.getElem?_eq_some_iff.1 hl0').1 (by simp)).trans hl0'
    have hk := (hT.block _ (Array.getElem?_eq_some_iff.1 hk0').1 (by simp)).trans hk0'
    have hp : Come I Pre pre x W := ⟨W0, hi0', hT.toP0, hp0⟩
    have hy := run_yield (P := P) (args := encs x) hl (by rw [hRf]; exact hps x)
    rw [hRf] at hy
    refine ⟨fn, _, assign, body, hy, roundIn_of_wpIn trivial (hassign (w.heap.size + 1) pre x W _ hi hp fun a' Wa ka kpa hia hpa hax => ?_)⟩
    have hl' := ka.same _ _ (by omega) hl rfl
    have hk' := ka.same _ _ (Nat.le_refl _) hk rfl
    have hlt : w.heap.size + 1 < Wa.heap.size := (Array.getElem?_eq_some_iff.1 hl').1
    refine ⟨_, run_beginRound hl' (by rw [hRf]), ?_⟩
    have hl2 : (Wa.putObj (w.heap.size + 1) (.loop { R .ready none with state := .busy })).heap[w.heap.size + 1]? = some (.loop { R .ready none with state := .busy }) := World.putObj_heap_same hlt
    have hk2 : (Wa.putObj (w.heap.size + 1) (.loop { R .ready none with state := .busy })).heap[w.heap.size]? = some (.deferred (some [])) := (World.putObj_heap_other (by omega)).trans hk'
    have hw2 : Kp Wa (Wa.putObj (w.heap.size + 1) (.loop { R .ready none with state := .busy })) := hKb _ _ _ _ (by omega) hl' rfl rfl
    have close : ∀ (jump : Option Code) (W3 : World), KeepsFrom w.heap.size (Wa.putObj (w.heap.size + 1) (.loop { R .ready none with state := .busy })) W3 →
        (Instr.endRound (w.heap.size + 1) jump).run P W3 = .ok (.bool jump.isNone) (W3.putObj (w.heap.size + 1) (.loop (R (if jump.isNone then .ready else .done) jump))) ∧
        W3.heap[w.heap.size + 1]? = some (.loop { R .ready none with state := .busy }) ∧
        (W3.putObj (w.heap.size + 1) (.loop (R (if jump.isNone then .ready else .done) jump))).heap[w.heap.size + 1]? = some (.loop (R (if jump.isNone then .ready else .done) jump)) ∧
        (W3.putObj (w.heap.size + 1) (.loop (R (if jump.isNone then .ready else .done) jump))).heap[w.heap.size]? = some (.deferred (some [])) := by
      intro jump W3 h3
      have hl3 := h3.same _ _ (by omega) hl2 rfl
      have he := run_endRound (P := P) jump hl3
      rw [hRf] at he
      rw [hRf (if jump.isNone then .ready else .done) jump]
      exact ⟨he, hl3, World.putObj_heap_same (Array.getElem?_eq_some_iff.1 hl3).1, (World.putObj_heap_other (by omega)).trans (h3.same _ _ (Nat.le_refl _) hk2 rfl)⟩
    refine wpIn_mono (hbody (w.heap.size + 1) pre x a' _ (by omega) (hI.putObj _ hia (by omega) hl' rfl) ((Come.own hPre pre).putObj _ hpa (by omega) hl' rfl) ((hAx a').putObj _ hax (by omega) hl' rfl) hlen) ?_
    intro e a3 W3 hp3
    cases e with
    | normal =>
      obtain ⟨h3, hkp3, hi3⟩ := hp3
      obtain ⟨hr, hl3, hl4, hk4⟩ := close none W3 h3
      exact ⟨_, _, hr, .inl ⟨rfl, ⟨hI.putObj _ hi3 (by omega) hl3 rfl, hl4, hk4⟩, hKt kpa (hKt (hKt hw2 hkp3) (hKb _ _ _ _ (by omega) hl3 rfl rfl))⟩⟩
    | ret =>
      obtain ⟨h3, hi3⟩ := hp3
      obtain ⟨hr, hl3, hl4, hk4⟩ := close (some .ret) W3 h3
      exact ⟨_, _, hr, .inr ⟨rfl, hIx.putObj _ hi3 (by omega) hl3 rfl, hl4, hk4⟩⟩
    | exit id => exact hp3.elim
    | goto t => exact hp3.elim
    | panic ch => exact hp3.elim
    | outgrown => exact hp3.elim
  · rintro e W2 ⟨⟨v, rfl⟩, (⟨xs, hS, hi, hl, hk⟩ | ⟨pre, hSp, hi, hl, hk⟩)⟩
    · have he := run_endLoop (P := P) hl (by rw [hRf]; simp)
      rw [hRf] at he
      exact ⟨none, _, he, hdone _ xs _ (Nat.le_refl _) hS (hI.putObj _ hi (by omega) hl rfl) ((World.putObj_heap_other (by omega)).trans hk)⟩
    · have he := run_endLoop (P := P) hl (by rw [hRf]; simp)
      rw [hRf] at he
      exact ⟨some .ret, _, he, hstop _ pre _ (Nat.le_refl _) hSp (hIx.putObj _ hi (by omega) hl rfl) ((World.putObj_heap_other (by omega)).trans hk)⟩
end
end Go.Proofs.Ytkifggnjpgoamaa
