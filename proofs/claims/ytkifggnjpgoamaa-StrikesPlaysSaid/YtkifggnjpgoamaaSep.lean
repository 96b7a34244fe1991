/- Things in memory side by side, each with its footprint ('HA'), and the frame rule: what a call does to some of them leaves the others ('St'). -/
import Derived.Test.YtkifggnjpgoamaaObj
namespace Go.Proofs.Ytkifggnjpgoamaa
open Go.RowKit

/-- What is said of memory, with the blocks of which it speaks: it stays where only other blocks turn. -/
structure HA where
  at' : World → (Nat → Prop) → Prop
  lt : ∀ {w : World} {F : Nat → Prop}, at' w F → ∀ b, F b → b < w.heap.size
  keep : ∀ {w w' : World} {F G : Nat → Prop}, at' w F → TurnP G w w' → (∀ b, F b → ¬ G b) → at' w' F

/-- All of a list, side by side, within F. -/
def Sep : List HA → World → (Nat → Prop) → Prop
  | [], _, _ => True
  | A :: L, w, F => ∃ F1 F2, A.at' w F1 ∧ Sep L w F2 ∧ (∀ b, F1 b → ¬ F2 b) ∧ (∀ b, F1 b → F b) ∧ (∀ b, F2 b → F b)

theorem Sep.mono : ∀ {L : List HA} {w : World} {F G : Nat → Prop}, Sep L w F → (∀ b, F b → G b) → Sep L w G
  | [], _, _, _, _, _ => trivial
  | _ :: _, _, _, _, ⟨F1, F2, h1, h2, h3, h4, h5⟩, hs => ⟨F1, F2, h1, h2, h3, fun b hb => hs b (h4 b hb), fun b hb => hs b (h5 b hb)⟩
theorem Sep.here : ∀ {L : List HA} {w : World} {F : Nat → Prop}, Sep L w F → Sep L w (fun b => F b ∧ b < w.heap.size)
  | [], _, _, _ => trivial
  | A :: _L, w, _F, ⟨F1, F2, h1, h2, h3, h4, h5⟩ => ⟨F1, fun b => F2 b ∧ b < w.heap.size, h1, Sep.here h2, fun b hb h => h3 b hb h.1, fun b hb => ⟨h4 b hb, A.lt h1 b hb⟩, fun b hb => ⟨h5 b hb.1, hb.2⟩⟩
theorem Sep.keep : ∀ {L : List HA} {w w' : World} {F G : Nat → Prop}, Sep L w F → TurnP G w w' → (∀ b, F b → ¬ G b) → Sep L w' F
  | [], _, _, _, _, _, _, _ => trivial
  | A :: _, _, _, _, _, ⟨F1, F2, h1, h2, h3, h4, h5⟩, k, hn => ⟨F1, F2, A.keep h1 k (fun b hb => hn b (h4 b hb)), Sep.keep h2 k (fun b hb => hn b (h5 b hb)), h3, h4, h5⟩
theorem Sep.append : ∀ {L M : List HA} {w : World} {F G : Nat → Prop}, Sep L w F → Sep M w G → (∀ b, F b → ¬ G b) → Sep (L ++ M) w (fun b => F b ∨ G b)
  | [], _, _, _, _, _, h, _ => h.mono (fun _ => .inr)
  | _ :: _, _, _, _, G, ⟨F1, F2, h1, h2, h3, h4, h5⟩, h, hn =>
    ⟨F1, fun b => F2 b ∨ G b, h1, Sep.append h2 h (fun b hb => hn b (h5 b hb)), fun b hb hx => hx.elim (h3 b hb) (hn b (h4 b hb)), fun b hb => .inl (h4 b hb), fun b hb => hb.elim (fun h => .inl (h5 b h)) .inr⟩
theorem Sep.split : ∀ (L : List HA) {M : List HA} {w : World} {F : Nat → Prop}, Sep (L ++ M) w F → ∃ F1 F2, Sep L w F1 ∧ Sep M w F2 ∧ (∀ b, F1 b → ¬ F2 b) ∧ (∀ b, F1 b → F b) ∧ (∀ b, F2 b → F b)
  | [], _, _, F, h => ⟨fun _ => False, F, trivial, h, fun _ h => h.elim, fun _ h => h.elim, fun _ h => h⟩
  | _ :: L, _, _, _, ⟨F1, F2, h1, h2, h3, h4, h5⟩ => by
    obtain ⟨G1, G2, g1, g2, g3, g4, g5⟩ := Sep.split L h2
    exact ⟨fun b => F1 b ∨ G1 b, G2, ⟨F1, G1, h1, g1, fun b hb hx => h3 b hb (g4 b hx), fun _ => .inl, fun _ => .inr⟩, g2, fun b hb hx => hb.elim (fun h => h3 b h (g5 b hx)) (fun h => g3 b h hx), fun b hb => hb.elim (h4 b) (fun h => h5 b (g4 b h)), fun b hb => h5 b (g5 b hb)⟩
theorem Sep.perm {L M : List HA} (p : L.Perm M) : ∀ {w : World} {F : Nat → Prop}, Sep L w F → Sep M w F := by
  induction p with
  | nil => exact fun h => h
  | cons A _ ih => rintro w F ⟨F1, F2, h1, h2, h3, h4, h5⟩; exact ⟨F1, F2, h1, ih h2, h3, h4, h5⟩
  | swap A B L =>
    rintro w F ⟨F1, F2, h1, ⟨G1, G2, g1, g2, g3, g4, g5⟩, h3, h4, h5⟩
    exact ⟨G1, fun b => F1 b ∨ G2 b, g1, ⟨F1, G2, h1, g2, fun b hb hx => h3 b hb (g5 b hx), fun _ => .inl, fun _ => .inr⟩, fun b hb hx => hx.elim (fun h => h3 b h (g4 b hb)) (g3 b hb), fun b hb => h5 b (g4 b hb), fun b hb => hb.elim (h4 b) (fun h => h5 b (g5 b h))⟩
  | trans _ _ ih1 ih2 => exact fun h => ih2 (ih1 h)

/-- Since w0 only new blocks have turned; the things of L lie in such. -/
def St (w0 : World) (L : List HA) (w : World) : Prop := Turn [] w0 w ∧ ∃ F, Sep L w F ∧ ∀ b, F b → w0.heap.size ≤ b

variable {w0 w w' : World} {A B C D : HA} {L M R : List HA}
theorem St.new (w : World) : St w [] w := ⟨Turn.refl _ _, fun _ => False, trivial, fun _ h => h.elim⟩
theorem St.tw (h : St w0 L w) : Turn [] w0 w := h.1
theorem St.perm (h : St w0 L w) (p : L.Perm M) : St w0 M w := ⟨h.1, h.2.imp fun _ hF => ⟨hF.1.perm p, hF.2⟩⟩
theorem St.drop (h : St w0 (A :: R) w) : St w0 R w := by
  obtain ⟨h1, F, ⟨F1, F2, a1, a2, a3, a4, a5⟩, h2⟩ := h
  exact ⟨h1, F2, a2, fun b hb => h2 b (a5 b hb)⟩
theorem St.dropN (L : List HA) (h : St w0 (L ++ R) w) : St w0 R w := by
  induction L with
  | nil => exact h
  | cons A L ih => exact ih h.drop
/-- Things are opened; behind what turns them alone (and new blocks) they, or others in their place, are shut again. -/
theorem St.openL (L : List HA) (h : St w0 (L ++ R) w) : ∃ F, Sep L w F ∧ (∀ b, F b → w0.heap.size ≤ b ∧ b < w.heap.size) ∧
    ∀ (M : List HA) (w' : World) (F' : Nat → Prop), Sep M w' F' → TurnP F w w' → (∀ b, F' b → F b ∨ w.heap.size ≤ b) → St w0 (M ++ R) w' := by
  obtain ⟨h1, F, hs, hb⟩ := h
  obtain ⟨F1, F2, a1, a2, a3, a4, a5⟩ := Sep.split L hs
  refine ⟨fun b => F1 b ∧ b < w.heap.size, a1.here, fun b hb' => ⟨hb b (a4 b hb'.1), hb'.2⟩, fun M w' F' hM k hF => ?_⟩
  have hsz := h1.size
  refine ⟨((h1.toP0 (F := fun b => w0.heap.size ≤ b)).trans k (fun b hb' => .inl (hb b (a4 b hb'.1)))).toT (fun b hb' => .inr hb'), fun b => F' b ∨ (F2 b ∧ b < w.heap.size), hM.append (a2.here.keep k (fun b hb' h' => a3 b h'.1 hb'.1)) ?_, ?_⟩
  · intro b hb' h'
    rcases hF b hb' with h'' | h''
    · exact a3 b h''.1 h'.1
    · have := h'.2; omega
  · rintro b (hb' | hb')
    · rcases hF b hb' with h'' | h''
      · exact hb b (a4 b h''.1)
      · omega
    · exact hb b (a5 b hb'.1)
theorem St.turn0 (h : St w0 L w) (k : Turn [] w w') : St w0 L w' := by
  have h' : St w0 ([] ++ L) w := h
  obtain ⟨F, _, _, f3⟩ := St.openL [] h'
  exact f3 [] w' (fun _ => False) trivial k.toP0 (fun _ h => h.elim)
/-- New things. -/
theorem St.more (h : St w0 L w) (k : Turn [] w w') (M : List HA) (F : Nat → Prop) (hM : Sep M w' F) (hF : ∀ b, F b → w.heap.size ≤ b) : St w0 (M ++ L) w' := by
  have h' : St w0 ([] ++ L) w := h
  obtain ⟨F0, _, _, f3⟩ := St.openL [] h'
  exact f3 M w' F hM k.toP0 (fun b hb => .inr (hF b hb))
theorem St.open1 (h : St w0 (A :: R) w) : ∃ F, A.at' w F ∧ (∀ b, F b → w0.heap.size ≤ b ∧ b < w.heap.size) ∧
    ∀ (M : List HA) (w' : World) (F' : Nat → Prop), Sep M w' F' → TurnP F w w' → (∀ b, F' b → F b ∨ w.heap.size ≤ b) → St w0 (M ++ R) w' := by
  have h' : St w0 ([A] ++ R) w := h
  obtain ⟨F, ⟨F1, F2, a1, a2, a3, a4, a5⟩, f2, f3⟩ := St.openL [A] h'
  exact ⟨F1, a1, fun b hb => f2 b (a4 b hb), fun M w' F' hM k hF => f3 M w' F' hM (k.mono (fun b hb => .inl (a4 b hb))) (fun b hb => (hF b hb).imp (a4 b) id)⟩
theorem Sep.one {F : Nat → Prop} (h : A.at' w F) : Sep [A] w F := ⟨F, fun _ => False, h, trivial, fun _ _ h => h, fun _ h => h, fun _ h => h.elim⟩
theorem Sep.two {F G : Nat → Prop} (h : A.at' w F) (k : B.at' w G) (hn : ∀ b, F b → ¬ G b) : Sep [A, B] w (fun b => F b ∨ G b) := ⟨F, G, h, (Sep.one k), hn, fun _ => .inl, fun _ => .inr⟩
/-- One thing that became another. -/
theorem St.step1 (h : St w0 (A :: R) w) : ∃ F, A.at' w F ∧ (∀ b, F b → w0.heap.size ≤ b ∧ b < w.heap.size) ∧
    ∀ (B : HA) (w' : World) (F' : Nat → Prop), B.at' w' F' → TurnP F w w' → (∀ b, F' b → F b ∨ w.heap.size ≤ b) → St w0 (B :: R) w' := by
  obtain ⟨F, a, f2, f3⟩ := h.open1
  exact ⟨F, a, f2, fun B w' F' hB k hF => f3 [B] w' F' (Sep.one hB) k hF⟩
theorem St.fst (h : St w0 (A :: R) w) : ∃ F, A.at' w F := by
  obtain ⟨F, a, _⟩ := h.open1; exact ⟨F, a⟩

/-- The k-th to the front. -/
theorem St.to1 (h : St w0 (A :: B :: R) w) : St w0 (B :: A :: R) w := h.perm (List.Perm.swap _ _ _)
theorem St.to2 (h : St w0 (A :: B :: C :: R) w) : St w0 (C :: A :: B :: R) w := h.perm (((List.Perm.swap C B R).cons A).trans (List.Perm.swap C A _))
theorem St.to3 (h : St w0 (A :: B :: C :: D :: R) w) : St w0 (D :: A :: B :: C :: R) w := by
  refine h.perm ?_
  exact (((List.Perm.swap D C R).cons B).cons A).trans ((((List.Perm.swap D B _).cons A)).trans (List.Perm.swap D A _))
theorem St.out1 (h : St w0 (A :: B :: R) w) : St w0 (B :: A :: R) w := h.to1
theorem St.out2 (h : St w0 (A :: B :: C :: R) w) : St w0 (B :: C :: A :: R) w := h.perm ((List.Perm.swap B A _).trans ((List.Perm.swap C A R).cons B))
theorem St.out3 (h : St w0 (A :: B :: C :: D :: R) w) : St w0 (B :: C :: D :: A :: R) w :=
  h.perm ((List.Perm.swap B A _).trans (((List.Perm.swap C A _).trans ((List.Perm.swap D A R).cons C)).cons B))

/-! ### Things -/
/-- A block known whole. -/
def blkH (b : Nat) (cs : Array Value) (T : TypeId) : HA where
  at' w F := Blk w b cs T ∧ F = (· = b)
  lt := by rintro w F ⟨h, rfl⟩ b' rfl; exact h.lt
  keep := by rintro w w' F G ⟨h, rfl⟩ k hn; exact ⟨h.turnP k (hn b rfl), rfl⟩
/-- A map keyed by int. -/
def mapH (b : Nat) (m : List (Int × Value)) : HA where
  at' w F := IMap w b m ∧ F = (· = b)
  lt := by rintro w F ⟨h, rfl⟩ b' rfl; exact h.lt
  keep := by rintro w w' F G ⟨h, rfl⟩ k hn; exact ⟨h.turnP k (hn b rfl), rfl⟩
/-- A slice that is owned. -/
def ownH (E size : Nat) (v : Value) (n : Nat) (xs : List Value) : HA where
  at' w F := Own w E size v n xs ∧ F = (· ∈ blockOf v)
  lt := by rintro w F ⟨h, rfl⟩ b' hb; exact h.lt b' hb
  keep := by rintro w w' F G ⟨h, rfl⟩ k hn; exact ⟨h.turnP k hn, rfl⟩

theorem St.blk {b : Nat} {cs : Array Value} {T : TypeId} (h : St w0 (blkH b cs T :: R) w) : Blk w b cs T := by obtain ⟨F, a, _⟩ := h.fst; exact a
theorem St.map {b : Nat} {m : List (Int × Value)} (h : St w0 (mapH b m :: R) w) : IMap w b m := by obtain ⟨F, a, _⟩ := h.fst; exact a
theorem St.own {E size : Nat} {v : Value} {n : Nat} {xs : List Value} (h : St w0 (ownH E size v n xs :: R) w) : Own w E size v n xs := by obtain ⟨F, a, _⟩ := h.fst; exact a
theorem St.newBlk (h : St w0 R w) (cs : Array Value) (T : TypeId) : St w0 (blkH w.heap.size cs T :: R) (w.alloc (.cells cs T)) :=
  h.more ((Turn.refl _ _).alloc _) [blkH w.heap.size cs T] (· = w.heap.size) (Sep.one ⟨Blk.new _ _ _, rfl⟩) (by rintro b rfl; exact Nat.le_refl _)
theorem St.setBlk {b : Nat} {cs cs' : Array Value} {T : TypeId} (h : St w0 (blkH b cs T :: R) w) (k : Turn [b] w w') (hB : Blk w' b cs' T) : St w0 (blkH b cs' T :: R) w' := by
  obtain ⟨F, ⟨a, rfl⟩, f2, f3⟩ := h.step1
  exact f3 (blkH b cs' T) w' (· = b) ⟨hB, rfl⟩ (k.toP (by simp)) (fun b hb => .inl hb)
theorem St.setMap {b : Nat} {m m' : List (Int × Value)} (h : St w0 (mapH b m :: R) w) (k : Turn [b] w w') (hB : IMap w' b m') : St w0 (mapH b m' :: R) w' := by
  obtain ⟨F, ⟨a, rfl⟩, f2, f3⟩ := h.step1
  exact f3 (mapH b m') w' (· = b) ⟨hB, rfl⟩ (k.toP (by simp)) (fun b hb => .inl hb)
theorem St.setOwn {E size : Nat} {v v' : Value} {n n' : Nat} {xs xs' : List Value} (h : St w0 (ownH E size v n xs :: R) w) (k : Turn (blockOf v) w w') (hB : Own w' E size v' n' xs') (hf : ∀ b ∈ blockOf v', b ∈ blockOf v ∨ w.heap.size ≤ b) : St w0 (ownH E size v' n' xs' :: R) w' := by
  obtain ⟨F, ⟨a, rfl⟩, f2, f3⟩ := h.step1
  exact f3 (ownH E size v' n' xs') w' (· ∈ blockOf v') ⟨hB, rfl⟩ (TurnP.of_T k) hf
theorem St.newOwn (h : St w0 R w) (k : Turn [] w w') {E size : Nat} {v : Value} {n : Nat} {xs : List Value} (hB : Own w' E size v n xs) (hf : ∀ b ∈ blockOf v, w.heap.size ≤ b) : St w0 (ownH E size v n xs :: R) w' :=
  h.more k [ownH E size v n xs] (· ∈ blockOf v) (Sep.one ⟨hB, rfl⟩) hf
theorem St.newMap (h : St w0 R w) : St w0 (mapH w.heap.size [] :: R) (w.alloc (.map #[] 0)) :=
  h.more ((Turn.refl _ _).alloc _) [mapH w.heap.size []] (· = w.heap.size) (Sep.one ⟨IMap.new _, rfl⟩) (by rintro b rfl; exact Nat.le_refl _)
theorem St.nilOwn (h : St w0 R w) (E size : Nat) : St w0 (ownH E size (.slice none 0 0) 0 [] :: R) w := h.newOwn (Turn.refl _ _) (Own.nil _ _ _) (by simp [blockOf])
/-- What was there at w0 is there. -/
theorem St.src0 (h : St w0 L w) {v : Value} {n : Nat} {xs : List Value} (hs : Src w0 v n xs) : Src w v n xs := hs.turn0 h.1

/-- The thing A has block b. -/
def HA.has (A : HA) (b : Nat) : Prop := ∀ w F, A.at' w F → F b
/-- The blocks of S lie in what was there at w0, or in things of R. -/
def Apart (w0 : World) (R : List HA) (S : List Nat) : Prop := ∀ b ∈ S, b < w0.heap.size ∨ ∃ A ∈ R, A.has b
theorem Apart.old {v : Value} {n : Nat} {xs : List Value} (h : Src w0 v n xs) : Apart w0 R (seatOf v) := fun b hb => .inl (h.below b hb)
theorem Apart.own {E size : Nat} {v : Value} {n : Nat} {xs : List Value} (h : ownH E size v n xs ∈ R) : Apart w0 R (seatOf v) := fun b hb => .inr ⟨_, h, fun w F hF => by obtain ⟨_, rfl⟩ := hF; exact seatOf_sub hb⟩
theorem Apart.blk {v : Value} {b : Nat} {cs : Array Value} {T : TypeId} (h : blkH b cs T ∈ R) (hv : ∀ g ∈ blockOf v, g = b) : Apart w0 R (seatOf v) := fun g hg => .inr ⟨_, h, fun w F hF => by obtain ⟨_, rfl⟩ := hF; exact hv g (seatOf_sub hg)⟩
theorem Apart.cons {S : List Nat} (h : Apart w0 R S) : Apart w0 (A :: R) S := fun b hb => (h b hb).imp id (fun ⟨B, hB, h⟩ => ⟨B, by simp [hB], h⟩)
theorem Sep.has : ∀ {L : List HA} {w : World} {F : Nat → Prop}, Sep L w F → ∀ {A : HA} {b : Nat}, A ∈ L → A.has b → F b
  | [], _, _, _, _, _, h, _ => by cases h
  | B :: L, w, F, ⟨F1, F2, h1, h2, h3, h4, h5⟩, A, b, hA, hb => by
    rcases List.mem_cons.1 hA with rfl | hA
    · exact h4 b (hb w F1 h1)
    · exact h5 b (Sep.has h2 hA hb)
/-- .. and what is opened has none of the blocks of S. -/
theorem St.openA (L : List HA) {S : List Nat} (h : St w0 (L ++ R) w) (ha : Apart w0 R S) : ∃ F, Sep L w F ∧ (∀ b, F b → w0.heap.size ≤ b ∧ b < w.heap.size) ∧ (∀ b ∈ S, ¬ F b) ∧
    ∀ (M : List HA) (w' : World) (F' : Nat → Prop), Sep M w' F' → TurnP F w w' → (∀ b, F' b → F b ∨ w.heap.size ≤ b) → St w0 (M ++ R) w' := by
  obtain ⟨h1, F, hs, hb⟩ := h
  obtain ⟨F1, F2, a1, a2, a3, a4, a5⟩ := Sep.split L hs
  refine ⟨fun b => F1 b ∧ b < w.heap.size, a1.here, fun b hb' => ⟨hb b (a4 b hb'.1), hb'.2⟩, fun b hb' hx => ?_, fun M w' F' hM k hF => ?_⟩
  · rcases ha b hb' with h | ⟨A, hA, h⟩
    · have := hb b (a4 b hx.1); omega
    · exact a3 b hx.1 (Sep.has a2 hA h)
  · have hsz := h1.size
    refine ⟨((h1.toP0 (F := fun b => w0.heap.size ≤ b)).trans k (fun b hb' => .inl (hb b (a4 b hb'.1)))).toT (fun b hb' => .inr hb'), fun b => F' b ∨ (F2 b ∧ b < w.heap.size), hM.append (a2.here.keep k (fun b hb' h' => a3 b h'.1 hb'.1)) ?_, ?_⟩
    · intro b hb' h'
      rcases hF b hb' with h'' | h''
      · exact a3 b h''.1 h'.1
      · have := h'.2; omega
    · rintro b (hb' | hb')
      · rcases hF b hb' with h'' | h''
        · exact hb b (a4 b h''.1)
        · omega
      · exact hb b (a5 b hb'.1)

/-! ### A contract on things, as one on blocks -/
/-- All that lay at v, but for what ex says. -/
def restH (v : World) (ex : Nat → Prop) : HA where
  at' w F := v.heap.size ≤ w.heap.size ∧ (∀ b, b < v.heap.size → ¬ ex b → w.heap[b]? = v.heap[b]?) ∧ F = fun b => b < v.heap.size ∧ ¬ ex b
  lt := by rintro w F ⟨h, _, rfl⟩ b hb; exact Nat.lt_of_lt_of_le hb.1 h
  keep := by
    rintro w w' F G ⟨h, h2, rfl⟩ k hn
    exact ⟨Nat.le_trans h k.size, fun b hb he => (k.block b (Nat.lt_of_lt_of_le hb h) (hn b ⟨hb, he⟩)).trans (h2 b hb he), rfl⟩
/-- The world without its memory. -/
def World.bare (w : World) : World := { w with heap := #[] }
theorem St.all {F : Nat → Prop} (h : A.at' w F) : St (World.bare w) [A, restH w F] w :=
  ⟨⟨rfl, rfl, rfl, Nat.zero_le _, fun b hb => absurd hb (by simp [World.bare])⟩, _, Sep.two h ⟨Nat.le_refl _, fun _ _ _ => rfl, rfl⟩ (fun b hb hx => hx.2 hb), fun b _ => Nat.zero_le _⟩
theorem St.unall {F : Nat → Prop} (h : St (World.bare w) [A, restH w F] w') : TurnP F w w' ∧ ∃ F', A.at' w' F' ∧ ∀ b, F' b → F b ∨ w.heap.size ≤ b := by
  obtain ⟨t, G, ⟨F1, F2, a1, ⟨F3, F4, ⟨a2, a3, rfl⟩, _, _, a5, _⟩, a6, _, _⟩, _⟩ := h
  refine ⟨⟨t.os, t.tape, t.output, a2, a3⟩, F1, a1, fun b hb => ?_⟩
  by_cases hF : F b
  · exact .inl hF
  · by_cases hl : b < w.heap.size
    · exact absurd (a5 b ⟨hl, hF⟩) (a6 b hb)
    · exact .inr (by omega)
end Go.Proofs.Ytkifggnjpgoamaa
