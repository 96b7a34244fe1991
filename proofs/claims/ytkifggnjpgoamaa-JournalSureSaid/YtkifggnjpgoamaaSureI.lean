/- JournalSure: what holds between two steps of its loops, and how each step keeps it. -/
import Derived.Test.YtkifggnjpgoamaaAwake
namespace Go.Proofs.Ytkifggnjpgoamaa
open Go.RowKit

/-- Disk, journal (records jr), the list 'sure' (value sv, rows sr), the list 'under' (value uv, rows ur), the masks' block. -/
structure SureI (w : World) (d sb mb B5 : Nat) (m0 m1 : Int) (j : Nat) (jr : List (List UInt8)) (sv : Value) (sr : List (List UInt8)) (uv : Value) (ur : List (List UInt8)) (S : DSt) (W : World) : Prop where
  tw : Turn [] w W
  disk : DiskAt W d sb mb S
  new : w.heap.size ≤ d ∧ w.heap.size ≤ sb ∧ w.heap.size ≤ mb ∧ w.heap.size ≤ B5 ∧ B5 ≠ d ∧ B5 ≠ sb ∧ B5 ≠ mb
  mask : Blk W B5 #[.int .u64 m0, .int .u64 m1] 52
  ex : ∃ F vs us, JAt W F j d 64 jr ∧ (∀ b, F b → w.heap.size ≤ b ∧ b ≠ d ∧ b ≠ sb ∧ b ≠ mb ∧ b ≠ B5) ∧
    RowsAt W sv vs sr ∧ (∀ b ∈ blockOf sv, w.heap.size ≤ b ∧ ¬ F b ∧ b ≠ d ∧ b ≠ sb ∧ b ≠ mb ∧ b ≠ B5) ∧ (∀ v ∈ vs, ∀ b ∈ seatOf v, ¬ F b ∧ b ≠ d ∧ b ≠ sb ∧ b ≠ mb ∧ b ≠ B5) ∧
    RowsAt W uv us ur ∧ (∀ b ∈ blockOf uv, w.heap.size ≤ b ∧ ¬ F b ∧ b ≠ d ∧ b ≠ sb ∧ b ≠ mb ∧ b ≠ B5 ∧ b ∉ blockOf sv) ∧ (∀ v ∈ us, ∀ b ∈ seatOf v, ¬ F b ∧ b ≠ d ∧ b ≠ sb ∧ b ≠ mb ∧ b ≠ B5 ∧ b ∉ blockOf sv) ∧ (∀ v ∈ vs, ∀ b ∈ seatOf v, b ∉ blockOf uv)

variable {w : World} {d sb mb B5 : Nat} {m0 m1 : Int} {j : Nat} {jr : List (List UInt8)} {sv : Value} {sr : List (List UInt8)} {uv : Value} {ur : List (List UInt8)} {S : DSt} {W : World}

/-- Whatever turns the disk's blocks alone. -/
theorem SureI.disks {W' : World} {S' : DSt} (h : SureI w d sb mb B5 m0 m1 j jr sv sr uv ur S W) (k : TurnP (fun b => b = d ∨ b = sb ∨ b = mb) W W') (hD : DiskAt W' d sb mb S') : SureI w d sb mb B5 m0 m1 j jr sv sr uv ur S' W' := by
  obtain ⟨h1, h2, h3, h4, F, vs, us, a1, a2, a3, a4, a5, a6, a7, a8, a9⟩ := h
  refine ⟨?_, hD, h3, h4.turnP k (by omega), F, vs, us, a1.turnP k (fun b hb h => by have := a2 b hb; omega), a2, a3.turnP k (fun b hb h => by have := a4 b hb; omega) (fun v hv b hb h => by have := a5 v hv b hb; omega), a4, a5,
    a6.turnP k (fun b hb h => by have := a7 b hb; omega) (fun v hv b hb h => by have := a8 v hv b hb; omega), a7, a8, a9⟩
  exact ((h1.toP0 (F := fun b => w.heap.size ≤ b)).trans k (fun b hb => .inl (by omega))).toT (fun b hb => .inr hb)

theorem SureI.turn0 {W' : World} (h : SureI w d sb mb B5 m0 m1 j jr sv sr uv ur S W) (k : Turn [] W W') : SureI w d sb mb B5 m0 m1 j jr sv sr uv ur S W' :=
  h.disks k.toP0 (h.disk.turn k (by simp) (by simp) (by simp))

/-- The journal has one record more. -/
theorem SureI.journal {W' : World} {S' : DSt} {F : Nat → Prop} {b : List UInt8} (h : SureI w d sb mb B5 m0 m1 j jr sv sr uv ur S W)
    (hF : ∃ vs us, JAt W F j d 64 jr ∧ (∀ b, F b → w.heap.size ≤ b ∧ b ≠ d ∧ b ≠ sb ∧ b ≠ mb ∧ b ≠ B5) ∧
    RowsAt W sv vs sr ∧ (∀ b ∈ blockOf sv, w.heap.size ≤ b ∧ ¬ F b ∧ b ≠ d ∧ b ≠ sb ∧ b ≠ mb ∧ b ≠ B5) ∧ (∀ v ∈ vs, ∀ b ∈ seatOf v, ¬ F b ∧ b ≠ d ∧ b ≠ sb ∧ b ≠ mb ∧ b ≠ B5) ∧
    RowsAt W uv us ur ∧ (∀ b ∈ blockOf uv, w.heap.size ≤ b ∧ ¬ F b ∧ b ≠ d ∧ b ≠ sb ∧ b ≠ mb ∧ b ≠ B5 ∧ b ∉ blockOf sv) ∧ (∀ v ∈ us, ∀ b ∈ seatOf v, ¬ F b ∧ b ≠ d ∧ b ≠ sb ∧ b ≠ mb ∧ b ≠ B5 ∧ b ∉ blockOf sv) ∧ (∀ v ∈ vs, ∀ b ∈ seatOf v, b ∉ blockOf uv))
    (k : TurnP (fun b => F b ∨ b = d ∨ b = sb ∨ b = mb) W W') (hD : DiskAt W' d sb mb S') (hJ : JAt W' (fun b => F b ∨ W.heap.size ≤ b) j d 64 (jr ++ [b])) : SureI w d sb mb B5 m0 m1 j (jr ++ [b]) sv sr uv ur S' W' := by
  obtain ⟨vs, us, a1, a2, a3, a4, a5, a6, a7, a8, a9⟩ := hF
  have hs := h.tw.size
  have l1 := h.disk.blk.lt
  have l2 := h.disk.row.lt
  have l3 := h.disk.soon.lt
  have l5 := h.mask.lt
  have lv : ∀ v ∈ vs, ∀ b ∈ seatOf v, b < W.heap.size := fun v hv b hb => by
    obtain ⟨i, hi, rfl⟩ := List.mem_iff_getElem.1 hv
    exact (a3.src i hi (by rw [← a3.len]; exact hi)).below b hb
  have lu : ∀ v ∈ us, ∀ b ∈ seatOf v, b < W.heap.size := fun v hv b hb => by
    obtain ⟨i, hi, rfl⟩ := List.mem_iff_getElem.1 hv
    exact (a6.src i hi (by rw [← a6.len]; exact hi)).below b hb
  refine ⟨?_, hD, h.new, h.mask.turnP k (fun hb => ?_), _, vs, us, hJ, ?_, a3.turnP k (fun b hb h => ?_) (fun v hv b hb h => ?_), ?_, ?_, a6.turnP k (fun b hb h => ?_) (fun v hv b hb h => ?_), ?_, ?_, a9⟩
  · exact ((h.tw.toP0 (F := fun b => w.heap.size ≤ b)).trans k (fun b hb => .inl (by
      rcases hb with hb | hb
      · exact (a2 b hb).1
      · have := h.new; omega))).toT (fun b hb => .inr hb)
  · rcases hb with hb | hb
    · exact (a2 _ hb).2.2.2.2 rfl
    · have := h.new; omega
  · rintro b (hb | hb)
    · exact a2 b hb
    · exact ⟨by omega, by omega, by omega, by omega, by omega⟩
  · have q := a4 b hb
    rcases h with h | h
    · exact q.2.1 h
    · omega
  · have q := a5 v hv b hb
    rcases h with h | h
    · exact q.1 h
    · omega
  · intro b hb
    have q := a4 b hb
    exact ⟨q.1, fun h => h.elim q.2.1 (fun h => by have := a3.own.lt b hb; omega), q.2.2⟩
  · intro v hv b hb
    have q := a5 v hv b hb
    exact ⟨fun h => h.elim q.1 (fun h => by have := lv v hv b hb; omega), q.2⟩
  · have q := a7 b hb
    rcases h with h | h
    · exact q.2.1 h
    · omega
  · have q := a8 v hv b hb
    rcases h with h | h
    · exact q.1 h
    · omega
  · intro b hb
    have q := a7 b hb
    exact ⟨q.1, fun h => h.elim q.2.1 (fun h => by have := a6.own.lt b hb; omega), q.2.2⟩
  · intro v hv b hb
    have q := a8 v hv b hb
    exact ⟨fun h => h.elim q.1 (fun h => by have := lu v hv b hb; omega), q.2⟩

/-- The list of sure records has one more. -/
theorem SureI.sure {W' : World} {F : Nat → Prop} {vs us : List Value} {a' : Option Addr} {c : Nat} {v0 : Value} {b : List UInt8} (h : SureI w d sb mb B5 m0 m1 j jr sv sr uv ur S W)
    (hex : JAt W F j d 64 jr ∧ (∀ b, F b → w.heap.size ≤ b ∧ b ≠ d ∧ b ≠ sb ∧ b ≠ mb ∧ b ≠ B5) ∧
    RowsAt W sv vs sr ∧ (∀ b ∈ blockOf sv, w.heap.size ≤ b ∧ ¬ F b ∧ b ≠ d ∧ b ≠ sb ∧ b ≠ mb ∧ b ≠ B5) ∧ (∀ v ∈ vs, ∀ b ∈ seatOf v, ¬ F b ∧ b ≠ d ∧ b ≠ sb ∧ b ≠ mb ∧ b ≠ B5) ∧
    RowsAt W uv us ur ∧ (∀ b ∈ blockOf uv, w.heap.size ≤ b ∧ ¬ F b ∧ b ≠ d ∧ b ≠ sb ∧ b ≠ mb ∧ b ≠ B5 ∧ b ∉ blockOf sv) ∧ (∀ v ∈ us, ∀ b ∈ seatOf v, ¬ F b ∧ b ≠ d ∧ b ≠ sb ∧ b ≠ mb ∧ b ≠ B5 ∧ b ∉ blockOf sv) ∧ (∀ v ∈ vs, ∀ b ∈ seatOf v, b ∉ blockOf uv))
    (k : Turn (blockOf sv) W W') (hO : Own W' 35 1 (.slice a' (sr.length + 1) c) (sr.length + 1) (vs ++ [v0])) (hf : ∀ g ∈ blockOf (.slice a' (sr.length + 1) c), g ∈ blockOf sv ∨ W.heap.size ≤ g)
    (hv : ∃ a n c, v0 = .slice a n c) (hs : Src W' v0 b.length (bvs b)) (hv0 : ∀ g ∈ seatOf v0, g < w.heap.size) : SureI w d sb mb B5 m0 m1 j jr (.slice a' (sr.length + 1) c) (sr ++ [b]) uv ur S W' := by
  obtain ⟨a1, a2, a3, a4, a5, a6, a7, a8, a9⟩ := hex
  have hz := h.tw.size
  have l1 := h.disk.blk.lt
  have l2 := h.disk.row.lt
  have l3 := h.disk.soon.lt
  have l5 := h.mask.lt
  have hn := h.new
  have kP : TurnP (fun g => g ∈ blockOf sv) W W' := TurnP.of_T k
  have a1' := a1.here
  have lu : ∀ v ∈ us, ∀ b ∈ seatOf v, b < W.heap.size := fun v hv b hb => by
    obtain ⟨i, hi, rfl⟩ := List.mem_iff_getElem.1 hv
    exact (a6.src i hi (by rw [← a6.len]; exact hi)).below b hb
  refine ⟨?_, h.disk.turnP kP (fun hg => (a4 _ hg).2.2.1 rfl) (fun hg => (a4 _ hg).2.2.2.1 rfl) (fun hg => (a4 _ hg).2.2.2.2.1 rfl), h.new, h.mask.turnP kP (fun hg => (a4 _ hg).2.2.2.2.2 rfl), _, vs ++ [v0], us,
    a1'.turnP kP (fun g hF hg => (a4 _ hg).2.1 hF.1), fun g hg => a2 g hg.1, a3.snoc k v0 b hv hs hO hf (fun g hg hg' => ?_), fun g hg => ?_, fun v hv' g hg => ?_,
    a6.turnP kP (fun g hg hg' => (a7 g hg).2.2.2.2.2.2 hg') (fun v hv g hg hg' => (a8 v hv g hg).2.2.2.2.2 hg'), fun g hg => ?_, fun v hv' g hg => ?_, fun v hv' g hg => ?_⟩
  · exact ((h.tw.toP0 (F := fun b => w.heap.size ≤ b)).trans kP (fun g hg => .inl (a4 g hg).1)).toT (fun b hb => .inr hb)
  · have h0 := hv0 g hg
    rcases hf g hg' with h' | h'
    · have := a4 g h'; omega
    · omega
  · rcases hf g hg with h' | h'
    · have q := a4 g h'
      exact ⟨q.1, fun hF => q.2.1 hF.1, q.2.2⟩
    · exact ⟨by omega, fun hF => by have := hF.2; omega, by omega, by omega, by omega, by omega⟩
  · rcases List.mem_append.1 hv' with h' | h'
    · have q := a5 v h' g hg
      exact ⟨fun hF => q.1 hF.1, q.2⟩
    · simp only [List.mem_singleton] at h'
      subst h'
      have h0 := hv0 g hg
      exact ⟨fun hF => by have := a2 g hF.1; omega, by omega, by omega, by omega, by omega⟩
  · have q := a7 g hg
    refine ⟨q.1, fun hF => q.2.1 hF.1, q.2.2.1, q.2.2.2.1, q.2.2.2.2.1, q.2.2.2.2.2.1, fun hg' => ?_⟩
    rcases hf g hg' with h' | h'
    · exact q.2.2.2.2.2.2 h'
    · have := a6.own.lt g hg; omega
  · have q := a8 v hv' g hg
    refine ⟨fun hF => q.1 hF.1, q.2.1, q.2.2.1, q.2.2.2.1, q.2.2.2.2.1, fun hg' => ?_⟩
    rcases hf g hg' with h' | h'
    · exact q.2.2.2.2.2 h'
    · have := lu v hv' g hg; omega
  · rcases List.mem_append.1 hv' with h' | h'
    · exact a9 v h' g hg
    · simp only [List.mem_singleton] at h'
      subst h'
      intro hg'
      have h0 := hv0 g hg
      have := a7 g hg'
      omega

/-- The first record that went down with the disk. -/
theorem SureI.first {F : Nat → Prop} {vs us : List Value} {v0 : Value} {b : List UInt8} (h : SureI w d sb mb B5 m0 m1 j jr sv sr uv ur S W)
    (hex : JAt W F j d 64 jr ∧ (∀ b, F b → w.heap.size ≤ b ∧ b ≠ d ∧ b ≠ sb ∧ b ≠ mb ∧ b ≠ B5) ∧
    RowsAt W sv vs sr ∧ (∀ b ∈ blockOf sv, w.heap.size ≤ b ∧ ¬ F b ∧ b ≠ d ∧ b ≠ sb ∧ b ≠ mb ∧ b ≠ B5) ∧ (∀ v ∈ vs, ∀ b ∈ seatOf v, ¬ F b ∧ b ≠ d ∧ b ≠ sb ∧ b ≠ mb ∧ b ≠ B5) ∧
    RowsAt W uv us ur ∧ (∀ b ∈ blockOf uv, w.heap.size ≤ b ∧ ¬ F b ∧ b ≠ d ∧ b ≠ sb ∧ b ≠ mb ∧ b ≠ B5 ∧ b ∉ blockOf sv) ∧ (∀ v ∈ us, ∀ b ∈ seatOf v, ¬ F b ∧ b ≠ d ∧ b ≠ sb ∧ b ≠ mb ∧ b ≠ B5 ∧ b ∉ blockOf sv) ∧ (∀ v ∈ vs, ∀ b ∈ seatOf v, b ∉ blockOf uv))
    (hv : ∃ a n c, v0 = .slice a n c) (hs : Src W v0 b.length (bvs b)) (hv0 : ∀ g ∈ seatOf v0, g < w.heap.size) :
    SureI w d sb mb B5 m0 m1 j jr sv sr (.slice (some ⟨W.heap.size, 0, none⟩) 1 1) [b] S (W.alloc (.cells #[v0] 35)) := by
  obtain ⟨a1, a2, a3, a4, a5, a6, a7, a8, a9⟩ := hex
  have hz := h.tw.size
  have l1 := h.disk.blk.lt
  have l2 := h.disk.row.lt
  have l3 := h.disk.soon.lt
  have l5 := h.mask.lt
  have hn := h.new
  have k : Turn [] W (W.alloc (.cells #[v0] 35)) := (Turn.refl _ _).alloc _
  have kP : TurnP (fun _ => False) W (W.alloc (.cells #[v0] 35)) := k.toP0
  have a1' := a1.here
  have lv : ∀ v ∈ vs, ∀ b ∈ seatOf v, b < W.heap.size := fun v hv b hb => by
    obtain ⟨i, hi, rfl⟩ := List.mem_iff_getElem.1 hv
    exact (a3.src i hi (by rw [← a3.len]; exact hi)).below b hb
  have hB := Blk.new W #[v0] 35
  refine ⟨h.tw.trans k (by simp), h.disk.turn k (by simp) (by simp) (by simp), h.new, h.mask.turn k (by simp), _, vs, [v0],
    a1'.turnP kP (fun _ _ h => h), fun g hg => a2 g hg.1, a3.turnP kP (fun _ _ h => h) (fun _ _ _ _ h => h), fun g hg => ?_, fun v hv' g hg => ?_,
    ⟨Own.of_blk (l := [v0]) (c := 1) hB (by simp) (by unfold maxLen; omega) rfl (by simp), rfl, fun i hi hi' => ?_, fun v hv' g hg hg' => ?_, fun v hv' => ?_⟩, fun g hg => ?_, fun v hv' g hg => ?_, fun v hv' g hg hg' => ?_⟩
  · have q := a4 g hg
    exact ⟨q.1, fun hF => q.2.1 hF.1, q.2.2⟩
  · have q := a5 v hv' g hg
    exact ⟨fun hF => q.1 hF.1, q.2⟩
  · simp at hi
    subst hi
    simpa using hs.turn0 k
  · simp only [List.mem_singleton] at hv'
    subst hv'
    have := hv0 g hg
    simp [blockOf] at hg'
    omega
  · simp only [List.mem_singleton] at hv'
    subst hv'
    exact hv
  · simp only [blockOf, List.mem_singleton] at hg
    subst hg
    exact ⟨by omega, fun hF => by have := hF.2; omega, by omega, by omega, by omega, by omega, fun h' => by have := a3.own.lt _ h'; omega⟩
  · simp only [List.mem_singleton] at hv'
    subst hv'
    have h0 := hv0 g hg
    exact ⟨fun hF => by have := a2 g hF.1; omega, by omega, by omega, by omega, by omega, fun h' => by have := a4 g h'; omega⟩
  · have := lv v hv' g hg
    simp [blockOf] at hg'
    omega

/-- Behind a crash, an Open and a look at the records. -/
theorem SureI.again {W1 W2 W3 : World} {j' : Nat} {lv : Value} {vs : List Value} {rs : List (List UInt8)} (h : SureI w d sb mb B5 m0 m1 j jr sv sr uv ur S W)
    (k1 : Turn [] W W1) (hJ : JAt W1 (fun b => W.heap.size ≤ b) j' d 64 rs) (k2 : Turn [] W1 W2) (hR : RowsAt W2 lv vs rs) (hl : ∀ b ∈ blockOf lv, W1.heap.size ≤ b) (hv : ∀ v ∈ vs, ∀ b ∈ seatOf v, W1.heap.size ≤ b)
    (k3 : TurnP (fun b => W2.heap.size ≤ b) W2 W3) : SureI w d sb mb B5 m0 m1 j' rs lv rs (.slice none 0 0) [] S W3 := by
  have k : Turn [] W W3 := (k1.trans k2 (by simp)).trans (k3.toT (S := []) (fun b hb => .inr hb)) (by simp)
  have hz := h.tw.size
  have hz1 := k1.size
  have l1 := h.disk.blk.lt
  have l2 := h.disk.row.lt
  have l3 := h.disk.soon.lt
  have l5 := h.mask.lt
  have lw : ∀ b ∈ blockOf lv, b < W2.heap.size := fun b hb => hR.own.lt b hb
  have lvv : ∀ v ∈ vs, ∀ b ∈ seatOf v, b < W2.heap.size := fun v hv b hb => by
    obtain ⟨i, hi, rfl⟩ := List.mem_iff_getElem.1 hv
    exact (hR.src i hi (by rw [← hR.len]; exact hi)).below b hb
  have k23 : TurnP (fun b => W2.heap.size ≤ b) W1 W3 := (k2.toP0 (F := fun b => W2.heap.size ≤ b)).trans k3 (fun b hb => .inl hb)
  have hz2 := k2.size
  refine ⟨h.tw.trans k (by simp), h.disk.turn k (by simp) (by simp) (by simp), h.new, h.mask.turn k (by simp), _, vs, [], hJ.here.turnP k23 (fun b hb hb' => by have := hb.2; omega), fun b hb => ?_,
    hR.turnP k3 (fun b hb hb' => by have := lw b hb; omega) (fun v hv b hb hb' => by have := lvv v hv b hb; omega), fun b hb => ?_, fun v hv' b hb => ?_, RowsAt.nil _, by simp [blockOf], by simp, by simp [blockOf]⟩
  · have := hb.1
    exact ⟨by omega, by omega, by omega, by omega, by omega⟩
  · have := hl b hb
    exact ⟨by omega, fun hF => by have := hF.2; omega, by omega, by omega, by omega, by omega⟩
  · have := hv v hv' b hb
    exact ⟨fun hF => by have := hF.2; omega, by omega, by omega, by omega, by omega⟩

theorem crash_written (d sb mb : Nat) (recs : List (List UInt8)) (soon : List (Int × List UInt8)) (f : Int) (dead : Bool) (mask : Int) (b0 : List UInt8) (w : World) (hD : DiskAt w d sb mb ⟨written recs 64, soon, f, dead⟩)
    (hl : recs.length < 64) (hb : b0.length ≤ 59) (hs : soon = [] ∨ soon = [((recs.length : Int), secOf recs.length b0)]) :
    Calls Try.prog 20 #[.pointer (some ⟨d, 0, none⟩), .int .u64 mask] w fun e w' => e = .returned (.tuple #[]) ∧ Turn [d, sb, mb] w w' ∧
      ∃ recs2, (recs2 = recs ∨ (soon ≠ [] ∧ recs2 = recs ++ [b0])) ∧ DiskAt w' d sb mb ⟨written recs2 64, [], -1, false⟩ := by
  rcases hs with rfl | rfl
  · refine (crash_none d sb mb _ mask w hD rfl).mono ?_
    rintro e w' ⟨rfl, hT, hD'⟩
    exact ⟨rfl, hT, recs, .inl rfl, hD'⟩
  · refine (crash_one d sb mb _ mask recs.length (secOf recs.length b0) w hD rfl (by simp only; rw [written_length _ _ (by omega)]; omega) (secOf_length _ _ hb)).mono ?_
    rintro e w' ⟨rfl, hT, hD'⟩
    refine ⟨rfl, hT, ?_⟩
    simp only at hD'
    unfold crashed at hD'
    split at hD'
    · rw [written_snoc _ _ _ hl] at hD'
      exact ⟨_, .inr ⟨by simp, rfl⟩, hD'⟩
    · exact ⟨recs, .inl rfl, hD'⟩

end Go.Proofs.Ytkifggnjpgoamaa
