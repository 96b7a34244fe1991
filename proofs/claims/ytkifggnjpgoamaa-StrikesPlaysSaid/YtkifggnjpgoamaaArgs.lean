/- How the arguments of the laws come in: rows of bytes, bytes, ints, as what the walks read. -/
import Derived.Test.YtkifggnjpgoamaaSame
import Derived.Deep.Matrix
import Derived.OpenShut
namespace Go.Proofs.Ytkifggnjpgoamaa
open Go.RowKit Go.Deep Go.ChangeShapes Go.WideShapes

theorem cell_at {w : World} {a : Addr} {v : Value} (h : w.cell? (a.add 0) = some v) : a = ⟨a.block, a.off, none⟩ ∧ a.block < w.heap.size := by
  obtain ⟨b, o, s⟩ := a
  have := World.cell?_spot h
  obtain rfl : s = none := by
    simpa [Addr.add] using this
  refine ⟨rfl, ?_⟩
  rw [Addr.add_mid] at h
  exact cell_lt h

theorem byte_of {n : Int} (h : (Lit.int .u8 n).wf = true) : Value.int .u8 n = bv (UInt8.ofNat n.toNat) := by
  have hx : 0 ≤ n ∧ n ≤ 255 := by simpa [Lit.wf, IntKind.min, IntKind.max, IntKind.signed, IntKind.bits] using h
  simp only [bv, Value.int.injEq, true_and, UInt8.toNat_ofNat']
  omega

/-- A slice whose cells are known up to its capacity. -/
theorem src_of_cells {w : World} {A : Option Addr} {L C : Nat} {xs : List Value} (hl : L ≤ C) (hx : xs.length ≤ C) (h0 : L = 0 → xs = []) (hn : A = none → C = 0) (hc : ∀ a, A = some a → ∀ i, i < C → ∃ v, w.cell? (a.add i) = some v ∧ ∀ u, xs[i]? = some u → u = v) :
    Src w (.slice A L C) L xs := by
  by_cases hz : C = 0
  · subst hz
    obtain rfl : L = 0 := by omega
    exact .inl ⟨rfl, h0 rfl, A, rfl⟩
  · cases A with
    | none => exact absurd (hn rfl) hz
    | some a =>
      obtain ⟨v, hv, _⟩ := hc a rfl 0 (by omega)
      obtain ⟨ha, hb⟩ := cell_at hv
      obtain ⟨b, o, s⟩ := a
      cases ha
      refine .inr ⟨b, o, C, rfl, hl, hz, hb, fun j u hu => ?_⟩
      have hj : j < C := Nat.lt_of_lt_of_le (List.getElem?_eq_some_iff.1 hu).1 hx
      obtain ⟨v, hv, h⟩ := hc _ rfl j hj
      rw [h u hu]
      rwa [Addr.add_mid] at hv

def byteL (l : List Int) : List UInt8 := l.map fun n => UInt8.ofNat n.toNat
theorem bvs_byteL {l : List Int} (h : ∀ n ∈ l, (Lit.int .u8 n).wf = true) : bvs (byteL l) = l.map (Value.int .u8) := by
  simp only [bvs, byteL, List.map_map]
  exact List.map_congr_left fun n hn => (byte_of (h n hn)).symm

/-- A slice of slices of bytes that came in. -/
theorem rows_in {H : Type} {enc : TypeId × Value → H} {P : Program} {w : World} {base : Nat} {held : Bool} {t e q : TypeId} {fuel : Nat} {A : Option Addr} {n c : Nat} {x : DataW H × List MemPlace} (ht : P.underlying t = some (.slice e)) (he : P.underlying e = some (.slice q)) (hq : P.underlying q = some (.int .u8))
    (ce : P.cellsOf e = 1) (cq : P.cellsOf q = 1) (h : DataW.trod enc P w base (fun _ => true) held fuel t (Value.slice A n c).cells.toList = some x) :
    ∃ vs rs, RowsSrc w (.slice A n c) vs rs ∧ rs.length = n ∧ n ≤ c ∧ c ≤ maxLen ∧ (∀ v ∈ vs, ∃ a n c, v = .slice a n c) := by
  rcases open_int_rows ht he hq ce cq h with ⟨hc, _⟩ | ⟨a, len, cap, B, L, C, Z, hc, _, hl, hm, _, hr⟩
  · simp [Value.cells] at hc
    obtain ⟨rfl, rfl, rfl⟩ := hc
    exact ⟨[], [], ⟨.inl ⟨rfl, rfl, _, rfl⟩, rfl, fun i hi => by simp at hi⟩, rfl, Nat.le_refl _, by unfold maxLen; omega, by simp⟩
  · simp [Value.cells] at hc
    obtain ⟨rfl, rfl, rfl⟩ := hc
    refine ⟨(List.range n).map fun r => .slice (B r) (L r) (C r), (List.range n).map fun r => byteL ((Z r).take (L r)), ⟨?_, by simp, fun i h1 h2 => ?_⟩, by simp, hl, hm, ?_⟩
    · simp only [List.length_map, List.length_range]
      refine src_of_cells hl (by simpa using hl) (by rintro rfl; rfl) (fun h => by cases h) (fun a' ha i hi => ?_)
      cases ha
      refine ⟨_, (hr i hi).1, fun u hu => ?_⟩
      rw [List.getElem?_map] at hu
      cases hi' : (List.range n)[i]? with
      | none => rw [hi'] at hu; cases hu
      | some k =>
        rw [hi'] at hu
        have := List.getElem?_eq_some_iff.1 hi'
        obtain ⟨_, hk⟩ := this
        simp at hk
        subst hk
        simpa using hu.symm
    · simp only [List.length_map, List.length_range] at h1
      obtain ⟨_, r1, r2, r3, r4, r5, r6⟩ := hr i (by omega)
      have hlen : (byteL ((Z i).take (L i))).length = L i := by simp [byteL, r3, r1]
      simp only [List.getElem_map, List.getElem_range, hlen]
      rw [bvs_byteL (fun n hn => r4 n (List.mem_of_mem_take hn))]
      refine src_of_cells r1 (by simp [r3]; omega) (fun h => by rw [h]; simp) r5 (fun a' ha k hk => ?_)
      refine ⟨_, (r6 a' ha).2 k hk, fun u hu => ?_⟩
      rw [List.getElem?_map, List.getElem?_take] at hu
      split at hu
      · rw [List.getElem?_eq_getElem (by rw [r3]; exact hk)] at hu
        simp only [Option.map_some, Option.some.injEq] at hu
        rw [← hu]
        congr 1
        simp [List.getD, List.getElem?_eq_getElem (show k < (Z i).length by rw [r3]; exact hk)]
      · cases hu
    · intro v hv
      obtain ⟨r, _, rfl⟩ := List.mem_map.1 hv
      exact ⟨_, _, _, rfl⟩

/-- A slice of ints that came in. -/
theorem ints_in {H : Type} {enc : TypeId × Value → H} {P : Program} {w : World} {base : Nat} {held : Bool} {t e : TypeId} {k : IntKind} {fuel : Nat} {A : Option Addr} {n c : Nat} {x : DataW H × List MemPlace} (ht : P.underlying t = some (.slice e)) (he : P.underlying e = some (.int k))
    (ce : P.cellsOf e = 1) (h : DataW.trod enc P w base (fun _ => true) held fuel t (Value.slice A n c).cells.toList = some x) :
    ∃ zs : List Int, zs.length = n ∧ Src w (.slice A n c) n (zs.map (Value.int k)) ∧ n ≤ c ∧ c ≤ maxLen ∧ (∀ z ∈ zs, (Lit.int k z).wf = true) := by
  rcases open_ints ht he ce h with ⟨hc, _⟩ | ⟨a, len, cap, zs, hc, _, hl, hm, hz, _, hcell, hw⟩
  · simp [Value.cells] at hc
    obtain ⟨rfl, rfl, rfl⟩ := hc
    exact ⟨[], rfl, .inl ⟨rfl, rfl, _, rfl⟩, Nat.le_refl _, by unfold maxLen; omega, by simp⟩
  · simp [Value.cells] at hc
    obtain ⟨rfl, rfl, rfl⟩ := hc
    simp only [if_true] at hz
    refine ⟨zs.take n, by simp [hz, hl], ?_, hl, hm, fun z hz' => hw z (List.mem_of_mem_take hz')⟩
    refine src_of_cells hl (by simp [hz]; omega) (fun h => by rw [h]; simp) (fun h => by cases h) (fun a' ha i hi => ?_)
    cases ha
    refine ⟨_, hcell i (by rw [hz]; exact hi), fun u hu => ?_⟩
    rw [List.getElem?_map, List.getElem?_take] at hu
    split at hu
    · rw [List.getElem?_eq_getElem (by rw [hz]; exact hi)] at hu
      simp only [Option.map_some, Option.some.injEq] at hu
      rw [← hu]
      congr 1
      simp [List.getD, List.getElem?_eq_getElem (show i < zs.length by rw [hz]; exact hi)]
    · cases hu

/-- An array of integers that came in by value. -/
theorem arr_in {H : Type} {enc : TypeId × Value → H} {P : Program} {w : World} {base b0 : Nat} {held : Bool} {spare : Nat → Bool} {r : Reach} {t e : TypeId} {k : IntKind} {n fuel : Nat} {v : Value} {x : DataW H × List MemPlace} (ht : P.underlying t = some (.array n e)) (he : P.underlying e = some (.int k))
    (ce : P.cellsOf e = 1) (ct : P.cellsOf t = n) (hv : Value.okWide P w r b0 t v) (h : DataW.trod enc P w base spare held fuel t v.cells.toList = some x) :
    ∃ zs : List Int, zs.length = n ∧ v = .agg (zs.map (Value.int k)).toArray ∧ ∀ z ∈ zs, (Lit.int k z).wf = true := by
  simp only [Value.okWide, ht] at hv
  obtain ⟨cs, rfl, h2, _⟩ := hv
  obtain ⟨xs, m, rfl, _, hl, hn, hx⟩ := DataW.trod_array ht h
  simp only [Value.cells] at hx hl
  have hs : cs.size = n := by rw [← ct]; simpa using hl
  have each : ∀ i, i < n → ∃ a : Int, cs[i]? = some (.int k a) ∧ (Lit.int k a).wf = true := by
    intro i hi
    have hxi : i < xs.length := by rw [hn]; exact hi
    have h1 := hx i hi
    rw [ce, Nat.mul_one] at h1
    have hc : (cs.toList.drop i).take 1 = [cs[i]'(by omega)] := by
      rw [List.drop_eq_getElem_cons (by simp; omega)]; simp
    rw [hc, List.getElem?_eq_getElem hxi] at h1
    obtain ⟨a, ea, _, wa⟩ := DataW.trod_int he h1
    refine ⟨a, ?_, wa⟩
    rw [Array.getElem?_eq_getElem (by omega)]
    simpa using ea
  obtain ⟨y, hy⟩ := choose_lt each
  refine ⟨(List.range n).map y, by simp, ?_, ?_⟩
  · congr 1
    apply Array.ext_getElem?
    intro i
    by_cases hi : i < n
    · rw [(hy i hi).1]; simp [hi]
    · rw [Array.getElem?_eq_none (Nat.le_trans (Nat.le_of_eq hs) (Nat.le_of_not_lt hi)), Array.getElem?_eq_none (by simpa using Nat.le_of_not_lt hi)]
  · intro z hz
    obtain ⟨i, hi, rfl⟩ := List.mem_map.1 hz
    exact (hy i (by simpa using hi)).2
end Go.Proofs.Ytkifggnjpgoamaa
