/- disk.Pending: slices.Sorted(maps.Keys(..)) by the kit's generic contracts. -/
import Derived.Test.YtkifggnjpgoamaaDiskB
import Derived.Test.YtkifggnjpgoamaaLay
import Derived.IntWalk
namespace Go.Proofs.Ytkifggnjpgoamaa
open Go.RowKit Go.Maps Go.Sort Go.Shelf


theorem Try.sortsA (m : Nat) : AnyZI.SortsIn Try.prog Try.sortedA_ren Fence.wide m :=
  ⟨fun blk off cap ss W hH hblk hsz => callsIn_wide.2 (AnyM.slices_Sort_int Try.sortA blk off cap ss W hH hblk hsz),
   fun p cap W => callsIn_wide.2 (AnyM.slices_Sort_int_none Try.sortA p cap W)⟩

/-- Any element reads as nothing much: of such a map the keys alone are asked for. -/
def anyElem : Value → Option (DataW Unit × List MemPlace) := fun _ => some (.nil, [])

theorem IMap.owns {w : World} {b : Nat} {m : List (Int × Value)} (h : IMap w b m) (hm : m.length ≤ 1) (hk : ∀ p ∈ m, 0 ≤ p.1 ∧ p.1 < 64) :
    ∃ D : DataW Unit, w.ownsMap Try.prog 3 anyElem b 1 D ∧ Maps.size D ≤ 1 ∧ intKeys D = m.map (·.1) := by
  obtain ⟨es, clock, hb, hes, h1, h2, h3⟩ := h
  have wf : ∀ k : Int, 0 ≤ k → k < 64 → (Lit.int .i64 k).wf = true := fun k h0 h64 => by
    have := wrap64_wf k
    rwa [show wrap64 k = k from by unfold wrap64; omega] at this
  match m, hm with
  | [], _ =>
    have he : es.toList = [] := by simpa using hes
    have he' : es = #[] := by apply Array.toList_inj.1; simpa using he
    subst he'
    exact ⟨.map [], ⟨#[], clock, hb, ⟨by simp, ⟨by simp, by simp, by simp⟩, by simp⟩, by simp, rfl⟩, by simp [Maps.size], rfl⟩
  | [(k, v)], _ =>
    obtain ⟨hk0, hk1⟩ := hk (k, v) (by simp)
    obtain ⟨x, rfl⟩ : ∃ x, es = #[x] := by
      have hl := congrArg List.length hes
      simp at hl
      exact ⟨es[0], by apply Array.ext_getElem? ; intro i; rcases i with _ | i <;> simp [hl]⟩
    simp [pairOf, valsOf] at hes
    have hkey : x.key = .int .i64 k := hes.1
    have hK : keyOf Try.prog 3 x.key = some (.int .i64 k) := by rw [hkey]; exact keyOf_int_mk Try.underlying3 (wf k hk0 hk1)
    have hrd : Go.WideElems.rd Try.prog 3 anyElem x = some (.int .i64 k, .nil) := by simp [Go.WideElems.rd, hK, anyElem]
    refine ⟨.map [(.int .i64 k, .nil)], ⟨#[x], clock, hb, ⟨by simp [maxLen], ⟨by simpa using h1, by simp, by simp⟩, by simpa using ⟨_, _, hrd⟩⟩, by simp, ?_⟩, by simp [Maps.size], rfl⟩
    simp [Go.WideElems.rg, hrd, DataW.insert]
  | _ :: _ :: _, h => simp at h

set_option maxHeartbeats 1000000 in
/-- maps.Keys and slices.Sorted over a map of one entry at the most. -/
theorem sorted_keys (b : Nat) (m : List (Int × Value)) (w : World) (h : IMap w b m) (hm : m.length ≤ 1) (hk : ∀ p ∈ m, 0 ≤ p.1 ∧ p.1 < 64) :
    Calls Try.prog 122 #[.func (.func 164) #[] #[.pointer (some ⟨w.heap.size, 0, none⟩)]] (w.alloc (.cells #[.map (some b)] 144)) fun e w' =>
      ∃ v, e = .returned v ∧ w'.ownsRow w.heap.size 3 1 v m.length (m.map fun p => .int .i64 p.1) ∧ Below w.heap.size w w' := by
  obtain ⟨D0, hown, hsz, hkeys⟩ := h.owns hm hk
  have hbl := hown.lt
  have hseq : SeqGives Fence.wide 2 Try.prog 164 #[.pointer (some ⟨w.heap.size, 0, none⟩)] encZ (fun ss => ss.Perm (intKeys D0)) (Maps.size D0) (w.alloc (.cells #[.map (some b)] 144)) :=
    AnyZI.keys_gives (ρ := Try.keysA_ren) { Try.keysA with } Fence.wide _ trivial rfl (by omega) w.heap.size b 1 D0 _ (by simp) (by simp) (by
      obtain ⟨es, clock, hb, Ft, hs, hD⟩ := hown
      exact ⟨es, clock, (Below.heap_alloc _ _ b hbl).trans hb, Ft, hs, hD⟩)
  have cS := AnyZI.sorted_in Try.sortedA Fence.wide 5 trivial trivial trivial trivial rfl (by omega) (Try.sortsA _) (enters_of Try.func163 (by kernel_rfl) rfl) 164 #[.pointer (some ⟨w.heap.size, 0, none⟩)] trivial (enters_of Try.func164 (by kernel_rfl) rfl) _ _ (by unfold maxLen; omega) (by omega) _ hseq
  change CallsIn _ _ Try.prog 122 _ _ _ at cS
  refine (callsIn_wide.1 cS).mono ?_
  rintro e w' ⟨v, ss, rfl, hS, hrow, _, hb⟩
  have hss : ss = m.map (·.1) := by
    rw [hkeys] at hS
    match m, hm with
    | [], _ => simpa using hS
    | [p], _ => simpa using hS
    | _ :: _ :: _, h => simp at h
  subst hss
  have hmer : (m.map (·.1)).mergeSort (fun x y => decide (x ≤ y)) = m.map (·.1) := by
    match m, hm with
    | [], _ => simp
    | [p], _ => simp
    | _ :: _ :: _, h => simp at h
  rw [hmer, List.map_map, List.length_map] at hrow
  refine ⟨v, rfl, ?_, ((Below.refl _ w).alloc (Nat.le_refl _) _).trans (hb.mono (by simp))⟩
  refine ⟨hrow.1, ?_⟩
  rcases hrow.2 with h | ⟨g, cap, cur, h1, h2, h3⟩
  · exact .inl h
  · exact .inr ⟨g, cap, cur, h1, by simp at h2; omega, h3⟩

set_option maxHeartbeats 400000 in
theorem keys_any (mb : Option Nat) (w : World) :
    Calls Try.prog 123 #[.map mb] w fun e w' => e = .returned (.func (.func 164) #[] #[.pointer (some ⟨w.heap.size, 0, none⟩)]) ∧ w' = w.alloc (.cells #[.map mb] 144) :=
  callsIn_wide.1 (AnyZI.keys_in Try.keysA Fence.wide 5 trivial rfl mb w)

set_option maxHeartbeats 400000 in
theorem pending_any (d sb mb : Nat) (S : DSt) (w : World) (hD : DiskAt w d sb mb S) (hm : S.soon.length ≤ 1) (hk : ∀ p ∈ S.soon, 0 ≤ p.1 ∧ p.1 < 64) :
    Calls Try.prog 72 #[.pointer (some ⟨d, 0, none⟩)] w fun e w' => ∃ v, e = .returned v ∧
      w'.ownsRow w.heap.size 3 1 v S.soon.length (S.soon.map fun p => .int .i64 p.1) ∧ Turn [] w w' := by
  have c1 := hD.blk.cells4.2.1
  have Hs := Lib.hid hD.soon
  have HD := Lib.hid hD
  clear hD
  go_enter Try.func72, Try.ntmps72
  go_wp2_with fail
  refine (keys_any _ _).mono ?_
  rintro e w1 ⟨rfl, rfl⟩
  go_wp2_with fail
  refine (sorted_keys mb (soonOf S.soon) w Hs.out (by simpa [soonOf] using hm) (fun p hp => by obtain ⟨q, hq, rfl⟩ := List.mem_map.1 hp; exact hk q hq)).mono ?_
  rintro e w2 ⟨v, rfl, hrow, hb⟩
  go_wp2
  go_ret
  refine ⟨v, rfl, by simpa [soonOf, List.map_map, Function.comp_def] using hrow, Turn.of_below hb (Nat.le_refl _) _⟩
end Go.Proofs.Ytkifggnjpgoamaa
