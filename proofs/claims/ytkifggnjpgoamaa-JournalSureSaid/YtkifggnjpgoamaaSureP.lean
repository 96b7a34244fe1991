/- 'palfreylaw22.JournalSure' returns true at every input that can be read, and its arguments read behind the call as they read before it. No condition. -/
import Derived.Test.YtkifggnjpgoamaaRows
import Derived.Test.YtkifggnjpgoamaaArgs
import Derived.Test.YtkifggnjpgoamaaSureW
import Derived.ProofKit
import Derived.OpenShut
import Derived.ChangeOld
import Derived.Below
import Derived.Carry
namespace Go.Proofs.Ytkifggnjpgoamaa
open Go.ChangeShapes Go.WideShapes Go.ChangeAt Go.RowKit

theorem own22 : ownKnob Try.prog.godebug = none := by kernel_rfl
theorem laidOut22 : laidOutB Try.prog = true := by kernel_rfl

theorem list_two {l : List Int} (h : l.length = 2) : ∃ a b, l = [a, b] := by
  match l, h with
  | [a, b], _ => exact ⟨a, b, rfl⟩

set_option maxHeartbeats 800000 in
set_option maxRecDepth 100000 in
theorem lifted22 (os : Os) (started : os.Started) (H : Type) (enc : TypeId × Value → H) :
    ReturnsInHanded {} Try.checked os 4 .any (Rows.journalSureSpec.pre6 enc Try.prog Try.f4 Rows.journalSureRow.domain false) (Rows.journalSureSpec.post enc Try.prog Try.f4 false true false false) := by
  refine returnsInHanded_of_change (C := Try.checked) own22 started (by kernel_rfl) Try.func4
    (ChangeSpec.witness6 (enc := enc) (C := Try.checked) false ⟨#[], #[.slice none 0 0, .int .i64 0, .agg #[.int .u64 0, .int .u64 0]], []⟩ 8 (by kernel_rfl) (by kernel_rfl) (by kernel_rfl) (by kernel_rfl)) ?_
  intro W base args ds gs before hval0 hW hcnd _
  have hval : ∀ (j : Nat) t v, Try.f4.params[j]? = some t → args[j]? = some v → Value.okWide Try.prog W .any base t v := hval0
  have hW' := hW
  obtain ⟨p, q, hA0, hV, rfl, hfz, hnd⟩ := hW
  have hA : DataW.TrodAll enc Try.prog W 0 (fun _ => true) true Try.f4.params.toList args.toList ds p := hA0
  rw [Try.params4] at hA hval
  obtain ⟨v0, vs0, d0, ds0, p0, q0, hargs, rfl, rfl, h0, r0⟩ := trodAll_cons hA
  obtain ⟨v1, vs1, d1, ds1, p1, q1, rfl, rfl, rfl, h1, r1⟩ := trodAll_cons r0
  obtain ⟨v2, vs2, d2, ds2, p2, q2, rfl, rfl, rfl, h2, r2⟩ := trodAll_cons r1
  obtain ⟨rfl, rfl, rfl⟩ := trodAll_nil r2
  obtain rfl : args = #[v0, v1, v2] := by cases args; simp_all
  obtain ⟨rfl, rfl⟩ := trodVars_none hV
  have lt : ∀ {t : TypeId} {v : Value} {d : DataW H} {p : List MemPlace}, DataW.Trod enc Try.prog W 0 (fun _ => true) true t v d p → ∀ x ∈ p, x.block < W.heap.size := fun h => by obtain ⟨m, hm⟩ := h; exact DataW.trod_lt m _ _ _ hm
  have k0 := h0
  have k2 := h2
  obtain ⟨a0, len0, cap0, rfl⟩ := okWide_slice Try.underlying50 (hval 0 50 v0 rfl rfl)
  obtain ⟨vs, rs, hR, hlen, hc, hm, hf⟩ : ∃ vs rs, RowsSrc W (.slice a0 len0 cap0) vs rs ∧ rs.length = len0 ∧ len0 ≤ cap0 ∧ cap0 ≤ maxLen ∧ (∀ v ∈ vs, ∃ a n c, v = .slice a n c) := by
    obtain ⟨fuel, hf⟩ := h0
    exact rows_in Try.underlying50 Try.underlying35 Try.underlying5 (by kernel_rfl) (by kernel_rfl) hf
  obtain ⟨a1, rfl, rfl, rfl, w1⟩ := open_int Try.underlying3 (hval 1 3 v1 rfl rfl) h1
  obtain ⟨zs, hz, rfl, _⟩ : ∃ zs : List Int, zs.length = 2 ∧ v2 = .agg (zs.map (Value.int .u64)).toArray ∧ ∀ z ∈ zs, (Lit.int .u64 z).wf = true := by
    obtain ⟨fuel, hf⟩ := h2
    exact arr_in Try.underlying52 Try.underlying51 (by kernel_rfl) (by kernel_rfl) (hval 2 52 v2 rfl rfl) hf
  obtain ⟨m0, m1, rfl⟩ := list_two hz
  clear hA0 hval0
  subst hlen
  have b1 := bounds_i64 w1
  refine (journalSure_any W a0 cap0 vs rs a1 m0 m1 hR hf b1 (Nat.le_trans hc hm)).mono fun e W' ⟨he, ht⟩ => ?_
  subst he
  have bel := ht.below
  exact ⟨_, rfl, _, _, _, [], _, [], hW', trodAll_mk1 (shut_bool Try.underlying4 _),
    (trodAll_cons_mk (Below.trod laidOut22 (by kernel_rfl) (of_decide_eq_true (by kernel_rfl)) k0 bel (lt k0)) (trodAll_cons_mk (shut_int Try.underlying3 w1) (trodAll_cons_mk (Below.trod laidOut22 (by kernel_rfl) (of_decide_eq_true (by kernel_rfl)) k2 bel (lt k2)) trodAll_mk0))), rfl, bel.frame _, fun h => by cases h⟩

theorem over22 : Rows.journalSureRow.holds Try.pinned (OpenSpec.ofChange Rows.journalSureSpec) :=
  OpenClaim.holds_of_wide 4 Try.f4 rfl rfl rfl rfl rfl rfl rfl ⟨rfl, rfl, rfl, rfl, rfl⟩ rfl rfl rfl rfl rfl (by kernel_rfl) Try.func4 (by kernel_rfl)
    (of_decide_eq_true (by kernel_rfl)) (by unfold Func.isWrapper; first | (rw [if_pos (by decide +kernel)]; kernel_rfl) | (rw [if_neg (by decide +kernel)]; exact ⟨rfl, rfl⟩))
    (fun os started H enc _ => lifted22 os started H enc)

theorem journalSure_holds : Rows.JournalSureSaid := over22
end Go.Proofs.Ytkifggnjpgoamaa
