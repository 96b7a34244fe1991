/- palfreylaw23.begun, awake. -/
import Derived.Test.YtkifggnjpgoamaaLOpen
import Derived.Test.YtkifggnjpgoamaaLedC
namespace Go.Proofs.Ytkifggnjpgoamaa
open Go.RowKit
variable {w0 w w' : World} {R : List HA} {l lm j d sb mb : Nat} {M : Led} {Z : JSt}

set_option maxHeartbeats 800000 in
theorem begun_any (recs : List (List UInt8)) (N : Nat) (f : Int) (dead : Bool) (h : St w0 (diskH d sb mb ⟨written recs N, [], f, dead⟩ :: R) w) (hl : recs.length ≤ N) (hN : N ≤ 64) (h59 : ∀ r ∈ recs, r.length ≤ 59) :
    Calls Try.prog 31 #[.pointer (some ⟨d, 0, none⟩)] w fun e w' => ∃ j l lm, e = .returned (.tuple #[.pointer (some ⟨j, 0, none⟩), .pointer (some ⟨l, 0, none⟩)]) ∧ St w0 (ledH l lm j (ledOf recs) :: rigH d sb mb j ⟨N, recs, none, f, dead⟩ :: R) w' := by
  go_enter Try.func31, Try.ntmps31
  go_wp2_with fail
  refine (open_rig recs N f dead h hl hN h59).mono ?_
  rintro e w1 ⟨j, rfl, h1⟩
  have H1 := Lib.hid h1
  clear h1 h
  go_wp2_with fail
  refine (sopen_any H1.out).mono ?_
  rintro e w2 ⟨l, lm, rfl, h2⟩
  have H2 := Lib.hid h2
  clear h2 H1
  go_wp2
  go_ret2
  exact ⟨j, l, lm, rfl, H2.out⟩

set_option maxHeartbeats 1600000 in
theorem awake23_any (h : St w0 R w) : Calls Try.prog 30 #[] w fun e w' => e = .returned (.bool true) ∧ St w0 R w' := by
  go_enter Try.func30, Try.ntmps30
  go_wp2_with fail
  refine (new_rig 8 h (by omega) (by omega)).mono ?_
  rintro e w1 ⟨d, sb, mb, rfl, h1⟩
  have H1 := Lib.hid h1
  clear h1 h
  go_wp2_with fail
  refine (begun_any [] 8 (-1) false H1.out (by simp) (by omega) (by simp)).mono ?_
  rintro e w2 ⟨j, l, lm, rfl, h2⟩
  have H2 := Lib.hid h2
  clear h2 H1
  go_wp2_with fail
  have e1 : addF 2 7 0 ⟨8, [], none, -1, false⟩ (ledOf []) = (0, ⟨8, [recB 1 2 7 0], none, -1, false⟩, [(7, ⟨2, 0, false⟩)]) := by kernel_rfl
  have e2 : addF 2 7 0 ⟨8, [recB 1 2 7 0], none, -1, false⟩ [(7, ⟨2, 0, false⟩)] = (9, ⟨8, [recB 1 2 7 0], none, -1, false⟩, [(7, ⟨2, 0, false⟩)]) := by kernel_rfl
  have E := Lib.hid (And.intro e1 e2)
  clear e1 e2
  refine (add_any 2 7 0 H2.out).mono ?_
  rintro e w3 ⟨rfl, h3⟩
  rw [E.out.1] at h3 ⊢
  have H3 := Lib.hid h3
  clear h3 H2
  dsimp only
  go_wp2_with fail
  refine (add_any 2 7 0 H3.out).mono ?_
  rintro e w4 ⟨rfl, h4⟩
  rw [E.out.2] at h4 ⊢
  have H4 := Lib.hid h4
  clear h4 H3 E
  dsimp only
  go_wp2_with fail
  refine (sopen_nil w4).mono ?_
  rintro e w5 ⟨rfl, rfl⟩
  go_wp2_with fail
  refine (count_any 2 100 (by omega) (by simp) H4.out).mono ?_
  rintro e w5 ⟨rfl, hT5⟩
  have H5 := Lib.hid (H4.out.turn0 hT5)
  clear hT5 H4
  rw [show countM [(7, (⟨2, 0, false⟩ : Stk))] 2 100 = 1 from rfl]
  go_wp2_with fail
  refine (count_any 2 101 (by omega) (by simp) H5.out).mono ?_
  rintro e w6 ⟨rfl, hT6⟩
  have H6 := Lib.hid (H5.out.turn0 hT6)
  clear hT6 H5
  rw [show countM [(7, (⟨2, 0, false⟩ : Stk))] 2 101 = 0 from rfl]
  go_wp2
  go_ret
  exact ⟨rfl, H6.out.drop.drop⟩
end Go.Proofs.Ytkifggnjpgoamaa
