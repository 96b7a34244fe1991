/-
  No cell of these rows narrows 'for every input' (looked for: loops, veiled, ifaces, maps, wideKeys, modest, calm, conditions, laid).
  DERIVED. THE GIVEN ROWS OF THIS SEAT. 5 by the template 'for every input the law returns true; each argument reads behind the call as it read before'; 0 by the template 'total and deterministic' (their statements: YtkifggnjpgoamaaTotals.lean).
  GIVEN WITH THE SEED: the statements are not yours to turn. If you find one false, say at which input.
  Laid BY PROGRAM, IN A SANDBOX (cutbox-rows.mjs): the forced cells as the released guide's own fill.sh prints them over the translation 54ff80c5e1df7958… (all of the seat's roots in one cut). By AI agents, Wed Nov 11 2026. No macro, syntax, notation, axiom, sorry.
-/
import Derived.Test.YtkifggnjpgoamaaChecked
import GoSem.Claim
import GoSem.ClaimJoined
import GoSem.ClaimMapViews
import Derived.JoinedTies
import Derived.KernelRfl
namespace Go.Proofs.Ytkifggnjpgoamaa
/- THE CELL 'sum', in the pinned program and in every row, IS THE sha256 OF THE DUMP (.gsa) THAT YtkifggnjpgoamaaProg.lean LOADS. Nothing in Lean hashes anything: it is a label: what it is worth is what the hold of that sum in a sandbox is worth. -/
noncomputable def Try.pinned : Pinned := { name := "ytkifggnjpgoamaa", sum := "54ff80c5e1df79588eb9b3498fa38418697775024be3e0b76c8c8137eda1d031", checked := Try.checked }
namespace Rows
def none {H : Type} : Left H := { results := [], args := [] }

/-- 'palfreylaw20.RelayPlays': WHATEVER THE INPUT: true; the input reads as it did. -/
def relayPlaysSpec : ChangeSpec := { name := "relayPlays", fn := fun _ => fun
  | [d1, d2, d3] => { results := [.lit (.bool true)], args := [d1, d2, d3] }
  | _ => none }
def relayPlaysRow : OpenClaim := { program := "ytkifggnjpgoamaa", sum := "54ff80c5e1df79588eb9b3498fa38418697775024be3e0b76c8c8137eda1d031", func := "palfrey/palfreylaw20.RelayPlays", spec := "relayPlays", inPlace := ["sync/atomic.StoreInt64", "sync/atomic.LoadInt64", "sync/atomic.AddInt64"], unfollowed := true, recurses := true, apart := false }
def RelayPlaysSaid : Prop := relayPlaysRow.holds Try.pinned (OpenSpec.ofChange relayPlaysSpec)

/-- ITS FALSE NEIGHBOUR: 'it returns false'. Refute it at one input. -/
def relayPlaysWrong : ChangeSpec := { name := "relayPlays", fn := fun _ => fun
  | [d1, d2, d3] => { results := [.lit (.bool false)], args := [d1, d2, d3] }
  | _ => none }
def RelayPlaysWrongFalsely : Prop := relayPlaysRow.holds Try.pinned (OpenSpec.ofChange relayPlaysWrong)

/-- 'palfreylaw22.JournalSure': WHATEVER THE INPUT: true; the input reads as it did. -/
def journalSureSpec : ChangeSpec := { name := "journalSure", fn := fun _ => fun
  | [d1, d2, d3] => { results := [.lit (.bool true)], args := [d1, d2, d3] }
  | _ => none }
def journalSureRow : OpenClaim := { program := "ytkifggnjpgoamaa", sum := "54ff80c5e1df79588eb9b3498fa38418697775024be3e0b76c8c8137eda1d031", func := "palfrey/palfreylaw22.JournalSure", spec := "journalSure", unfollowed := true, recurses := true, apart := false }
def JournalSureSaid : Prop := journalSureRow.holds Try.pinned (OpenSpec.ofChange journalSureSpec)

/-- ITS FALSE NEIGHBOUR: 'it returns false'. Refute it at one input. -/
def journalSureWrong : ChangeSpec := { name := "journalSure", fn := fun _ => fun
  | [d1, d2, d3] => { results := [.lit (.bool false)], args := [d1, d2, d3] }
  | _ => none }
def JournalSureWrongFalsely : Prop := journalSureRow.holds Try.pinned (OpenSpec.ofChange journalSureWrong)

/-- 'palfreylaw24.ModerFull': WHATEVER THE INPUT: true; the input reads as it did. -/
def moderFullSpec : ChangeSpec := { name := "moderFull", fn := fun _ => fun
  | [d1, d2, d3] => { results := [.lit (.bool true)], args := [d1, d2, d3] }
  | _ => none }
def moderFullRow : OpenClaim := { program := "ytkifggnjpgoamaa", sum := "54ff80c5e1df79588eb9b3498fa38418697775024be3e0b76c8c8137eda1d031", func := "palfrey/palfreylaw24.ModerFull", spec := "moderFull", inPlace := ["sync/atomic.StoreInt64"], unfollowed := true, recurses := true, apart := false }
def ModerFullSaid : Prop := moderFullRow.holds Try.pinned (OpenSpec.ofChange moderFullSpec)

/-- ITS FALSE NEIGHBOUR: 'it returns false'. Refute it at one input. -/
def moderFullWrong : ChangeSpec := { name := "moderFull", fn := fun _ => fun
  | [d1, d2, d3] => { results := [.lit (.bool false)], args := [d1, d2, d3] }
  | _ => none }
def ModerFullWrongFalsely : Prop := moderFullRow.holds Try.pinned (OpenSpec.ofChange moderFullWrong)

/-- 'palfreylaw23.StrikesSure': WHATEVER THE INPUT: true; the input reads as it did. -/
def strikesSureSpec : ChangeSpec := { name := "strikesSure", fn := fun _ => fun
  | [d1, d2, d3] => { results := [.lit (.bool true)], args := [d1, d2, d3] }
  | _ => none }
def strikesSureRow : OpenClaim := { program := "ytkifggnjpgoamaa", sum := "54ff80c5e1df79588eb9b3498fa38418697775024be3e0b76c8c8137eda1d031", func := "palfrey/palfreylaw23.StrikesSure", spec := "strikesSure", unfollowed := true, recurses := true, apart := false }
def StrikesSureSaid : Prop := strikesSureRow.holds Try.pinned (OpenSpec.ofChange strikesSureSpec)

/-- ITS FALSE NEIGHBOUR: 'it returns false'. Refute it at one input. -/
def strikesSureWrong : ChangeSpec := { name := "strikesSure", fn := fun _ => fun
  | [d1, d2, d3] => { results := [.lit (.bool false)], args := [d1, d2, d3] }
  | _ => none }
def StrikesSureWrongFalsely : Prop := strikesSureRow.holds Try.pinned (OpenSpec.ofChange strikesSureWrong)

/-- 'palfreylaw23.StrikesPlays': WHATEVER THE INPUT: true; the input reads as it did. -/
def strikesPlaysSpec : ChangeSpec := { name := "strikesPlays", fn := fun _ => fun
  | [d1, d2] => { results := [.lit (.bool true)], args := [d1, d2] }
  | _ => none }
def strikesPlaysRow : OpenClaim := { program := "ytkifggnjpgoamaa", sum := "54ff80c5e1df79588eb9b3498fa38418697775024be3e0b76c8c8137eda1d031", func := "palfrey/palfreylaw23.StrikesPlays", spec := "strikesPlays", unfollowed := true, recurses := true, apart := false }
def StrikesPlaysSaid : Prop := strikesPlaysRow.holds Try.pinned (OpenSpec.ofChange strikesPlaysSpec)

/-- ITS FALSE NEIGHBOUR: 'it returns false'. Refute it at one input. -/
def strikesPlaysWrong : ChangeSpec := { name := "strikesPlays", fn := fun _ => fun
  | [d1, d2] => { results := [.lit (.bool false)], args := [d1, d2] }
  | _ => none }
def StrikesPlaysWrongFalsely : Prop := strikesPlaysRow.holds Try.pinned (OpenSpec.ofChange strikesPlaysWrong)

/- THE SECOND FORM. 'bulk': how many values and letters a reading holds, each counted each time it is reached (what is shared counts as often as it is met; a slice's spare places count too). A statement '..UptoSaid' is the law's where the arguments, and the package variables that the reading takes, are together of bulk at most 1048576: NARROWER than '..Said'. Prove '..Said' where nothing that the law and all that it calls make is longer than what came in: it says more and counts as full. Else prove '..UptoSaid'. A law counts once. -/
mutual
def uptoBulk {H : Type} : DataW H → Nat
  | .lit (.string bytes) => bytes.length + 1
  | .lit _ => 1
  | .nil => 1
  | .ptr d => uptoBulk d + 1
  | .slice elems spare => uptoBulkAll elems + uptoBulkAll spare + 1
  | .agg parts => uptoBulkAll parts + 1
  | .iface _ d => uptoBulk d + 1
  | .map entries => uptoBulkEntries entries + 1
  | .held _ => 1
def uptoBulkAll {H : Type} : List (DataW H) → Nat
  | [] => 0
  | d :: r => uptoBulk d + uptoBulkAll r
def uptoBulkEntries {H : Type} : List (Lit × DataW H) → Nat
  | [] => 0
  | x :: r => uptoBulkEntry x + uptoBulkEntries r
def uptoBulkEntry {H : Type} : Lit × DataW H → Nat
  | (.string bytes, d) => bytes.length + uptoBulk d + 1
  | (_, d) => uptoBulk d + 1
 end
def uptoSmall : (H : Type) → List (DataW H) → Bool := fun _ ds => decide (uptoBulkAll ds ≤ 1048576)
def OpenSpec.upto (s : _root_.Go.ChangeSpec) : _root_.Go.OpenSpec := { _root_.Go.OpenSpec.ofChange s with cond := some uptoSmall }

/-- 'palfreylaw20.RelayPlays', WHERE WHAT IT READS IS OF BULK AT MOST 1048576: true; the input reads as it did. -/
def relayPlaysUptoRow : OpenClaim := { program := "ytkifggnjpgoamaa", sum := "54ff80c5e1df79588eb9b3498fa38418697775024be3e0b76c8c8137eda1d031", func := "palfrey/palfreylaw20.RelayPlays", spec := "relayPlays", inPlace := ["sync/atomic.StoreInt64", "sync/atomic.LoadInt64", "sync/atomic.AddInt64"], unfollowed := true, recurses := true, apart := false, narrowed := true }
def RelayPlaysUptoSaid : Prop := relayPlaysUptoRow.holds Try.pinned (OpenSpec.upto relayPlaysSpec)

/-- 'palfreylaw22.JournalSure', WHERE WHAT IT READS IS OF BULK AT MOST 1048576: true; the input reads as it did. -/
def journalSureUptoRow : OpenClaim := { program := "ytkifggnjpgoamaa", sum := "54ff80c5e1df79588eb9b3498fa38418697775024be3e0b76c8c8137eda1d031", func := "palfrey/palfreylaw22.JournalSure", spec := "journalSure", unfollowed := true, recurses := true, apart := false, narrowed := true }
def JournalSureUptoSaid : Prop := journalSureUptoRow.holds Try.pinned (OpenSpec.upto journalSureSpec)

/-- 'palfreylaw24.ModerFull', WHERE WHAT IT READS IS OF BULK AT MOST 1048576: true; the input reads as it did. -/
def moderFullUptoRow : OpenClaim := { program := "ytkifggnjpgoamaa", sum := "54ff80c5e1df79588eb9b3498fa38418697775024be3e0b76c8c8137eda1d031", func := "palfrey/palfreylaw24.ModerFull", spec := "moderFull", inPlace := ["sync/atomic.StoreInt64"], unfollowed := true, recurses := true, apart := false, narrowed := true }
def ModerFullUptoSaid : Prop := moderFullUptoRow.holds Try.pinned (OpenSpec.upto moderFullSpec)

/-- 'palfreylaw23.StrikesSure', WHERE WHAT IT READS IS OF BULK AT MOST 1048576: true; the input reads as it did. -/
def strikesSureUptoRow : OpenClaim := { program := "ytkifggnjpgoamaa", sum := "54ff80c5e1df79588eb9b3498fa38418697775024be3e0b76c8c8137eda1d031", func := "palfrey/palfreylaw23.StrikesSure", spec := "strikesSure", unfollowed := true, recurses := true, apart := false, narrowed := true }
def StrikesSureUptoSaid : Prop := strikesSureUptoRow.holds Try.pinned (OpenSpec.upto strikesSureSpec)

/-- 'palfreylaw23.StrikesPlays', WHERE WHAT IT READS IS OF BULK AT MOST 1048576: true; the input reads as it did. -/
def strikesPlaysUptoRow : OpenClaim := { program := "ytkifggnjpgoamaa", sum := "54ff80c5e1df79588eb9b3498fa38418697775024be3e0b76c8c8137eda1d031", func := "palfrey/palfreylaw23.StrikesPlays", spec := "strikesPlays", unfollowed := true, recurses := true, apart := false, narrowed := true }
def StrikesPlaysUptoSaid : Prop := strikesPlaysUptoRow.holds Try.pinned (OpenSpec.upto strikesPlaysSpec)

end Rows
end Go.Proofs.Ytkifggnjpgoamaa
