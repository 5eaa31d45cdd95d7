/-
  No cell of these rows narrows 'for every input' (looked for: loops, veiled, ifaces, maps, wideKeys, modest, calm, conditions, laid).
  DERIVED. THE GIVEN ROWS OF THIS SEAT. 4 by the template 'for every input the law returns true; each argument reads behind the call as it read before'; 0 by the template 'total and deterministic' (their statements: YtdnkliapcnfcoaaTotals.lean).
  GIVEN WITH THE SEED: the statements are not yours to turn. If you find one false, say at which input.
  Laid BY PROGRAM, IN A SANDBOX (cutbox-rows.mjs): the forced cells as the released guide's own fill.sh prints them over the translation 07ea430be760ddad… (all of the seat's roots in one cut). By AI agents, Wed Nov 11 2026. No macro, syntax, notation, axiom, sorry.
-/
import Derived.Test.YtdnkliapcnfcoaaChecked
import GoSem.Claim
import GoSem.ClaimJoined
import GoSem.ClaimMapViews
import Derived.JoinedTies
import Derived.KernelRfl
namespace Go.Proofs.Ytdnkliapcnfcoaa
/- THE CELL 'sum', in the pinned program and in every row, IS THE sha256 OF THE DUMP (.gsa) THAT YtdnkliapcnfcoaaProg.lean LOADS. Nothing in Lean hashes anything: it is a label: what it is worth is what the hold of that sum in a sandbox is worth. -/
noncomputable def Try.pinned : Pinned := { name := "ytdnkliapcnfcoaa", sum := "07ea430be760ddadda1b63d8c3067e11c39484cb6749cdf9b346d923ac8dfd7d", checked := Try.checked }
namespace Rows
def none {H : Type} : Left H := { results := [], args := [] }

/-- 'aviarylaw21.FairWeights': WHATEVER THE INPUT: true; the input reads as it did. -/
def fairWeightsSpec : ChangeSpec := { name := "fairWeights", fn := fun _ => fun
  | [d1, d2, d3] => { results := [.lit (.bool true)], args := [d1, d2, d3] }
  | _ => none }
def fairWeightsRow : OpenClaim := { program := "ytdnkliapcnfcoaa", sum := "07ea430be760ddadda1b63d8c3067e11c39484cb6749cdf9b346d923ac8dfd7d", func := "aviary/aviarylaw21.FairWeights", spec := "fairWeights", unfollowed := true, recurses := true, apart := false }
def FairWeightsSaid : Prop := fairWeightsRow.holds Try.pinned (OpenSpec.ofChange fairWeightsSpec)

/-- ITS FALSE NEIGHBOUR: 'it returns false'. Refute it at one input. -/
def fairWeightsWrong : ChangeSpec := { name := "fairWeights", fn := fun _ => fun
  | [d1, d2, d3] => { results := [.lit (.bool false)], args := [d1, d2, d3] }
  | _ => none }
def FairWeightsWrongFalsely : Prop := fairWeightsRow.holds Try.pinned (OpenSpec.ofChange fairWeightsWrong)

/-- 'aviarylaw21.FairIdle': WHATEVER THE INPUT: true; the input reads as it did. -/
def fairIdleSpec : ChangeSpec := { name := "fairIdle", fn := fun _ => fun
  | [d1, d2, d3] => { results := [.lit (.bool true)], args := [d1, d2, d3] }
  | _ => none }
def fairIdleRow : OpenClaim := { program := "ytdnkliapcnfcoaa", sum := "07ea430be760ddadda1b63d8c3067e11c39484cb6749cdf9b346d923ac8dfd7d", func := "aviary/aviarylaw21.FairIdle", spec := "fairIdle", unfollowed := true, recurses := true, apart := false }
def FairIdleSaid : Prop := fairIdleRow.holds Try.pinned (OpenSpec.ofChange fairIdleSpec)

/-- ITS FALSE NEIGHBOUR: 'it returns false'. Refute it at one input. -/
def fairIdleWrong : ChangeSpec := { name := "fairIdle", fn := fun _ => fun
  | [d1, d2, d3] => { results := [.lit (.bool false)], args := [d1, d2, d3] }
  | _ => none }
def FairIdleWrongFalsely : Prop := fairIdleRow.holds Try.pinned (OpenSpec.ofChange fairIdleWrong)

/-- 'aviarylaw21.FairOrder': WHATEVER THE INPUT: true; the input reads as it did. -/
def fairOrderSpec : ChangeSpec := { name := "fairOrder", fn := fun _ => fun
  | [d1, d2] => { results := [.lit (.bool true)], args := [d1, d2] }
  | _ => none }
def fairOrderRow : OpenClaim := { program := "ytdnkliapcnfcoaa", sum := "07ea430be760ddadda1b63d8c3067e11c39484cb6749cdf9b346d923ac8dfd7d", func := "aviary/aviarylaw21.FairOrder", spec := "fairOrder", unfollowed := true, recurses := true, apart := false }
def FairOrderSaid : Prop := fairOrderRow.holds Try.pinned (OpenSpec.ofChange fairOrderSpec)

/-- ITS FALSE NEIGHBOUR: 'it returns false'. Refute it at one input. -/
def fairOrderWrong : ChangeSpec := { name := "fairOrder", fn := fun _ => fun
  | [d1, d2] => { results := [.lit (.bool false)], args := [d1, d2] }
  | _ => none }
def FairOrderWrongFalsely : Prop := fairOrderRow.holds Try.pinned (OpenSpec.ofChange fairOrderWrong)

/-- 'aviarylaw21.FairDoes': WHATEVER THE INPUT: true; the input reads as it did. -/
def fairDoesSpec : ChangeSpec := { name := "fairDoes", fn := fun _ => fun
  | [d1, d2] => { results := [.lit (.bool true)], args := [d1, d2] }
  | _ => none }
def fairDoesRow : OpenClaim := { program := "ytdnkliapcnfcoaa", sum := "07ea430be760ddadda1b63d8c3067e11c39484cb6749cdf9b346d923ac8dfd7d", func := "aviary/aviarylaw21.FairDoes", spec := "fairDoes", unfollowed := true, recurses := true, apart := false }
def FairDoesSaid : Prop := fairDoesRow.holds Try.pinned (OpenSpec.ofChange fairDoesSpec)

/-- ITS FALSE NEIGHBOUR: 'it returns false'. Refute it at one input. -/
def fairDoesWrong : ChangeSpec := { name := "fairDoes", fn := fun _ => fun
  | [d1, d2] => { results := [.lit (.bool false)], args := [d1, d2] }
  | _ => none }
def FairDoesWrongFalsely : Prop := fairDoesRow.holds Try.pinned (OpenSpec.ofChange fairDoesWrong)

/- THE SECOND FORM. 'bulk': how many values and letters a reading holds, each counted each time it is reached (what is shared counts as often as it is met; a slice's spare places count too). A statement '..UptoSaid' is the law's where the arguments, and the package variables that the reading takes, are together of bulk at most 1048576: NARROWER than '..Said'. Prove '..Said' where nothing that the law and all that it calls make is longer than what came in: it says more and counts as full. Else prove '..UptoSaid'. A law counts once. -/
mutual
def uptoBulk {H : Type} : DataW H → Nat
  | .lit (.string bytes) => bytes.length + 1
  | .lit _ => 1
  | .nil => 1
  | .ptr d => uptoBulk d + 1
  | .slice elems spare => uptoBulkAll elems + uptoBulkAll spare + 1
  | .agg parts => uptoBulkAll parts + 1
  | .iface _ d => uptoBulk d + 1
  | .map entries => uptoBulkEntries entries + 1
  | .held _ => 1
def uptoBulkAll {H : Type} : List (DataW H) → Nat
  | [] => 0
  | d :: r => uptoBulk d + uptoBulkAll r
def uptoBulkEntries {H : Type} : List (Lit × DataW H) → Nat
  | [] => 0
  | x :: r => uptoBulkEntry x + uptoBulkEntries r
def uptoBulkEntry {H : Type} : Lit × DataW H → Nat
  | (.string bytes, d) => bytes.length + uptoBulk d + 1
  | (_, d) => uptoBulk d + 1
 end
def uptoSmall : (H : Type) → List (DataW H) → Bool := fun _ ds => decide (uptoBulkAll ds ≤ 1048576)
def OpenSpec.upto (s : _root_.Go.ChangeSpec) : _root_.Go.OpenSpec := { _root_.Go.OpenSpec.ofChange s with cond := some uptoSmall }

/-- 'aviarylaw21.FairWeights', WHERE WHAT IT READS IS OF BULK AT MOST 1048576: true; the input reads as it did. -/
def fairWeightsUptoRow : OpenClaim := { program := "ytdnkliapcnfcoaa", sum := "07ea430be760ddadda1b63d8c3067e11c39484cb6749cdf9b346d923ac8dfd7d", func := "aviary/aviarylaw21.FairWeights", spec := "fairWeights", unfollowed := true, recurses := true, apart := false, narrowed := true }
def FairWeightsUptoSaid : Prop := fairWeightsUptoRow.holds Try.pinned (OpenSpec.upto fairWeightsSpec)

/-- 'aviarylaw21.FairIdle', WHERE WHAT IT READS IS OF BULK AT MOST 1048576: true; the input reads as it did. -/
def fairIdleUptoRow : OpenClaim := { program := "ytdnkliapcnfcoaa", sum := "07ea430be760ddadda1b63d8c3067e11c39484cb6749cdf9b346d923ac8dfd7d", func := "aviary/aviarylaw21.FairIdle", spec := "fairIdle", unfollowed := true, recurses := true, apart := false, narrowed := true }
def FairIdleUptoSaid : Prop := fairIdleUptoRow.holds Try.pinned (OpenSpec.upto fairIdleSpec)

/-- 'aviarylaw21.FairOrder', WHERE WHAT IT READS IS OF BULK AT MOST 1048576: true; the input reads as it did. -/
def fairOrderUptoRow : OpenClaim := { program := "ytdnkliapcnfcoaa", sum := "07ea430be760ddadda1b63d8c3067e11c39484cb6749cdf9b346d923ac8dfd7d", func := "aviary/aviarylaw21.FairOrder", spec := "fairOrder", unfollowed := true, recurses := true, apart := false, narrowed := true }
def FairOrderUptoSaid : Prop := fairOrderUptoRow.holds Try.pinned (OpenSpec.upto fairOrderSpec)

/-- 'aviarylaw21.FairDoes', WHERE WHAT IT READS IS OF BULK AT MOST 1048576: true; the input reads as it did. -/
def fairDoesUptoRow : OpenClaim := { program := "ytdnkliapcnfcoaa", sum := "07ea430be760ddadda1b63d8c3067e11c39484cb6749cdf9b346d923ac8dfd7d", func := "aviary/aviarylaw21.FairDoes", spec := "fairDoes", unfollowed := true, recurses := true, apart := false, narrowed := true }
def FairDoesUptoSaid : Prop := fairDoesUptoRow.holds Try.pinned (OpenSpec.upto fairDoesSpec)

end Rows
end Go.Proofs.Ytdnkliapcnfcoaa
