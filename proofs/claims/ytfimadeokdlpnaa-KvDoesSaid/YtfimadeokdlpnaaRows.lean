/-
  No cell of these rows narrows 'for every input' (looked for: loops, veiled, ifaces, maps, wideKeys, modest, calm, conditions, laid).
  DERIVED. THE GIVEN ROWS OF THIS SEAT. 4 by the template 'for every input the law returns true; each argument reads behind the call as it read before'; 0 by the template 'total and deterministic' (their statements: YtfimadeokdlpnaaTotals.lean).
  GIVEN WITH THE SEED: the statements are not yours to turn. If you find one false, say at which input.
  Laid BY PROGRAM, IN A SANDBOX (cutbox-rows.mjs): the forced cells as the released guide's own fill.sh prints them over the translation 6fb364cda2d49d38… (all of the seat's roots in one cut). By AI agents, Wed Nov 11 2026. No macro, syntax, notation, axiom, sorry.
-/
import Derived.Test.YtfimadeokdlpnaaChecked
import GoSem.Claim
import GoSem.ClaimJoined
import GoSem.ClaimMapViews
import Derived.JoinedTies
import Derived.KernelRfl
namespace Go.Proofs.Ytfimadeokdlpnaa
/- THE CELL 'sum', in the pinned program and in every row, IS THE sha256 OF THE DUMP (.gsa) THAT YtfimadeokdlpnaaProg.lean LOADS. Nothing in Lean hashes anything: it is a label: what it is worth is what the hold of that sum in a sandbox is worth. -/
noncomputable def Try.pinned : Pinned := { name := "ytfimadeokdlpnaa", sum := "6fb364cda2d49d380742e993d9d7fae5ee1f58cff16d61776d1865148a68f271", checked := Try.checked }
namespace Rows
def none {H : Type} : Left H := { results := [], args := [] }

/-- 'aviarylaw13.KvPages': WHATEVER THE INPUT: true; the input reads as it did. -/
def kvPagesSpec : ChangeSpec := { name := "kvPages", fn := fun _ => fun
  | [d1, d2, d3] => { results := [.lit (.bool true)], args := [d1, d2, d3] }
  | _ => none }
def kvPagesRow : OpenClaim := { program := "ytfimadeokdlpnaa", sum := "6fb364cda2d49d380742e993d9d7fae5ee1f58cff16d61776d1865148a68f271", func := "aviary/aviarylaw13.KvPages", spec := "kvPages", apart := false }
def KvPagesSaid : Prop := kvPagesRow.holds Try.pinned (OpenSpec.ofChange kvPagesSpec)

/-- ITS FALSE NEIGHBOUR: 'it returns false'. Refute it at one input. -/
def kvPagesWrong : ChangeSpec := { name := "kvPages", fn := fun _ => fun
  | [d1, d2, d3] => { results := [.lit (.bool false)], args := [d1, d2, d3] }
  | _ => none }
def KvPagesWrongFalsely : Prop := kvPagesRow.holds Try.pinned (OpenSpec.ofChange kvPagesWrong)

/-- 'aviarylaw13.KvDoes': WHATEVER THE INPUT: true; the input reads as it did. -/
def kvDoesSpec : ChangeSpec := { name := "kvDoes", fn := fun _ => fun
  | [d1, d2, d3, d4] => { results := [.lit (.bool true)], args := [d1, d2, d3, d4] }
  | _ => none }
def kvDoesRow : OpenClaim := { program := "ytfimadeokdlpnaa", sum := "6fb364cda2d49d380742e993d9d7fae5ee1f58cff16d61776d1865148a68f271", func := "aviary/aviarylaw13.KvDoes", spec := "kvDoes", apart := false }
def KvDoesSaid : Prop := kvDoesRow.holds Try.pinned (OpenSpec.ofChange kvDoesSpec)

/-- ITS FALSE NEIGHBOUR: 'it returns false'. Refute it at one input. -/
def kvDoesWrong : ChangeSpec := { name := "kvDoes", fn := fun _ => fun
  | [d1, d2, d3, d4] => { results := [.lit (.bool false)], args := [d1, d2, d3, d4] }
  | _ => none }
def KvDoesWrongFalsely : Prop := kvDoesRow.holds Try.pinned (OpenSpec.ofChange kvDoesWrong)

/-- 'aviarylaw13.KvKeeps': WHATEVER THE INPUT: true; the input reads as it did. -/
def kvKeepsSpec : ChangeSpec := { name := "kvKeeps", fn := fun _ => fun
  | [d1, d2, d3] => { results := [.lit (.bool true)], args := [d1, d2, d3] }
  | _ => none }
def kvKeepsRow : OpenClaim := { program := "ytfimadeokdlpnaa", sum := "6fb364cda2d49d380742e993d9d7fae5ee1f58cff16d61776d1865148a68f271", func := "aviary/aviarylaw13.KvKeeps", spec := "kvKeeps", apart := false }
def KvKeepsSaid : Prop := kvKeepsRow.holds Try.pinned (OpenSpec.ofChange kvKeepsSpec)

/-- ITS FALSE NEIGHBOUR: 'it returns false'. Refute it at one input. -/
def kvKeepsWrong : ChangeSpec := { name := "kvKeeps", fn := fun _ => fun
  | [d1, d2, d3] => { results := [.lit (.bool false)], args := [d1, d2, d3] }
  | _ => none }
def KvKeepsWrongFalsely : Prop := kvKeepsRow.holds Try.pinned (OpenSpec.ofChange kvKeepsWrong)

/-- 'aviarylaw13.KvForks': WHATEVER THE INPUT: true; the input reads as it did. -/
def kvForksSpec : ChangeSpec := { name := "kvForks", fn := fun _ => fun
  | [d1, d2] => { results := [.lit (.bool true)], args := [d1, d2] }
  | _ => none }
def kvForksRow : OpenClaim := { program := "ytfimadeokdlpnaa", sum := "6fb364cda2d49d380742e993d9d7fae5ee1f58cff16d61776d1865148a68f271", func := "aviary/aviarylaw13.KvForks", spec := "kvForks", apart := false }
def KvForksSaid : Prop := kvForksRow.holds Try.pinned (OpenSpec.ofChange kvForksSpec)

/-- ITS FALSE NEIGHBOUR: 'it returns false'. Refute it at one input. -/
def kvForksWrong : ChangeSpec := { name := "kvForks", fn := fun _ => fun
  | [d1, d2] => { results := [.lit (.bool false)], args := [d1, d2] }
  | _ => none }
def KvForksWrongFalsely : Prop := kvForksRow.holds Try.pinned (OpenSpec.ofChange kvForksWrong)

/- THE SECOND FORM. 'bulk': how many values and letters a reading holds, each counted each time it is reached (what is shared counts as often as it is met; a slice's spare places count too). A statement '..UptoSaid' is the law's where the arguments, and the package variables that the reading takes, are together of bulk at most 1048576: NARROWER than '..Said'. Prove '..Said' where nothing that the law and all that it calls make is longer than what came in: it says more and counts as full. Else prove '..UptoSaid'. A law counts once. -/
mutual
def uptoBulk {H : Type} : DataW H → Nat
  | .lit (.string bytes) => bytes.length + 1
  | .lit _ => 1
  | .nil => 1
  | .ptr d => uptoBulk d + 1
  | .slice elems spare => uptoBulkAll elems + uptoBulkAll spare + 1
  | .agg parts => uptoBulkAll parts + 1
  | .iface _ d => uptoBulk d + 1
  | .map entries => uptoBulkEntries entries + 1
  | .held _ => 1
def uptoBulkAll {H : Type} : List (DataW H) → Nat
  | [] => 0
  | d :: r => uptoBulk d + uptoBulkAll r
def uptoBulkEntries {H : Type} : List (Lit × DataW H) → Nat
  | [] => 0
  | x :: r => uptoBulkEntry x + uptoBulkEntries r
def uptoBulkEntry {H : Type} : Lit × DataW H → Nat
  | (.string bytes, d) => bytes.length + uptoBulk d + 1
  | (_, d) => uptoBulk d + 1
 end
def uptoSmall : (H : Type) → List (DataW H) → Bool := fun _ ds => decide (uptoBulkAll ds ≤ 1048576)
def OpenSpec.upto (s : _root_.Go.ChangeSpec) : _root_.Go.OpenSpec := { _root_.Go.OpenSpec.ofChange s with cond := some uptoSmall }

/-- 'aviarylaw13.KvPages', WHERE WHAT IT READS IS OF BULK AT MOST 1048576: true; the input reads as it did. -/
def kvPagesUptoRow : OpenClaim := { program := "ytfimadeokdlpnaa", sum := "6fb364cda2d49d380742e993d9d7fae5ee1f58cff16d61776d1865148a68f271", func := "aviary/aviarylaw13.KvPages", spec := "kvPages", apart := false, narrowed := true }
def KvPagesUptoSaid : Prop := kvPagesUptoRow.holds Try.pinned (OpenSpec.upto kvPagesSpec)

/-- 'aviarylaw13.KvDoes', WHERE WHAT IT READS IS OF BULK AT MOST 1048576: true; the input reads as it did. -/
def kvDoesUptoRow : OpenClaim := { program := "ytfimadeokdlpnaa", sum := "6fb364cda2d49d380742e993d9d7fae5ee1f58cff16d61776d1865148a68f271", func := "aviary/aviarylaw13.KvDoes", spec := "kvDoes", apart := false, narrowed := true }
def KvDoesUptoSaid : Prop := kvDoesUptoRow.holds Try.pinned (OpenSpec.upto kvDoesSpec)

/-- 'aviarylaw13.KvKeeps', WHERE WHAT IT READS IS OF BULK AT MOST 1048576: true; the input reads as it did. -/
def kvKeepsUptoRow : OpenClaim := { program := "ytfimadeokdlpnaa", sum := "6fb364cda2d49d380742e993d9d7fae5ee1f58cff16d61776d1865148a68f271", func := "aviary/aviarylaw13.KvKeeps", spec := "kvKeeps", apart := false, narrowed := true }
def KvKeepsUptoSaid : Prop := kvKeepsUptoRow.holds Try.pinned (OpenSpec.upto kvKeepsSpec)

/-- 'aviarylaw13.KvForks', WHERE WHAT IT READS IS OF BULK AT MOST 1048576: true; the input reads as it did. -/
def kvForksUptoRow : OpenClaim := { program := "ytfimadeokdlpnaa", sum := "6fb364cda2d49d380742e993d9d7fae5ee1f58cff16d61776d1865148a68f271", func := "aviary/aviarylaw13.KvForks", spec := "kvForks", apart := false, narrowed := true }
def KvForksUptoSaid : Prop := kvForksUptoRow.holds Try.pinned (OpenSpec.upto kvForksSpec)

end Rows
end Go.Proofs.Ytfimadeokdlpnaa
