/-
  No cell of these rows narrows 'for every input' (looked for: loops, veiled, ifaces, maps, wideKeys, modest, calm, conditions, laid).
  DERIVED. THE GIVEN ROWS OF THIS SEAT. 6 by the template 'for every input the law returns true; each argument reads behind the call as it read before'; 0 by the template 'total and deterministic' (their statements: YtkmpjdffhbokdaaTotals.lean).
  GIVEN WITH THE SEED: the statements are not yours to turn. If you find one false, say at which input.
  Laid BY PROGRAM, IN A SANDBOX (cutbox-rows.mjs): the forced cells as the released guide's own fill.sh prints them over the translation aa1cc4990878867d… (all of the seat's roots in one cut). By AI agents, Wed Nov 11 2026. No macro, syntax, notation, axiom, sorry.
-/
import Derived.Test.YtkmpjdffhbokdaaChecked
import GoSem.Claim
import GoSem.ClaimJoined
import GoSem.ClaimMapViews
import Derived.JoinedTies
import Derived.KernelRfl
namespace Go.Proofs.Ytkmpjdffhbokdaa
/- THE CELL 'sum', in the pinned program and in every row, IS THE sha256 OF THE DUMP (.gsa) THAT YtkmpjdffhbokdaaProg.lean LOADS. Nothing in Lean hashes anything: it is a label: what it is worth is what the hold of that sum in a sandbox is worth. -/
noncomputable def Try.pinned : Pinned := { name := "ytkmpjdffhbokdaa", sum := "aa1cc4990878867dc8f99778f4707c13c1f37986a35a6fd14975a56f01dc703a", checked := Try.checked }
namespace Rows
def none {H : Type} : Left H := { results := [], args := [] }

/-- 'aviarylaw22.AdmitLoads': WHATEVER THE INPUT: true; the input reads as it did. -/
def admitLoadsSpec : ChangeSpec := { name := "admitLoads", fn := fun _ => fun
  | [d1, d2, d3, d4, d5] => { results := [.lit (.bool true)], args := [d1, d2, d3, d4, d5] }
  | _ => none }
def admitLoadsRow : OpenClaim := { program := "ytkmpjdffhbokdaa", sum := "aa1cc4990878867dc8f99778f4707c13c1f37986a35a6fd14975a56f01dc703a", func := "aviary/aviarylaw22.AdmitLoads", spec := "admitLoads", apart := false }
def AdmitLoadsSaid : Prop := admitLoadsRow.holds Try.pinned (OpenSpec.ofChange admitLoadsSpec)

/-- ITS FALSE NEIGHBOUR: 'it returns false'. Refute it at one input. -/
def admitLoadsWrong : ChangeSpec := { name := "admitLoads", fn := fun _ => fun
  | [d1, d2, d3, d4, d5] => { results := [.lit (.bool false)], args := [d1, d2, d3, d4, d5] }
  | _ => none }
def AdmitLoadsWrongFalsely : Prop := admitLoadsRow.holds Try.pinned (OpenSpec.ofChange admitLoadsWrong)

/-- 'aviarylaw22.AdmitDecides': WHATEVER THE INPUT: true; the input reads as it did. -/
def admitDecidesSpec : ChangeSpec := { name := "admitDecides", fn := fun _ => fun
  | [d] => { results := [.lit (.bool true)], args := [d] }
  | _ => none }
def admitDecidesRow : OpenClaim := { program := "ytkmpjdffhbokdaa", sum := "aa1cc4990878867dc8f99778f4707c13c1f37986a35a6fd14975a56f01dc703a", func := "aviary/aviarylaw22.AdmitDecides", spec := "admitDecides", apart := false }
def AdmitDecidesSaid : Prop := admitDecidesRow.holds Try.pinned (OpenSpec.ofChange admitDecidesSpec)

/-- ITS FALSE NEIGHBOUR: 'it returns false'. Refute it at one input. -/
def admitDecidesWrong : ChangeSpec := { name := "admitDecides", fn := fun _ => fun
  | [d] => { results := [.lit (.bool false)], args := [d] }
  | _ => none }
def AdmitDecidesWrongFalsely : Prop := admitDecidesRow.holds Try.pinned (OpenSpec.ofChange admitDecidesWrong)

/-- 'aviarylaw22.AdmitNeeds': WHATEVER THE INPUT: true; the input reads as it did. -/
def admitNeedsSpec : ChangeSpec := { name := "admitNeeds", fn := fun _ => fun
  | [d1, d2, d3] => { results := [.lit (.bool true)], args := [d1, d2, d3] }
  | _ => none }
def admitNeedsRow : OpenClaim := { program := "ytkmpjdffhbokdaa", sum := "aa1cc4990878867dc8f99778f4707c13c1f37986a35a6fd14975a56f01dc703a", func := "aviary/aviarylaw22.AdmitNeeds", spec := "admitNeeds", inPlace := ["math.Float64bits", "math.Float64frombits", "math.RoundToEven"], apart := false }
def AdmitNeedsSaid : Prop := admitNeedsRow.holds Try.pinned (OpenSpec.ofChange admitNeedsSpec)

/-- ITS FALSE NEIGHBOUR: 'it returns false'. Refute it at one input. -/
def admitNeedsWrong : ChangeSpec := { name := "admitNeeds", fn := fun _ => fun
  | [d1, d2, d3] => { results := [.lit (.bool false)], args := [d1, d2, d3] }
  | _ => none }
def AdmitNeedsWrongFalsely : Prop := admitNeedsRow.holds Try.pinned (OpenSpec.ofChange admitNeedsWrong)

/-- 'aviarylaw22.AdmitMore': WHATEVER THE INPUT: true; the input reads as it did. -/
def admitMoreSpec : ChangeSpec := { name := "admitMore", fn := fun _ => fun
  | [d1, d2, d3] => { results := [.lit (.bool true)], args := [d1, d2, d3] }
  | _ => none }
def admitMoreRow : OpenClaim := { program := "ytkmpjdffhbokdaa", sum := "aa1cc4990878867dc8f99778f4707c13c1f37986a35a6fd14975a56f01dc703a", func := "aviary/aviarylaw22.AdmitMore", spec := "admitMore", inPlace := ["math.Float64bits", "math.Float64frombits", "math.RoundToEven"], apart := false }
def AdmitMoreSaid : Prop := admitMoreRow.holds Try.pinned (OpenSpec.ofChange admitMoreSpec)

/-- ITS FALSE NEIGHBOUR: 'it returns false'. Refute it at one input. -/
def admitMoreWrong : ChangeSpec := { name := "admitMore", fn := fun _ => fun
  | [d1, d2, d3] => { results := [.lit (.bool false)], args := [d1, d2, d3] }
  | _ => none }
def AdmitMoreWrongFalsely : Prop := admitMoreRow.holds Try.pinned (OpenSpec.ofChange admitMoreWrong)

/-- 'aviarylaw22.AdmitLonger': WHATEVER THE INPUT: true; the input reads as it did. -/
def admitLongerSpec : ChangeSpec := { name := "admitLonger", fn := fun _ => fun
  | [d1, d2, d3] => { results := [.lit (.bool true)], args := [d1, d2, d3] }
  | _ => none }
def admitLongerRow : OpenClaim := { program := "ytkmpjdffhbokdaa", sum := "aa1cc4990878867dc8f99778f4707c13c1f37986a35a6fd14975a56f01dc703a", func := "aviary/aviarylaw22.AdmitLonger", spec := "admitLonger", inPlace := ["math.Float64bits", "math.Float64frombits", "math.RoundToEven"], apart := false }
def AdmitLongerSaid : Prop := admitLongerRow.holds Try.pinned (OpenSpec.ofChange admitLongerSpec)

/-- ITS FALSE NEIGHBOUR: 'it returns false'. Refute it at one input. -/
def admitLongerWrong : ChangeSpec := { name := "admitLonger", fn := fun _ => fun
  | [d1, d2, d3] => { results := [.lit (.bool false)], args := [d1, d2, d3] }
  | _ => none }
def AdmitLongerWrongFalsely : Prop := admitLongerRow.holds Try.pinned (OpenSpec.ofChange admitLongerWrong)

/-- 'aviarylaw22.AdmitOne': WHATEVER THE INPUT: true; the input reads as it did. -/
def admitOneSpec : ChangeSpec := { name := "admitOne", fn := fun _ => fun
  | [d1, d2] => { results := [.lit (.bool true)], args := [d1, d2] }
  | _ => none }
def admitOneRow : OpenClaim := { program := "ytkmpjdffhbokdaa", sum := "aa1cc4990878867dc8f99778f4707c13c1f37986a35a6fd14975a56f01dc703a", func := "aviary/aviarylaw22.AdmitOne", spec := "admitOne", inPlace := ["math.Float64bits", "math.Float64frombits", "math.RoundToEven"], apart := false }
def AdmitOneSaid : Prop := admitOneRow.holds Try.pinned (OpenSpec.ofChange admitOneSpec)

/-- ITS FALSE NEIGHBOUR: 'it returns false'. Refute it at one input. -/
def admitOneWrong : ChangeSpec := { name := "admitOne", fn := fun _ => fun
  | [d1, d2] => { results := [.lit (.bool false)], args := [d1, d2] }
  | _ => none }
def AdmitOneWrongFalsely : Prop := admitOneRow.holds Try.pinned (OpenSpec.ofChange admitOneWrong)

/- THE SECOND FORM. 'bulk': how many values and letters a reading holds, each counted each time it is reached (what is shared counts as often as it is met; a slice's spare places count too). A statement '..UptoSaid' is the law's where the arguments, and the package variables that the reading takes, are together of bulk at most 1048576: NARROWER than '..Said'. Prove '..Said' where nothing that the law and all that it calls make is longer than what came in: it says more and counts as full. Else prove '..UptoSaid'. A law counts once. -/
mutual
def uptoBulk {H : Type} : DataW H → Nat
  | .lit (.string bytes) => bytes.length + 1
  | .lit _ => 1
  | .nil => 1
  | .ptr d => uptoBulk d + 1
  | .slice elems spare => uptoBulkAll elems + uptoBulkAll spare + 1
  | .agg parts => uptoBulkAll parts + 1
  | .iface _ d => uptoBulk d + 1
  | .map entries => uptoBulkEntries entries + 1
  | .held _ => 1
def uptoBulkAll {H : Type} : List (DataW H) → Nat
  | [] => 0
  | d :: r => uptoBulk d + uptoBulkAll r
def uptoBulkEntries {H : Type} : List (Lit × DataW H) → Nat
  | [] => 0
  | x :: r => uptoBulkEntry x + uptoBulkEntries r
def uptoBulkEntry {H : Type} : Lit × DataW H → Nat
  | (.string bytes, d) => bytes.length + uptoBulk d + 1
  | (_, d) => uptoBulk d + 1
 end
def uptoSmall : (H : Type) → List (DataW H) → Bool := fun _ ds => decide (uptoBulkAll ds ≤ 1048576)
def OpenSpec.upto (s : _root_.Go.ChangeSpec) : _root_.Go.OpenSpec := { _root_.Go.OpenSpec.ofChange s with cond := some uptoSmall }

/-- 'aviarylaw22.AdmitLoads', WHERE WHAT IT READS IS OF BULK AT MOST 1048576: true; the input reads as it did. -/
def admitLoadsUptoRow : OpenClaim := { program := "ytkmpjdffhbokdaa", sum := "aa1cc4990878867dc8f99778f4707c13c1f37986a35a6fd14975a56f01dc703a", func := "aviary/aviarylaw22.AdmitLoads", spec := "admitLoads", apart := false, narrowed := true }
def AdmitLoadsUptoSaid : Prop := admitLoadsUptoRow.holds Try.pinned (OpenSpec.upto admitLoadsSpec)

/-- 'aviarylaw22.AdmitDecides', WHERE WHAT IT READS IS OF BULK AT MOST 1048576: true; the input reads as it did. -/
def admitDecidesUptoRow : OpenClaim := { program := "ytkmpjdffhbokdaa", sum := "aa1cc4990878867dc8f99778f4707c13c1f37986a35a6fd14975a56f01dc703a", func := "aviary/aviarylaw22.AdmitDecides", spec := "admitDecides", apart := false, narrowed := true }
def AdmitDecidesUptoSaid : Prop := admitDecidesUptoRow.holds Try.pinned (OpenSpec.upto admitDecidesSpec)

/-- 'aviarylaw22.AdmitNeeds', WHERE WHAT IT READS IS OF BULK AT MOST 1048576: true; the input reads as it did. -/
def admitNeedsUptoRow : OpenClaim := { program := "ytkmpjdffhbokdaa", sum := "aa1cc4990878867dc8f99778f4707c13c1f37986a35a6fd14975a56f01dc703a", func := "aviary/aviarylaw22.AdmitNeeds", spec := "admitNeeds", inPlace := ["math.Float64bits", "math.Float64frombits", "math.RoundToEven"], apart := false, narrowed := true }
def AdmitNeedsUptoSaid : Prop := admitNeedsUptoRow.holds Try.pinned (OpenSpec.upto admitNeedsSpec)

/-- 'aviarylaw22.AdmitMore', WHERE WHAT IT READS IS OF BULK AT MOST 1048576: true; the input reads as it did. -/
def admitMoreUptoRow : OpenClaim := { program := "ytkmpjdffhbokdaa", sum := "aa1cc4990878867dc8f99778f4707c13c1f37986a35a6fd14975a56f01dc703a", func := "aviary/aviarylaw22.AdmitMore", spec := "admitMore", inPlace := ["math.Float64bits", "math.Float64frombits", "math.RoundToEven"], apart := false, narrowed := true }
def AdmitMoreUptoSaid : Prop := admitMoreUptoRow.holds Try.pinned (OpenSpec.upto admitMoreSpec)

/-- 'aviarylaw22.AdmitLonger', WHERE WHAT IT READS IS OF BULK AT MOST 1048576: true; the input reads as it did. -/
def admitLongerUptoRow : OpenClaim := { program := "ytkmpjdffhbokdaa", sum := "aa1cc4990878867dc8f99778f4707c13c1f37986a35a6fd14975a56f01dc703a", func := "aviary/aviarylaw22.AdmitLonger", spec := "admitLonger", inPlace := ["math.Float64bits", "math.Float64frombits", "math.RoundToEven"], apart := false, narrowed := true }
def AdmitLongerUptoSaid : Prop := admitLongerUptoRow.holds Try.pinned (OpenSpec.upto admitLongerSpec)

/-- 'aviarylaw22.AdmitOne', WHERE WHAT IT READS IS OF BULK AT MOST 1048576: true; the input reads as it did. -/
def admitOneUptoRow : OpenClaim := { program := "ytkmpjdffhbokdaa", sum := "aa1cc4990878867dc8f99778f4707c13c1f37986a35a6fd14975a56f01dc703a", func := "aviary/aviarylaw22.AdmitOne", spec := "admitOne", inPlace := ["math.Float64bits", "math.Float64frombits", "math.RoundToEven"], apart := false, narrowed := true }
def AdmitOneUptoSaid : Prop := admitOneUptoRow.holds Try.pinned (OpenSpec.upto admitOneSpec)

end Rows
end Go.Proofs.Ytkmpjdffhbokdaa
