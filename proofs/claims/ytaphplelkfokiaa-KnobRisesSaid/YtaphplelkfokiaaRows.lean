/-
  No cell of these rows narrows 'for every input' (looked for: loops, veiled, ifaces, maps, wideKeys, modest, calm, conditions, laid).
  DERIVED. THE GIVEN ROWS OF THIS SEAT. 5 by the template 'for every input the law returns true; each argument reads behind the call as it read before'; 0 by the template 'total and deterministic' (their statements: YtaphplelkfokiaaTotals.lean).
  GIVEN WITH THE SEED: the statements are not yours to turn. If you find one false, say at which input.
  Laid BY PROGRAM, IN A SANDBOX (cutbox-rows.mjs): the forced cells as the released guide's own fill.sh prints them over the translation 6b4454a10c302ddb… (all of the seat's roots in one cut). By AI agents, Wed Nov 11 2026. No macro, syntax, notation, axiom, sorry.
-/
import Derived.Test.YtaphplelkfokiaaChecked
import GoSem.Claim
import GoSem.ClaimJoined
import GoSem.ClaimMapViews
import Derived.JoinedTies
import Derived.KernelRfl
namespace Go.Proofs.Ytaphplelkfokiaa
/- THE CELL 'sum', in the pinned program and in every row, IS THE sha256 OF THE DUMP (.gsa) THAT YtaphplelkfokiaaProg.lean LOADS. Nothing in Lean hashes anything: it is a label: what it is worth is what the hold of that sum in a sandbox is worth. -/
noncomputable def Try.pinned : Pinned := { name := "ytaphplelkfokiaa", sum := "6b4454a10c302ddb503b4e25b3b6895b33f9713b359e98983de65361f7570e69", checked := Try.checked }
namespace Rows
def none {H : Type} : Left H := { results := [], args := [] }

/-- 'aviarylaw02.KnobOrders': WHATEVER THE INPUT: true; the input reads as it did. -/
def knobOrdersSpec : ChangeSpec := { name := "knobOrders", fn := fun _ => fun
  | [d1, d2] => { results := [.lit (.bool true)], args := [d1, d2] }
  | _ => none }
def knobOrdersRow : OpenClaim := { program := "ytaphplelkfokiaa", sum := "6b4454a10c302ddb503b4e25b3b6895b33f9713b359e98983de65361f7570e69", func := "aviary/aviarylaw02.KnobOrders", spec := "knobOrders", inPlace := ["math.Float64bits"], apart := false }
def KnobOrdersSaid : Prop := knobOrdersRow.holds Try.pinned (OpenSpec.ofChange knobOrdersSpec)

/-- ITS FALSE NEIGHBOUR: 'it returns false'. Refute it at one input. -/
def knobOrdersWrong : ChangeSpec := { name := "knobOrders", fn := fun _ => fun
  | [d1, d2] => { results := [.lit (.bool false)], args := [d1, d2] }
  | _ => none }
def KnobOrdersWrongFalsely : Prop := knobOrdersRow.holds Try.pinned (OpenSpec.ofChange knobOrdersWrong)

/-- 'aviarylaw02.KnobTotal': WHATEVER THE INPUT: true; the input reads as it did. -/
def knobTotalSpec : ChangeSpec := { name := "knobTotal", fn := fun _ => fun
  | [d1, d2, d3] => { results := [.lit (.bool true)], args := [d1, d2, d3] }
  | _ => none }
def knobTotalRow : OpenClaim := { program := "ytaphplelkfokiaa", sum := "6b4454a10c302ddb503b4e25b3b6895b33f9713b359e98983de65361f7570e69", func := "aviary/aviarylaw02.KnobTotal", spec := "knobTotal", inPlace := ["math.Float64bits", "math.Float64frombits", "math.RoundToEven"], apart := false }
def KnobTotalSaid : Prop := knobTotalRow.holds Try.pinned (OpenSpec.ofChange knobTotalSpec)

/-- ITS FALSE NEIGHBOUR: 'it returns false'. Refute it at one input. -/
def knobTotalWrong : ChangeSpec := { name := "knobTotal", fn := fun _ => fun
  | [d1, d2, d3] => { results := [.lit (.bool false)], args := [d1, d2, d3] }
  | _ => none }
def KnobTotalWrongFalsely : Prop := knobTotalRow.holds Try.pinned (OpenSpec.ofChange knobTotalWrong)

/-- 'aviarylaw02.KnobRises': WHATEVER THE INPUT: true; the input reads as it did. -/
def knobRisesSpec : ChangeSpec := { name := "knobRises", fn := fun _ => fun
  | [d1, d2] => { results := [.lit (.bool true)], args := [d1, d2] }
  | _ => none }
def knobRisesRow : OpenClaim := { program := "ytaphplelkfokiaa", sum := "6b4454a10c302ddb503b4e25b3b6895b33f9713b359e98983de65361f7570e69", func := "aviary/aviarylaw02.KnobRises", spec := "knobRises", inPlace := ["math.Float64bits", "math.Float64frombits", "math.RoundToEven"], apart := false }
def KnobRisesSaid : Prop := knobRisesRow.holds Try.pinned (OpenSpec.ofChange knobRisesSpec)

/-- ITS FALSE NEIGHBOUR: 'it returns false'. Refute it at one input. -/
def knobRisesWrong : ChangeSpec := { name := "knobRises", fn := fun _ => fun
  | [d1, d2] => { results := [.lit (.bool false)], args := [d1, d2] }
  | _ => none }
def KnobRisesWrongFalsely : Prop := knobRisesRow.holds Try.pinned (OpenSpec.ofChange knobRisesWrong)

/-- 'aviarylaw02.KnobSigns': WHATEVER THE INPUT: true; the input reads as it did. -/
def knobSignsSpec : ChangeSpec := { name := "knobSigns", fn := fun _ => fun
  | [d1, d2] => { results := [.lit (.bool true)], args := [d1, d2] }
  | _ => none }
def knobSignsRow : OpenClaim := { program := "ytaphplelkfokiaa", sum := "6b4454a10c302ddb503b4e25b3b6895b33f9713b359e98983de65361f7570e69", func := "aviary/aviarylaw02.KnobSigns", spec := "knobSigns", inPlace := ["math.Float64bits", "math.Float64frombits", "math.RoundToEven"], apart := false }
def KnobSignsSaid : Prop := knobSignsRow.holds Try.pinned (OpenSpec.ofChange knobSignsSpec)

/-- ITS FALSE NEIGHBOUR: 'it returns false'. Refute it at one input. -/
def knobSignsWrong : ChangeSpec := { name := "knobSigns", fn := fun _ => fun
  | [d1, d2] => { results := [.lit (.bool false)], args := [d1, d2] }
  | _ => none }
def KnobSignsWrongFalsely : Prop := knobSignsRow.holds Try.pinned (OpenSpec.ofChange knobSignsWrong)

/-- 'aviarylaw02.KnobBack': WHATEVER THE INPUT: true; the input reads as it did. -/
def knobBackSpec : ChangeSpec := { name := "knobBack", fn := fun _ => fun
  | [d] => { results := [.lit (.bool true)], args := [d] }
  | _ => none }
def knobBackRow : OpenClaim := { program := "ytaphplelkfokiaa", sum := "6b4454a10c302ddb503b4e25b3b6895b33f9713b359e98983de65361f7570e69", func := "aviary/aviarylaw02.KnobBack", spec := "knobBack", inPlace := ["math.Float64bits", "math.Float64frombits", "math.RoundToEven"], apart := false }
def KnobBackSaid : Prop := knobBackRow.holds Try.pinned (OpenSpec.ofChange knobBackSpec)

/-- ITS FALSE NEIGHBOUR: 'it returns false'. Refute it at one input. -/
def knobBackWrong : ChangeSpec := { name := "knobBack", fn := fun _ => fun
  | [d] => { results := [.lit (.bool false)], args := [d] }
  | _ => none }
def KnobBackWrongFalsely : Prop := knobBackRow.holds Try.pinned (OpenSpec.ofChange knobBackWrong)

/- THE SECOND FORM. 'bulk': how many values and letters a reading holds, each counted each time it is reached (what is shared counts as often as it is met; a slice's spare places count too). A statement '..UptoSaid' is the law's where the arguments, and the package variables that the reading takes, are together of bulk at most 1048576: NARROWER than '..Said'. Prove '..Said' where nothing that the law and all that it calls make is longer than what came in: it says more and counts as full. Else prove '..UptoSaid'. A law counts once. -/
mutual
def uptoBulk {H : Type} : DataW H → Nat
  | .lit (.string bytes) => bytes.length + 1
  | .lit _ => 1
  | .nil => 1
  | .ptr d => uptoBulk d + 1
  | .slice elems spare => uptoBulkAll elems + uptoBulkAll spare + 1
  | .agg parts => uptoBulkAll parts + 1
  | .iface _ d => uptoBulk d + 1
  | .map entries => uptoBulkEntries entries + 1
  | .held _ => 1
def uptoBulkAll {H : Type} : List (DataW H) → Nat
  | [] => 0
  | d :: r => uptoBulk d + uptoBulkAll r
def uptoBulkEntries {H : Type} : List (Lit × DataW H) → Nat
  | [] => 0
  | x :: r => uptoBulkEntry x + uptoBulkEntries r
def uptoBulkEntry {H : Type} : Lit × DataW H → Nat
  | (.string bytes, d) => bytes.length + uptoBulk d + 1
  | (_, d) => uptoBulk d + 1
 end
def uptoSmall : (H : Type) → List (DataW H) → Bool := fun _ ds => decide (uptoBulkAll ds ≤ 1048576)
def OpenSpec.upto (s : _root_.Go.ChangeSpec) : _root_.Go.OpenSpec := { _root_.Go.OpenSpec.ofChange s with cond := some uptoSmall }

/-- 'aviarylaw02.KnobOrders', WHERE WHAT IT READS IS OF BULK AT MOST 1048576: true; the input reads as it did. -/
def knobOrdersUptoRow : OpenClaim := { program := "ytaphplelkfokiaa", sum := "6b4454a10c302ddb503b4e25b3b6895b33f9713b359e98983de65361f7570e69", func := "aviary/aviarylaw02.KnobOrders", spec := "knobOrders", inPlace := ["math.Float64bits"], apart := false, narrowed := true }
def KnobOrdersUptoSaid : Prop := knobOrdersUptoRow.holds Try.pinned (OpenSpec.upto knobOrdersSpec)

/-- 'aviarylaw02.KnobTotal', WHERE WHAT IT READS IS OF BULK AT MOST 1048576: true; the input reads as it did. -/
def knobTotalUptoRow : OpenClaim := { program := "ytaphplelkfokiaa", sum := "6b4454a10c302ddb503b4e25b3b6895b33f9713b359e98983de65361f7570e69", func := "aviary/aviarylaw02.KnobTotal", spec := "knobTotal", inPlace := ["math.Float64bits", "math.Float64frombits", "math.RoundToEven"], apart := false, narrowed := true }
def KnobTotalUptoSaid : Prop := knobTotalUptoRow.holds Try.pinned (OpenSpec.upto knobTotalSpec)

/-- 'aviarylaw02.KnobRises', WHERE WHAT IT READS IS OF BULK AT MOST 1048576: true; the input reads as it did. -/
def knobRisesUptoRow : OpenClaim := { program := "ytaphplelkfokiaa", sum := "6b4454a10c302ddb503b4e25b3b6895b33f9713b359e98983de65361f7570e69", func := "aviary/aviarylaw02.KnobRises", spec := "knobRises", inPlace := ["math.Float64bits", "math.Float64frombits", "math.RoundToEven"], apart := false, narrowed := true }
def KnobRisesUptoSaid : Prop := knobRisesUptoRow.holds Try.pinned (OpenSpec.upto knobRisesSpec)

/-- 'aviarylaw02.KnobSigns', WHERE WHAT IT READS IS OF BULK AT MOST 1048576: true; the input reads as it did. -/
def knobSignsUptoRow : OpenClaim := { program := "ytaphplelkfokiaa", sum := "6b4454a10c302ddb503b4e25b3b6895b33f9713b359e98983de65361f7570e69", func := "aviary/aviarylaw02.KnobSigns", spec := "knobSigns", inPlace := ["math.Float64bits", "math.Float64frombits", "math.RoundToEven"], apart := false, narrowed := true }
def KnobSignsUptoSaid : Prop := knobSignsUptoRow.holds Try.pinned (OpenSpec.upto knobSignsSpec)

/-- 'aviarylaw02.KnobBack', WHERE WHAT IT READS IS OF BULK AT MOST 1048576: true; the input reads as it did. -/
def knobBackUptoRow : OpenClaim := { program := "ytaphplelkfokiaa", sum := "6b4454a10c302ddb503b4e25b3b6895b33f9713b359e98983de65361f7570e69", func := "aviary/aviarylaw02.KnobBack", spec := "knobBack", inPlace := ["math.Float64bits", "math.Float64frombits", "math.RoundToEven"], apart := false, narrowed := true }
def KnobBackUptoSaid : Prop := knobBackUptoRow.holds Try.pinned (OpenSpec.upto knobBackSpec)

end Rows
end Go.Proofs.Ytaphplelkfokiaa
