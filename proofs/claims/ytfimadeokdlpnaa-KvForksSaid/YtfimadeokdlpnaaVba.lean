/- works: what its calls give, by reckoning. -/
import Derived.Test.YtfimadeokdlpnaaVj
import Derived.KernelRfl
namespace Go.Proofs.Ytfimadeokdlpnaa.kv
open Go.ChangeShapes Go.WideShapes Go.ChangeAt Go.RowKit K
set_option linter.unusedVariables false
def tagR : ByteArray := { data := #[114] }
def stW : Nat → List Pg × Sq
  | 0 => (List.replicate 8 Pg.no, ⟨tagR, 16, [], 0, 0⟩)
  | k + 1 => (appendOf (stW k).1 (stW k).2 (rowN 16 k)).getD (stW k)
def sW4 : List Pg := shareAll (stW 3).1 (stW 3).2.pages
def stW5 : List Pg × Sq := (appendOf sW4 (stW 3).2 (rowN 16 9)).getD (stW 3)
def sW6 : List Pg := dropAll stW5.1 stW5.2.pages
def sW7 : List Pg := dropAll sW6 (stW 3).2.pages
theorem getD_of_some {α : Type} {o : Option α} {d : α} (h : o.isSome = true) : o = some (o.getD d) := by cases o <;> simp_all
theorem stW_0 : (appendOf (stW 0).1 (stW 0).2 (rowN 16 0)).isSome = true := by kernel_rfl
theorem stW_1 : (appendOf (stW 1).1 (stW 1).2 (rowN 16 1)).isSome = true := by kernel_rfl
theorem stW_2 : (appendOf (stW 2).1 (stW 2).2 (rowN 16 2)).isSome = true := by kernel_rfl
theorem stW_5 : (appendOf sW4 (stW 3).2 (rowN 16 9)).isSome = true := by kernel_rfl
theorem needW1 : needOf sW4 (stW 3).2 = 1 := by kernel_rfl
theorem needW5 : needOf stW5.1 (stW 3).2 = 0 := by kernel_rfl
theorem cntW5 : countOf stW5.1 tagR = 3 := by kernel_rfl
theorem rowW2 : rowOf stW5.1 (stW 3).2 2 = rowN 16 2 := by kernel_rfl
theorem rowW3 : rowOf stW5.1 stW5.2 3 = rowN 16 9 := by kernel_rfl
theorem cntW7 : countOf sW7 tagR = 0 := by kernel_rfl
end Go.Proofs.Ytfimadeokdlpnaa.kv
