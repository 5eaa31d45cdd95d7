/- math.Float64bits, Float64frombits, IsNaN over float words. -/
import Derived.Test.YtkmpjdffhbokdaaFlb
namespace Go.Proofs.Ytkmpjdffhbokdaa.ord
open Go.ChangeShapes Go.WideShapes Go.ChangeAt Go.RowKit K Fl
set_option linter.unusedVariables false
set_option linter.unusedSimpArgs false
theorem extBits (x : Nat) (w : World) : (callFunc 44 #[.float .f64 x]).run Try.prog w = .ok (.value (.int .u64 x)) w := by
  rw [run_callFunc_extern (e := Extern.MathFloatBits.float64bits) Try.func44 (by kernel_rfl) (by kernel_rfl) (by kernel_rfl) (by kernel_rfl)]
  rfl
theorem extFrom (x : Nat) (w : World) : (callFunc 47 #[.int .u64 x]).run Try.prog w = .ok (.value (.float .f64 x)) w := by
  rw [run_callFunc_extern (e := Extern.MathFloatBits.float64frombits) Try.func47 (by kernel_rfl) (by kernel_rfl) (by kernel_rfl) (by kernel_rfl)]
  rfl
theorem isnan (x : Nat) (w : World) :
    Calls Try.prog 37 #[.float .f64 x] w fun e w' => e = .returned (.bool (!decide (isNum x))) ∧ w = w' := by
  rw [← self_ne]
  go_enter Try.func37, Try.ntmps37
  go_wp2
  go_ret
  exact ⟨rfl, rfl⟩
end Go.Proofs.Ytkmpjdffhbokdaa.ord
