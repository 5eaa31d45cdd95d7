/- aviarylaw02.works: it answers true. -/
import Derived.Test.YtaphplelkfokiaaFix
namespace Go.Proofs.Ytaphplelkfokiaa.ldx
open Go.ChangeShapes Go.WideShapes Go.ChangeAt Go.RowKit K Fl ord
open Ieee (double)
set_option linter.unusedVariables false
set_option linter.unusedSimpArgs false
theorem nan_call (w : World) : Calls Try.prog 15 #[] w fun e w' => e = .returned (.float .f64 9221120237041090561) ∧ w = w' := by
  have hf : ∀ w, (callFunc 14 #[.int .u64 9221120237041090561]).run Try.prog w = .ok (.value (.float .f64 9221120237041090561)) w := fun w => extFrom 9221120237041090561 w
  go_enter Try.func15, Try.ntmps15
  go_wp2
  go_ret
  exact ⟨rfl, rfl⟩
theorem fix_a (w : World) : Calls Try.prog 13 #[.float .f64 4602678819172646912] w fun e w' => e = .returned (.tuple #[.int .i64 32768, .int .i64 0]) ∧ w = w' := by
  have h := Fix_num 4602678819172646912 (by decide) (by decide) w
  rw [show fixV 4602678819172646912 = 32768 from by decide +kernel] at h
  exact h
theorem fix_b (w : World) : Calls Try.prog 13 #[.float .f64 4540754324296302592] w fun e w' => e = .returned (.tuple #[.int .i64 2, .int .i64 0]) ∧ w = w' := by
  have h := Fix_num 4540754324296302592 (by decide) (by decide) w
  rw [show fixV 4540754324296302592 = 2 from by decide +kernel] at h
  exact h
theorem fix_c (w : World) : Calls Try.prog 13 #[.float .f64 9218868437227405312] w fun e w' => e = .returned (.tuple #[.int .i64 2147483647, .int .i64 0]) ∧ w = w' := by
  have h := Fix_num 9218868437227405312 (by decide) (by decide) w
  rw [show fixV 9218868437227405312 = 2147483647 from by decide +kernel] at h
  exact h
theorem fix_n (w : World) : Calls Try.prog 13 #[.float .f64 9221120237041090561] w fun e w' => e = .returned (.tuple #[.int .i64 0, .int .i64 28]) ∧ w = w' := Fix_nan 9221120237041090561 (by decide) w
theorem sign_m (w : World) : Calls Try.prog 20 #[.float .f64 0, .float .f64 13830554455654793216] w fun e w' => e = .returned (.float .f64 9223372036854775808) ∧ w = w' := by
  have h1 : ∀ w, (callFunc 24 #[.float .f64 0]).run Try.prog w = .ok (.value (.int .u64 0)) w := fun w => extBits 0 w
  have h2 : ∀ w, (callFunc 24 #[.float .f64 13830554455654793216]).run Try.prog w = .ok (.value (.int .u64 13830554455654793216)) w := fun w => extBits 13830554455654793216 w
  have h3 : ∀ w, (callFunc 14 #[.int .u64 9223372036854775808]).run Try.prog w = .ok (.value (.float .f64 9223372036854775808)) w := fun w => extFrom 9223372036854775808 w
  have e1 : bits .andNot .u64 0 9223372036854775808 = 0 := by decide +kernel
  have e2 : bits .and .u64 13830554455654793216 9223372036854775808 = 9223372036854775808 := by decide +kernel
  have e3 : bits .or .u64 0 9223372036854775808 = 9223372036854775808 := by decide +kernel
  go_enter Try.func20, Try.ntmps20
  go_wp2
  go_ret
  exact ⟨rfl, rfl⟩
theorem less_m (w : World) : Calls Try.prog 10 #[.float .f64 9223372036854775808, .float .f64 0] w fun e w' => e = .returned (.bool true) ∧ w = w' := by
  have h := less_eq 9223372036854775808 0 (by decide) (by decide) w
  rw [show decide (keyN 9223372036854775808 < keyN 0) = true from by decide +kernel] at h
  exact h
theorem same_m (w : World) : Calls Try.prog 8 #[.float .f64 9223372036854775808, .float .f64 0] w fun e w' => e = .returned (.bool false) ∧ w = w' := by
  have h := same_eq 9223372036854775808 0 (by decide) (by decide) w
  rw [show (keyN 9223372036854775808 == keyN 0) = false from by decide +kernel] at h
  exact h
theorem same_n (w : World) : Calls Try.prog 8 #[.float .f64 9221120237041090561, .float .f64 9221120237041090561] w fun e w' => e = .returned (.bool true) ∧ w = w' := by
  have h := same_eq 9221120237041090561 9221120237041090561 (by decide) (by decide) w
  rw [show (keyN 9221120237041090561 == keyN 9221120237041090561) = true from by decide +kernel] at h
  exact h
set_option maxRecDepth 100000 in
theorem works_true (w : World) : Calls Try.prog 12 #[] w fun e w' => e = .returned (.bool true) ∧ w = w' := by
  go_enter Try.func12, Try.ntmps12
  go_wp2_with (first | (go_at_call 13; first | ((with_reducible refine (fix_a _).mono ?_); rintro e w' ⟨rfl, rfl⟩) | ((with_reducible refine (fix_b _).mono ?_); rintro e w' ⟨rfl, rfl⟩) | ((with_reducible refine (fix_c _).mono ?_); rintro e w' ⟨rfl, rfl⟩) | ((with_reducible refine (fix_n _).mono ?_); rintro e w' ⟨rfl, rfl⟩)) | (go_at_call 16; refine (inf_pos _).mono ?_; rintro e w' ⟨rfl, rfl⟩) | (go_at_call 15; refine (nan_call _).mono ?_; rintro e w' ⟨rfl, rfl⟩) | (go_at_call 20; refine (sign_m _).mono ?_; rintro e w' ⟨rfl, rfl⟩) | (go_at_call 10; refine (less_m _).mono ?_; rintro e w' ⟨rfl, rfl⟩) | (go_at_call 8; first | ((with_reducible refine (same_m _).mono ?_); rintro e w' ⟨rfl, rfl⟩) | ((with_reducible refine (same_n _).mono ?_); rintro e w' ⟨rfl, rfl⟩)))
  go_ret
  exact ⟨rfl, rfl⟩
end Go.Proofs.Ytaphplelkfokiaa.ldx
