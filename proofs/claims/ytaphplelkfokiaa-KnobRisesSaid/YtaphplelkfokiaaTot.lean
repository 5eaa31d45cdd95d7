/- KnobTotal: of any two numbers just one of Same, Less, and Less the other way holds, and Less is transitive. Condition: none. -/
import Derived.Test.YtaphplelkfokiaaWk
namespace Go.Proofs.Ytaphplelkfokiaa.tot
open Go.ChangeShapes Go.WideShapes Go.ChangeAt Go.RowKit K Fl ord ldx
set_option linter.unusedVariables false
set_option linter.unusedSimpArgs false
theorem wf_lt {b : Nat} (h : (Lit.float .f64 b).wf = true) : b < 2 ^ 64 := by simpa [Lit.wf] using h
/-- The tests' outcomes. -/
structure Tests (p q r : Nat) (s l g : Bool) : Prop where
  same : (p == q) = s
  less : decide (p < q) = l
  greater : decide (q < p) = g
theorem law (x y z : Nat) (hx : x < 2 ^ 64) (hy : y < 2 ^ 64) (hz : z < 2 ^ 64) (s l g m t : Bool)
    (h1 : (keyN x == keyN y) = s) (h2 : decide (keyN x < keyN y) = l) (h3 : decide (keyN y < keyN x) = g) (h4 : decide (keyN y < keyN z) = m) (h5 : decide (keyN x < keyN z) = t)
    (hc : (s = true ∧ l = false ∧ g = false) ∨ (s = false ∧ l = true ∧ g = false) ∨ (s = false ∧ l = false ∧ g = true)) (ht : l = true → m = true → t = true) (w : World) :
    Calls Try.prog 4 #[.float .f64 x, .float .f64 y, .float .f64 z] w fun e w' => e = .returned (.bool true) ∧ Below w.heap.size w w' := by
  have c1 := fun w => same_eq x y hx hy w
  have c2 := fun w => less_eq x y hx hy w
  have c3 := fun w => less_eq y x hy hx w
  have c4 := fun w => less_eq y z hy hz w
  have c5 := fun w => less_eq x z hx hz w
  have c6 := fun w => same_eq x x hx hx w
  rw [h1] at c1; rw [h2] at c2; rw [h3] at c3; rw [h4] at c4; rw [h5] at c5
  rw [show (keyN x == keyN x) = true from by simp] at c6
  clear h1 h2 h3 h4 h5 hx hy hz
  have C1 := Lib.hid c1
  have C2 := Lib.hid c2
  have C3 := Lib.hid c3
  have C4 := Lib.hid c4
  have C5 := Lib.hid c5
  have C6 := Lib.hid c6
  clear c1 c2 c3 c4 c5 c6
  rcases hc with ⟨rfl, rfl, rfl⟩ | ⟨rfl, rfl, rfl⟩ | ⟨rfl, rfl, rfl⟩
  all_goals
    cases m
    all_goals
      cases t
      all_goals first
        | (exfalso; simp at ht; done)
        | (clear ht
           go_enter Try.func4, Try.ntmps4
           go_wp2_with (first | (go_at_call 12; refine (works_true _).mono ?_; rintro e w' ⟨rfl, rfl⟩) | (go_at_call 8; first | ((with_reducible refine (C1.out _).mono ?_); rintro e w' ⟨rfl, rfl⟩) | ((with_reducible refine (C6.out _).mono ?_); rintro e w' ⟨rfl, rfl⟩)) | (go_at_call 10; first | ((with_reducible refine (C2.out _).mono ?_); rintro e w' ⟨rfl, rfl⟩) | ((with_reducible refine (C3.out _).mono ?_); rintro e w' ⟨rfl, rfl⟩) | ((with_reducible refine (C4.out _).mono ?_); rintro e w' ⟨rfl, rfl⟩) | ((with_reducible refine (C5.out _).mono ?_); rintro e w' ⟨rfl, rfl⟩)))
           go_ret
           exact ⟨rfl, Below.refl _ _⟩)
end Go.Proofs.Ytaphplelkfokiaa.tot
