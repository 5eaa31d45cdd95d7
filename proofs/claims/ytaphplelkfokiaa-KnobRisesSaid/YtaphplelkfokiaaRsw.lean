/- KnobRises: the walk. -/
import Derived.Test.YtaphplelkfokiaaRise
namespace Go.Proofs.Ytaphplelkfokiaa.rise
open Go.ChangeShapes Go.WideShapes Go.ChangeAt Go.RowKit K Fl ord ldx back
open Ieee
set_option linter.unusedVariables false
set_option linter.unusedSimpArgs false
theorem self_eq (x : Nat) : (FloatKind.f64.format.order x x == some .eq) = decide (isNum x) := by
  have h := self_ne x
  rw [show FloatKind.f64.format = double from rfl]
  by_cases h1 : isNum x
  · rw [order_num h1 h1, cmp_eq rfl]; simp [h1]
  · rw [order_nan_left h1]; simp [h1]
theorem w_nan (x y : Nat) (a b e f : Int) (p q : Bool)
    (ca : ∀ w, Calls Try.prog 13 #[.float .f64 x] w fun e' w' => e' = .returned (.tuple #[.int .i64 a, .int .i64 e]) ∧ w = w')
    (cb : ∀ w, Calls Try.prog 13 #[.float .f64 y] w fun e' w' => e' = .returned (.tuple #[.int .i64 b, .int .i64 f]) ∧ w = w')
    (ox : (FloatKind.f64.format.order x x == some .eq) = p) (oy : (FloatKind.f64.format.order y y == some .eq) = q)
    (hpq : (e = 0 ∧ p = true ∧ f = 28 ∧ q = false) ∨ (e = 28 ∧ p = false ∧ f = 0 ∧ q = true) ∨ (e = 28 ∧ p = false ∧ f = 28 ∧ q = false)) (w : World) :
    Calls Try.prog 5 #[.float .f64 x, .float .f64 y] w fun e w' => e = .returned (.bool true) ∧ Below w.heap.size w w' := by
  have CA := Lib.hid ca
  have CB := Lib.hid cb
  clear ca cb
  rcases hpq with ⟨rfl, rfl, rfl, rfl⟩ | ⟨rfl, rfl, rfl, rfl⟩ | ⟨rfl, rfl, rfl, rfl⟩
  all_goals
    go_enter Try.func5, Try.ntmps5
    go_wp2_with (first | (go_at_call 12; refine (works_true _).mono ?_; rintro e w' ⟨rfl, rfl⟩) | (go_at_call 13; first | ((with_reducible refine (CA.out _).mono ?_); rintro e w' ⟨rfl, rfl⟩) | ((with_reducible refine (CB.out _).mono ?_); rintro e w' ⟨rfl, rfl⟩)))
    go_ret
    exact ⟨rfl, Below.refl _ _⟩
theorem w_num (x y : Nat) (a b : Int) (o1 o2 o3 : Ordering)
    (ca : ∀ w, Calls Try.prog 13 #[.float .f64 x] w fun e' w' => e' = .returned (.tuple #[.int .i64 a, .int .i64 0]) ∧ w = w')
    (cb : ∀ w, Calls Try.prog 13 #[.float .f64 y] w fun e' w' => e' = .returned (.tuple #[.int .i64 b, .int .i64 0]) ∧ w = w')
    (oxy : FloatKind.f64.format.order x y = some o1) (hm : o1 ≠ .gt → a ≤ b)
    (ox : FloatKind.f64.format.order x 4674736138332667904 = some o2) (ox2 : FloatKind.f64.format.order x 13898108175187443712 = some o3)
    (hd : o2 = .lt → o3 = .gt → ∃ u z, floatBits .mul .f64 x 4679240012837945344 = some u ∧ floatBits .sub .f64 u (floatOfInt .f64 a) = some z ∧ rung z ≤ 1022 * 2 ^ 52 ∧ isFin u) (w : World) :
    Calls Try.prog 5 #[.float .f64 x, .float .f64 y] w fun e w' => e = .returned (.bool true) ∧ Below w.heap.size w w' := by
  have CA := Lib.hid ca
  have CB := Lib.hid cb
  clear ca cb
  have main : ∀ (l : Bool), (l = true → decide (b < a) = false) → (FloatKind.f64.format.order x y == some .lt || FloatKind.f64.format.order x y == some .eq) = l →
      Calls Try.prog 5 #[.float .f64 x, .float .f64 y] w fun e w' => e = .returned (.bool true) ∧ Below w.heap.size w w' := by
    intro l hl hl2
    clear oxy hm
    by_cases c2 : o2 = .lt
    · by_cases c3 : o3 = .gt
      · obtain ⟨u, z, h1, h2, h3, h4⟩ := hd c2 c3
        subst c2 c3
        clear hd
        obtain ⟨k1, k2⟩ := half_le z h3
        have r1 := fun w => run_float_arith (P := Try.prog) w .mul 22 .f64 x 4679240012837945344 u h1
        have r2 := fun w => run_float_arith (P := Try.prog) w .sub 22 .f64 u (floatOfInt .f64 a) z h2
        have cv := fun w => run_convert_float_float (P := Try.prog) w 22 22 .f64 .f64 u u (by kernel_rfl) Try.underlying22 (self_conv u h4)
        rw [show double = FloatKind.f64.format from rfl] at k1 k2
        clear h1 h2 h3 h4
        cases l
        · clear hl
          go_enter Try.func5, Try.ntmps5
          go_wp2_with (first | (go_at_call 12; refine (works_true _).mono ?_; rintro e w' ⟨rfl, rfl⟩) | (go_at_call 13; first | ((with_reducible refine (CA.out _).mono ?_); rintro e w' ⟨rfl, rfl⟩) | ((with_reducible refine (CB.out _).mono ?_); rintro e w' ⟨rfl, rfl⟩)))
          go_ret
          exact ⟨rfl, Below.refl _ _⟩
        · have hb := hl rfl
          clear hl
          go_enter Try.func5, Try.ntmps5
          go_wp2_with (first | (go_at_call 12; refine (works_true _).mono ?_; rintro e w' ⟨rfl, rfl⟩) | (go_at_call 13; first | ((with_reducible refine (CA.out _).mono ?_); rintro e w' ⟨rfl, rfl⟩) | ((with_reducible refine (CB.out _).mono ?_); rintro e w' ⟨rfl, rfl⟩)))
          go_ret
          exact ⟨rfl, Below.refl _ _⟩
      · have k2 : (FloatKind.f64.format.order x 13898108175187443712 == some .lt || FloatKind.f64.format.order x 13898108175187443712 == some .eq) = true := by rw [ox2]; cases o3 <;> first | rfl | exact absurd rfl c3
        subst c2
        clear hd c3 ox2
        cases l
        · clear hl
          go_enter Try.func5, Try.ntmps5
          go_wp2_with (first | (go_at_call 12; refine (works_true _).mono ?_; rintro e w' ⟨rfl, rfl⟩) | (go_at_call 13; first | ((with_reducible refine (CA.out _).mono ?_); rintro e w' ⟨rfl, rfl⟩) | ((with_reducible refine (CB.out _).mono ?_); rintro e w' ⟨rfl, rfl⟩)))
          go_ret
          exact ⟨rfl, Below.refl _ _⟩
        · have hb := hl rfl
          clear hl
          go_enter Try.func5, Try.ntmps5
          go_wp2_with (first | (go_at_call 12; refine (works_true _).mono ?_; rintro e w' ⟨rfl, rfl⟩) | (go_at_call 13; first | ((with_reducible refine (CA.out _).mono ?_); rintro e w' ⟨rfl, rfl⟩) | ((with_reducible refine (CB.out _).mono ?_); rintro e w' ⟨rfl, rfl⟩)))
          go_ret
          exact ⟨rfl, Below.refl _ _⟩
    · have k1 : (FloatKind.f64.format.order x 4674736138332667904 == some .gt || FloatKind.f64.format.order x 4674736138332667904 == some .eq) = true := by rw [ox]; cases o2 <;> first | rfl | exact absurd rfl c2
      clear hd c2 ox ox2
      cases l
      · clear hl
        go_enter Try.func5, Try.ntmps5
        go_wp2_with (first | (go_at_call 12; refine (works_true _).mono ?_; rintro e w' ⟨rfl, rfl⟩) | (go_at_call 13; first | ((with_reducible refine (CA.out _).mono ?_); rintro e w' ⟨rfl, rfl⟩) | ((with_reducible refine (CB.out _).mono ?_); rintro e w' ⟨rfl, rfl⟩)))
        go_ret
        exact ⟨rfl, Below.refl _ _⟩
      · have hb := hl rfl
        clear hl
        go_enter Try.func5, Try.ntmps5
        go_wp2_with (first | (go_at_call 12; refine (works_true _).mono ?_; rintro e w' ⟨rfl, rfl⟩) | (go_at_call 13; first | ((with_reducible refine (CA.out _).mono ?_); rintro e w' ⟨rfl, rfl⟩) | ((with_reducible refine (CB.out _).mono ?_); rintro e w' ⟨rfl, rfl⟩)))
        go_ret
        exact ⟨rfl, Below.refl _ _⟩
  refine main (FloatKind.f64.format.order x y == some .lt || FloatKind.f64.format.order x y == some .eq) ?_ rfl
  rw [oxy]
  intro h
  have := hm (by rintro rfl; revert h; decide)
  rw [decide_eq_false_iff_not]
  omega
end Go.Proofs.Ytaphplelkfokiaa.rise
