/- KnobSigns: ground and walk. -/
import Derived.Test.YtaphplelkfokiaaTot
namespace Go.Proofs.Ytaphplelkfokiaa.sig
open Go.ChangeShapes Go.WideShapes Go.ChangeAt Go.RowKit K Fl ord ldx
set_option linter.unusedVariables false
set_option linter.unusedSimpArgs false
/-- The word with its sign turned. -/
def nx (x : Nat) : Nat := x ^^^ 2 ^ 63
theorem nx_parts (x : Nat) (hx : x < 2 ^ 64) : neg (nx x) = !neg x ∧ rung (nx x) = rung x ∧ nx x < 2 ^ 64 := by
  have h1 : nx x = if neg x then x - 2 ^ 63 else x + 2 ^ 63 := by
    unfold nx
    cases hn : neg x
    · have h2 : x < 2 ^ 63 := by have := rung_of_pos x hx hn; have := rung_lt x; omega
      have e : x ^^^ 2 ^ 63 = x ||| 2 ^ 63 := by
        rw [Nat.xor_comm, Nat.or_comm]
        apply Nat.eq_of_testBit_eq
        intro i
        rw [Nat.testBit_xor, Nat.testBit_or, Nat.testBit_two_pow]
        by_cases h : 63 = i
        · subst h; rw [Nat.testBit_lt_two_pow h2]; simp
        · simp [h]
      rw [e, Nat.or_comm, nat_join 63 (2 ^ 63) x (by decide) h2]
      simp; omega
    · have h2 := rung_of_neg x hx hn
      have h3 := rung_lt x
      have e0 : x = 2 ^ 63 ||| rung x := by rw [nat_join 63 (2 ^ 63) _ (by decide) h3]; exact h2
      have e : x ^^^ 2 ^ 63 = rung x := by
        apply Nat.eq_of_testBit_eq
        intro i
        rw [Nat.testBit_xor, e0, Nat.testBit_or, Nat.testBit_two_pow]
        by_cases h : 63 = i
        · subst h
          have : rung (2 ^ 63 ||| rung x) = rung x := by rw [← e0]
          rw [this, Nat.testBit_lt_two_pow h3]; simp
        · have : rung (2 ^ 63 ||| rung x) = rung x := by rw [← e0]
          rw [this]; simp [h]
      rw [e]; simp; omega
  cases hn : neg x
  · have h2 : x < 2 ^ 63 := by have := rung_of_pos x hx hn; have := rung_lt x; omega
    rw [hn] at h1
    simp only [Bool.false_eq_true, if_false] at h1
    refine ⟨?_, ?_, by omega⟩
    · rw [h1]; show neg (x + 2 ^ 63) = true; rw [neg_iff _ (by omega)]; omega
    · rw [h1]; unfold rung; omega
  · have h2 := (neg_iff x hx).1 hn
    rw [hn] at h1
    simp only [if_true] at h1
    refine ⟨?_, ?_, by omega⟩
    · rw [h1]; show neg (x - 2 ^ 63) = false
      have h3 := neg_iff (x - 2 ^ 63) (by omega)
      cases hh : neg (x - 2 ^ 63)
      · rfl
      · have := h3.1 hh; omega
    · rw [h1]; unfold rung; omega
theorem run_neg {P : Program} (x : Nat) (w : World) : (Op.unary .neg (.float .f64 x)).run P w = .ok (.float .f64 (nx x)) w := rfl
theorem signs (x : Nat) (hx : x < 2 ^ 64) : fixV x = -fixV (nx x) ∨ fixV x = 2147483647 ∨ fixV (nx x) = 2147483647 := by
  obtain ⟨h1, h2, _⟩ := nx_parts x hx
  have hk : fixK (nx x) = fixK x := by unfold fixK; rw [h2]
  unfold fixV
  rw [h1, hk]
  generalize fixK x = k
  unfold clampI
  cases neg x <;> simp <;> (repeat' split) <;> omega
theorem fixV_range (x : Nat) : -2147483648 ≤ fixV x ∧ fixV x ≤ 2147483647 := by
  unfold fixV
  generalize (if neg x then -(fixK x : Int) else (fixK x : Int)) = s
  unfold clampI
  (repeat' split) <;> omega
/-- No number, whatever n. -/
def bad (n : Nat) : Nat := 9218868437227405313 ||| (n &&& 9227875636482146303)
theorem bad_lt (n : Nat) : bad n < 2 ^ 64 := Nat.or_lt_two_pow (by decide) (Nat.and_lt_two_pow _ (by decide))
theorem bad_nan (n : Nat) : ¬ isNum (bad n) := by
  unfold isNum rung bad
  rw [Nat.or_mod_two_pow]
  have := @Nat.left_le_or (9218868437227405313 % 2 ^ 63) ((n &&& 9227875636482146303) % 2 ^ 63)
  omega
theorem bad_bits (n : Nat) (h : n < 2 ^ 64) : bits .or .u64 9218868437227405313 (bits .and .u64 (n : Int) 9227875636482146303) = (bad n : Int) := by
  have e1 := u64_and_nat n 9227875636482146303 (by omega) (by omega)
  show bits .or .u64 ((9218868437227405313 : Nat) : Int) (bits .and .u64 (n : Int) ((9227875636482146303 : Nat) : Int)) = _
  rw [e1, u64_or_nat _ _ (by omega) (by have : n &&& 9227875636482146303 < 2 ^ 64 := Nat.and_lt_two_pow _ (by decide); omega)]
  rfl
theorem same_bad (n : Nat) (w : World) : Calls Try.prog 8 #[.float .f64 (bad n), .float .f64 9221120237041090561] w fun e w' => e = .returned (.bool true) ∧ w = w' := by
  have h := same_eq (bad n) 9221120237041090561 (bad_lt n) (by decide) w
  have k1 : keyN (bad n) = 0 := by unfold keyN; rw [if_neg (bad_nan n)]
  rw [k1, show ((0 : Nat) == keyN 9221120237041090561) = true from by decide +kernel] at h
  exact h
theorem less_bad (n : Nat) (w : World) : Calls Try.prog 10 #[.float .f64 (bad n), .float .f64 18442240474082181120] w fun e w' => e = .returned (.bool true) ∧ w = w' := by
  have h := less_eq (bad n) 18442240474082181120 (bad_lt n) (by decide) w
  have k1 : keyN (bad n) = 0 := by unfold keyN; rw [if_neg (bad_nan n)]
  rw [k1, show decide (0 < keyN 18442240474082181120) = true from by decide +kernel] at h
  exact h
theorem nan_fix (n : Nat) (w : World) : Calls Try.prog 13 #[.float .f64 (bad n)] w fun e w' => e = .returned (.tuple #[.int .i64 0, .int .i64 28]) ∧ w = w' := Fix_nan (bad n) (bad_nan n) w
/-- What Fix answers at x and at -x, and what the law's test makes of it. -/
theorem law_of (x : Nat) (n : Nat) (hn : n < 2 ^ 64) (a b e : Int)
    (ca : ∀ w, Calls Try.prog 13 #[.float .f64 x] w fun e' w' => e' = .returned (.tuple #[.int .i64 a, .int .i64 e]) ∧ w = w')
    (cb : ∀ w, Calls Try.prog 13 #[.float .f64 (nx x)] w fun e' w' => e' = .returned (.tuple #[.int .i64 b, .int .i64 e]) ∧ w = w')
    (b1 : -2147483648 ≤ b) (b2 : b ≤ 2147483647)
    (hc : (e == 0) = false ∨ (a != -b) = false ∨ ((a != -b) = true ∧ (a != 2147483647) = false) ∨ ((a != -b) = true ∧ (a != 2147483647) = true ∧ (b != 2147483647) = false)) (he : (e == 0) = true ∨ (e == 0) = false) (w : World) :
    Calls Try.prog 6 #[.float .f64 x, .int .u64 n] w fun e w' => e = .returned (.bool true) ∧ Below w.heap.size w w' := by
  have CA := Lib.hid ca
  have CB := Lib.hid cb
  clear ca cb
  have hr := fun w => run_neg (P := Try.prog) x w
  have hb := bad_bits n hn
  have hf := fun w => extFrom (bad n) w
  clear hn
  rcases he with he | he
  · rcases hc with h1 | h1 | ⟨h1, h2⟩ | ⟨h1, h2, h3⟩
    · rw [he] at h1; cases h1
    all_goals
      go_enter Try.func6, Try.ntmps6
      go_wp2_with (first | (go_at_call 12; refine (works_true _).mono ?_; rintro e w' ⟨rfl, rfl⟩) | (go_at_call 13; first | ((with_reducible refine (CA.out _).mono ?_); rintro e w' ⟨rfl, rfl⟩) | ((with_reducible refine (CB.out _).mono ?_); rintro e w' ⟨rfl, rfl⟩) | ((with_reducible refine (nan_fix n _).mono ?_); rintro e w' ⟨rfl, rfl⟩)) | (go_at_call 15; refine (nan_call _).mono ?_; rintro e w' ⟨rfl, rfl⟩) | (go_at_call 16; refine (inf_neg _).mono ?_; rintro e w' ⟨rfl, rfl⟩) | (go_at_call 8; (with_reducible refine (same_bad n _).mono ?_); rintro e w' ⟨rfl, rfl⟩) | (go_at_call 10; (with_reducible refine (less_bad n _).mono ?_); rintro e w' ⟨rfl, rfl⟩))
      go_ret
      exact ⟨rfl, Below.refl _ _⟩
  · clear hc
    go_enter Try.func6, Try.ntmps6
    go_wp2_with (first | (go_at_call 12; refine (works_true _).mono ?_; rintro e w' ⟨rfl, rfl⟩) | (go_at_call 13; first | ((with_reducible refine (CA.out _).mono ?_); rintro e w' ⟨rfl, rfl⟩) | ((with_reducible refine (CB.out _).mono ?_); rintro e w' ⟨rfl, rfl⟩) | ((with_reducible refine (nan_fix n _).mono ?_); rintro e w' ⟨rfl, rfl⟩)) | (go_at_call 15; refine (nan_call _).mono ?_; rintro e w' ⟨rfl, rfl⟩) | (go_at_call 16; refine (inf_neg _).mono ?_; rintro e w' ⟨rfl, rfl⟩) | (go_at_call 8; (with_reducible refine (same_bad n _).mono ?_); rintro e w' ⟨rfl, rfl⟩) | (go_at_call 10; (with_reducible refine (less_bad n _).mono ?_); rintro e w' ⟨rfl, rfl⟩))
    go_ret
    exact ⟨rfl, Below.refl _ _⟩
end Go.Proofs.Ytaphplelkfokiaa.sig
