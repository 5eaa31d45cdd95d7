/- KnobBack: ground and walk. -/
import Derived.Test.YtaphplelkfokiaaTot
namespace Go.Proofs.Ytaphplelkfokiaa.back
open Go.ChangeShapes Go.WideShapes Go.ChangeAt Go.RowKit K Fl ord ldx
open Ieee (double)
set_option linter.unusedVariables false
set_option linter.unusedSimpArgs false
/-- The word of a whole number, as float64(n) gives it. -/
theorem float_int (n : Int) (h : n.natAbs < 2 ^ 53) : floatOfInt .f64 n = double.word (decide (n < 0)) (krung n.natAbs) := by
  obtain ⟨d, hd⟩ : ∃ d : Nat, d = 1074 := ⟨_, rfl⟩
  have hk := krung_val' h d hd
  have := nearest_val (decide (n < 0)) n.natAbs d 0 (krung n.natAbs) (by omega) (by rw [hk.1, Nat.pow_zero, Nat.mul_one])
  rw [show ((d : Int) - (0 : Nat) - 1074) = 0 from by omega] at this
  exact this
/-- Float's word: 2^-16 of it. -/
def backW (n : Int) : Nat := if n = 0 then 0 else double.word (decide (n < 0)) (krung n.natAbs - 16 * 2 ^ 52)
theorem krung_pos {k : Nat} (h0 : 0 < k) (h : k < 2 ^ 53) : krung k = irung k ∧ 1023 * 2 ^ 52 ≤ krung k ∧ krung k < 1076 * 2 ^ 52 := by
  have e : krung k = irung k := by unfold krung; rw [if_neg (by omega)]
  obtain ⟨f, hf, hk, hr, hl⟩ := irung_parts h0 h
  refine ⟨e, ?_, (krung_val h).2⟩
  rw [e, hr]; omega
theorem float_call (n : Int) (h1 : -2147483648 ≤ n) (h2 : n ≤ 2147483647) (w : World) :
    Calls Try.prog 27 #[.float .f64 (floatOfInt .f64 n), .int .i64 (-16)] w fun e w' => e = .returned (.float .f64 (backW n)) ∧ w = w' := by
  rw [float_int n (by omega)]
  unfold backW
  by_cases h0 : n = 0
  · subst h0
    have e : double.word (decide ((0 : Int) < 0)) (krung (Int.natAbs 0)) = 0 := by decide
    rw [e]
    exact ldexp_zero 0 (-16) (by decide) w
  · rw [if_neg h0]
    obtain ⟨e, l1, l2⟩ := krung_pos (show 0 < n.natAbs by omega) (by omega)
    have hp := word_parts (decide (n < 0)) (show krung n.natAbs < 2 ^ 63 by omega)
    have hx := word_lt (decide (n < 0)) (show krung n.natAbs < 2 ^ 63 by omega)
    generalize hX : double.word (decide (n < 0)) (krung n.natAbs) = X at *
    have hf : isFin X := by unfold isFin; rw [hp.2]; omega
    have hN := norm_great X hx (by rw [hp.2]; omega) hf
    have := ldexp_in X _ 0 (-16) (krung n.natAbs / 2 ^ 52) hx (by rw [hp.2]; omega) hf hN (by rw [hp.2]) (by omega) (by omega) (by omega) (by omega) (krung n.natAbs / 2 ^ 52 - 16) (by omega) (by omega) (by omega) w
    unfold put at this
    rw [hp.1, hp.2, show (krung n.natAbs / 2 ^ 52 - 16) * 2 ^ 52 + krung n.natAbs % 2 ^ 52 = krung n.natAbs - 16 * 2 ^ 52 from by omega] at this
    exact this
theorem Ldexp_call (n : Int) (h1 : -2147483648 ≤ n) (h2 : n ≤ 2147483647) (w : World) :
    Calls Try.prog 23 #[.float .f64 (floatOfInt .f64 n), .int .i64 (-16)] w fun e w' => e = .returned (.float .f64 (backW n)) ∧ w = w' := by
  go_enter Try.func23, Try.ntmps23
  go_wp2_with (go_at_call 27; refine (float_call n h1 h2 _).mono ?_; rintro e w' ⟨rfl, rfl⟩)
  go_ret
  exact ⟨rfl, rfl⟩
theorem back_parts (n : Int) (h1 : -2147483648 ≤ n) (h2 : n ≤ 2147483647) : backW n < 2 ^ 64 ∧ isNum (backW n) ∧ fixV (backW n) = n := by
  unfold backW
  by_cases h0 : n = 0
  · subst h0; rw [if_pos rfl]; exact ⟨by decide, by decide, by decide +kernel⟩
  · rw [if_neg h0]
    obtain ⟨e, l1, l2⟩ := krung_pos (show 0 < n.natAbs by omega) (by omega)
    have hp := word_parts (decide (n < 0)) (show krung n.natAbs - 16 * 2 ^ 52 < 2 ^ 63 by omega)
    refine ⟨word_lt _ (by omega), by unfold isNum; rw [hp.2]; omega, ?_⟩
    obtain ⟨d, hd⟩ : ∃ d : Nat, d = 1074 := ⟨_, rfl⟩
    obtain ⟨q, hq⟩ : ∃ q : Nat, q = 1058 := ⟨_, rfl⟩
    have hk := (krung_val' (show n.natAbs < 2 ^ 53 by omega) d hd).1
    have hv : val (krung n.natAbs - 16 * 2 ^ 52) = n.natAbs * 2 ^ q := by
      rw [val_split (by omega)] at hk
      rw [val_split (by omega)]
      have a1 : (krung n.natAbs - 16 * 2 ^ 52) % 2 ^ 52 = krung n.natAbs % 2 ^ 52 := by omega
      have a2 : krung n.natAbs / 2 ^ 52 - 1 = ((krung n.natAbs - 16 * 2 ^ 52) / 2 ^ 52 - 1) + 16 := by omega
      rw [a2, Nat.pow_add, ← Nat.mul_assoc, show d = q + 16 from by omega, Nat.pow_add, ← Nat.mul_assoc] at hk
      rw [a1]
      exact Nat.eq_of_mul_eq_mul_right (by decide) hk
    have hfix : fixK (double.word (decide (n < 0)) (krung n.natAbs - 16 * 2 ^ 52)) = n.natAbs := by
      unfold fixK
      rw [hp.2, ← hq, hv, rne_exact]
    unfold fixV
    rw [hfix, hp.1]
    have e2 : (if decide (n < 0) = true then -((n.natAbs : Nat) : Int) else ((n.natAbs : Nat) : Int)) = n := by
      by_cases hn : n < 0 <;> simp [hn] <;> omega
    rw [e2, clamp_mid n h1 h2]
theorem Float_eq (n : Int) (w : World) :
    Calls Try.prog 17 #[.int .i64 n] w fun e w' => e = .returned (.float .f64 (backW (clampI n))) ∧ w = w' := by
  have hc : -2147483648 ≤ clampI n ∧ clampI n ≤ 2147483647 := by unfold clampI; (repeat' split) <;> omega
  by_cases a1 : n < -2147483648
  · have e : clampI n = -2147483648 := clamp_low n (by omega)
    rw [e]
    go_enter Try.func17, Try.ntmps17
    go_wp2_with (go_at_call 23; refine (Ldexp_call (-2147483648) (by omega) (by omega) _).mono ?_; rintro e w' ⟨rfl, rfl⟩)
    go_ret
    exact ⟨rfl, rfl⟩
  · by_cases a2 : 2147483647 < n
    · have e : clampI n = 2147483647 := clamp_high n (by omega)
      rw [e]
      go_enter Try.func17, Try.ntmps17
      go_wp2_with (go_at_call 23; refine (Ldexp_call 2147483647 (by omega) (by omega) _).mono ?_; rintro e w' ⟨rfl, rfl⟩)
      go_ret
      exact ⟨rfl, rfl⟩
    · rw [clamp_mid n (by omega) (by omega)]
      go_enter Try.func17, Try.ntmps17
      go_wp2_with (go_at_call 23; refine (Ldexp_call n (by omega) (by omega) _).mono ?_; rintro e w' ⟨rfl, rfl⟩)
      go_ret
      exact ⟨rfl, rfl⟩
theorem back_fix (n : Int) (w : World) : Calls Try.prog 13 #[.float .f64 (backW (clampI n))] w fun e w' => e = .returned (.tuple #[.int .i64 (clampI n), .int .i64 0]) ∧ w = w' := by
  have hc : -2147483648 ≤ clampI n ∧ clampI n ≤ 2147483647 := by unfold clampI; (repeat' split) <;> omega
  obtain ⟨h1, h2, h3⟩ := back_parts (clampI n) hc.1 hc.2
  have := Fix_num (backW (clampI n)) h1 h2 w
  rw [h3] at this
  exact this
theorem law (n : Int) (w : World) :
    Calls Try.prog 7 #[.int .i64 n] w fun e w' => e = .returned (.bool true) ∧ Below w.heap.size w w' := by
  go_enter Try.func7, Try.ntmps7
  go_wp2_with (first | (go_at_call 12; refine (works_true _).mono ?_; rintro e w' ⟨rfl, rfl⟩) | (go_at_call 17; refine (Float_eq n _).mono ?_; rintro e w' ⟨rfl, rfl⟩) | (go_at_call 13; refine (back_fix n _).mono ?_; rintro e w' ⟨rfl, rfl⟩))
  all_goals
    go_ret
    exact ⟨ret_bool (by rw [beq_iff_eq]; unfold clampI; (repeat' split) <;> omega), Below.refl _ _⟩
end Go.Proofs.Ytaphplelkfokiaa.back
