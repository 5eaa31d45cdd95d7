/- model.Width, pages and needs of the references: contracts. -/
import Derived.Test.YtkmpjdffhbokdaaCfg
namespace Go.Proofs.Ytkmpjdffhbokdaa.cfg
open Go.ChangeShapes Go.WideShapes Go.ChangeAt Go.RowKit K
set_option linter.unusedVariables false
set_option linter.unusedSimpArgs false
theorem width_bounds {D H L V Hd E K W : Int} (hc : cfgB D H L V Hd E K W = true) : (2 ≤ D ∧ D ≤ 8 ∧ 1 ≤ L ∧ L ≤ 2) ∧ 4 ≤ 2 * D * L ∧ 2 * D * L ≤ 32 := by
  have hp := cfgB_true.1 hc
  unfold cfgP at hp
  have : L = 1 ∨ L = 2 := by omega
  rcases this with rfl | rfl <;> omega
theorem width_c (D H L V Hd E K W : Int) (hc : cfgB D H L V Hd E K W = true) (w : World) :
    Calls Try.prog 20 #[cfgV D H L V Hd E K W] w fun e w' => e = .returned (.int .i64 (2 * D * L)) ∧ Below w.heap.size w w' := by
  obtain ⟨⟨d1, d2, l1, l2⟩, b1, b2⟩ := width_bounds hc
  have hw : wrap64 (2 * D * L) = 2 * D * L := by unfold wrap64; omega
  go_enter Try.func20, Try.ntmps20
  go_wp2_with (go_at_call 28; refine (config_c _ _ _ _ _ _ _ _ _).mono ?_; rintro e w1 ⟨rfl, hb1⟩; obtain ⟨hc1, hf1⟩ := bcell hb1)
  go_ret
  exact ⟨rfl, below_step ((Below.refl _ _).alloc (Nat.le_refl _) _) hb1⟩
theorem width_r (D H L V Hd E K W : Int) (hc : cfgB D H L V Hd E K W = true) (w : World) :
    Calls Try.prog 25 #[cfgV D H L V Hd E K W] w fun e w' => e = .returned (.int .i64 (2 * D * L)) ∧ Below w.heap.size w w' := by
  obtain ⟨⟨d1, d2, l1, l2⟩, b1, b2⟩ := width_bounds hc
  have hw : wrap64 (2 * D * L) = 2 * D * L := by unfold wrap64; omega
  go_enter Try.func25, Try.ntmps25
  go_wp2_with (go_at_call 30; refine (config_r _ _ _ _ _ _ _ _ _).mono ?_; rintro e w1 ⟨rfl, hb1⟩; obtain ⟨hc1, hf1⟩ := bcell hb1)
  go_ret
  exact ⟨rfl, below_step ((Below.refl _ _).alloc (Nat.le_refl _) _) hb1⟩
/-- As many pages as hold so many weights. -/
def wpagesI (n : Int) : Int := if n < 1 then 0 else (n - 1) / 32 + 1
theorem need_c (n : Int) (h1 : -9223372036854775808 ≤ n) (h2 : n ≤ 9223372036854775807) (w : World) :
    Calls Try.prog 21 #[.int .i64 n] w fun e w' => e = .returned (.int .i64 (wpagesI n)) ∧ w = w' := by
  rcases Int.lt_or_le n 1 with h | h
  · have e : wpagesI n = 0 := by unfold wpagesI; rw [if_pos h]
    rw [e]
    by_cases h0 : n < 0
    · go_enter Try.func21, Try.ntmps21
      go_wp2
      go_ret
      exact ⟨rfl, rfl⟩
    · obtain rfl : n = 0 := by omega
      go_enter Try.func21, Try.ntmps21
      go_wp2
      go_ret
      exact ⟨rfl, rfl⟩
  · have q1 : 0 ≤ n / 32 := by omega
    have q2 : n / 32 ≤ 9223372036854775800 := by omega
    have n0 : ¬ n < 0 := by omega
    by_cases hr : n % 32 = 0
    · have e : wpagesI n = n / 32 := by unfold wpagesI; rw [if_neg (by omega)]; omega
      rw [e]
      have hd : decide (0 < n % 32) = false := decide_eq_false (by omega)
      clear e hr
      go_enter Try.func21, Try.ntmps21
      go_wp2
      go_ret
      exact ⟨rfl, rfl⟩
    · have e : wpagesI n = n / 32 + 1 := by unfold wpagesI; rw [if_neg (by omega)]; omega
      rw [e]
      have hd : 0 < n % 32 := by omega
      clear e hr
      go_enter Try.func21, Try.ntmps21
      go_wp2
      go_ret
      exact ⟨rfl, rfl⟩
theorem need_r (n : Int) (h1 : -9223372036854775808 ≤ n) (h2 : n ≤ 9223372036854775807) (w : World) :
    Calls Try.prog 26 #[.int .i64 n] w fun e w' => e = .returned (.int .i64 (wpagesI n)) ∧ w = w' := by
  rcases Int.lt_or_le n 1 with h | h
  · have e : wpagesI n = 0 := by unfold wpagesI; rw [if_pos h]
    rw [e]
    go_enter Try.func26, Try.ntmps26
    go_wp2
    go_ret
    exact ⟨rfl, rfl⟩
  · have e : wpagesI n = (n - 1) / 32 + 1 := by unfold wpagesI; rw [if_neg (by omega)]
    rw [e]
    have q0 : 0 ≤ n - 1 := by omega
    have q1 : 0 ≤ (n - 1) / 32 := by omega
    have q2 : (n - 1) / 32 ≤ 9223372036854775800 := by omega
    go_enter Try.func26, Try.ntmps26
    go_wp2
    go_ret
    exact ⟨rfl, rfl⟩
/-- Pages that hold so many rows of a width. -/
def rpagesI (rows width : Int) : Int := (rows + (32 / width) - 1) / (32 / width)
theorem per_bounds {c : Int} (h1 : 4 ≤ c) (h2 : c ≤ 32) : 1 ≤ 32 / c ∧ 32 / c ≤ 8 := by
  constructor
  · exact (Int.le_ediv_iff_mul_le (by omega)).2 (by omega)
  · have := Int.ediv_lt_of_lt_mul (a := 32) (b := 9) (c := c) (by omega) (by omega)
    omega
theorem pages_r (rows c : Int) (h0 : 0 ≤ rows) (hr : rows ≤ 1000000) (h1 : 4 ≤ c) (h2 : c ≤ 32) (w : World) :
    Calls Try.prog 24 #[.int .i64 rows, .int .i64 c] w fun e w' => e = .returned (.int .i64 (rpagesI rows c)) ∧ w = w' := by
  obtain ⟨p1, p2⟩ := per_bounds h1 h2
  have q0 : 0 ≤ rows + 32 / c - 1 := by omega
  have q1 : 0 ≤ (rows + 32 / c - 1) / (32 / c) := Int.ediv_nonneg (by omega) (by omega)
  have q2 : (rows + 32 / c - 1) / (32 / c) ≤ rows + 32 / c - 1 := Int.ediv_le_self _ (by omega)
  go_enter Try.func24, Try.ntmps24
  go_wp2
  go_ret
  exact ⟨rfl, rfl⟩
end Go.Proofs.Ytkmpjdffhbokdaa.cfg
