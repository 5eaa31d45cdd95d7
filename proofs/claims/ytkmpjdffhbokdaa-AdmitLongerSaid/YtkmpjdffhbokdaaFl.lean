/- Plain lemmas on IEEE doubles as bits: the value of a word as a whole number of units 2^-1074, order, exact results. No program. -/
import Ieee.Arith
namespace Go.Proofs.Ytkmpjdffhbokdaa.Fl
open Ieee

/-- A rung's magnitude, in units of 2^-1074. -/
def mag (r : Nat) : Nat := if r < 2 ^ 52 then r else 2 ^ 52 + r % 2 ^ 52
def ex (r : Nat) : Nat := r / 2 ^ 52 - 1
def val (r : Nat) : Nat := mag r * 2 ^ ex r
def neg (b : Nat) : Bool := b / 2 ^ 63 % 2 == 1
def rung (b : Nat) : Nat := b % 2 ^ 63
def sv (b : Nat) : Int := if neg b then -(val (rung b) : Int) else (val (rung b) : Int)
/-- No NaN: a number or an infinity. -/
def isNum (b : Nat) : Prop := rung b ≤ 2047 * 2 ^ 52
def isFin (b : Nat) : Prop := rung b < 2047 * 2 ^ 52

theorem d_binade : double.binade = 2 ^ 52 := by decide
theorem d_inf : double.infRung = 2047 * 2 ^ 52 := by decide
theorem d_sign : double.signWeight = 2 ^ 63 := by decide
theorem d_least : double.leastPlace = -1074 := by decide
theorem d_frac : double.fractionBits = 52 := rfl

theorem val_succ (r : Nat) : val r < val (r + 1) := by
  unfold val mag ex
  by_cases h : r + 1 < 2 ^ 52
  · rw [if_pos (by omega), if_pos h]
    have e1 : r / 2 ^ 52 - 1 = 0 := by omega
    have e2 : (r + 1) / 2 ^ 52 - 1 = 0 := by omega
    rw [e1, e2]; omega
  · rw [if_neg h]
    by_cases h2 : r < 2 ^ 52
    · rw [if_pos h2]
      have e1 : r / 2 ^ 52 - 1 = 0 := by omega
      have e2 : (r + 1) / 2 ^ 52 - 1 = 0 := by omega
      rw [e1, e2]; omega
    · rw [if_neg h2]
      by_cases h3 : r % 2 ^ 52 + 1 < 2 ^ 52
      · have e1 : (r + 1) / 2 ^ 52 - 1 = r / 2 ^ 52 - 1 := by omega
        have e2 : (r + 1) % 2 ^ 52 = r % 2 ^ 52 + 1 := by omega
        rw [e1, e2]
        exact Nat.mul_lt_mul_of_pos_right (by omega) (Nat.two_pow_pos _)
      · have e1 : (r + 1) / 2 ^ 52 - 1 = (r / 2 ^ 52 - 1) + 1 := by omega
        have e2 : (r + 1) % 2 ^ 52 = 0 := by omega
        rw [e1, e2, Nat.pow_add, Nat.pow_one, Nat.mul_comm (2 ^ (r / 2 ^ 52 - 1)) 2, ← Nat.mul_assoc]
        exact Nat.mul_lt_mul_of_pos_right (by omega) (Nat.two_pow_pos _)

theorem val_add (r d : Nat) : val r + d ≤ val (r + d) := by
  induction d with
  | zero => simp
  | succ d ih => have := val_succ (r + d); rw [← Nat.add_assoc]; rw [Nat.add_assoc r d 1] at this; omega

theorem val_mono {r s : Nat} (h : r ≤ s) : val r ≤ val s := by
  obtain ⟨d, rfl⟩ : ∃ d, s = r + d := ⟨s - r, by omega⟩
  have := val_add r d; omega

theorem val_lt {r s : Nat} (h : r < s) : val r < val s := by
  obtain ⟨d, rfl⟩ : ∃ d, s = r + d := ⟨s - r, by omega⟩
  have := val_add r d; omega

theorem val_lt_iff {r s : Nat} : val r < val s ↔ r < s :=
  ⟨fun h => Nat.lt_of_not_le fun h2 => by have := val_mono h2; omega, val_lt⟩
theorem val_inj {r s : Nat} (h : val r = val s) : r = s := by
  rcases Nat.lt_trichotomy r s with h1 | h1 | h1
  · have := val_lt h1; omega
  · exact h1
  · have := val_lt h1; omega
theorem val_zero : val 0 = 0 := by decide
theorem val_pos {r : Nat} (h : 0 < r) : 0 < val r := by have := val_lt h; rw [val_zero] at this; exact this
theorem val_eq_zero {r : Nat} : val r = 0 ↔ r = 0 := ⟨fun h => by rcases Nat.eq_zero_or_pos r with h1 | h1; exact h1; have := val_pos h1; omega, fun h => by rw [h, val_zero]⟩

/-- A finite word read. -/
theorem read_fin {b : Nat} (h : isFin b) : double.read b = .number (neg b) (mag (rung b)) (-1074 + (ex (rung b) : Nat)) := by
  unfold isFin at h
  unfold Format.read
  simp only [d_binade, d_inf, d_sign, d_least]
  show (if rung b < 2 ^ 52 then _ else _) = _
  unfold mag ex
  by_cases h1 : rung b < 2 ^ 52
  · have e1 : rung b / 2 ^ 52 - 1 = 0 := by omega
    rw [if_pos h1, if_pos h1, e1]
    rfl
  · rw [if_neg h1, if_neg h1]
    show (if rung b < 2047 * 2 ^ 52 then _ else _) = _
    rw [if_pos h]
    rfl
theorem read_inf {b : Nat} (h : rung b = 2047 * 2 ^ 52) : double.read b = .infinity (neg b) := by
  unfold Format.read
  simp only [d_binade, d_inf, d_sign, d_least]
  show (if rung b < 2 ^ 52 then _ else if rung b < 2047 * 2 ^ 52 then _ else if rung b = 2047 * 2 ^ 52 then _ else _) = _
  rw [if_neg (by omega), if_neg (by omega), if_pos h]
  rfl
theorem read_nan {b : Nat} (h : 2047 * 2 ^ 52 < rung b) : double.read b = .nan (neg b) (rung b - 2047 * 2 ^ 52) := by
  unfold Format.read
  simp only [d_binade, d_inf, d_sign, d_least]
  show (if rung b < 2 ^ 52 then _ else if rung b < 2047 * 2 ^ 52 then _ else if rung b = 2047 * 2 ^ 52 then _ else _) = _
  rw [if_neg (by omega), if_neg (by omega), if_neg (by omega)]
  rfl

/-! ### order -/
theorem compare_scale (a b : Int) (c : Nat) (hc : 0 < c) : compare (a * c) (b * c) = compare a b := by
  have hc' : (0 : Int) < (c : Int) := by omega
  simp only [compare, compareOfLessAndEq]
  have h1 : (a * c < b * c) ↔ a < b := Int.mul_lt_mul_right hc'
  have h2 : (a * c = b * c) ↔ a = b := ⟨fun h => Int.eq_of_mul_eq_mul_right (by omega) h, fun h => by rw [h]⟩
  simp only [h1, h2]

theorem signed_eq (s : Bool) (m up : Nat) : signed s m up = (if s then -(m : Int) else (m : Int)) * ((2 ^ up : Nat) : Int) := by
  unfold signed
  rw [Nat.shiftLeft_eq]
  cases s <;> simp [Int.natCast_mul, Int.neg_mul]

theorem sv_eq (b : Nat) : sv b = (if neg b then -(mag (rung b) : Int) else (mag (rung b) : Int)) * ((2 ^ ex (rung b) : Nat) : Int) := by
  unfold sv val
  cases neg b <;> simp [Int.natCast_mul, Int.neg_mul]

theorem order_fin {x y : Nat} (hx : isFin x) (hy : isFin y) : double.order x y = some (compare (sv x) (sv y)) := by
  unfold Format.order
  rw [read_fin hx, read_fin hy]
  simp only [Datum.order, Option.some.injEq]
  rw [signed_eq, signed_eq, sv_eq, sv_eq]
  generalize ex (rung x) = p
  generalize ex (rung y) = q
  generalize (if neg x then -(mag (rung x) : Int) else (mag (rung x) : Int)) = A
  generalize (if neg y then -(mag (rung y) : Int) else (mag (rung y) : Int)) = C
  have e1 : ((-1074 + (p : Int)) - min (-1074 + (p : Int)) (-1074 + (q : Int))).toNat = p - min p q := by omega
  have e2 : ((-1074 + (q : Int)) - min (-1074 + (p : Int)) (-1074 + (q : Int))).toNat = q - min p q := by omega
  rw [e1, e2, ← compare_scale _ _ (2 ^ min p q) (Nat.two_pow_pos _), Int.mul_assoc, Int.mul_assoc, ← Int.natCast_mul, ← Int.natCast_mul, ← Nat.pow_add, ← Nat.pow_add]
  congr 4 <;> omega

/-! ### exact results -/
theorem log2_mul_pow (m a : Nat) (hm : 0 < m) : (m * 2 ^ a).log2 = m.log2 + a := by
  induction a with
  | zero => simp
  | succ a ih =>
    have hp : 0 < m * 2 ^ a := Nat.mul_pos hm (Nat.two_pow_pos a)
    rw [Nat.pow_succ, ← Nat.mul_assoc, Nat.log2_eq_iff (by omega)]
    have h1 := Nat.log2_self_le (n := m * 2 ^ a) (by omega)
    have h2 := Nat.lt_log2_self (n := m * 2 ^ a)
    rw [ih] at h1 h2
    rw [← Nat.add_assoc, Nat.pow_succ, Nat.pow_succ _ (m.log2 + a + 1)]
    omega

theorem cut_exact (s : Bool) (k d : Nat) (hk : 0 < k) : Toward.even.cut s (k * 2 ^ d) d = k := by
  have hmin : min d ((k * 2 ^ d).log2 + 2) = d := by rw [log2_mul_pow k d hk]; omega
  unfold Toward.cut
  simp only [hmin, Nat.shiftLeft_eq, Nat.one_mul]
  have hp := Nat.two_pow_pos d
  rw [Nat.mul_div_cancel _ hp, Nat.mul_mod_left]
  generalize 2 ^ d = g at *
  have h1 : decide (g < 2 * 0) = false := by simp
  have h2 : (g == 2 * 0) = false := by simp; omega
  simp [h2]

theorem mag_pos {r : Nat} (h : 0 < r) : 0 < mag r := by unfold mag; split <;> omega
theorem mag_log2 {r : Nat} (h : 2 ^ 52 ≤ r) : (mag r).log2 = 52 := by
  unfold mag
  rw [if_neg (by omega)]
  have h1 : r % 2 ^ 52 < 2 ^ 52 := Nat.mod_lt _ (by decide)
  rw [Nat.log2_eq_iff (by omega)]
  omega

/-- A number that the format has is written as it is: m * 2^a units * 2^-q. -/
theorem nearest_val (s : Bool) (m a q r : Nat) (hr : r < 2047 * 2 ^ 52) (h : m * 2 ^ a = val r * 2 ^ q) :
    double.nearest s m ((a : Int) - q - 1074) = double.word s r := by
  unfold Format.nearest
  rcases Nat.eq_zero_or_pos r with h0 | h0
  · subst h0
    rw [val_zero, Nat.zero_mul] at h
    have hm : m = 0 := by
      rcases Nat.eq_zero_or_pos m with h1 | h1
      · exact h1
      · have := Nat.mul_pos h1 (Nat.two_pow_pos a); omega
    rw [if_pos hm]
  · have hv := val_pos h0
    have hm : 0 < m := by
      rcases Nat.eq_zero_or_pos m with h1 | h1
      · subst h1; rw [Nat.zero_mul] at h; have := Nat.mul_pos hv (Nat.two_pow_pos q); omega
      · exact h1
    rw [if_neg (by omega)]
    have hlog : m.log2 + a = (mag r).log2 + ex r + q := by
      rw [← log2_mul_pow m a hm, h, log2_mul_pow _ q hv]
      unfold val
      rw [log2_mul_pow _ _ (mag_pos h0)]
    simp only [d_binade, d_inf, d_least, d_frac]
    -- the last digit's place
    have hlast : max ((a : Int) - q - 1074 + m.log2 - (52 : Nat)) (-1074) = (ex r : Int) - 1074 := by
      by_cases h1 : r < 2 ^ 52
      · have e1 : ex r = 0 := by unfold ex; omega
        have e2 : (mag r).log2 < 52 := by
          unfold mag; rw [if_pos h1]
          exact (Nat.log2_lt (by omega)).2 h1
        rw [e1] at hlog ⊢
        omega
      · have e2 := mag_log2 (Nat.le_of_not_lt h1)
        rw [e2] at hlog
        omega
    rw [hlast]
    have hmag := mag_pos h0
    have hkept : Toward.even.cut s (m <<< ((a : Int) - q - 1074 - ((ex r : Int) - 1074)).toNat) ((ex r : Int) - 1074 - ((a : Int) - q - 1074)).toNat = mag r := by
      have e1 : ((a : Int) - q - 1074 - ((ex r : Int) - 1074)).toNat = a - (q + ex r) := by omega
      have e2 : ((ex r : Int) - 1074 - ((a : Int) - q - 1074)).toNat = (q + ex r) - a := by omega
      rw [e1, e2, Nat.shiftLeft_eq]
      have e3 : m * 2 ^ (a - (q + ex r)) = mag r * 2 ^ ((q + ex r) - a) := by
        have hh : m * 2 ^ a = mag r * 2 ^ (q + ex r) := by
          rw [h]; unfold val; rw [Nat.mul_assoc, ← Nat.pow_add, Nat.add_comm]
        rcases Nat.le_total a (q + ex r) with hle | hle
        · have e4 : a - (q + ex r) = 0 := by omega
          rw [e4, Nat.pow_zero, Nat.mul_one]
          have e5 : q + ex r = (q + ex r - a) + a := by omega
          rw [e5, Nat.pow_add, ← Nat.mul_assoc] at hh
          exact Nat.eq_of_mul_eq_mul_right (Nat.two_pow_pos a) hh
        · have e4 : (q + ex r) - a = 0 := by omega
          rw [e4, Nat.pow_zero, Nat.mul_one]
          have e5 : a = (a - (q + ex r)) + (q + ex r) := by omega
          rw [e5, Nat.pow_add, ← Nat.mul_assoc] at hh
          exact Nat.eq_of_mul_eq_mul_right (Nat.two_pow_pos _) hh
      rw [e3]
      exact cut_exact s _ _ hmag
    rw [hkept]
    have e6 : ((ex r : Int) - 1074 - -1074).toNat = ex r := by omega
    rw [e6]
    have e7 : ex r * 2 ^ 52 + mag r = r := by
      unfold ex mag
      split
      · omega
      · omega
    rw [e7, Nat.min_eq_left (by omega)]

/-- The rung of a whole number k, 0 < k < 2^53. -/
def irung (k : Nat) : Nat := (1023 + k.log2) * 2 ^ 52 + (k * 2 ^ (52 - k.log2) - 2 ^ 52)
theorem irung_parts {k : Nat} (h0 : 0 < k) (h : k < 2 ^ 53) : ∃ f, f < 2 ^ 52 ∧ k * 2 ^ (52 - k.log2) = 2 ^ 52 + f ∧ irung k = (1023 + k.log2) * 2 ^ 52 + f ∧ k.log2 ≤ 52 := by
  have hl : k.log2 < 53 := (Nat.log2_lt (by omega)).2 h
  have h1 : 2 ^ k.log2 ≤ k := Nat.log2_self_le (by omega)
  have h2 : k < 2 ^ (k.log2 + 1) := Nat.lt_log2_self
  have e : 2 ^ 52 = 2 ^ k.log2 * 2 ^ (52 - k.log2) := by rw [← Nat.pow_add]; congr 1; omega
  have g1 : 2 ^ 52 ≤ k * 2 ^ (52 - k.log2) := by rw [e]; exact Nat.mul_le_mul_right _ h1
  have g2 : k * 2 ^ (52 - k.log2) < 2 ^ 53 := by
    have : 2 ^ 53 = 2 ^ (k.log2 + 1) * 2 ^ (52 - k.log2) := by rw [← Nat.pow_add]; congr 1; omega
    rw [this]
    exact Nat.mul_lt_mul_of_pos_right h2 (Nat.two_pow_pos _)
  refine ⟨k * 2 ^ (52 - k.log2) - 2 ^ 52, by omega, by omega, rfl, by omega⟩
theorem irung_val {k : Nat} (h0 : 0 < k) (h : k < 2 ^ 53) : val (irung k) = k * 2 ^ 1074 ∧ irung k < 1076 * 2 ^ 52 := by
  obtain ⟨f, hf, hk, hr, hl⟩ := irung_parts h0 h
  refine ⟨?_, by rw [hr]; omega⟩
  unfold val mag ex
  rw [hr]
  have e1 : ((1023 + k.log2) * 2 ^ 52 + f) / 2 ^ 52 - 1 = 1022 + k.log2 := by omega
  have e2 : ((1023 + k.log2) * 2 ^ 52 + f) % 2 ^ 52 = f := by omega
  rw [if_neg (by omega), e1, e2, ← hk, Nat.mul_assoc, ← Nat.pow_add, show (52 - k.log2) + (1022 + k.log2) = 1074 from by omega]
def krung (k : Nat) : Nat := if k = 0 then 0 else irung k
theorem krung_val {k : Nat} (h : k < 2 ^ 53) : val (krung k) = k * 2 ^ 1074 ∧ krung k < 1076 * 2 ^ 52 := by
  unfold krung
  split
  · rename_i h0; subst h0; rw [val_zero]; exact ⟨by omega, by omega⟩
  · exact irung_val (by omega) h
theorem krung_val' {k : Nat} (h : k < 2 ^ 53) (d : Nat) (hd : d = 1074) : val (krung k) = k * 2 ^ d ∧ krung k < 1076 * 2 ^ 52 := by subst hd; exact krung_val h

/-! ### words -/
theorem word_parts (s : Bool) {r : Nat} (h : r < 2 ^ 63) : neg (double.word s r) = s ∧ rung (double.word s r) = r := by
  unfold Format.word neg rung
  rw [d_sign]
  cases s
  · simp only [Bool.false_eq_true, if_false]
    have h1 : r / 2 ^ 63 = 0 := Nat.div_eq_of_lt h
    rw [h1, Nat.mod_eq_of_lt h]
    exact ⟨rfl, rfl⟩
  · simp only [if_true]
    have h1 : (2 ^ 63 + r) / 2 ^ 63 = 1 := by omega
    have h2 : (2 ^ 63 + r) % 2 ^ 63 = r := by omega
    rw [h1, h2]
    exact ⟨rfl, rfl⟩
theorem word_of_parts {b : Nat} (h : b < 2 ^ 64) : double.word (neg b) (rung b) = b := by
  unfold Format.word neg rung
  rw [d_sign]
  by_cases h1 : b < 2 ^ 63
  · have e : b / 2 ^ 63 = 0 := Nat.div_eq_of_lt h1
    rw [e, Nat.mod_eq_of_lt h1]; rfl
  · have e : b / 2 ^ 63 = 1 := by omega
    have e2 : b % 2 ^ 63 = b - 2 ^ 63 := by omega
    rw [e, e2]
    show 2 ^ 63 + (b - 2 ^ 63) = b
    omega
theorem word_lt (s : Bool) {r : Nat} (h : r < 2 ^ 63) : double.word s r < 2 ^ 64 := by
  unfold Format.word
  rw [d_sign]
  cases s <;> simp <;> omega

/-! ### order, infinities too; a NaN -/
theorem cmp_lt {a b : Int} (h : a < b) : compare a b = .lt := by simp [compare, compareOfLessAndEq, h]
theorem cmp_eq {a b : Int} (h : a = b) : compare a b = .eq := by simp [compare, compareOfLessAndEq, h]
theorem cmp_gt {a b : Int} (h : b < a) : compare a b = .gt := by
  have h1 : ¬ a < b := by omega
  have h2 : ¬ a = b := by omega
  simp [compare, compareOfLessAndEq, h1, h2]
theorem sv_cases (b : Nat) : (neg b = true ∧ sv b = -(val (rung b) : Int)) ∨ (neg b = false ∧ sv b = (val (rung b) : Int)) := by
  unfold sv
  cases h : neg b <;> simp
theorem order_num {x y : Nat} (hx : isNum x) (hy : isNum y) : double.order x y = some (compare (sv x) (sv y)) := by
  unfold isNum at hx hy
  by_cases fx : rung x < 2047 * 2 ^ 52
  · by_cases fy : rung y < 2047 * 2 ^ 52
    · exact order_fin fx fy
    · have ey : rung y = 2047 * 2 ^ 52 := by omega
      have hv := val_lt fx
      unfold Format.order
      rw [read_fin fx, read_inf ey]
      simp only [Datum.order]
      rcases sv_cases x with ⟨a, b⟩ | ⟨a, b⟩ <;> rcases sv_cases y with ⟨c, d⟩ | ⟨c, d⟩ <;> rw [b, c, d, ey] <;> simp only [Bool.false_eq_true, if_false, if_true, Option.some.injEq]
      · exact (cmp_gt (by omega)).symm
      · exact (cmp_lt (by omega)).symm
      · exact (cmp_gt (by omega)).symm
      · exact (cmp_lt (by omega)).symm
  · have ex : rung x = 2047 * 2 ^ 52 := by omega
    by_cases fy : rung y < 2047 * 2 ^ 52
    · have hv := val_lt fy
      unfold Format.order
      rw [read_inf ex, read_fin fy]
      simp only [Datum.order]
      rcases sv_cases x with ⟨a, b⟩ | ⟨a, b⟩ <;> rcases sv_cases y with ⟨c, d⟩ | ⟨c, d⟩ <;> rw [b, a, d, ex] <;> simp only [Bool.false_eq_true, if_false, if_true, Option.some.injEq]
      · exact (cmp_lt (by omega)).symm
      · exact (cmp_lt (by omega)).symm
      · exact (cmp_gt (by omega)).symm
      · exact (cmp_gt (by omega)).symm
    · have ey : rung y = 2047 * 2 ^ 52 := by omega
      have hv := val_pos (r := 2047 * 2 ^ 52) (by omega)
      unfold Format.order
      rw [read_inf ex, read_inf ey]
      simp only [Datum.order]
      rcases sv_cases x with ⟨a, b⟩ | ⟨a, b⟩ <;> rcases sv_cases y with ⟨c, d⟩ | ⟨c, d⟩ <;> rw [a, b, c, d, ex, ey] <;> simp only [Option.some.injEq]
      · rw [cmp_eq rfl]; decide
      · rw [cmp_lt (by omega)]; decide
      · rw [cmp_gt (by omega)]; decide
      · rw [cmp_eq rfl]; decide
theorem order_nan_left {x y : Nat} (hx : ¬ isNum x) : double.order x y = none := by
  unfold isNum at hx
  unfold Format.order
  rw [read_nan (by omega)]
  cases double.read y <;> rfl
theorem order_nan_right {x y : Nat} (hy : ¬ isNum y) : double.order x y = none := by
  unfold isNum at hy
  unfold Format.order
  rw [read_nan (b := y) (by omega)]
  cases double.read x <;> rfl
instance (x : Nat) : Decidable (isNum x) := inferInstanceAs (Decidable (_ ≤ _))
theorem self_ne (x : Nat) : (double.order x x != some .eq) = !decide (isNum x) := by
  by_cases h : isNum x
  · rw [order_num h h, cmp_eq rfl]; simp [h]
  · rw [order_nan_left h]; simp [h]

/-! ### the order's key, and the reference's rank -/
def keyN (x : Nat) : Nat := if isNum x then (if neg x then 2 ^ 63 - 1 - rung x else 2 ^ 63 + rung x) else 0
def rankN (x : Nat) : Nat := if isNum x then (if rung x = 0 then (if neg x then 2 else 3) else if neg x then 1 else 4) else 0
theorem sv_lt_zero (x : Nat) : sv x < 0 ↔ neg x = true ∧ 0 < rung x := by
  rcases sv_cases x with ⟨a, b⟩ | ⟨a, b⟩ <;> rw [a, b]
  · constructor
    · intro h; refine ⟨rfl, Nat.pos_of_ne_zero fun h0 => ?_⟩; rw [h0, val_zero] at h; omega
    · intro h; have := val_pos h.2; omega
  · simp
theorem sv_gt_zero (x : Nat) : 0 < sv x ↔ neg x = false ∧ 0 < rung x := by
  rcases sv_cases x with ⟨a, b⟩ | ⟨a, b⟩ <;> rw [a, b]
  · simp
  · constructor
    · intro h; refine ⟨rfl, Nat.pos_of_ne_zero fun h0 => ?_⟩; rw [h0, val_zero] at h; omega
    · intro h; have := val_pos h.2; omega
theorem sv_lt (x y : Nat) (h : rankN x = rankN y) (hx : isNum x) (hy : isNum y) : sv x < sv y ↔ keyN x < keyN y := by
  have bx : rung x < 2 ^ 63 := Nat.mod_lt _ (by omega)
  have by' : rung y < 2 ^ 63 := Nat.mod_lt _ (by omega)
  have e1 := @val_lt_iff (rung x) (rung y)
  have e2 := @val_lt_iff (rung y) (rung x)
  unfold rankN at h
  unfold keyN
  rw [if_pos hx, if_pos hy] at h ⊢
  rcases sv_cases x with ⟨a, b⟩ | ⟨a, b⟩ <;> rcases sv_cases y with ⟨c, d⟩ | ⟨c, d⟩ <;> rw [a, c] at h ⊢ <;> rw [b, d]
  · simp only [if_true]; omega
  · exfalso; revert h; simp; repeat' split
    all_goals omega
  · exfalso; revert h; simp; repeat' split
    all_goals omega
  · simp only [Bool.false_eq_true, if_false]; omega
theorem rank_lt_key (x y : Nat) (h : rankN x < rankN y) : keyN x < keyN y := by
  have bx : rung x < 2 ^ 63 := Nat.mod_lt _ (by omega)
  have by' : rung y < 2 ^ 63 := Nat.mod_lt _ (by omega)
  unfold rankN at h
  unfold keyN
  by_cases hx : isNum x <;> by_cases hy : isNum y <;> simp only [hx, hy, if_true, if_false] at h ⊢ <;> unfold isNum at hx hy
  · by_cases zx : rung x = 0 <;> by_cases zy : rung y = 0 <;> cases nx : neg x <;> cases ny : neg y <;> simp only [zx, zy, nx, ny, if_true, if_false, Bool.false_eq_true] at h ⊢ <;> omega
  · exfalso; revert h; repeat' split
    all_goals omega
  · cases ny : neg y <;> simp <;> omega
  · omega
theorem rank_ne_key (x y : Nat) (h : rankN x ≠ rankN y) : keyN x ≠ keyN y := by
  rcases Nat.lt_or_gt_of_ne h with h1 | h1
  · have := rank_lt_key x y h1; omega
  · have := rank_lt_key y x h1; omega
theorem refLess (x y : Nat) : (rankN x < rankN y ∨ rankN x = rankN y ∧ double.order x y = some .lt) ↔ keyN x < keyN y := by
  constructor
  · rintro (h | ⟨h, h2⟩)
    · exact rank_lt_key x y h
    · by_cases hx : isNum x
      · by_cases hy : isNum y
        · rw [order_num hx hy] at h2
          refine (sv_lt x y h hx hy).1 ?_
          rcases Int.lt_trichotomy (sv x) (sv y) with h3 | h3 | h3
          · exact h3
          · rw [cmp_eq h3] at h2; cases h2
          · rw [cmp_gt h3] at h2; cases h2
        · rw [order_nan_right hy] at h2; cases h2
      · rw [order_nan_left hx] at h2; cases h2
  · intro h
    rcases Nat.lt_trichotomy (rankN x) (rankN y) with h1 | h1 | h1
    · exact .inl h1
    · refine .inr ⟨h1, ?_⟩
      by_cases hx : isNum x
      · by_cases hy : isNum y
        · rw [order_num hx hy, cmp_lt ((sv_lt x y h1 hx hy).2 h)]
        · exfalso; unfold rankN at h1; rw [if_pos hx, if_neg hy] at h1; revert h1; repeat' split
          all_goals omega
      · by_cases hy : isNum y
        · exfalso; unfold rankN at h1; rw [if_neg hx, if_pos hy] at h1; revert h1; repeat' split
          all_goals omega
        · unfold keyN at h; rw [if_neg hx, if_neg hy] at h; omega
    · have := rank_lt_key y x h1; omega
theorem refSame (x y : Nat) : (rankN x = rankN y ∧ (¬ isNum x ∨ double.order x y = some .eq)) ↔ keyN x = keyN y := by
  constructor
  · rintro ⟨h, h2⟩
    by_cases hx : isNum x
    · by_cases hy : isNum y
      · have h3 := h2.resolve_left (fun h => h hx)
        rw [order_num hx hy] at h3
        have l1 := sv_lt x y h hx hy
        have l2 := sv_lt y x h.symm hy hx
        have : sv x = sv y := by
          rcases Int.lt_trichotomy (sv x) (sv y) with h4 | h4 | h4
          · rw [cmp_lt h4] at h3; cases h3
          · exact h4
          · rw [cmp_gt h4] at h3; cases h3
        omega
      · exfalso; unfold rankN at h; rw [if_pos hx, if_neg hy] at h; revert h; repeat' split
        all_goals omega
    · by_cases hy : isNum y
      · exfalso; unfold rankN at h; rw [if_neg hx, if_pos hy] at h; revert h; repeat' split
        all_goals omega
      · unfold keyN; rw [if_neg hx, if_neg hy]
  · intro h
    have h1 : rankN x = rankN y := by
      by_cases e : rankN x = rankN y
      · exact e
      · exact absurd h (rank_ne_key x y e)
    refine ⟨h1, ?_⟩
    by_cases hx : isNum x
    · by_cases hy : isNum y
      · right
        have l1 := sv_lt x y h1 hx hy
        have l2 := sv_lt y x h1.symm hy hx
        rw [order_num hx hy, cmp_eq (by omega)]
      · exfalso; unfold rankN at h1; rw [if_pos hx, if_neg hy] at h1; revert h1; repeat' split
        all_goals omega
    · exact .inl hx
end Go.Proofs.Ytkmpjdffhbokdaa.Fl
