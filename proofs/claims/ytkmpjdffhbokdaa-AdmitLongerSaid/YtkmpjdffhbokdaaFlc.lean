/- Float words: products with powers of two, and the fields of a word under Go's bit operations. Plain lemmas. -/
import Derived.Test.YtkmpjdffhbokdaaFlb
namespace Go.Proofs.Ytkmpjdffhbokdaa.Fl
open Ieee Go.RowKit
set_option linter.unusedVariables false
theorem rung_lt (x : Nat) : rung x < 2 ^ 63 := Nat.mod_lt _ (by omega)
theorem rung_rung (x : Nat) : rung (rung x) = rung x := by unfold rung; exact Nat.mod_mod _ _
theorem neg_rung (x : Nat) : neg (rung x) = false := by
  unfold neg
  rw [Nat.div_eq_of_lt (rung_lt x)]; rfl
theorem clear_sign (x : Nat) (h : x < 2 ^ 64) : bits .andNot .u64 (x : Int) 9223372036854775808 = (rung x : Int) := by
  have e := u64_andNot_nat x 9223372036854775808 (by omega) (by omega)
  show bits .andNot .u64 (x : Int) ((9223372036854775808 : Nat) : Int) = _
  rw [e]
  have e2 : 18446744073709551615 - 9223372036854775808 = 2 ^ 63 - 1 := by decide
  rw [e2, Nat.and_two_pow_sub_one_eq_mod]
  rfl
theorem num_rung {x : Nat} : isNum (rung x) ↔ isNum x := by unfold isNum; rw [rung_rung]
theorem sv_rung (x : Nat) : sv (rung x) = (val (rung x) : Int) := by
  unfold sv
  rw [neg_rung, rung_rung]; rfl
theorem gt_max (x : Nat) : (double.order (rung x) 9218868437227405311 == some .gt) = decide (rung x = 2047 * 2 ^ 52) := by
  by_cases h : isNum x
  · rw [order_num (num_rung.2 h) (by decide), sv_rung]
    have e : sv 9218868437227405311 = (val (2047 * 2 ^ 52 - 1) : Int) := by
      unfold sv
      rw [show neg 9218868437227405311 = false from by decide, show rung 9218868437227405311 = 2047 * 2 ^ 52 - 1 from by decide]; rfl
    rw [e]
    unfold isNum at h
    by_cases h1 : rung x = 2047 * 2 ^ 52
    · have := val_lt (show 2047 * 2 ^ 52 - 1 < rung x by omega)
      rw [cmp_gt (by omega), decide_eq_true h1]; rfl
    · have := val_mono (show rung x ≤ 2047 * 2 ^ 52 - 1 by omega)
      rw [decide_eq_false h1]
      rcases Int.lt_or_eq_of_le (show (val (rung x) : Int) ≤ (val (2047 * 2 ^ 52 - 1) : Int) by omega) with h2 | h2
      · rw [cmp_lt h2]; rfl
      · rw [cmp_eq h2]; rfl
  · rw [order_nan_left (fun h2 => h (num_rung.1 h2))]
    unfold isNum at h
    rw [decide_eq_false (by omega)]; rfl
theorem sv_min : sv 4503599627370496 = (val (2 ^ 52) : Int) := by
  unfold sv
  rw [show neg 4503599627370496 = false from by decide, show rung 4503599627370496 = 2 ^ 52 from by decide]; rfl
theorem lt_min_normal (x : Nat) (hs : rung x < 2 ^ 52) : double.order (rung x) 4503599627370496 = some .lt := by
  have h : isNum (rung x) := by unfold isNum; rw [rung_rung]; omega
  rw [order_num h (by decide), sv_rung, sv_min]
  have := val_lt hs
  rw [cmp_lt (by omega)]
theorem ge_min_normal (x : Nat) (hs : 2 ^ 52 ≤ rung x) (hi : isNum x) : (double.order (rung x) 4503599627370496 == some .lt) = false := by
  rw [order_num (num_rung.2 hi) (by decide), sv_rung, sv_min]
  have := val_mono hs
  rcases Int.lt_or_eq_of_le (show (val (2 ^ 52) : Int) ≤ (val (rung x) : Int) by omega) with h2 | h2
  · rw [cmp_gt h2]; rfl
  · rw [cmp_eq h2.symm]; rfl

/-! ### products with a power of two -/
theorem mul_pow_left (K c x j r : Nat) (hK : K = 1074) (hc : neg c = false) (hc2 : rung c = (1 + j) * 2 ^ 52) (hj : j < 2046) (hx : isFin x) (hr : r < 2047 * 2 ^ 52) (h : val (rung x) * 2 ^ (52 + j) = val r * 2 ^ K) :
    floatBits .mul .f64 c x = some (double.word (neg x) r) ∧ floatBits .mul .f64 x c = some (double.word (neg x) r) := by
  have fc : isFin c := by unfold isFin; rw [hc2]; omega
  have em : mag (rung c) = 2 ^ 52 := by unfold mag; rw [hc2, if_neg (by omega)]; omega
  have ee : ex (rung c) = j := by unfold ex; rw [hc2]; omega
  have hv : mag (rung x) * 2 ^ 52 * 2 ^ (ex (rung x) + j) = val r * 2 ^ K := by
    rw [← h]
    unfold val
    rw [Nat.pow_add, Nat.pow_add, Nat.mul_assoc, Nat.mul_assoc]
    congr 1
    rw [Nat.mul_left_comm]
  have key := nearest_val (neg x) (mag (rung x) * 2 ^ 52) (ex (rung x) + j) K r hr hv
  constructor
  · show double.mul c x = _
    unfold Format.mul
    rw [read_fin fc, read_fin hx, hc, em, ee]
    simp only [Datum.product, Option.map_some, Format.write, Bool.false_xor]
    rw [Nat.mul_comm (2 ^ 52), ← key]
    congr 2
    omega
  · show double.mul x c = _
    unfold Format.mul
    rw [read_fin fc, read_fin hx, hc, em, ee]
    simp only [Datum.product, Option.map_some, Format.write, Bool.xor_false]
    rw [← key]
    congr 2
    omega

/-- A subnormal's rung times 2^52. -/
def nrm (r : Nat) : Nat := (r.log2 + 1) * 2 ^ 52 + (r * 2 ^ (52 - r.log2) - 2 ^ 52)
theorem nrm_parts {r : Nat} (h0 : 0 < r) (h : r < 2 ^ 52) : ∃ f, f < 2 ^ 52 ∧ r * 2 ^ (52 - r.log2) = 2 ^ 52 + f ∧ nrm r = (r.log2 + 1) * 2 ^ 52 + f ∧ r.log2 ≤ 51 := by
  obtain ⟨f, hf, hk, hr, hl⟩ := irung_parts h0 (show r < 2 ^ 53 by omega)
  refine ⟨f, hf, hk, ?_, ?_⟩
  · unfold nrm; rw [hk]; omega
  · have := (Nat.log2_lt (n := r) (k := 52) (by omega)).2 h; omega
theorem nrm_val {r : Nat} (h0 : 0 < r) (h : r < 2 ^ 52) : val (nrm r) = r * 2 ^ 52 ∧ nrm r < 53 * 2 ^ 52 ∧ 2 ^ 52 ≤ nrm r := by
  obtain ⟨f, hf, hk, hr, hl⟩ := nrm_parts h0 h
  refine ⟨?_, by rw [hr]; omega, by rw [hr]; omega⟩
  unfold val mag ex
  rw [hr]
  have e1 : ((r.log2 + 1) * 2 ^ 52 + f) / 2 ^ 52 - 1 = r.log2 := by omega
  have e2 : ((r.log2 + 1) * 2 ^ 52 + f) % 2 ^ 52 = f := by omega
  rw [if_neg (by omega), e1, e2, ← hk, Nat.mul_assoc, ← Nat.pow_add, show 52 - r.log2 + r.log2 = 52 from by omega]
theorem val_small {r : Nat} (h : r < 2 ^ 52) : val r = r := by
  unfold val mag ex
  rw [if_pos h, Nat.div_eq_of_lt h]; simp
theorem mul_norm (x : Nat) (h0 : 0 < rung x) (hs : rung x < 2 ^ 52) : floatBits .mul .f64 x 4841369599423283200 = some (double.word (neg x) (nrm (rung x))) := by
  obtain ⟨hv, hlt, _⟩ := nrm_val h0 hs
  obtain ⟨K, hK⟩ : ∃ K, K = 1074 := ⟨_, rfl⟩
  refine (mul_pow_left K 4841369599423283200 x K (nrm (rung x)) hK (by decide) (by unfold rung; omega) (by omega) (by unfold isFin; omega) (by omega) ?_).2
  rw [hv, val_small hs, Nat.mul_assoc, ← Nat.pow_add]
theorem mul_one' (x : Nat) (hx : x < 2 ^ 64) (hf : isFin x) : floatBits .mul .f64 4607182418800017408 x = some x := by
  have := (mul_pow_left (52 + 1022) 4607182418800017408 x 1022 (rung x) (by omega) (by decide) (by decide) (by omega) hf hf rfl).1
  rw [this, word_of_parts hx]
theorem mul_tiny (x r : Nat) (hf : isFin x) (hr : r < 2047 * 2 ^ 52) (h : val (rung x) = val r * 2 ^ 53) : floatBits .mul .f64 4368491638549381120 x = some (double.word (neg x) r) := by
  obtain ⟨J, hJ⟩ : ∃ J, J = 969 := ⟨_, rfl⟩
  refine (mul_pow_left (53 + (52 + J)) 4368491638549381120 x J r (by omega) (by decide) (by unfold rung; omega) (by omega) hf hr ?_).1
  rw [h, Nat.mul_assoc, ← Nat.pow_add]

/-! ### a word's fields -/
theorem i64_small (n : Int) (h0 : 0 ≤ n) (h1 : n < 2 ^ 63) : IntKind.i64.wrap n = n := by rw [IntKind.wrap_i64]; omega
theorem field_exp (x : Nat) (hx : x < 2 ^ 64) : bits .and .i64 ((x : Int) / 4503599627370496) 2047 = ((rung x / 2 ^ 52 : Nat) : Int) := by
  have e := bits_mask .i64 63 (by decide) (fun n h0 h1 => i64_small n h0 (by omega)) 11 (by decide) ((x : Int) / 4503599627370496) (by omega) (by omega)
  have e2 : (2 ^ 11 : Int) - 1 = 2047 := by decide
  rw [e2] at e
  rw [e]
  unfold rung
  omega
/-- A word without its exponent field; and with another one. -/
def clr (x : Nat) : Nat := x / 2 ^ 63 * 2 ^ 63 + rung x % 2 ^ 52
def put (x E : Nat) : Nat := double.word (neg x) (E * 2 ^ 52 + rung x % 2 ^ 52)
theorem field_clear (x : Nat) (hx : x < 2 ^ 64) : bits .andNot .u64 (x : Int) 9218868437227405312 = (clr x : Int) := by
  unfold clr
  have e := u64_andNot_nat x 9218868437227405312 (by omega) (by omega)
  show bits .andNot .u64 (x : Int) ((9218868437227405312 : Nat) : Int) = _
  rw [e]
  have e2 : 18446744073709551615 - 9218868437227405312 = 2 ^ 63 ||| (2 ^ 52 - 1) := by decide
  rw [e2, Nat.and_or_distrib_left, nat_bit, Nat.and_two_pow_sub_one_eq_mod, nat_join 52 _ _ (by omega) (by omega)]
  unfold rung
  omega
theorem field_join (s f E : Nat) (hs : s < 2) (hf : f < 2 ^ 52) (hE : E < 2 ^ 11) :
    bits .or .u64 ((s * 2 ^ 63 + f : Nat) : Int) ((E * 2 ^ 52 : Nat) : Int) = ((s * 2 ^ 63 + (E * 2 ^ 52 + f) : Nat) : Int) := by
  rw [u64_or_nat _ _ (by omega) (by omega)]
  have e1 : s * 2 ^ 63 + f = s * 2 ^ 63 ||| f := (nat_join 63 _ _ (by omega) (by omega)).symm
  have e2 : E * 2 ^ 52 + f = E * 2 ^ 52 ||| f := (nat_join 52 _ _ (by omega) (by omega)).symm
  have e3 : s * 2 ^ 63 + (E * 2 ^ 52 + f) = s * 2 ^ 63 ||| (E * 2 ^ 52 + f) := (nat_join 63 _ _ (by omega) (by omega)).symm
  rw [e3, e2, e1, Nat.or_assoc, Nat.or_comm f]
theorem word_split (x : Nat) (hx : x < 2 ^ 64) (r : Nat) : x / 2 ^ 63 * 2 ^ 63 + r = double.word (neg x) r := by
  unfold Format.word
  rw [d_sign]
  have h := neg_iff x hx
  cases hn : neg x
  · have : x / 2 ^ 63 = 0 := by
      rcases Nat.lt_or_ge x (2 ^ 63) with h1 | h1
      · omega
      · rw [h.2 h1] at hn; cases hn
    rw [this]; simp
  · have := h.1 hn
    have e : x / 2 ^ 63 = 1 := by omega
    rw [e]; simp
theorem field_put (x E : Nat) (hx : x < 2 ^ 64) (hE : E < 2 ^ 11) : bits .or .u64 (clr x : Int) ((E * 2 ^ 52 : Nat) : Int) = (put x E : Int) := by
  unfold clr put
  rw [field_join _ _ _ (by omega) (Nat.mod_lt _ (by decide)) hE, word_split x hx]
theorem put_parts (x E : Nat) (hE : E < 2 ^ 11) : neg (put x E) = neg x ∧ rung (put x E) = E * 2 ^ 52 + rung x % 2 ^ 52 ∧ put x E < 2 ^ 64 := by
  have h : E * 2 ^ 52 + rung x % 2 ^ 52 < 2 ^ 63 := by have := Nat.mod_lt (rung x) (show 0 < 2 ^ 52 by decide); omega
  have := word_parts (neg x) h
  exact ⟨this.1, this.2, word_lt _ h⟩
theorem put_fin (x E : Nat) (hE : E ≤ 2046) : isFin (put x E) := by
  unfold isFin
  rw [(put_parts x E (by omega)).2.1]
  have := Nat.mod_lt (rung x) (show 0 < 2 ^ 52 by decide)
  omega
theorem order_zero (x : Nat) (hi : isNum x) (h0 : 0 < rung x) : double.order x 0 = some (if neg x then .lt else .gt) := by
  rw [order_num hi (by decide), show sv 0 = 0 from by decide]
  rcases sv_cases x with ⟨a, b⟩ | ⟨a, b⟩ <;> rw [a, b] <;> have := val_pos h0
  · rw [cmp_lt (by omega)]; rfl
  · rw [cmp_gt (by omega)]; rfl
end Go.Proofs.Ytkmpjdffhbokdaa.Fl
