/- Float words: times 2^16 as Ldexp gives it; the least and the greatest; a fixed number. Plain lemmas. -/
import Derived.Test.YtkmpjdffhbokdaaFlr
namespace Go.Proofs.Ytkmpjdffhbokdaa.Fl
open Ieee Go.RowKit
set_option linter.unusedVariables false
/-- The rung of what is 2^16 times as great. -/
def r16 (r : Nat) : Nat :=
  if r < 2 ^ 52 then (if r.log2 < 36 then r * 2 ^ 16 else (r.log2 - 35) * 2 ^ 52 + nrm r % 2 ^ 52)
  else if r + 16 * 2 ^ 52 < 2047 * 2 ^ 52 then r + 16 * 2 ^ 52 else 2047 * 2 ^ 52
theorem nrm_mod {r : Nat} (h0 : 0 < r) (h : r < 2 ^ 52) : nrm r % 2 ^ 52 + 2 ^ 52 = r * 2 ^ (52 - r.log2) ∧ nrm r / 2 ^ 52 = r.log2 + 1 := by
  obtain ⟨f, hf, hk, hr, hl⟩ := nrm_parts h0 h
  rw [hr, hk]; omega
theorem log2_le {r : Nat} (h0 : 0 < r) (h : r < 2 ^ 52) : r.log2 ≤ 51 := (nrm_parts h0 h).choose_spec.2.2.2
theorem val_big {E f : Nat} (hE : 1 ≤ E) (hf : f < 2 ^ 52) : val (E * 2 ^ 52 + f) = (2 ^ 52 + f) * 2 ^ (E - 1) := by
  unfold val mag ex
  have e1 : (E * 2 ^ 52 + f) / 2 ^ 52 - 1 = E - 1 := by omega
  have e2 : (E * 2 ^ 52 + f) % 2 ^ 52 = f := by omega
  rw [if_neg (by omega), e1, e2]
theorem val_split {r : Nat} (h : 2 ^ 52 ≤ r) : val r = (2 ^ 52 + r % 2 ^ 52) * 2 ^ (r / 2 ^ 52 - 1) := by
  unfold val mag ex
  rw [if_neg (by omega)]
theorem r16_val {r : Nat} (h : r < 2031 * 2 ^ 52) : val (r16 r) = val r * 2 ^ 16 ∧ r16 r < 2047 * 2 ^ 52 := by
  unfold r16
  by_cases hs : r < 2 ^ 52
  · rw [if_pos hs, val_small hs]
    rcases Nat.eq_zero_or_pos r with h0 | h0
    · subst h0; decide
    · by_cases hl : r.log2 < 36
      · rw [if_pos hl]
        have h1 : r < 2 ^ 36 := (Nat.log2_lt (by omega)).1 hl
        exact ⟨val_small (by omega), by omega⟩
      · rw [if_neg hl]
        have h1 := nrm_mod h0 hs
        have h2 := log2_le h0 hs
        have h3 := Nat.mod_lt (nrm r) (show 0 < 2 ^ 52 by decide)
        refine ⟨?_, by omega⟩
        rw [val_big (by omega) h3, Nat.add_comm, h1.1, Nat.mul_assoc, ← Nat.pow_add, show 52 - r.log2 + (r.log2 - 35 - 1) = 16 from by omega]
  · rw [if_neg hs, if_pos (by omega), val_split (by omega), val_split (by omega)]
    have e1 : (r + 16 * 2 ^ 52) % 2 ^ 52 = r % 2 ^ 52 := by omega
    have e2 : (r + 16 * 2 ^ 52) / 2 ^ 52 - 1 = (r / 2 ^ 52 - 1) + 16 := by omega
    rw [e1, e2, Nat.pow_add, Nat.mul_assoc]
    exact ⟨rfl, by omega⟩
theorem r16_inf {r : Nat} (h : 2031 * 2 ^ 52 ≤ r) : r16 r = 2047 * 2 ^ 52 := by
  unfold r16
  rw [if_neg (by omega), if_neg (by omega)]
/-- Ldexp(x, 16), x a number. -/
def ld16 (x : Nat) : Nat := if rung x = 0 then x else if rung x = 2047 * 2 ^ 52 then x else double.word (neg x) (r16 (rung x))
theorem r16_le (r : Nat) : r16 r ≤ 2047 * 2 ^ 52 := by
  rcases Nat.lt_or_ge r (2031 * 2 ^ 52) with h | h
  · exact Nat.le_of_lt (r16_val h).2
  · rw [r16_inf h]; omega
theorem ld16_parts (x : Nat) (hx : x < 2 ^ 64) (hi : isNum x) : neg (ld16 x) = neg x ∧ rung (ld16 x) = r16 (rung x) ∧ ld16 x < 2 ^ 64 := by
  unfold ld16
  unfold isNum at hi
  by_cases h0 : rung x = 0
  · rw [if_pos h0, h0]; exact ⟨rfl, by decide, hx⟩
  · rw [if_neg h0]
    by_cases h1 : rung x = 2047 * 2 ^ 52
    · rw [if_pos h1, h1]; exact ⟨rfl, by decide, hx⟩
    · rw [if_neg h1]
      have := r16_le (rung x)
      have h := word_parts (neg x) (show r16 (rung x) < 2 ^ 63 by omega)
      exact ⟨h.1, h.2, word_lt _ (by omega)⟩

/-! ### a fixed number -/
def clampI (n : Int) : Int := if n < -2147483648 then -2147483648 else if 2147483647 < n then 2147483647 else n
/-- The magnitude of a number, rounded to 65536ths. -/
def fixK (x : Nat) : Nat := rne (val (rung x)) 1058
def fixV (x : Nat) : Int := clampI (if neg x then -(fixK x : Int) else (fixK x : Int))

theorem max_word : ∃ d : Nat, d = 1074 ∧ val 4746794007244308480 = 2147483647 * 2 ^ d := by
  obtain ⟨d, hd⟩ : ∃ d : Nat, d = 1074 := ⟨_, rfl⟩
  have h : krung 2147483647 = 4746794007244308480 := by decide
  have := (krung_val' (k := 2147483647) (by decide) d hd).1
  rw [h] at this
  exact ⟨d, hd, this⟩
theorem min_word : ∃ d : Nat, d = 1074 ∧ val (rung 13970166044103278592) = 2147483648 * 2 ^ d := by
  obtain ⟨d, hd⟩ : ∃ d : Nat, d = 1074 := ⟨_, rfl⟩
  have h : krung 2147483648 = rung 13970166044103278592 := by decide
  have := (krung_val' (k := 2147483648) (by decide) d hd).1
  rw [h] at this
  exact ⟨d, hd, this⟩
/-- A finite word that stands for a whole number, cut to an integer. -/
theorem to_int (x : Nat) (hx : isFin x) (k d : Nat) (hd : d = 1074) (hv : val (rung x) = k * 2 ^ d) (hk : k < 2 ^ 62) : floatToIntVal .f64 x .i64 = some (if neg x then -(k : Int) else (k : Int)) := by
  unfold floatToIntVal
  have e : FloatKind.f64.decode x = double.read x := rfl
  rw [e, read_fin hx]
  simp only [Datum.toInt, Datum.integral]
  have hcut : Toward.zero.cut (neg x) (mag (rung x) <<< (-1074 + (ex (rung x) : Int)).toNat) (-(-1074 + (ex (rung x) : Int))).toNat = k := by
    have hval : mag (rung x) * 2 ^ ex (rung x) = k * 2 ^ d := hv
    unfold Toward.cut
    simp only [Nat.shiftLeft_eq, Nat.one_mul, Bool.toNat_false, Nat.add_zero]
    generalize ex (rung x) = a at *
    generalize mag (rung x) = m at *
    rcases Nat.le_total d a with h | h
    · have e1 : (-1074 + (a : Int)).toNat = a - d := by omega
      have e2 : (-(-1074 + (a : Int))).toNat = 0 := by omega
      rw [e1, e2, Nat.zero_min, Nat.pow_zero, Nat.div_one]
      have e3 : a = (a - d) + d := by omega
      rw [e3, Nat.pow_add, ← Nat.mul_assoc] at hval
      exact Nat.eq_of_mul_eq_mul_right (Nat.two_pow_pos d) hval
    · have e1 : (-1074 + (a : Int)).toNat = 0 := by omega
      have e2 : (-(-1074 + (a : Int))).toNat = d - a := by omega
      rw [e1, e2, Nat.pow_zero, Nat.mul_one]
      have e3 : d = (d - a) + a := by omega
      rw [e3, Nat.pow_add, ← Nat.mul_assoc] at hval
      have hm : m = k * 2 ^ (d - a) := Nat.eq_of_mul_eq_mul_right (Nat.two_pow_pos a) hval
      rw [hm]
      rcases Nat.eq_zero_or_pos k with h0 | h0
      · subst h0; simp
      · have hmin : min (d - a) ((k * 2 ^ (d - a)).log2 + 2) = d - a := by rw [log2_mul_pow k _ h0]; omega
        rw [hmin, Nat.mul_div_cancel _ (Nat.two_pow_pos _)]
  rw [hcut, signed_eq]
  simp only [Nat.pow_zero]
  have e1 : IntKind.i64.min = -9223372036854775808 := by decide
  have e2 : IntKind.i64.max = 9223372036854775807 := by decide
  rw [e1, e2]
  cases neg x
  · simp only [Bool.false_eq_true, if_false]
    rw [if_pos (by omega)]
    congr 1
    omega
  · simp only [if_true]
    rw [if_pos (by omega)]
    congr 1
    omega

/-! ### RoundToEven, min, max -/
instance (x : Nat) : Decidable (isFin x) := inferInstanceAs (Decidable (_ < _))
def rwd (y : Nat) : Nat := FloatKind.f64.encode (Datum.integral .even (FloatKind.f64.decode y))
theorem rwd_fin (y : Nat) (hy : isFin y) (d : Nat) (hd : d = 1074) : neg (rwd y) = neg y ∧ isFin (rwd y) ∧ val (rung (rwd y)) = rne (val (rung y)) d * 2 ^ d := by
  obtain ⟨r, hr, hv, he⟩ := whole_word y hy d hd
  unfold rwd isFin
  rw [he]
  have := word_parts (neg y) (show r < 2 ^ 63 by omega)
  rw [this.1, this.2]
  exact ⟨rfl, hr, hv⟩
theorem rwd_inf (y : Nat) (hy : y < 2 ^ 64) (h : rung y = 2047 * 2 ^ 52) : rwd y = y := by
  unfold rwd
  have e : FloatKind.f64.decode y = double.read y := rfl
  rw [e, read_inf h]
  show double.write (.infinity (neg y)) = y
  simp only [Format.write]
  rw [d_inf, ← h]
  exact word_of_parts hy
/-- min and max of two words of which none is a NaN. -/
def fmin (x y : Nat) : Nat := if sv x < sv y then x else if sv y < sv x then y else if neg x then x else y
def fmax (x y : Nat) : Nat := if sv y < sv x then x else if sv x < sv y then y else if neg x then y else x
theorem decode_neg (x : Nat) (h : isNum x) : (FloatKind.f64.decode x).neg = neg x := by
  have e : FloatKind.f64.decode x = double.read x := rfl
  rw [e]
  unfold isNum at h
  by_cases h1 : rung x < 2047 * 2 ^ 52
  · rw [read_fin h1]; rfl
  · rw [read_inf (by omega)]; rfl
theorem run_fmin {P : Program} (ts : Array TypeId) (t : TypeId) (x y : Nat) (hx : isNum x) (hy : isNum y) (w : World) :
    (Builtin.min_ ts t #[.float .f64 x, .float .f64 y]).run P w = .ok (.float .f64 (fmin x y)) w := by
  have ho : FloatKind.f64.format.order x y = some (compare (sv x) (sv y)) := order_num hx hy
  unfold fmin
  rcases Int.lt_trichotomy (sv x) (sv y) with h | h | h
  · rw [cmp_lt h] at ho
    rw [if_pos h]
    simp [Builtin.min_, Builtin.min2, ho]
  · rw [cmp_eq h] at ho
    rw [if_neg (by omega), if_neg (by omega)]
    simp [Builtin.min_, Builtin.min2, ho, decode_neg x hx]
  · rw [cmp_gt h] at ho
    rw [if_neg (by omega), if_pos h]
    simp [Builtin.min_, Builtin.min2, ho]
theorem run_fmax {P : Program} (ts : Array TypeId) (t : TypeId) (x y : Nat) (hx : isNum x) (hy : isNum y) (w : World) :
    (Builtin.max_ ts t #[.float .f64 x, .float .f64 y]).run P w = .ok (.float .f64 (fmax x y)) w := by
  have ho : FloatKind.f64.format.order x y = some (compare (sv x) (sv y)) := order_num hx hy
  unfold fmax
  rcases Int.lt_trichotomy (sv x) (sv y) with h | h | h
  · rw [cmp_lt h] at ho
    rw [if_neg (by omega), if_pos h]
    simp [Builtin.max_, Builtin.max2, ho]
  · rw [cmp_eq h] at ho
    rw [if_neg (by omega), if_neg (by omega)]
    simp [Builtin.max_, Builtin.max2, ho, decode_neg x hx]
  · rw [cmp_gt h] at ho
    rw [if_pos h]
    simp [Builtin.max_, Builtin.max2, ho]
theorem fmin_num {x y : Nat} (hx : isNum x) (hy : isNum y) : isNum (fmin x y) := by unfold fmin; (repeat' split) <;> assumption
theorem fmin_or (x y : Nat) : (fmin x y = x ∧ sv x ≤ sv y) ∨ (fmin x y = y ∧ sv y ≤ sv x) := by unfold fmin; (repeat' split) <;> omega
theorem fmax_or (x y : Nat) : (fmax x y = x ∧ sv y ≤ sv x) ∨ (fmax x y = y ∧ sv x ≤ sv y) := by unfold fmax; (repeat' split) <;> omega

theorem sv_max : ∃ d : Nat, d = 1074 ∧ sv 4746794007244308480 = 2147483647 * (2 ^ d : Nat) := by
  obtain ⟨d, hd, h⟩ := max_word
  refine ⟨d, hd, ?_⟩
  unfold sv
  rw [show neg 4746794007244308480 = false from by decide, show rung 4746794007244308480 = 4746794007244308480 from by decide, h]
  simp
theorem sv_min2 : ∃ d : Nat, d = 1074 ∧ sv 13970166044103278592 = -2147483648 * (2 ^ d : Nat) := by
  obtain ⟨d, hd, h⟩ := min_word
  refine ⟨d, hd, ?_⟩
  unfold sv
  rw [show neg 13970166044103278592 = true from by decide, h]
  simp [Int.neg_mul]
/-- What Fix makes of a number. -/
def fixW (x : Nat) : Nat := fmax (fmin (rwd (ld16 x)) 4746794007244308480) 13970166044103278592
theorem whole_sv (x : Nat) (k d : Nat) (h : val (rung x) = k * 2 ^ d) : sv x = (if neg x then -(k : Int) else k) * (2 ^ d : Nat) := by
  unfold sv
  rw [h]
  cases neg x <;> simp [Int.neg_mul]
theorem big_le' (E q : Nat) (h1 : 1 ≤ E) (h2 : q ≤ E - 1) : (2147483648 : Nat) * 2 ^ q ≤ val (E * 2 ^ 52) := by
  have h3 := val_big (E := E) (f := 0) h1 (by omega)
  rw [Nat.add_zero, Nat.add_zero] at h3
  rw [h3]
  exact Nat.mul_le_mul (by decide) (Nat.pow_le_pow_right (by decide) h2)
theorem clamp_low (s : Int) (h : s ≤ -2147483648) : clampI s = -2147483648 := by unfold clampI; (repeat' split) <;> omega
theorem clamp_high (s : Int) (h : 2147483647 ≤ s) : clampI s = 2147483647 := by unfold clampI; (repeat' split) <;> omega
theorem clamp_mid (s : Int) (h : -2147483648 ≤ s) (h2 : s ≤ 2147483647) : clampI s = s := by unfold clampI; (repeat' split) <;> omega
theorem k62 (b : Bool) (k : Nat) (s : Int) (hs : (if b then -(k : Int) else (k : Int)) = s) (h : -2147483648 ≤ s) (h2 : s ≤ 2147483647) : k < 2 ^ 62 := by
  cases b <;> simp at hs <;> omega
theorem fix_int (x : Nat) (hx : x < 2 ^ 64) (hi : isNum x) : floatToIntVal .f64 (fixW x) .i64 = some (fixV x) ∧ isNum (rwd (ld16 x)) := by
  obtain ⟨hn, hr, hlt⟩ := ld16_parts x hx hi
  obtain ⟨d, hd, hmax⟩ := sv_max
  obtain ⟨d', hd', hmin⟩ := sv_min2
  obtain rfl : d = d' := by omega
  have hpos : (0 : Int) < ((2 ^ d : Nat) : Int) := by have := Nat.two_pow_pos d; omega
  have imax : floatToIntVal .f64 4746794007244308480 .i64 = some 2147483647 := by
    obtain ⟨e, he, hv⟩ := max_word
    have := to_int 4746794007244308480 (by decide) 2147483647 e he (by rw [show rung 4746794007244308480 = 4746794007244308480 from by decide]; exact hv) (by decide)
    rw [this, show neg 4746794007244308480 = false from by decide]; rfl
  have imin : floatToIntVal .f64 13970166044103278592 .i64 = some (-2147483648) := by
    obtain ⟨e, he, hv⟩ := min_word
    have := to_int 13970166044103278592 (by decide) 2147483648 e he hv (by decide)
    rw [this, show neg 13970166044103278592 = true from by decide]; rfl
  have lmm : sv 13970166044103278592 < sv 4746794007244308480 := by rw [hmax, hmin]; omega
  generalize hS : (2 ^ d : Nat) = S at *
  by_cases hf : r16 (rung x) < 2047 * 2 ^ 52
  · -- finite
    have hfin : isFin (ld16 x) := by unfold isFin; rw [hr]; exact hf
    have hlow : rung x < 2031 * 2 ^ 52 := by
      rcases Nat.lt_or_ge (rung x) (2031 * 2 ^ 52) with h | h
      · exact h
      · rw [r16_inf h] at hf; omega
    obtain ⟨n1, f1, v1⟩ := rwd_fin (ld16 x) hfin d hd
    have hk : rne (val (rung (ld16 x))) d = fixK x := by
      rw [hr, (r16_val hlow).1]
      unfold fixK
      have := rne_mul (val (rung x)) 1058 16
      rw [show 1058 + 16 = d from by omega] at this
      exact this
    rw [hk] at v1
    have hsv := whole_sv _ _ _ v1
    rw [n1, hn, hS] at hsv
    refine ⟨?_, Nat.le_of_lt f1⟩
    unfold fixW fixV
    generalize hs : (if neg x then -(fixK x : Int) else (fixK x : Int)) = s at *
    rcases fmin_or (rwd (ld16 x)) 4746794007244308480 with ⟨a, b⟩ | ⟨a, b⟩
    · rw [a]
      rw [hmax, hsv] at b
      have b' : s ≤ 2147483647 := Int.le_of_mul_le_mul_right b hpos
      rcases fmax_or (rwd (ld16 x)) 13970166044103278592 with ⟨c, e⟩ | ⟨c, e⟩
      · rw [c]
        rw [hmin, hsv] at e
        have e' : -2147483648 ≤ s := Int.le_of_mul_le_mul_right e hpos
        rw [clamp_mid s e' b']
        have hk62 : fixK x < 2 ^ 62 := k62 (neg x) (fixK x) s hs e' b'
        rw [to_int (rwd (ld16 x)) f1 (fixK x) d hd v1 hk62, n1, hn, hs]
      · rw [c]
        rw [hmin, hsv] at e
        have e' : s ≤ -2147483648 := Int.le_of_mul_le_mul_right e hpos
        rw [imin]
        exact congrArg some (clamp_low s e').symm
    · rw [a]
      rw [hmax, hsv] at b
      have b' : 2147483647 ≤ s := Int.le_of_mul_le_mul_right b hpos
      rcases fmax_or 4746794007244308480 13970166044103278592 with ⟨c, e⟩ | ⟨c, e⟩
      · rw [c, imax]
        exact congrArg some (clamp_high s b').symm
      · exact absurd lmm (Int.not_lt.2 e)
  · -- infinite
    have hge : 2031 * 2 ^ 52 ≤ rung x := by
      rcases Nat.lt_or_ge (rung x) (2031 * 2 ^ 52) with h | h
      · exact absurd (r16_val h).2 hf
      · exact h
    have hinf : rung (ld16 x) = 2047 * 2 ^ 52 := by rw [hr, r16_inf hge]
    have hrw := rwd_inf _ hlt hinf
    rw [hrw]
    have hnum : isNum (ld16 x) := by unfold isNum; rw [hinf]; omega
    refine ⟨?_, hnum⟩
    -- its magnitude is great
    have hbig : 2147483648 ≤ fixK x := by
      unfold fixK
      obtain ⟨q, hq⟩ : ∃ q : Nat, q = 1058 := ⟨_, rfl⟩
      rw [← hq]
      have h5 := rne_mono q (Nat.le_trans (big_le' 2031 q (by omega) (by omega)) (val_mono hge))
      rw [rne_exact] at h5
      exact h5
    have hvinf := val_lt (show krung 2147483648 < 2047 * 2 ^ 52 by decide)
    have hv48 := (krung_val' (k := 2147483648) (by decide) d hd).1
    rw [hS] at hv48
    rw [hv48] at hvinf
    have hbigI : ((2147483648 * S : Nat) : Int) < (val (2047 * 2 ^ 52) : Int) := by exact_mod_cast hvinf
    clear hvinf hv48 hd hS
    unfold fixW fixV
    rw [hrw]
    rcases sv_cases (ld16 x) with ⟨q1, q2⟩ | ⟨q1, q2⟩
    · rw [hn] at q1
      rw [hinf] at q2
      rw [q1]
      simp only [if_true]
      rw [clamp_low _ (by omega)]
      have l1 : sv (ld16 x) < sv 13970166044103278592 := by
        rw [q2, hmin, Int.neg_mul]
        rw [Int.natCast_mul] at hbigI
        exact Int.neg_lt_neg hbigI
      rcases fmin_or (ld16 x) 4746794007244308480 with ⟨a, b⟩ | ⟨a, b⟩
      · rw [a]
        rcases fmax_or (ld16 x) 13970166044103278592 with ⟨c, e⟩ | ⟨c, e⟩
        · exact absurd l1 (Int.not_lt.2 e)
        · rw [c, imin]
      · exact absurd (Int.lt_trans l1 lmm) (Int.not_lt.2 b)
    · rw [hn] at q1
      rw [hinf] at q2
      rw [q1]
      simp only [Bool.false_eq_true, if_false]
      rw [clamp_high _ (by omega)]
      have l1 : sv 4746794007244308480 < sv (ld16 x) := by
        rw [q2, hmax]
        rw [Int.natCast_mul] at hbigI
        refine Int.lt_of_le_of_lt (Int.mul_le_mul_of_nonneg_right (by decide) (Int.le_of_lt hpos)) hbigI
      rcases fmin_or (ld16 x) 4746794007244308480 with ⟨a, b⟩ | ⟨a, b⟩
      · exact absurd l1 (Int.not_lt.2 b)
      · rw [a]
        rcases fmax_or 4746794007244308480 13970166044103278592 with ⟨c, e⟩ | ⟨c, e⟩
        · rw [c, imax]
        · exact absurd lmm (Int.not_lt.2 e)
end Go.Proofs.Ytkmpjdffhbokdaa.Fl
