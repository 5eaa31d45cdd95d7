/- KnobRises: ground: the order, and the difference of a number and what it was rounded to. -/
import Derived.Test.YtaphplelkfokiaaBack
namespace Go.Proofs.Ytaphplelkfokiaa.rise
open Go.ChangeShapes Go.WideShapes Go.ChangeAt Go.RowKit K Fl ord ldx back
open Ieee
set_option linter.unusedVariables false
set_option linter.unusedSimpArgs false
theorem fixK_eq (x q : Nat) (hq : q = 1058) : fixK x = rne (val (rung x)) q := by rw [hq, fixK]
theorem fixK_mono {x y : Nat} (h : rung x ≤ rung y) : fixK x ≤ fixK y := rne_mono _ (val_mono h)
theorem clamp_mono {a b : Int} (h : a ≤ b) : clampI a ≤ clampI b := by unfold clampI; (repeat' split) <;> omega
theorem sv_rung_le {x y : Nat} (h : val (rung x) ≤ val (rung y)) : rung x ≤ rung y := by
  rcases Nat.lt_or_ge (rung y) (rung x) with h1 | h1
  · have := val_lt h1; omega
  · exact h1
theorem fix_mono {x y : Nat} (h : sv x ≤ sv y) : fixV x ≤ fixV y := by
  unfold fixV
  apply clamp_mono
  rcases sv_cases x with ⟨a, b⟩ | ⟨a, b⟩ <;> rcases sv_cases y with ⟨c, d⟩ | ⟨c, d⟩ <;> rw [b, d] at h <;> rw [a, c] <;> simp only [Bool.false_eq_true, if_false, if_true]
  · have := fixK_mono (sv_rung_le (x := y) (y := x) (by omega)); omega
  · omega
  · have h1 : val (rung x) ≤ 0 := by omega
    have h2 : rung x = 0 := val_eq_zero.1 (by omega)
    have h3 : rung y = 0 := val_eq_zero.1 (by omega)
    have e : fixK x = 0 := by unfold fixK; rw [h2]; decide +kernel
    have e2 : fixK y = 0 := by unfold fixK; rw [h3]; decide +kernel
    omega
  · have := fixK_mono (sv_rung_le (x := x) (y := y) (by omega)); omega

/-! ### a small number is written small -/
theorem rne_le (n d : Nat) (h : n ≤ 2 ^ 53 * 2 ^ d) : rne n d ≤ 2 ^ 53 := by
  have := rne_mono d h
  rw [rne_exact] at this
  exact this
theorem nearest_small (s : Bool) (m a d : Nat) (hd : d = 1073) (h : m * 2 ^ a ≤ 2 ^ d) : ∃ r, r ≤ 1022 * 2 ^ 52 ∧ double.nearest s m ((a : Int) - 1074) = double.word s r := by
  rcases Nat.eq_zero_or_pos m with h0 | h0
  · subst h0
    exact ⟨0, by omega, by unfold Format.nearest; rw [if_pos rfl]⟩
  · rcases Nat.lt_or_eq_of_le h with h1 | h1
    · have hl : (m * 2 ^ a).log2 < d := (Nat.log2_lt (by have := Nat.mul_pos h0 (Nat.two_pow_pos a); omega)).2 h1
      rw [log2_mul_pow m a h0] at hl
      have hm : m < 2 ^ (m.log2 + 1) := Nat.lt_log2_self
      unfold Format.nearest
      rw [if_neg (by omega)]
      simp only [d_binade, d_inf, d_least, d_frac]
      obtain ⟨e, he, he2⟩ : ∃ e : Nat, max ((a : Int) - 1074 + m.log2 - (52 : Nat)) (-1074) = (e : Int) - 1074 ∧ (e = a + m.log2 - 52) := ⟨a + m.log2 - 52, by omega, rfl⟩
      rw [he, cut_even, Nat.shiftLeft_eq]
      have e1 : ((a : Int) - 1074 - ((e : Int) - 1074)).toNat = a - e := by omega
      have e2 : ((e : Int) - 1074 - ((a : Int) - 1074)).toNat = e - a := by omega
      have e3 : ((e : Int) - 1074 - -1074).toNat = e := by omega
      rw [e1, e2, e3]
      have hk : rne (m * 2 ^ (a - e)) (e - a) ≤ 2 ^ 53 := by
        apply rne_le
        rw [← Nat.pow_add]
        refine Nat.le_of_lt (Nat.lt_of_lt_of_le (Nat.mul_lt_mul_of_pos_right hm (Nat.two_pow_pos _)) ?_)
        rw [← Nat.pow_add]
        exact Nat.pow_le_pow_right (by decide) (by omega)
      refine ⟨e * 2 ^ 52 + rne (m * 2 ^ (a - e)) (e - a), by omega, ?_⟩
      rw [Nat.min_eq_left (by omega)]
    · refine ⟨1022 * 2 ^ 52, Nat.le_refl _, ?_⟩
      have hv : ∀ E : Nat, E = 1022 → val (E * 2 ^ 52) = 2 ^ d := by
        intro E hE
        have := val_big (E := E) (f := 0) (by omega) (by omega)
        rw [Nat.add_zero, Nat.add_zero, ← Nat.pow_add] at this
        rw [this, show 52 + (E - 1) = d from by omega]
      have := nearest_val s m a 0 (1022 * 2 ^ 52) (by omega) (by rw [hv 1022 rfl, Nat.pow_zero, Nat.mul_one]; exact h1)
      rw [show ((a : Int) - 1074) = (a : Int) - ((0 : Nat) : Int) - 1074 from by omega]
      exact this

/-! ### the difference -/
theorem signed_units (s : Bool) (m i b c : Nat) (h : b ≤ i) : signed s m (i - b) * ((2 ^ b : Nat) : Int) = (if s then -((m * 2 ^ i : Nat) : Int) else ((m * 2 ^ i : Nat) : Int)) := by
  rw [signed_eq, Int.mul_assoc, ← Int.natCast_mul, ← Nat.pow_add, show i - b + b = i from by omega]
  cases s <;> simp [Int.neg_mul]
theorem sub_small (x y d : Nat) (hx : isFin x) (hy : isFin y) (hd : d = 1073) (h1 : sv x - sv y ≤ ((2 ^ d : Nat) : Int)) (h2 : -((2 ^ d : Nat) : Int) ≤ sv x - sv y) :
    ∃ z, floatBits .sub .f64 x y = some z ∧ z < 2 ^ 64 ∧ rung z ≤ 1022 * 2 ^ 52 := by
  show ∃ z, double.sub x y = some z ∧ _
  unfold Format.sub
  rw [read_fin hx, read_fin hy]
  simp only [Datum.opposite, Datum.sum, Option.map_some, Format.write]
  have sx : sv x = (if neg x then -((mag (rung x) * 2 ^ ex (rung x) : Nat) : Int) else ((mag (rung x) * 2 ^ ex (rung x) : Nat) : Int)) := rfl
  have sy : sv y = (if neg y then -((mag (rung y) * 2 ^ ex (rung y) : Nat) : Int) else ((mag (rung y) * 2 ^ ex (rung y) : Nat) : Int)) := rfl
  generalize ex (rung x) = i at *
  generalize ex (rung y) = j at *
  generalize mag (rung x) = m at *
  generalize mag (rung y) = n at *
  have e0 : min (-1074 + (i : Int)) (-1074 + (j : Int)) = ((min i j : Nat) : Int) - 1074 := by omega
  rw [e0]
  have e1 : (-1074 + (i : Int) - (((min i j : Nat) : Int) - 1074)).toNat = i - min i j := by omega
  have e2 : (-1074 + (j : Int) - (((min i j : Nat) : Int) - 1074)).toNat = j - min i j := by omega
  rw [e1, e2]
  have u1 := signed_units (neg x) m i (min i j) 0 (by omega)
  have u2 := signed_units (!neg y) n j (min i j) 0 (by omega)
  generalize hT : signed (neg x) m (i - min i j) + signed (!neg y) n (j - min i j) = T at *
  have hTu : T * ((2 ^ min i j : Nat) : Int) = sv x - sv y := by
    rw [← hT, Int.add_mul, u1, u2, sx, sy]
    cases neg y <;> simp <;> omega
  have hn : T.natAbs * 2 ^ min i j ≤ 2 ^ d := by
    have : ((T.natAbs * 2 ^ min i j : Nat) : Int) = (T * ((2 ^ min i j : Nat) : Int)).natAbs := by
      rw [Int.natAbs_mul, Int.natAbs_natCast]
    rw [hTu] at this
    omega
  obtain ⟨r, hr, he⟩ := nearest_small (if T = 0 then neg x && !neg y else decide (T < 0)) T.natAbs (min i j) d hd hn
  rw [he]
  have hp := word_parts (if T = 0 then neg x && !neg y else decide (T < 0)) (show r < 2 ^ 63 by omega)
  exact ⟨_, rfl, word_lt _ (by omega), by rw [hp.2]; exact hr⟩
theorem half_le (z : Nat) (h : rung z ≤ 1022 * 2 ^ 52) : (double.order z 4602678819172646912 == some .lt || double.order z 4602678819172646912 == some .eq) = true ∧ (double.order z 13826050856027422720 == some .gt || double.order z 13826050856027422720 == some .eq) = true := by
  have hz : isNum z := by unfold isNum; omega
  rw [order_num hz (by decide), order_num hz (by decide)]
  have s1 : sv 4602678819172646912 = (val (1022 * 2 ^ 52) : Int) := by
    unfold sv
    rw [show neg 4602678819172646912 = false from by decide, show rung 4602678819172646912 = 1022 * 2 ^ 52 from by decide]; rfl
  have s2 : sv 13826050856027422720 = -(val (1022 * 2 ^ 52) : Int) := by
    unfold sv
    rw [show neg 13826050856027422720 = true from by decide, show rung 13826050856027422720 = 1022 * 2 ^ 52 from by decide]; rfl
  rw [s1, s2]
  have hv := val_mono h
  generalize val (1022 * 2 ^ 52) = H at *
  have b1 : sv z ≤ (H : Int) := by rcases sv_cases z with ⟨a, b⟩ | ⟨a, b⟩ <;> rw [b] <;> omega
  have b2 : -(H : Int) ≤ sv z := by rcases sv_cases z with ⟨a, b⟩ | ⟨a, b⟩ <;> rw [b] <;> omega
  constructor
  · rcases Int.lt_or_eq_of_le b1 with h2 | h2
    · rw [cmp_lt h2]; rfl
    · rw [cmp_eq h2]; rfl
  · rcases Int.lt_or_eq_of_le b2 with h2 | h2
    · rw [cmp_gt h2]; rfl
    · rw [cmp_eq h2.symm]; rfl
/-- Below 32767 in magnitude: what the law's last lines compute. -/
theorem diff_small (x : Nat) (hx : x < 2 ^ 64) (hs : val (rung x) * 2 ^ 0 < val (krung 32767)) :
    ∃ y z, floatBits .mul .f64 x 4679240012837945344 = some y ∧ floatBits .sub .f64 y (floatOfInt .f64 (fixV x)) = some z ∧ rung z ≤ 1022 * 2 ^ 52 ∧ isFin y := by
  obtain ⟨d, hd⟩ : ∃ d : Nat, d = 1074 := ⟨_, rfl⟩
  obtain ⟨q, hq⟩ : ∃ q : Nat, q = 1058 := ⟨_, rfl⟩
  rw [Nat.pow_zero, Nat.mul_one] at hs
  have e16 : 2 ^ d = 2 ^ q * 2 ^ 16 := by rw [show d = q + 16 from by omega, Nat.pow_add]
  have hk := krung_val' (k := 32767) (by decide) d hd
  have hr : rung x < krung 32767 := by
    rcases Nat.lt_or_ge (rung x) (krung 32767) with h | h
    · exact h
    · have := val_mono h; omega
  have hlow : rung x < 2031 * 2 ^ 52 := by omega
  have hfx : isFin x := by unfold isFin; omega
  obtain ⟨v1, v2⟩ := r16_val hlow
  obtain ⟨j, hj⟩ : ∃ j : Nat, j = 1038 := ⟨_, rfl⟩
  have hm := (mul_pow_left d 4679240012837945344 x j (r16 (rung x)) hd (by decide) (by unfold rung; omega) (by omega) hfx v2 (by rw [v1, Nat.mul_assoc, ← Nat.pow_add, show 52 + j = 16 + d from by omega])).2
  have hyp := word_parts (neg x) (show r16 (rung x) < 2 ^ 63 by omega)
  -- the fixed number
  have hK : fixK x = rne (val (rung x)) q := fixK_eq x q hq
  have hq15 : q + 15 = 1073 := by omega
  have hkkf : ∀ k, k < 2 ^ 53 → val (krung k) = k * 2 ^ d ∧ krung k < 1076 * 2 ^ 52 := fun k hk => krung_val' hk d hd
  clear hq hd hj
  have HQ := Lib.hid hq15
  clear hq15
  have hhalf := rne_half (val (rung x)) q
  rw [← hK] at hhalf
  rw [hk.1] at hs
  have hp := Nat.two_pow_pos q
  have hKl : fixK x < 2147483648 := by
    rw [e16] at hs
    generalize 2 ^ q = Q at *
    rcases Nat.lt_or_ge (fixK x) 2147483648 with h | h
    · exact h
    · have := Nat.mul_le_mul_right Q h; omega
  have hfix : fixV x = if neg x then -(fixK x : Int) else (fixK x : Int) := by
    unfold fixV
    rw [clamp_mid]
    · cases neg x <;> simp <;> omega
    · cases neg x <;> simp <;> omega
  have hrange := Fl.clamp_mid
  have hfi := float_int (fixV x) (by rw [hfix]; cases neg x <;> simp <;> omega)
  have habs : (fixV x).natAbs = fixK x := by rw [hfix]; cases neg x <;> simp
  rw [habs] at hfi
  have hkk := hkkf (fixK x) (by omega)
  have hfp := word_parts (decide (fixV x < 0)) (show krung (fixK x) < 2 ^ 63 by omega)
  have svy : sv (double.word (neg x) (r16 (rung x))) = if neg x then -((val (rung x) * 2 ^ 16 : Nat) : Int) else ((val (rung x) * 2 ^ 16 : Nat) : Int) := by
    unfold sv
    rw [hyp.1, hyp.2, v1]
  have svf : sv (floatOfInt .f64 (fixV x)) = if neg x then -((fixK x * 2 ^ d : Nat) : Int) else ((fixK x * 2 ^ d : Nat) : Int) := by
    rw [hfi]
    unfold sv
    rw [hfp.1, hfp.2, hkk.1, hfix]
    generalize 2 ^ d = D at *
    generalize fixK x = k at *
    cases neg x
    · have : ¬ ((k : Int) < 0) := by omega
      simp [this]
    · rcases Nat.eq_zero_or_pos k with h | h
      · subst h; simp
      · have : (-(k : Int) < 0) := by omega
        simp [this]
        omega
  obtain ⟨z, hz1, hz2, hz3⟩ := sub_small (double.word (neg x) (r16 (rung x))) (floatOfInt .f64 (fixV x)) (q + 15) (by unfold isFin; rw [hyp.2]; exact v2) (by rw [hfi]; unfold isFin; rw [hfp.2]; omega) HQ.out
    (by
      rw [svy, svf, e16, show 2 ^ (q + 15) = 2 ^ q * 2 ^ 15 from Nat.pow_add ..]
      generalize 2 ^ q = Q at *
      generalize val (rung x) = V at *
      generalize fixK x = k at *
      have e : k * (Q * 2 ^ 16) = k * Q * 2 ^ 16 := by rw [Nat.mul_assoc]
      rw [e]
      generalize k * Q = R at *
      cases neg x <;> simp only [Bool.false_eq_true, if_false, if_true] <;> omega)
    (by
      rw [svy, svf, e16, show 2 ^ (q + 15) = 2 ^ q * 2 ^ 15 from Nat.pow_add ..]
      generalize 2 ^ q = Q at *
      generalize val (rung x) = V at *
      generalize fixK x = k at *
      have e : k * (Q * 2 ^ 16) = k * Q * 2 ^ 16 := by rw [Nat.mul_assoc]
      rw [e]
      generalize k * Q = R at *
      cases neg x <;> simp only [Bool.false_eq_true, if_false, if_true] <;> omega)
  exact ⟨_, z, hm, hz1, hz3, by unfold isFin; rw [hyp.2]; exact v2⟩
theorem self_conv (u : Nat) (h : isFin u) : floatToFloatBits .f64 u .f64 = some u := by
  unfold floatToFloatBits
  rw [if_pos rfl]
theorem sv_32767 : sv 4674736138332667904 = (val (krung 32767) : Int) ∧ sv 13898108175187443712 = -(val (krung 32767) : Int) := by
  have e : krung 32767 = 4674736138332667904 := by decide
  unfold sv
  rw [show neg 4674736138332667904 = false from by decide, show rung 4674736138332667904 = 4674736138332667904 from by decide, show neg 13898108175187443712 = true from by decide, show rung 13898108175187443712 = 4674736138332667904 from by decide, e]
  exact ⟨rfl, rfl⟩
theorem cmp_is {a b : Int} : (compare a b = .lt → a < b) ∧ (compare a b = .gt → b < a) ∧ (compare a b ≠ .gt → a ≤ b) := by
  rcases Int.lt_trichotomy a b with h | h | h
  · rw [cmp_lt h]; exact ⟨fun _ => h, (fun h => by cases h), (fun _ => by omega)⟩
  · rw [cmp_eq h]; exact ⟨(fun h => by cases h), (fun h => by cases h), (fun _ => by omega)⟩
  · rw [cmp_gt h]; exact ⟨(fun h => by cases h), (fun _ => h), (fun h2 => absurd rfl h2)⟩
theorem diff_at (x : Nat) (hx : x < 2 ^ 64) (h1 : sv x < sv 4674736138332667904) (h2 : sv 13898108175187443712 < sv x) :
    ∃ y z, floatBits .mul .f64 x 4679240012837945344 = some y ∧ floatBits .sub .f64 y (floatOfInt .f64 (fixV x)) = some z ∧ rung z ≤ 1022 * 2 ^ 52 ∧ isFin y := by
  rw [sv_32767.1] at h1
  rw [sv_32767.2] at h2
  refine diff_small x hx ?_
  rw [Nat.pow_zero, Nat.mul_one]
  rcases sv_cases x with ⟨a, b⟩ | ⟨a, b⟩ <;> rw [b] at h1 h2 <;> omega
end Go.Proofs.Ytaphplelkfokiaa.rise
