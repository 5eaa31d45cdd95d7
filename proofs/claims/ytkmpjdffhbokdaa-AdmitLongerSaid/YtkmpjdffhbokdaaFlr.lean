/- Float words: times 2^16, rounding to a whole number, the nearest within 32 bits, and back. Plain lemmas. -/
import Derived.Test.YtkmpjdffhbokdaaFlc
namespace Go.Proofs.Ytkmpjdffhbokdaa.Fl
open Ieee Go.RowKit
set_option linter.unusedVariables false

/-! ### rounding half to even -/
def rne (n d : Nat) : Nat := n / 2 ^ d + (if 2 ^ d < 2 * (n % 2 ^ d) ∨ (2 ^ d = 2 * (n % 2 ^ d) ∧ n / 2 ^ d % 2 = 1) then 1 else 0)
theorem cut_even (s : Bool) (n d : Nat) : Toward.even.cut s n d = rne n d := by
  have core : ∀ g : Nat, n / g + (decide (g < 2 * (n % g)) || (g == 2 * (n % g) && n / g % 2 == 1)).toNat = n / g + (if g < 2 * (n % g) ∨ (g = 2 * (n % g) ∧ n / g % 2 = 1) then 1 else 0) := by
    intro g
    congr 1
    by_cases h : g < 2 * (n % g)
    · simp [h]
    · by_cases h2 : g = 2 * (n % g) ∧ n / g % 2 = 1
      · have e1 : (g == 2 * (n % g)) = true := by rw [beq_iff_eq]; exact h2.1
        have e2 : (n / g % 2 == 1) = true := by rw [beq_iff_eq]; exact h2.2
        rw [if_pos (.inr h2), e1, e2]; simp
      · rw [if_neg (by omega)]
        have e3 : (g == 2 * (n % g) && n / g % 2 == 1) = false := by
          rw [Bool.and_eq_false_iff]
          by_cases e : g = 2 * (n % g)
          · right; rw [beq_eq_false_iff_ne]; exact fun h3 => h2 ⟨e, h3⟩
          · left; rw [beq_eq_false_iff_ne]; exact e
        rw [e3, decide_eq_false h]; rfl
  unfold Toward.cut
  simp only [Nat.shiftLeft_eq, Nat.one_mul]
  rw [core]
  unfold rne
  rcases Nat.le_total d (n.log2 + 2) with h | h
  · rw [Nat.min_eq_left h]
  · rw [Nat.min_eq_right h]
    have h1 : n < 2 ^ (n.log2 + 1) := Nat.lt_log2_self
    have h2 : 2 ^ (n.log2 + 2) = 2 * 2 ^ (n.log2 + 1) := by rw [Nat.pow_succ _ (n.log2 + 1), Nat.mul_comm]
    have h3 : 2 ^ (n.log2 + 2) ≤ 2 ^ d := Nat.pow_le_pow_right (by decide) h
    generalize 2 ^ (n.log2 + 2) = g at *
    generalize 2 ^ (n.log2 + 1) = g1 at *
    generalize 2 ^ d = g2 at *
    rw [Nat.div_eq_of_lt (show n < g by omega), Nat.mod_eq_of_lt (show n < g by omega), Nat.div_eq_of_lt (show n < g2 by omega), Nat.mod_eq_of_lt (show n < g2 by omega), if_neg (by omega), if_neg (by omega)]
theorem rne_mul (n d a : Nat) : rne (n * 2 ^ a) (d + a) = rne n d := by
  unfold rne
  have hp := Nat.two_pow_pos a
  rw [Nat.pow_add, Nat.mul_div_mul_right _ _ hp, Nat.mul_mod_mul_right]
  generalize 2 ^ a = p at *
  generalize 2 ^ d = g at *
  have e : 2 * (n % g * p) = (2 * (n % g)) * p := by rw [Nat.mul_assoc]
  rw [e]
  have e1 : g * p < 2 * (n % g) * p ↔ g < 2 * (n % g) := Nat.mul_lt_mul_right hp
  have e2 : g * p = 2 * (n % g) * p ↔ g = 2 * (n % g) := ⟨fun h => Nat.eq_of_mul_eq_mul_right hp h, fun h => by rw [← h]⟩
  simp only [e1, e2]
theorem rne_exact (k d : Nat) : rne (k * 2 ^ d) d = k := by
  have := rne_mul k 0 d
  rw [Nat.zero_add] at this
  rw [this]
  unfold rne
  simp [Nat.mod_one]
theorem rne_mono {n m : Nat} (d : Nat) (h : n ≤ m) : rne n d ≤ rne m d := by
  unfold rne
  have hp := Nat.two_pow_pos d
  have h1 := Nat.div_add_mod n (2 ^ d)
  have h2 := Nat.div_add_mod m (2 ^ d)
  have h3 := Nat.mod_lt n hp
  have h4 := Nat.mod_lt m hp
  have h5 := Nat.div_le_div_right (c := 2 ^ d) h
  generalize 2 ^ d = g at *
  generalize n / g = a at *
  generalize m / g = b at *
  generalize n % g = c at *
  generalize m % g = e at *
  rcases Nat.lt_or_eq_of_le h5 with h6 | h6
  · split <;> split <;> omega
  · subst h6
    split <;> split <;> omega
theorem rne_half (n d : Nat) : 2 * n ≤ 2 * (rne n d * 2 ^ d) + 2 ^ d ∧ 2 * (rne n d * 2 ^ d) ≤ 2 * n + 2 ^ d := by
  unfold rne
  have hp := Nat.two_pow_pos d
  have h1 := Nat.div_add_mod n (2 ^ d)
  have h3 := Nat.mod_lt n hp
  rw [Nat.add_mul, Nat.mul_comm (n / 2 ^ d)]
  generalize 2 ^ d = g at *
  generalize g * (n / g) = a at *
  generalize n % g = c at *
  split <;> omega

/-! ### a finite word made whole -/
theorem whole_mag (x : Nat) (hx : isFin x) (d : Nat) (hd : d = 1074) : Toward.even.cut (neg x) (mag (rung x) <<< (-1074 + (ex (rung x) : Int)).toNat) (-(-1074 + (ex (rung x) : Int))).toNat = rne (val (rung x)) d := by
  rw [cut_even, Nat.shiftLeft_eq]
  unfold val
  generalize ex (rung x) = a
  generalize mag (rung x) = m
  rcases Nat.le_total d a with h | h
  · have e1 : (-1074 + (a : Int)).toNat = a - d := by omega
    have e2 : (-(-1074 + (a : Int))).toNat = 0 := by omega
    rw [e1, e2]
    have := rne_mul (m * 2 ^ (a - d)) 0 d
    rw [Nat.zero_add, Nat.mul_assoc, ← Nat.pow_add, show a - d + d = a from by omega] at this
    exact this.symm
  · have e1 : (-1074 + (a : Int)).toNat = 0 := by omega
    have e2 : (-(-1074 + (a : Int))).toNat = d - a := by omega
    rw [e1, e2, Nat.pow_zero, Nat.mul_one]
    have := rne_mul m (d - a) a
    rw [show d - a + a = d from by omega] at this
    exact this.symm
/-- The word of a whole number of units that is what x was rounded to. -/
theorem whole_word (x : Nat) (hx : isFin x) (d : Nat) (hd : d = 1074) : ∃ r, r < 2047 * 2 ^ 52 ∧ val r = rne (val (rung x)) d * 2 ^ d ∧ FloatKind.f64.encode (Datum.integral .even (FloatKind.f64.decode x)) = double.word (neg x) r := by
  have e : FloatKind.f64.decode x = double.read x := rfl
  rw [e, read_fin hx]
  simp only [Datum.integral]
  rw [whole_mag x hx d hd]
  show ∃ r, _ ∧ _ ∧ double.nearest (neg x) (rne (val (rung x)) d) 0 = _
  have key : ∀ r, r < 2047 * 2 ^ 52 → val r = rne (val (rung x)) d * 2 ^ d → double.nearest (neg x) (rne (val (rung x)) d) 0 = double.word (neg x) r := by
    intro r hr hv
    have := nearest_val (neg x) (rne (val (rung x)) d) d 0 r hr (by rw [hv, Nat.pow_zero, Nat.mul_one])
    rw [← this]
    congr 1
    omega
  by_cases hs : rne (val (rung x)) d < 2 ^ 53
  · obtain ⟨h1, h2⟩ := krung_val' hs d hd
    exact ⟨krung (rne (val (rung x)) d), by omega, h1, key _ (by omega) h1⟩
  · -- the word is whole already
    have hm : mag (rung x) < 2 ^ 53 := by unfold mag; split <;> omega
    have hex : d ≤ ex (rung x) := by
      rcases Nat.lt_or_ge (ex (rung x)) d with h | h
      · exfalso
        have e1 : val (rung x) = mag (rung x) * 2 ^ ex (rung x) := rfl
        have e2 : rne (val (rung x)) d = rne (mag (rung x)) (d - ex (rung x)) := by
          rw [e1]
          have := rne_mul (mag (rung x)) (d - ex (rung x)) (ex (rung x))
          rw [show d - ex (rung x) + ex (rung x) = d from by omega] at this
          exact this
        have e3 := rne_half (mag (rung x)) (d - ex (rung x))
        have e4 : 2 ^ (d - ex (rung x)) = 2 * 2 ^ (d - ex (rung x) - 1) := by rw [← Nat.pow_succ']; congr 1; omega
        have e5 := Nat.two_pow_pos (d - ex (rung x) - 1)
        rw [e2] at hs
        generalize rne (mag (rung x)) (d - ex (rung x)) = k at *
        rw [e4] at e3
        generalize 2 ^ (d - ex (rung x) - 1) = p at *
        have e6 : 2 ^ 53 * (2 * p) ≤ k * (2 * p) := Nat.mul_le_mul_right _ (by omega)
        have e7 : mag (rung x) + 1 ≤ 2 ^ 53 := hm
        have e8 : (2 ^ 53 : Nat) ≤ 2 ^ 53 * p := Nat.le_mul_of_pos_right _ e5
        have e9 : 2 ^ 53 * (2 * p) = 2 * (2 ^ 53 * p) := by rw [Nat.mul_left_comm]
        have e10 : p ≤ 2 ^ 53 * p := Nat.le_mul_of_pos_left _ (by decide)
        omega
      · exact h
    have hwhole : val (rung x) = (mag (rung x) * 2 ^ (ex (rung x) - d)) * 2 ^ d := by
      unfold val
      rw [Nat.mul_assoc, ← Nat.pow_add, show ex (rung x) - d + d = ex (rung x) from by omega]
    have e : rne (val (rung x)) d * 2 ^ d = val (rung x) := by
      rw [hwhole, rne_exact]
    exact ⟨rung x, hx, e.symm, key _ hx e.symm⟩
end Go.Proofs.Ytkmpjdffhbokdaa.Fl
