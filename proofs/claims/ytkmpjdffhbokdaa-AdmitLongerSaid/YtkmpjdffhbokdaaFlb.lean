/- Float words under Go's bit operations: sign bit, key. Plain lemmas. -/
import Derived.Test.YtkmpjdffhbokdaaFl
import Derived.Test.YtkmpjdffhbokdaaK
import Derived.Laws.FloatArith
import Derived.Laws.BitsAllLaws
import Derived.Laws.Bits64
namespace Go.Proofs.Ytkmpjdffhbokdaa.Fl
open Ieee Go.RowKit
set_option linter.unusedVariables false
theorem and_sign (x : Nat) (h : x < 2 ^ 64) : bits .and .u64 (x : Int) 9223372036854775808 = if neg x then 9223372036854775808 else 0 := by
  have e := u64_and_nat x 9223372036854775808 (by omega) (by omega)
  have e2 : x &&& 9223372036854775808 = x / 2 ^ 63 % 2 * 2 ^ 63 := nat_bit 63 x
  show bits .and .u64 (x : Int) ((9223372036854775808 : Nat) : Int) = _
  rw [e, e2]
  unfold neg
  have : x / 2 ^ 63 % 2 = 0 ∨ x / 2 ^ 63 % 2 = 1 := by omega
  rcases this with h1 | h1 <;> rw [h1] <;> rfl
theorem neg_iff (x : Nat) (h : x < 2 ^ 64) : neg x = true ↔ 2 ^ 63 ≤ x := by
  unfold neg
  simp only [beq_iff_eq]
  omega
theorem rung_of_neg (x : Nat) (h : x < 2 ^ 64) (hn : neg x = true) : x = 2 ^ 63 + rung x := by
  have := (neg_iff x h).1 hn
  unfold rung; omega
theorem rung_of_pos (x : Nat) (h : x < 2 ^ 64) (hn : neg x = false) : x = rung x := by
  have : ¬ 2 ^ 63 ≤ x := fun h2 => by rw [(neg_iff x h).2 h2] at hn; cases hn
  unfold rung; omega
theorem not_u64 (x : Nat) (h : x < 2 ^ 64) : bits .xor .u64 IntKind.u64.max (x : Int) = ((2 ^ 64 - 1 - x : Nat) : Int) := by
  have e : BitVec.ofInt 64 IntKind.u64.max = BitVec.allOnes 64 := by decide
  show IntKind.u64.wrap ((BitVec.ofInt 64 IntKind.u64.max ^^^ BitVec.ofInt 64 (x : Int)).toNat : Int) = _
  rw [e, BitVec.allOnes_xor, BitVec.toNat_not, ofInt_u64 x (by omega), IntKind.wrap_u64]
  omega
theorem or_sign (x : Nat) (h : x < 2 ^ 63) : bits .or .u64 (x : Int) 9223372036854775808 = ((2 ^ 63 + x : Nat) : Int) := by
  have e := u64_or_nat x 9223372036854775808 (by omega) (by omega)
  show bits .or .u64 (x : Int) ((9223372036854775808 : Nat) : Int) = _
  rw [e, Nat.or_comm, nat_join 63 9223372036854775808 x (by decide) h]
theorem wrap_neg (x : Nat) (h : x < 2 ^ 64) : decide (wrap64 (x : Int) < 0) = neg x := by
  have := neg_iff x h
  cases hn : neg x
  · have h1 : ¬ 2 ^ 63 ≤ x := fun h2 => by rw [this.2 h2] at hn; cases hn
    rw [decide_eq_false_iff_not]; unfold wrap64; omega
  · have h1 := this.1 hn
    rw [decide_eq_true_iff]; unfold wrap64; omega
end Go.Proofs.Ytkmpjdffhbokdaa.Fl
