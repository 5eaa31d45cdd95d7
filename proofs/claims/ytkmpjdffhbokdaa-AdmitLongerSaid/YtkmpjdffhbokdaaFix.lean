/- math.Ldexp(x, 16) and knob.Fix: contracts. -/
import Derived.Test.YtkmpjdffhbokdaaLdx
import Derived.Test.YtkmpjdffhbokdaaFlf
namespace Go.Proofs.Ytkmpjdffhbokdaa.ldx
open Go.ChangeShapes Go.WideShapes Go.ChangeAt Go.RowKit K Fl ord
open Ieee (double)
set_option linter.unusedVariables false
set_option linter.unusedSimpArgs false
theorem norm_small (x : Nat) (hx : x < 2 ^ 64) (h0 : 0 < rung x) (hs : rung x < 2 ^ 52) : Norm x (double.word (neg x) (nrm (rung x))) (-52) := by
  obtain ⟨h1, h2, h3⟩ := nrm_val h0 hs
  have h4 := word_parts (neg x) (show nrm (rung x) < 2 ^ 63 by omega)
  exact ⟨fun w => normalize_small x hx h0 hs w, word_lt _ (by omega), by rw [h4.2]; exact h3, by unfold isFin; rw [h4.2]; omega, h4.1⟩
theorem norm_great (x : Nat) (hx : x < 2 ^ 64) (hs : 2 ^ 52 ≤ rung x) (hf : isFin x) : Norm x x 0 :=
  ⟨fun w => normalize_great x hx hs (Nat.le_of_lt hf) w, hx, hs, hf, rfl⟩
theorem ldexp_zero (x : Nat) (k : Int) (h0 : rung x = 0) (w : World) :
    Calls Try.prog 41 #[.float .f64 x, .int .i64 k] w fun e w' => e = .returned (.float .f64 x) ∧ w = w' := by
  have o1 : (FloatKind.f64.format.order x 0 == some .eq) = true := by
    rw [show FloatKind.f64.format = double from rfl, order_num (by unfold isNum; rw [h0]; omega) (by decide), show sv 0 = 0 from by decide, cmp_eq]
    · rfl
    · rcases sv_cases x with ⟨a, b⟩ | ⟨a, b⟩ <;> rw [b, h0] <;> decide
  clear h0
  go_enter Try.func41, Try.ntmps41
  go_wp2
  go_ret
  exact ⟨rfl, rfl⟩
theorem ldexp_inf (x : Nat) (k : Int) (hx : x < 2 ^ 64) (h0 : rung x = 2047 * 2 ^ 52) (w : World) :
    Calls Try.prog 41 #[.float .f64 x, .int .i64 k] w fun e w' => e = .returned (.float .f64 x) ∧ w = w' := by
  have o1 : (FloatKind.f64.format.order x 0 == some .eq) = false := by
    rw [show FloatKind.f64.format = double from rfl, order_zero x (by unfold isNum; omega) (by omega)]
    cases neg x <;> rfl
  have i1 : decide (rung x = 2047 * 2 ^ 52) = true := decide_eq_true h0
  clear h0
  go_enter Try.func41, Try.ntmps41
  go_wp2_with (go_at_call 42; refine (isinf_eq x hx _).mono ?_; rintro e w' ⟨rfl, rfl⟩)
  go_ret
  exact ⟨rfl, rfl⟩
theorem ldexp16 (x : Nat) (hx : x < 2 ^ 64) (hi : isNum x) (w : World) :
    Calls Try.prog 41 #[.float .f64 x, .int .i64 16] w fun e w' => e = .returned (.float .f64 (ld16 x)) ∧ w = w' := by
  unfold ld16
  by_cases h0 : rung x = 0
  · rw [if_pos h0]; exact ldexp_zero x 16 h0 w
  · rw [if_neg h0]
    by_cases h1 : rung x = 2047 * 2 ^ 52
    · rw [if_pos h1]; exact ldexp_inf x 16 hx h1 w
    · rw [if_neg h1]
      have hf : isFin x := by unfold isNum at hi; unfold isFin; omega
      have hp : 0 < rung x := by omega
      by_cases hs : rung x < 2 ^ 52
      · have hN := norm_small x hx hp hs
        have h4 := word_parts (neg x) (show nrm (rung x) < 2 ^ 63 by have := nrm_val hp hs; omega)
        have h5 := nrm_mod hp hs
        have h6 := log2_le hp hs
        by_cases hl : (rung x).log2 < 36
        · have h7 : rung x < 2 ^ 36 := (Nat.log2_lt (by omega)).1 hl
          have e : r16 (rung x) = rung x * 2 ^ 16 := by unfold r16; rw [if_pos hs, if_pos hl]
          rw [e]
          have hput := put_parts (double.word (neg x) (nrm (rung x))) ((rung x).log2 + 18) (by omega)
          refine ldexp_sub x _ (-52) 16 ((rung x).log2 + 1) hx hp hf hN (by rw [h4.2]; exact h5.2) (by omega) (by omega) (by omega) (by omega) ((rung x).log2 + 18) (by omega) (by omega) (by omega) (rung x * 2 ^ 16) (by omega) ?_ w
          rw [hput.2.1, h4.2, val_big (by omega) (Nat.mod_lt _ (by decide)), Nat.add_comm, h5.1, val_small (show rung x * 2 ^ 16 < 2 ^ 52 by omega), Nat.mul_assoc, Nat.mul_assoc, ← Nat.pow_add, ← Nat.pow_add, show 52 - (rung x).log2 + ((rung x).log2 + 18 - 1) = 16 + 53 from by omega]
        · have e : r16 (rung x) = ((rung x).log2 - 35) * 2 ^ 52 + nrm (rung x) % 2 ^ 52 := by unfold r16; rw [if_pos hs, if_neg hl]
          have := ldexp_in x _ (-52) 16 ((rung x).log2 + 1) hx hp hf hN (by rw [h4.2]; exact h5.2) (by omega) (by omega) (by omega) (by omega) ((rung x).log2 - 35) (by omega) (by omega) (by omega) w
          unfold put at this
          rw [h4.1, h4.2, ← e] at this
          exact this
      · have hN := norm_great x hx (by omega) hf
        have hfin : rung x < 2047 * 2 ^ 52 := hf
        by_cases ho : rung x + 16 * 2 ^ 52 < 2047 * 2 ^ 52
        · have e : r16 (rung x) = rung x + 16 * 2 ^ 52 := by unfold r16; rw [if_neg hs, if_pos ho]
          have := ldexp_in x _ 0 16 (rung x / 2 ^ 52) hx hp hf hN rfl (by omega) (by omega) (by omega) (by omega) (rung x / 2 ^ 52 + 16) (by omega) (by omega) (by omega) w
          unfold put at this
          rw [show (rung x / 2 ^ 52 + 16) * 2 ^ 52 + rung x % 2 ^ 52 = r16 (rung x) from by rw [e]; omega] at this
          exact this
        · have e : r16 (rung x) = 2047 * 2 ^ 52 := by unfold r16; rw [if_neg hs, if_neg ho]
          rw [e]
          exact ldexp_over x _ 0 16 (rung x / 2 ^ 52) hx hp hf hN rfl (by omega) (by omega) (by omega) (by omega) (by omega) w
theorem Ldexp16 (x : Nat) (hx : x < 2 ^ 64) (hi : isNum x) (w : World) :
    Calls Try.prog 39 #[.float .f64 x, .int .i64 16] w fun e w' => e = .returned (.float .f64 (ld16 x)) ∧ w = w' := by
  go_enter Try.func39, Try.ntmps39
  go_wp2_with (go_at_call 41; refine (ldexp16 x hx hi _).mono ?_; rintro e w' ⟨rfl, rfl⟩)
  go_ret
  exact ⟨rfl, rfl⟩
theorem toIntegral_at (y : Nat) (d : Ieee.Datum) (hd : FloatKind.f64.decode y = d) (hn : d.isNaN = false) :
    Extern.MathFloor.toIntegral "math.RoundToEven" .even #[.float .f64 y] = pure (.float .f64 (FloatKind.f64.encode (d.integral .even))) := by
  unfold Extern.MathFloor.toIntegral
  unfold Extern.MathFloor.toIntegral.match_2
  simp only [List.size_toArray, List.length_cons, List.length_nil, dite_true, Array.getLit, List.getElem_toArray, List.getElem_cons_zero]
  unfold Extern.MathFloor.toIntegral._sparseCasesOn_2 Extern.MathFloor.toIntegral._sparseCasesOn_3
  dsimp only
  rw [hd]
  cases d
  · rfl
  · rfl
  · cases hn
theorem extRound (y : Nat) (hy : isNum y) (w : World) : (callFunc 38 #[.float .f64 y]).run Try.prog w = .ok (.value (.float .f64 (rwd y))) w := by
  rw [run_callFunc_extern (e := Extern.MathFloor.toIntegral "math.RoundToEven" .even) Try.func38 (by kernel_rfl) (by kernel_rfl) (by kernel_rfl) (by kernel_rfl)]
  have hd : (FloatKind.f64.decode y).isNaN = false := by
    show (double.read y).isNaN = false
    unfold isNum at hy
    by_cases h1 : rung y < 2047 * 2 ^ 52
    · rw [read_fin h1]; rfl
    · rw [read_inf (by omega)]; rfl
  rw [toIntegral_at y _ rfl hd]
  rfl
theorem Fix_num (x : Nat) (hx : x < 2 ^ 64) (hi : isNum x) (w : World) :
    Calls Try.prog 36 #[.float .f64 x] w fun e w' => e = .returned (.tuple #[.int .i64 (fixV x), .int .i64 0]) ∧ w = w' := by
  have d1 : (!decide (isNum x)) = false := by simp [hi]
  obtain ⟨hfix, hnum⟩ := fix_int x hx hi
  have hld : isNum (ld16 x) := by unfold isNum; rw [(ld16_parts x hx hi).2.1]; exact r16_le _
  have r1 := fun w => extRound (ld16 x) hld w
  have m1 := fun ts t w => run_fmin (P := Try.prog) ts t (rwd (ld16 x)) 4746794007244308480 hnum (by decide) w
  have m2 := fun ts t w => run_fmax (P := Try.prog) ts t (fmin (rwd (ld16 x)) 4746794007244308480) 13970166044103278592 (fmin_num hnum (by decide)) (by decide) w
  unfold fixW at hfix
  have c1 := fun w => run_convert_float_int (P := Try.prog) w 36 2 .f64 .i64 (fmax (fmin (rwd (ld16 x)) 4746794007244308480) 13970166044103278592) (fixV x) (by kernel_rfl) Try.underlying2 hfix
  clear hfix hnum hld
  go_enter Try.func36, Try.ntmps36
  go_wp2_with (first | (go_at_call 37; refine (isnan x _).mono ?_; rintro e w' ⟨rfl, rfl⟩) | (go_at_call 39; refine (Ldexp16 x hx hi _).mono ?_; rintro e w' ⟨rfl, rfl⟩))
  go_ret2
  exact ⟨rfl, rfl⟩
theorem Fix_nan (x : Nat) (hi : ¬ isNum x) (w : World) :
    Calls Try.prog 36 #[.float .f64 x] w fun e w' => e = .returned (.tuple #[.int .i64 0, .int .i64 28]) ∧ w = w' := by
  have d1 : (!decide (isNum x)) = true := by simp [hi]
  go_enter Try.func36, Try.ntmps36
  go_wp2_with (go_at_call 37; refine (isnan x _).mono ?_; rintro e w' ⟨rfl, rfl⟩)
  go_ret2
  exact ⟨rfl, rfl⟩
end Go.Proofs.Ytkmpjdffhbokdaa.ldx
