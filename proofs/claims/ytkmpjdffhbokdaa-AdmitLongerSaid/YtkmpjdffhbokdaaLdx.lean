/- math.Abs, IsInf, normalize, Ldexp, RoundToEven over float words: contracts. -/
import Derived.Test.YtkmpjdffhbokdaaExt
import Derived.Test.YtkmpjdffhbokdaaFlc
namespace Go.Proofs.Ytkmpjdffhbokdaa.ldx
open Go.ChangeShapes Go.WideShapes Go.ChangeAt Go.RowKit K Fl ord
open Ieee (double)
set_option linter.unusedVariables false
set_option linter.unusedSimpArgs false
theorem abs_eq (x : Nat) (hx : x < 2 ^ 64) (w : World) :
    Calls Try.prog 48 #[.float .f64 x] w fun e w' => e = .returned (.float .f64 (rung x)) ∧ w = w' := by
  have hb := fun w => extBits x w
  have hf := fun w => extFrom (rung x) w
  have e1 := clear_sign x hx
  go_enter Try.func48, Try.ntmps48
  go_wp2
  go_ret
  exact ⟨rfl, rfl⟩
theorem isinf_eq (x : Nat) (hx : x < 2 ^ 64) (w : World) :
    Calls Try.prog 42 #[.float .f64 x, .int .i64 0] w fun e w' => e = .returned (.bool (decide (rung x = 2047 * 2 ^ 52))) ∧ w = w' := by
  have e1 : (FloatKind.f64.format.order (rung x) 9218868437227405311 == some .gt) = decide (rung x = 2047 * 2 ^ 52) := gt_max x
  have H := Lib.hid e1
  clear e1
  go_enter Try.func42, Try.ntmps42
  go_wp2_with (go_at_call 48; refine (abs_eq x hx _).mono ?_; rintro e w' ⟨rfl, rfl⟩)
  go_ret
  exact ⟨ret_bool H.out, rfl⟩
theorem normalize_small (x : Nat) (hx : x < 2 ^ 64) (h0 : 0 < rung x) (hs : rung x < 2 ^ 52) (w : World) :
    Calls Try.prog 43 #[.float .f64 x] w fun e w' => e = .returned (.tuple #[.float .f64 (double.word (neg x) (nrm (rung x))), .int .i64 (-52)]) ∧ w = w' := by
  have e1 : FloatKind.f64.format.order (rung x) 4503599627370496 = some .lt := lt_min_normal x hs
  have hm := fun w => run_float_arith (P := Try.prog) w .mul 36 .f64 x 4841369599423283200 _ (mul_norm x h0 hs)
  go_enter Try.func43, Try.ntmps43
  go_wp2_with (go_at_call 48; refine (abs_eq x hx _).mono ?_; rintro e w' ⟨rfl, rfl⟩)
  go_ret2
  exact ⟨rfl, rfl⟩
theorem normalize_great (x : Nat) (hx : x < 2 ^ 64) (hs : 2 ^ 52 ≤ rung x) (hi : isNum x) (w : World) :
    Calls Try.prog 43 #[.float .f64 x] w fun e w' => e = .returned (.tuple #[.float .f64 x, .int .i64 0]) ∧ w = w' := by
  have e1 : (FloatKind.f64.format.order (rung x) 4503599627370496 == some .lt) = false := ge_min_normal x hs hi
  go_enter Try.func43, Try.ntmps43
  go_wp2_with (go_at_call 48; refine (abs_eq x hx _).mono ?_; rintro e w' ⟨rfl, rfl⟩)
  go_ret2
  exact ⟨rfl, rfl⟩
theorem inf_pos (w : World) : Calls Try.prog 46 #[.int .i64 1] w fun e w' => e = .returned (.float .f64 9218868437227405312) ∧ w = w' := by
  have hf : ∀ w, (callFunc 47 #[.int .u64 9218868437227405312]).run Try.prog w = .ok (.value (.float .f64 9218868437227405312)) w := fun w => extFrom 9218868437227405312 w
  go_enter Try.func46, Try.ntmps46
  go_wp2
  go_ret
  exact ⟨rfl, rfl⟩
theorem inf_neg (w : World) : Calls Try.prog 46 #[.int .i64 (-1)] w fun e w' => e = .returned (.float .f64 18442240474082181120) ∧ w = w' := by
  have hf : ∀ w, (callFunc 47 #[.int .u64 18442240474082181120]).run Try.prog w = .ok (.value (.float .f64 18442240474082181120)) w := fun w => extFrom 18442240474082181120 w
  go_enter Try.func46, Try.ntmps46
  go_wp2
  go_ret
  exact ⟨rfl, rfl⟩
/-- What normalize makes of x: y, with e0. -/
structure Norm (x y : Nat) (e0 : Int) : Prop where
  call : ∀ w, Calls Try.prog 43 #[.float .f64 x] w fun e w' => e = .returned (.tuple #[.float .f64 y, .int .i64 e0]) ∧ w = w'
  lt : y < 2 ^ 64
  low : 2 ^ 52 ≤ rung y
  fin : isFin y
  sgn : neg y = neg x
theorem ldexp_over (x y : Nat) (e0 k : Int) (E : Nat) (hx : x < 2 ^ 64) (h0 : 0 < rung x) (hi : isFin x) (hN : Norm x y e0) (hE : rung y / 2 ^ 52 = E) (b1 : -100 ≤ k) (b2 : k ≤ 100) (b3 : -100 ≤ e0) (b4 : e0 ≤ 0) (hov : 1023 < k + e0 + (E - 1023)) (w : World) :
    Calls Try.prog 41 #[.float .f64 x, .int .i64 k] w fun e w' => e = .returned (.float .f64 (double.word (neg x) (2047 * 2 ^ 52))) ∧ w = w' := by
  have hyn : neg y = neg x := hN.sgn
  have hnum : isNum x := Nat.le_of_lt hi
  have hnumy : isNum y := Nat.le_of_lt hN.fin
  have hcall := hN.call
  have o0 : FloatKind.f64.format.order x 0 = some (if neg x then .lt else .gt) := order_zero x hnum h0
  have oy : FloatKind.f64.format.order y 0 = some (if neg y then .lt else .gt) := order_zero y hnumy (by have := hN.low; omega)
  have hb := fun w => extBits y w
  have i1 : decide (rung x = 2047 * 2 ^ 52) = false := decide_eq_false (by unfold isFin at hi; omega)
  have i2 : (!decide (isNum x)) = false := by simp [hnum]
  have f1 := field_exp y hN.lt
  rw [hE] at f1
  have hE2 : E < 2047 := by have := hN.fin; unfold isFin at this; omega
  rw [hyn] at oy
  have hy := hN.lt
  have Hc := Lib.hid hcall
  clear hcall hN hi hnum hnumy h0 hE hyn
  cases hn : neg x
  · rw [hn] at o0 oy
    simp only [Bool.false_eq_true, if_false] at o0 oy
    have hw : double.word false (2047 * 2 ^ 52) = 9218868437227405312 := by decide
    rw [hw]
    clear hw hn
    go_enter Try.func41, Try.ntmps41
    go_wp2_with (first | (go_at_call 42; refine (isinf_eq x hx _).mono ?_; rintro e w' ⟨rfl, rfl⟩) | (go_at_call 37; refine (isnan x _).mono ?_; rintro e w' ⟨rfl, rfl⟩) | (go_at_call 43; refine (Hc.out _).mono ?_; rintro e w' ⟨rfl, rfl⟩) | (go_at_call 45; fail) | (go_at_call 46; refine (inf_pos _).mono ?_; rintro e w' ⟨rfl, rfl⟩))
    go_ret
    exact ⟨rfl, rfl⟩
  · rw [hn] at o0 oy
    simp only [if_true] at o0 oy
    have hw : double.word true (2047 * 2 ^ 52) = 18442240474082181120 := by decide
    rw [hw]
    clear hw hn
    go_enter Try.func41, Try.ntmps41
    go_wp2_with (first | (go_at_call 42; refine (isinf_eq x hx _).mono ?_; rintro e w' ⟨rfl, rfl⟩) | (go_at_call 37; refine (isnan x _).mono ?_; rintro e w' ⟨rfl, rfl⟩) | (go_at_call 43; refine (Hc.out _).mono ?_; rintro e w' ⟨rfl, rfl⟩) | (go_at_call 45; fail) | (go_at_call 46; refine (inf_neg _).mono ?_; rintro e w' ⟨rfl, rfl⟩))
    go_ret
    exact ⟨rfl, rfl⟩
set_option maxRecDepth 100000 in
theorem ldexp_in (x y : Nat) (e0 k : Int) (E : Nat) (hx : x < 2 ^ 64) (h0 : 0 < rung x) (hi : isFin x) (hN : Norm x y e0) (hE : rung y / 2 ^ 52 = E) (b1 : -100 ≤ k) (b2 : k ≤ 100) (b3 : -100 ≤ e0) (b4 : e0 ≤ 0) (E' : Nat) (hE' : k + e0 + E = E') (hE1 : 1 ≤ E') (hE3 : E' ≤ 2046) (w : World) :
    Calls Try.prog 41 #[.float .f64 x, .int .i64 k] w fun e w' => e = .returned (.float .f64 (put y E')) ∧ w = w' := by
  have hyn : neg y = neg x := hN.sgn
  have hnum : isNum x := Nat.le_of_lt hi
  have hnumy : isNum y := Nat.le_of_lt hN.fin
  have hcall := hN.call
  have o0 : (FloatKind.f64.format.order x 0 == some .eq) = false := by rw [show FloatKind.f64.format = double from rfl, order_zero x hnum h0]; cases neg x <;> rfl
  have hb := fun w => extBits y w
  have i1 : decide (rung x = 2047 * 2 ^ 52) = false := decide_eq_false (by unfold isFin at hi; omega)
  have i2 : (!decide (isNum x)) = false := by simp [hnum]
  have f1 := field_exp y hN.lt
  rw [hE] at f1
  have hE2 : E < 2047 := by have := hN.fin; unfold isFin at this; omega
  have hy := hN.lt
  have f2 := field_clear y hy
  have f3 : bits .or .u64 (clr y : Int) ((k + e0 + ((E : Int) - 1023) + 1023) * 4503599627370496) = (put y E' : Int) := by
    rw [show (k + e0 + ((E : Int) - 1023) + 1023) * 4503599627370496 = ((E' * 2 ^ 52 : Nat) : Int) from by omega]
    exact field_put y E' hy (by omega)
  have hf := fun w => extFrom (put y E') w
  have hm := fun w => run_float_arith (P := Try.prog) w .mul 36 .f64 4607182418800017408 _ _ (mul_one' (put y E') (put_parts y E' (by omega)).2.2 (put_fin y E' hE3))
  have Hc := Lib.hid hcall
  have l1 : -1022 ≤ k + e0 + ((E : Int) - 1023) := by omega
  have l2 : k + e0 + ((E : Int) - 1023) ≤ 1023 := by omega
  have HE := Lib.hid hE'
  clear hE'
  clear hcall hN hi hnum hnumy h0 hE hyn
  go_enter Try.func41, Try.ntmps41
  go_wp2_with (first | (go_at_call 42; refine (isinf_eq x hx _).mono ?_; rintro e w' ⟨rfl, rfl⟩) | (go_at_call 37; refine (isnan x _).mono ?_; rintro e w' ⟨rfl, rfl⟩) | (go_at_call 43; refine (Hc.out _).mono ?_; rintro e w' ⟨rfl, rfl⟩) | (go_at_call 45; fail) | (go_at_call 46; fail))
  go_ret
  exact ⟨rfl, rfl⟩
set_option maxRecDepth 100000 in
theorem ldexp_sub (x y : Nat) (e0 k : Int) (E : Nat) (hx : x < 2 ^ 64) (h0 : 0 < rung x) (hi : isFin x) (hN : Norm x y e0) (hE : rung y / 2 ^ 52 = E) (b1 : -100 ≤ k) (b2 : k ≤ 100) (b3 : -100 ≤ e0) (b4 : e0 ≤ 0) (E' : Nat) (hE' : k + e0 + E + 53 = E') (hE1 : 1 ≤ E') (hE3 : E' ≤ 53) (r : Nat) (hr : r < 2 ^ 52) (hv : val (rung (put y E')) = val r * 2 ^ 53) (w : World) :
    Calls Try.prog 41 #[.float .f64 x, .int .i64 k] w fun e w' => e = .returned (.float .f64 (double.word (neg x) r)) ∧ w = w' := by
  have hyn : neg y = neg x := hN.sgn
  have hnum : isNum x := Nat.le_of_lt hi
  have hnumy : isNum y := Nat.le_of_lt hN.fin
  have hcall := hN.call
  have o0 : (FloatKind.f64.format.order x 0 == some .eq) = false := by rw [show FloatKind.f64.format = double from rfl, order_zero x hnum h0]; cases neg x <;> rfl
  have hb := fun w => extBits y w
  have i1 : decide (rung x = 2047 * 2 ^ 52) = false := decide_eq_false (by unfold isFin at hi; omega)
  have i2 : (!decide (isNum x)) = false := by simp [hnum]
  have f1 := field_exp y hN.lt
  rw [hE] at f1
  have hE2 : E < 2047 := by have := hN.fin; unfold isFin at this; omega
  have hy := hN.lt
  have f2 := field_clear y hy
  have f3 : bits .or .u64 (clr y : Int) ((k + e0 + ((E : Int) - 1023) + 53 + 1023) * 4503599627370496) = (put y E' : Int) := by
    rw [show (k + e0 + ((E : Int) - 1023) + 53 + 1023) * 4503599627370496 = ((E' * 2 ^ 52 : Nat) : Int) from by omega]
    exact field_put y E' hy (by omega)
  have hf := fun w => extFrom (put y E') w
  have hm := fun w => run_float_arith (P := Try.prog) w .mul 36 .f64 4368491638549381120 _ _ (mul_tiny (put y E') r (put_fin y E' (by omega)) (by omega) hv)
  rw [(put_parts y E' (by omega)).1, hyn] at hm
  have Hc := Lib.hid hcall
  have l1 : -1075 ≤ k + e0 + ((E : Int) - 1023) := by omega
  have l2 : k + e0 + ((E : Int) - 1023) ≤ -1023 := by omega
  have HE := Lib.hid hE'
  clear hE'
  clear hcall hN hi hnum hnumy h0 hE hyn hv
  go_enter Try.func41, Try.ntmps41
  go_wp2_with (first | (go_at_call 42; refine (isinf_eq x hx _).mono ?_; rintro e w' ⟨rfl, rfl⟩) | (go_at_call 37; refine (isnan x _).mono ?_; rintro e w' ⟨rfl, rfl⟩) | (go_at_call 43; refine (Hc.out _).mono ?_; rintro e w' ⟨rfl, rfl⟩) | (go_at_call 45; fail) | (go_at_call 46; fail))
  go_ret
  exact ⟨rfl, rfl⟩
end Go.Proofs.Ytkmpjdffhbokdaa.ldx
