/- KnobOrders, KnobTotal's ground: contracts of key, Same, Less and of the reference's rank, Same, Less. -/
import Derived.Test.YtaphplelkfokiaaFlb
namespace Go.Proofs.Ytaphplelkfokiaa.ord
open Go.ChangeShapes Go.WideShapes Go.ChangeAt Go.RowKit K Fl
set_option linter.unusedVariables false
set_option linter.unusedSimpArgs false
theorem extBits (x : Nat) (w : World) : (callFunc 24 #[.float .f64 x]).run Try.prog w = .ok (.value (.int .u64 x)) w := by
  rw [run_callFunc_extern (e := Extern.MathFloatBits.float64bits) Try.func24 (by kernel_rfl) (by kernel_rfl) (by kernel_rfl) (by kernel_rfl)]
  rfl
theorem extFrom (x : Nat) (w : World) : (callFunc 14 #[.int .u64 x]).run Try.prog w = .ok (.value (.float .f64 x)) w := by
  rw [run_callFunc_extern (e := Extern.MathFloatBits.float64frombits) Try.func14 (by kernel_rfl) (by kernel_rfl) (by kernel_rfl) (by kernel_rfl)]
  rfl
theorem isnan (x : Nat) (w : World) :
    Calls Try.prog 21 #[.float .f64 x] w fun e w' => e = .returned (.bool (!decide (isNum x))) ∧ w = w' := by
  rw [← self_ne]
  go_enter Try.func21, Try.ntmps21
  go_wp2
  go_ret
  exact ⟨rfl, rfl⟩
theorem key_eq (x : Nat) (hx : x < 2 ^ 64) (w : World) :
    Calls Try.prog 18 #[.float .f64 x] w fun e w' => e = .returned (.int .u64 (keyN x : Nat)) ∧ w = w' := by
  have hb := fun w => extBits x w
  by_cases h : isNum x
  · have hd : (!decide (isNum x)) = false := by simp [h]
    by_cases hn : neg x = true
    · have e1 := and_sign x hx
      rw [if_pos hn] at e1
      have ek : keyN x = 2 ^ 64 - 1 - x := by
        unfold keyN; rw [if_pos h, if_pos hn]
        have := rung_of_neg x hx hn; omega
      have e2 := not_u64 x hx
      rw [← ek] at e2
      clear ek hx
      go_enter Try.func18, Try.ntmps18
      go_wp2_with (go_at_call 21; refine (isnan _ _).mono ?_; rintro e w' ⟨rfl, rfl⟩)
      go_ret
      exact ⟨rfl, rfl⟩
    · have hn' : neg x = false := by simpa using hn
      have e1 := and_sign x hx
      rw [if_neg hn] at e1
      have ek : keyN x = 2 ^ 63 + x := by
        unfold keyN; rw [if_pos h, if_neg hn]
        have := rung_of_pos x hx hn'; omega
      have hl : x < 2 ^ 63 := Nat.lt_of_not_le fun h2 => hn ((neg_iff x hx).2 h2)
      have e2 := or_sign x hl
      rw [← ek] at e2
      clear ek hx hl
      go_enter Try.func18, Try.ntmps18
      go_wp2_with (go_at_call 21; refine (isnan _ _).mono ?_; rintro e w' ⟨rfl, rfl⟩)
      go_ret
      exact ⟨rfl, rfl⟩
  · have hd : (!decide (isNum x)) = true := by simp [h]
    have ek : keyN x = 0 := by unfold keyN; rw [if_neg h]
    rw [ek]
    clear ek
    go_enter Try.func18, Try.ntmps18
    go_wp2_with (go_at_call 21; refine (isnan _ _).mono ?_; rintro e w' ⟨rfl, rfl⟩)
    go_ret
    exact ⟨rfl, rfl⟩
theorem same_eq (x y : Nat) (hx : x < 2 ^ 64) (hy : y < 2 ^ 64) (w : World) :
    Calls Try.prog 8 #[.float .f64 x, .float .f64 y] w fun e w' => e = .returned (.bool (keyN x == keyN y)) ∧ w = w' := by
  go_enter Try.func8, Try.ntmps8
  go_wp2_with fail
  refine (key_eq x hx _).mono ?_
  rintro e w' ⟨rfl, rfl⟩
  go_wp2_with fail
  refine (key_eq y hy _).mono ?_
  rintro e w' ⟨rfl, rfl⟩
  go_wp2
  go_ret
  exact ⟨ret_bool (by rw [Bool.eq_iff_iff]; simp only [beq_iff_eq]; omega), rfl⟩
theorem less_eq (x y : Nat) (hx : x < 2 ^ 64) (hy : y < 2 ^ 64) (w : World) :
    Calls Try.prog 10 #[.float .f64 x, .float .f64 y] w fun e w' => e = .returned (.bool (decide (keyN x < keyN y))) ∧ w = w' := by
  go_enter Try.func10, Try.ntmps10
  go_wp2_with fail
  refine (key_eq x hx _).mono ?_
  rintro e w' ⟨rfl, rfl⟩
  go_wp2_with fail
  refine (key_eq y hy _).mono ?_
  rintro e w' ⟨rfl, rfl⟩
  go_wp2
  go_ret
  exact ⟨ret_bool (by first | rfl | simp), rfl⟩
theorem rank_eq (x : Nat) (hx : x < 2 ^ 64) (w : World) :
    Calls Try.prog 19 #[.float .f64 x] w fun e w' => e = .returned (.int .i64 (rankN x : Nat)) ∧ w = w' := by
  have hb := fun w => extBits x w
  have e1 := wrap_neg x hx
  by_cases h : isNum x
  · have l1 := sv_lt_zero x
    have l2 := sv_gt_zero x
    have o1 : FloatKind.f64.format.order x 0 = some (compare (sv x) 0) := order_num h (by decide)
    have o2 : (FloatKind.f64.format.order x x != some .eq) = false := by rw [show FloatKind.f64.format = Ieee.double from rfl, self_ne]; simp [h]
    have er : rankN x = if rung x = 0 then (if neg x then 2 else 3) else if neg x then 1 else 4 := by unfold rankN; rw [if_pos h]
    rw [er]
    clear er
    rcases Nat.eq_zero_or_pos (rung x) with h0 | h0
    · have s1 : ¬ sv x < 0 := fun h => by have := (l1.1 h).2; omega
      have s2 : ¬ 0 < sv x := fun h => by have := (l2.1 h).2; omega
      rw [cmp_eq (by omega)] at o1
      rw [if_pos h0]
      clear l1 l2 s1 s2 h0 hx h
      cases hn : neg x
      · rw [hn] at e1; clear hn
        simp only [Bool.false_eq_true, if_false]
        go_enter Try.func19, Try.ntmps19
        go_wp2
        go_ret
        exact ⟨rfl, rfl⟩
      · rw [hn] at e1; clear hn
        simp only [if_true]
        go_enter Try.func19, Try.ntmps19
        go_wp2
        go_ret
        exact ⟨rfl, rfl⟩
    · rw [if_neg (by omega)]
      cases hn : neg x
      · have s := l2.2 ⟨hn, h0⟩
        rw [cmp_gt s] at o1
        clear l1 l2 s h0 hx h e1 hn
        simp only [Bool.false_eq_true, if_false]
        go_enter Try.func19, Try.ntmps19
        go_wp2
        go_ret
        exact ⟨rfl, rfl⟩
      · have s := l1.2 ⟨hn, h0⟩
        rw [cmp_lt s] at o1
        clear l1 l2 s h0 hx h e1 hn
        simp only [if_true]
        go_enter Try.func19, Try.ntmps19
        go_wp2
        go_ret
        exact ⟨rfl, rfl⟩
  · have o2 : (FloatKind.f64.format.order x x != some .eq) = true := by rw [show FloatKind.f64.format = Ieee.double from rfl, self_ne]; simp [h]
    have er : rankN x = 0 := by unfold rankN; rw [if_neg h]
    rw [er]
    clear er e1 h hx
    go_enter Try.func19, Try.ntmps19
    go_wp2
    go_ret
    exact ⟨rfl, rfl⟩
theorem refSame_eq (x y : Nat) (hx : x < 2 ^ 64) (hy : y < 2 ^ 64) (w : World) :
    Calls Try.prog 9 #[.float .f64 x, .float .f64 y] w fun e w' => e = .returned (.bool (keyN x == keyN y)) ∧ w = w' := by
  have H0 := refSame x y
  have H : (keyN x == keyN y) = (decide (rankN x = rankN y) && (!decide (isNum x) || (FloatKind.f64.format.order x y == some Ordering.eq))) := by
    rw [Bool.eq_iff_iff]
    simp only [beq_iff_eq, Bool.and_eq_true, decide_eq_true_eq, Bool.or_eq_true, Bool.not_eq_true', decide_eq_false_iff_not]
    exact H0.symm
  have o2 : (FloatKind.f64.format.order x x != some .eq) = !decide (isNum x) := self_ne x
  rw [H]
  clear H H0
  by_cases h1 : rankN x = rankN y
  · have e1 : ((rankN x : Int) == (rankN y : Int)) = true := by rw [h1]; simp
    rw [decide_eq_true h1]
    have R := Lib.hid h1
    clear h1
    by_cases h2 : isNum x
    · have e2 : (!decide (isNum x)) = false := by simp [h2]
      rw [e2]; rw [e2] at o2; clear e2 h2
      go_enter Try.func9, Try.ntmps9
      go_wp2_with fail
      refine (rank_eq x hx _).mono ?_
      rintro e w' ⟨rfl, rfl⟩
      go_wp2_with fail
      refine (rank_eq y hy _).mono ?_
      rintro e w' ⟨rfl, rfl⟩
      go_wp2
      go_ret
      exact ⟨ret_bool (by simp), rfl⟩
    · have e2 : (!decide (isNum x)) = true := by simp [h2]
      rw [e2]; rw [e2] at o2; clear e2 h2
      go_enter Try.func9, Try.ntmps9
      go_wp2_with fail
      refine (rank_eq x hx _).mono ?_
      rintro e w' ⟨rfl, rfl⟩
      go_wp2_with fail
      refine (rank_eq y hy _).mono ?_
      rintro e w' ⟨rfl, rfl⟩
      go_wp2
      go_ret
      exact ⟨ret_bool (by simp), rfl⟩
  · have e1 : ((rankN x : Int) == (rankN y : Int)) = false := by simp; omega
    rw [decide_eq_false h1]
    clear h1
    go_enter Try.func9, Try.ntmps9
    go_wp2_with fail
    refine (rank_eq x hx _).mono ?_
    rintro e w' ⟨rfl, rfl⟩
    go_wp2_with fail
    refine (rank_eq y hy _).mono ?_
    rintro e w' ⟨rfl, rfl⟩
    go_wp2
    go_ret
    exact ⟨ret_bool (by simp), rfl⟩
theorem refLess_eq (x y : Nat) (hx : x < 2 ^ 64) (hy : y < 2 ^ 64) (w : World) :
    Calls Try.prog 11 #[.float .f64 x, .float .f64 y] w fun e w' => e = .returned (.bool (decide (keyN x < keyN y))) ∧ w = w' := by
  have H : decide (keyN x < keyN y) = (decide (rankN x < rankN y) || (decide (rankN x = rankN y) && (FloatKind.f64.format.order x y == some Ordering.lt))) := by
    have H0 := refLess x y
    rw [Bool.eq_iff_iff]
    simp only [beq_iff_eq, Bool.and_eq_true, decide_eq_true_eq, Bool.or_eq_true]
    exact H0.symm
  rw [H]
  clear H
  by_cases h0 : rankN x < rankN y
  · have e0 : decide (rankN x < rankN y) = true := decide_eq_true h0
    rw [e0]
    clear h0
    go_enter Try.func11, Try.ntmps11
    go_wp2_with fail
    refine (rank_eq x hx _).mono ?_
    rintro e w' ⟨rfl, rfl⟩
    go_wp2_with fail
    refine (rank_eq y hy _).mono ?_
    rintro e w' ⟨rfl, rfl⟩
    go_wp2
    go_ret
    exact ⟨ret_bool (by simp), rfl⟩
  · have e0 : decide (rankN x < rankN y) = false := decide_eq_false h0
    rw [e0]
    by_cases h1 : rankN x = rankN y
    · have e1 : ((rankN x : Int) == (rankN y : Int)) = true := by rw [h1]; simp
      rw [decide_eq_true h1]
      clear h0 h1
      go_enter Try.func11, Try.ntmps11
      go_wp2_with fail
      refine (rank_eq x hx _).mono ?_
      rintro e w' ⟨rfl, rfl⟩
      go_wp2_with fail
      refine (rank_eq y hy _).mono ?_
      rintro e w' ⟨rfl, rfl⟩
      go_wp2
      go_ret
      exact ⟨ret_bool (by simp), rfl⟩
    · have e1 : ((rankN x : Int) == (rankN y : Int)) = false := by simp; omega
      rw [decide_eq_false h1]
      clear h0 h1
      go_enter Try.func11, Try.ntmps11
      go_wp2_with fail
      refine (rank_eq x hx _).mono ?_
      rintro e w' ⟨rfl, rfl⟩
      go_wp2_with fail
      refine (rank_eq y hy _).mono ?_
      rintro e w' ⟨rfl, rfl⟩
      go_wp2
      go_ret
      exact ⟨ret_bool (by simp), rfl⟩
end Go.Proofs.Ytaphplelkfokiaa.ord
