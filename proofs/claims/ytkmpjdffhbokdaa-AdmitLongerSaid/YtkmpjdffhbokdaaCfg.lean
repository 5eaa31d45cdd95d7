/- ckpt.Config, model.Width and the references': contracts. -/
import Derived.Test.YtkmpjdffhbokdaaK
namespace Go.Proofs.Ytkmpjdffhbokdaa.cfg
open Go.ChangeShapes Go.WideShapes Go.ChangeAt Go.RowKit K
set_option linter.unusedVariables false
set_option linter.unusedSimpArgs false
theorem within_c (n lo hi : Int) (w : World) :
    Calls Try.prog 32 #[.int .i64 n, .int .i64 lo, .int .i64 hi] w fun e w' => e = .returned (.bool (decide (lo ≤ n) && decide (n ≤ hi))) ∧ w = w' := by
  by_cases h : lo ≤ n
  · go_enter Try.func32, Try.ntmps32
    go_wp2
    go_ret
    exact ⟨ret_bool (by simp [h]), rfl⟩
  · go_enter Try.func32, Try.ntmps32
    go_wp2
    go_ret
    exact ⟨ret_bool (by rw [show decide (lo ≤ n) = false from decide_eq_false (by omega)]; rfl), rfl⟩
theorem within_r (n lo hi : Int) (w : World) :
    Calls Try.prog 35 #[.int .i64 n, .int .i64 lo, .int .i64 hi] w fun e w' => e = .returned (.bool (decide (lo ≤ n) && decide (n ≤ hi))) ∧ w = w' := by
  by_cases h : lo ≤ n
  · go_enter Try.func35, Try.ntmps35
    go_wp2
    go_ret
    exact ⟨ret_bool (by simp [h]), rfl⟩
  · go_enter Try.func35, Try.ntmps35
    go_wp2
    go_ret
    exact ⟨ret_bool (by rw [show decide (lo ≤ n) = false from decide_eq_false (by omega)]; rfl), rfl⟩
abbrev cfgV (D H L V Hd E K W : Int) : Value := .agg #[.int .i64 D, .int .i64 H, .int .i64 L, .int .i64 V, .int .i64 Hd, .int .i64 E, .int .i64 K, .int .i64 W]
/-- A right configuration. -/
def cfgP (D H L V Hd E K W : Int) : Prop :=
  (2 ≤ D ∧ D ≤ 8 ∧ 1 ≤ H ∧ H ≤ D) ∧ D / H * H = D ∧ D / H % 2 = 0 ∧ ((E = 0 ∧ K = 0) ∨ (2 ≤ E ∧ E ≤ 4 ∧ 1 ≤ K ∧ K ≤ E)) ∧ 1 ≤ L ∧ L ≤ 2 ∧ 2 ≤ V ∧ V ≤ 16 ∧ 1 ≤ Hd ∧ Hd ≤ 8 ∧ 0 ≤ W ∧ W ≤ 16
instance (D H L V Hd E K W : Int) : Decidable (cfgP D H L V Hd E K W) := by unfold cfgP; exact inferInstance
def cfgB (D H L V Hd E K W : Int) : Bool := decide (cfgP D H L V Hd E K W)
theorem cfgB_true {D H L V Hd E K W : Int} : cfgB D H L V Hd E K W = true ↔ cfgP D H L V Hd E K W := decide_eq_true_iff
theorem quo_bounds (D H : Int) (h1 : 2 ≤ D) (h2 : D ≤ 8) (h3 : 1 ≤ H) (h4 : H ≤ D) : 1 ≤ D / H ∧ D / H ≤ 8 ∧ 0 ≤ D / H * H ∧ D / H * H ≤ 8 := by
  have a1 : D = 2 ∨ D = 3 ∨ D = 4 ∨ D = 5 ∨ D = 6 ∨ D = 7 ∨ D = 8 := by omega
  have a2 : H = 1 ∨ H = 2 ∨ H = 3 ∨ H = 4 ∨ H = 5 ∨ H = 6 ∨ H = 7 ∨ H = 8 := by omega
  rcases a1 with rfl | rfl | rfl | rfl | rfl | rfl | rfl <;> rcases a2 with rfl | rfl | rfl | rfl | rfl | rfl | rfl | rfl <;> first | omega | decide
set_option maxHeartbeats 800000 in
theorem config_c (D H L V Hd E K W : Int) (w : World) :
    Calls Try.prog 28 #[cfgV D H L V Hd E K W] w fun e w' => e = .returned (.bool (cfgB D H L V Hd E K W)) ∧ Below w.heap.size w w' := by
  by_cases hD : 2 ≤ D ∧ D ≤ 8
  · by_cases hH : 1 ≤ H ∧ H ≤ D
    · obtain ⟨h1, h2⟩ := hD
      obtain ⟨h3, h4⟩ := hH
      obtain ⟨q1, q2, q3, q4⟩ := quo_bounds D H h1 h2 h3 h4
      have hw : wrap64 (D / H * H) = D / H * H := by unfold wrap64; omega
      have ht : (D / H).tmod 2 = D / H % 2 := Int.tmod_eq_emod_of_nonneg (by omega)
      go_enter Try.func28, Try.ntmps28
      go_wp2_with (go_at_call 32; refine (within_c _ _ _ _).mono ?_; rintro e w' ⟨rfl, rfl⟩)
      all_goals
        go_ret
        refine ⟨ret_bool ?_, (Below.refl _ _).alloc (Nat.le_refl _) _⟩
        clear hw ht
        (try simp only [bne_iff_ne, bne_eq_false_iff_eq, ne_eq] at *)
        rw [Bool.eq_iff_iff, cfgB_true]
        unfold cfgP
        simp only [Bool.false_eq_true, false_iff, Bool.and_eq_true, decide_eq_true_eq]
        omega
    · have hf : cfgB D H L V Hd E K W = false := decide_eq_false (fun hh => hH hh.1.2.2)
      rw [hf]
      have b1 : (decide (2 ≤ D) && decide (D ≤ 8)) = true := by simp [hD.1, hD.2]
      have b2 : (decide (1 ≤ H) && decide (H ≤ D)) = false := by
        rw [Bool.and_eq_false_iff]; simp only [decide_eq_false_iff_not]; omega
      clear hf hD hH
      go_enter Try.func28, Try.ntmps28
      go_wp2_with (go_at_call 32; refine (within_c _ _ _ _).mono ?_; rintro e w' ⟨rfl, rfl⟩)
      go_ret
      exact ⟨rfl, (Below.refl _ _).alloc (Nat.le_refl _) _⟩
  · have hf : cfgB D H L V Hd E K W = false := decide_eq_false (fun hh => hD ⟨hh.1.1, hh.1.2.1⟩)
    rw [hf]
    have b1 : (decide (2 ≤ D) && decide (D ≤ 8)) = false := by
      rw [Bool.and_eq_false_iff]; simp only [decide_eq_false_iff_not]; omega
    clear hf hD
    go_enter Try.func28, Try.ntmps28
    go_wp2_with (go_at_call 32; refine (within_c _ _ _ _).mono ?_; rintro e w' ⟨rfl, rfl⟩)
    go_ret
    exact ⟨rfl, (Below.refl _ _).alloc (Nat.le_refl _) _⟩
/-- The reference's tests, of a Dim within its bounds. -/
theorem ref_iff (D H : Int) (h1 : 2 ≤ D) (h2 : D ≤ 8) : (D % 2 = 0 ∧ (1 ≤ H ∧ H ≤ 4) ∧ D % H = 0 ∧ D / H % 2 = 0) ↔ ((1 ≤ H ∧ H ≤ D) ∧ D / H * H = D ∧ D / H % 2 = 0) := by
  by_cases hH : 1 ≤ H ∧ H ≤ 8
  · have a1 : D = 2 ∨ D = 3 ∨ D = 4 ∨ D = 5 ∨ D = 6 ∨ D = 7 ∨ D = 8 := by omega
    have a2 : H = 1 ∨ H = 2 ∨ H = 3 ∨ H = 4 ∨ H = 5 ∨ H = 6 ∨ H = 7 ∨ H = 8 := by omega
    rcases a1 with rfl | rfl | rfl | rfl | rfl | rfl | rfl <;> rcases a2 with rfl | rfl | rfl | rfl | rfl | rfl | rfl | rfl <;> decide
  · constructor
    · intro h; exfalso; omega
    · intro h; exfalso; omega
theorem cfg_ref {D H L V Hd E K W : Int} (hD : 2 ≤ D ∧ D ≤ 8) : cfgB D H L V Hd E K W = true ↔ (D % 2 = 0 ∧ (1 ≤ H ∧ H ≤ 4) ∧ D % H = 0 ∧ D / H % 2 = 0) ∧ ((E = 0 ∧ K = 0) ∨ (2 ≤ E ∧ E ≤ 4 ∧ 1 ≤ K ∧ K ≤ E)) ∧ 1 ≤ L ∧ L ≤ 2 ∧ 2 ≤ V ∧ V ≤ 16 ∧ 1 ≤ Hd ∧ Hd ≤ 8 ∧ 0 ≤ W ∧ W ≤ 16 := by
  rw [cfgB_true, ref_iff D H hD.1 hD.2]
  unfold cfgP
  constructor
  · rintro ⟨⟨a, b, c, d⟩, e, f, g⟩; exact ⟨⟨⟨c, d⟩, e, f⟩, g⟩
  · rintro ⟨⟨⟨c, d⟩, e, f⟩, g⟩; exact ⟨⟨hD.1, hD.2, c, d⟩, e, f, g⟩
set_option maxHeartbeats 800000 in
theorem config_r (D H L V Hd E K W : Int) (w : World) :
    Calls Try.prog 30 #[cfgV D H L V Hd E K W] w fun e w' => e = .returned (.bool (cfgB D H L V Hd E K W)) ∧ Below w.heap.size w w' := by
  by_cases hD : 2 ≤ D ∧ D ≤ 8
  · have b1 : (decide (2 ≤ D) && decide (D ≤ 8)) = true := by simp [hD.1, hD.2]
    have key := @cfg_ref D H L V Hd E K W hD
    have t0 : D.tmod 2 = D % 2 := Int.tmod_eq_emod_of_nonneg (by omega)
    by_cases hH : 1 ≤ H ∧ H ≤ 4
    · obtain ⟨h1, h2⟩ := hD
      obtain ⟨h3, h4⟩ := hH
      have hdv : 0 ≤ D / H := Int.ediv_nonneg (by omega) (by omega)
      have hdv2 : D / H ≤ D := Int.ediv_le_self _ (by omega)
      have t1 : D.tmod H = D % H := Int.tmod_eq_emod_of_nonneg (by omega)
      have t2 : (D / H).tmod 2 = D / H % 2 := Int.tmod_eq_emod_of_nonneg hdv
      have KEY := Lib.hid key
      clear key
      go_enter Try.func30, Try.ntmps30
      go_wp2_with (go_at_call 35; refine (within_r _ _ _ _).mono ?_; rintro e w' ⟨rfl, rfl⟩)
      all_goals
        go_ret
        refine ⟨ret_bool ?_, (Below.refl _ _).alloc (Nat.le_refl _) _⟩
        have key := KEY.out
        clear KEY t0 t1 t2 b1
        (try simp only [bne_iff_ne, bne_eq_false_iff_eq, ne_eq] at *)
        rw [Bool.eq_iff_iff, key]
        simp only [Bool.false_eq_true, false_iff, Bool.and_eq_true, decide_eq_true_eq]
        omega
    · have hf : cfgB D H L V Hd E K W = false := by
        cases hc : cfgB D H L V Hd E K W
        · rfl
        · exact absurd (key.1 hc).1.2.1 hH
      rw [hf]
      have b2 : (decide (1 ≤ H) && decide (H ≤ 4)) = false := by
        rw [Bool.and_eq_false_iff]; simp only [decide_eq_false_iff_not]; omega
      obtain ⟨h1, h2⟩ := hD
      clear hf hH key
      go_enter Try.func30, Try.ntmps30
      go_wp2_with (go_at_call 35; refine (within_r _ _ _ _).mono ?_; rintro e w' ⟨rfl, rfl⟩)
      all_goals
        go_ret
        exact ⟨rfl, (Below.refl _ _).alloc (Nat.le_refl _) _⟩
  · have hf : cfgB D H L V Hd E K W = false := decide_eq_false (fun hh => hD ⟨hh.1.1, hh.1.2.1⟩)
    rw [hf]
    have b1 : (decide (2 ≤ D) && decide (D ≤ 8)) = false := by
      rw [Bool.and_eq_false_iff]; simp only [decide_eq_false_iff_not]; omega
    clear hf hD
    go_enter Try.func30, Try.ntmps30
    go_wp2_with (go_at_call 35; refine (within_r _ _ _ _).mono ?_; rintro e w' ⟨rfl, rfl⟩)
    go_ret
    exact ⟨rfl, (Below.refl _ _).alloc (Nat.le_refl _) _⟩
/-- How many numbers a token's keys and values are. -/
def widthI (D H L V Hd E K W : Int) : Int := if cfgB D H L V Hd E K W then 2 * D * L else 0
end Go.Proofs.Ytkmpjdffhbokdaa.cfg
