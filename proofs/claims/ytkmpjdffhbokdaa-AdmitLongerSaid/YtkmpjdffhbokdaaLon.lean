/- AdmitLonger: the walk. -/
import Derived.Test.YtkmpjdffhbokdaaAWk
import Derived.BigRegion
import Derived.Deep.RegionHeld3
namespace Go.Proofs.Ytkmpjdffhbokdaa.awk
open Go.ChangeShapes Go.WideShapes Go.ChangeAt Go.RowKit K Fl ldx cfg _root_.Go.Proofs.Ytkmpjdffhbokdaa.ask
set_option linter.unusedVariables false
set_option linter.unusedSimpArgs false
@[go_sem] theorem run_store_float {P : Program} {w : World} {a : Addr} {m : Mode} (k : FloatKind) (x : Nat) : (store a (.float k x) m).run P w = stored P w a (.float k x) m := run_store P w a _ m rfl
/-- What admit.Need answers. -/
def needF (D H L V Hd E K W : Int) (k : Int) (n : Nat) (len stop topk : Int) (heat : Nat) (beams pen : Int) (xs : List Int) (weights : Int) : Int :=
  if chkI (cfgB D H L V Hd E K W) (rightB k xs len stop topk (decide (isNum heat)) beams pen V) k n len = 0 then needI (rowsI k n len) (seqI k beams) (32 / (2 * D * L)) weights else 0
theorem chk_zero {c r : Bool} {k : Int} {n : Nat} {len : Int} (h : chkI c r k n len = 0) : c = true ∧ r = true ∧ n ≤ 24 ∧ (k = 4 ∨ len ≤ 24 - (n : Int)) := by
  unfold chkI at h
  cases c <;> cases r <;> simp at h ⊢
  split at h
  · omega
  · split at h
    · omega
    · omega
theorem need_F (D H L V Hd E K W : Int) (k : Int) (n : Nat) (len stop seed topk : Int) (heat : Nat) (beams pen : Int) (xs : List Int) (hh : heat < 2 ^ 64) (weights : Int) (hw1 : -9223372036854775808 ≤ weights) (hw2 : weights ≤ 1099511627776) :
    ∀ (p : Option Addr) (cap : Nat) w, Rd w p n xs → Calls Try.prog 14 #[cfgV D H L V Hd E K W, askV k p n cap len stop seed topk heat beams pen, .int .i64 weights] w fun e w' => e = .returned (.int .i64 (needF D H L V Hd E K W k n len stop topk heat beams pen xs weights)) ∧ Below w.heap.size w w' := by
  intro p cap w hr
  unfold needF
  by_cases he : chkI (cfgB D H L V Hd E K W) (rightB k xs len stop topk (decide (isNum heat)) beams pen V) k n len = 0
  · rw [if_pos he]
    obtain ⟨hc, hrb, -, -⟩ := chk_zero he
    rw [hc, hrb] at he
    exact need_ok_c D H L V Hd E K W k p n cap len stop seed topk heat beams pen xs hh w hr hrb _ _ (fine_of D H L V Hd E K W k p n cap len stop seed topk heat beams pen xs _ hc hrb he) he weights hw1 hw2
  · rw [if_neg he]
    exact need_bad_c D H L V Hd E K W k p n cap len stop seed topk heat beams pen xs hh w hr _ rfl _ rfl _ rfl (by simpa using he) weights
theorem pgI_mono (r s per : Int) (h0 : 0 ≤ r) (h : r ≤ s) (h1 : 1 ≤ per) (h2 : per ≤ 8) : pgI r per ≤ pgI s per := by
  unfold pgI
  have : per = 1 ∨ per = 2 ∨ per = 3 ∨ per = 4 ∨ per = 5 ∨ per = 6 ∨ per = 7 ∨ per = 8 := by omega
  rcases this with rfl | rfl | rfl | rfl | rfl | rfl | rfl | rfl <;> (repeat' split) <;> omega
theorem pgI_pos (r per : Int) (h0 : 1 ≤ r) (h1 : 1 ≤ per) (h2 : per ≤ 8) : 1 ≤ pgI r per := by
  unfold pgI
  have : per = 1 ∨ per = 2 ∨ per = 3 ∨ per = 4 ∨ per = 5 ∨ per = 6 ∨ per = 7 ∨ per = 8 := by omega
  rcases this with rfl | rfl | rfl | rfl | rfl | rfl | rfl | rfl <;> split <;> omega
/-- A longer request needs no fewer pages; weights need what they take. -/
theorem longer_plain (D H L V Hd E K W : Int) (k : Int) (n : Nat) (len stop topk : Int) (heat : Nat) (beams pen : Int) (xs : List Int) (hx : xs.length = n) (weights : Int) (hw0 : 0 ≤ weights) (hw : weights < 10000) (len' : Int)
    (hl : (1000 < len ∧ len' = 1001) ∨ (len ≤ 0 ∧ len' = 1) ∨ (0 < len ∧ len ≤ 1000 ∧ len' = len + 1)) (z0 z1 z2 : Int)
    (h0 : needF D H L V Hd E K W k n len stop topk heat beams pen xs 0 = z0) (h1 : needF D H L V Hd E K W k n len stop topk heat beams pen xs weights = z1)
    (h2 : needF D H L V Hd E K W k n len' stop topk heat beams pen xs 0 = z2) :
    (z0 = 0 ∧ z1 = 0) ∨ (1 ≤ z0 ∧ z0 ≤ 1000 ∧ z1 = z0 + (weights + 31) / 32 ∧ (z2 = 0 ∨ (z2 ≠ 0 ∧ z0 ≤ z2))) := by
  unfold needF at h0 h1 h2
  by_cases he : chkI (cfgB D H L V Hd E K W) (rightB k xs len stop topk (decide (isNum heat)) beams pen V) k n len = 0
  · rw [if_pos he] at h0 h1
    obtain ⟨hc, hrb, hn, hk⟩ := chk_zero he
    obtain ⟨_, wb1, wb2⟩ := width_bounds hc
    obtain ⟨pb1, pb2⟩ := per_bounds wb1 wb2
    rw [hc, hrb] at he
    have hf := fine_of D H L V Hd E K W k none n 0 len stop 0 topk heat beams pen xs _ hc hrb he
    obtain ⟨-, -, -, r0, r1, s0, s1⟩ := hf
    have hr1 : 1 ≤ rowsI k n len ∧ rowsI k n len ≤ rowsI k n len' := by
      have hrb' := hrb
      unfold rightB at hrb
      simp only [Bool.and_eq_true, decide_eq_true_eq] at hrb
      obtain ⟨⟨hp, -⟩, hrest⟩ := hrb
      by_cases k4 : k = 4
      · subst k4
        have e1 : rowsI 4 n len = n := rfl
        have e2 : rowsI 4 n len' = n := rfl
        omega
      · have e1 : rowsI k n len = n + len := by unfold rowsI; rw [if_neg k4]
        have e2 : rowsI k n len' = n + len' := by unfold rowsI; rw [if_neg k4]
        have : 1 ≤ len := by
          unfold restB at hrest
          split at hrest
          · simp only [Bool.and_eq_true, decide_eq_true_eq] at hrest; omega
          · split at hrest
            · simp only [Bool.and_eq_true, decide_eq_true_eq] at hrest; omega
            · split at hrest
              · simp only [Bool.and_eq_true, decide_eq_true_eq] at hrest; omega
              · simp only [decide_eq_true_eq] at hrest; omega
        omega
    have g1 := pgI_bounds _ _ r0 r1 pb1 pb2
    have g2 := pgI_pos _ _ hr1.1 pb1 pb2
    have g3 := pgI_mono _ _ _ r0 hr1.2 pb1 pb2
    right
    have w0 : wpagesI 0 = 0 := rfl
    have w1 : wpagesI weights = (weights + 31) / 32 := by
      unfold wpagesI
      split <;> omega
    unfold needI at h0 h1
    rw [w0] at h0
    rw [w1] at h1
    have hs : seqI k beams = 1 ∨ seqI k beams = 2 ∨ seqI k beams = 3 ∨ seqI k beams = 4 := by omega
    have hz2 : z2 = 0 ∨ z2 = seqI k beams * (pgI (rowsI k n len') (32 / (2 * D * L)) + if 1 < seqI k beams then 1 else 0) := by
      by_cases he2 : chkI (cfgB D H L V Hd E K W) (rightB k xs len' stop topk (decide (isNum heat)) beams pen V) k n len' = 0
      · rw [if_pos he2] at h2
        right
        unfold needI at h2
        rw [w0] at h2
        omega
      · rw [if_neg he2] at h2
        exact .inl h2.symm
    generalize pgI (rowsI k n len') (32 / (2 * D * L)) = P' at *
    generalize pgI (rowsI k n len) (32 / (2 * D * L)) = P at *
    generalize seqI k beams = S at *
    clear h2
    rcases hs with rfl | rfl | rfl | rfl <;> simp at h0 h1 hz2 <;> omega
  · rw [if_neg he] at h0 h1
    exact .inl ⟨h0.symm, h1.symm⟩
theorem small10k (a : Int) : 0 ≤ wrap64 ((IntKind.u64.wrap a).tmod 10000) ∧ wrap64 ((IntKind.u64.wrap a).tmod 10000) < 10000 := by
  have h0 : 0 ≤ IntKind.u64.wrap a := by
    have : IntKind.u64.wrap a = a % 2 ^ 64 := rfl
    omega
  have h1 : (IntKind.u64.wrap a).tmod 10000 = IntKind.u64.wrap a % 10000 := Int.tmod_eq_emod_of_nonneg h0
  rw [h1]
  have : wrap64 (IntKind.u64.wrap a % 10000) = IntKind.u64.wrap a % 10000 := by unfold wrap64; omega
  omega
set_option maxHeartbeats 1000000 in
theorem longer_at (D H L V Hd E K W : Int) (k : Int) (p : Option Addr) (n cap : Nat) (len stop seed topk : Int) (heat : Nat) (beams pen : Int) (xs : List Int) (w : World) (hr : Rd w p n xs) (hn : n ≤ 100)
    (weights A : Int) (hA : wrap64 ((IntKind.u64.wrap weights).tmod 10000) = A) (hA0 : 0 ≤ A) (hA1 : A < 10000) (Q : Int) (hq : (A + 31).tdiv 32 = Q) (hq1 : 0 ≤ Q) (hq2 : Q ≤ 400) (len' : Int)
    (hl : (1000 < len ∧ len' = 1001) ∨ (len ≤ 0 ∧ len' = 1) ∨ (0 < len ∧ len ≤ 1000 ∧ len' = len + 1)) (z0 z1 z2 : Int)
    (N0 : ∀ (p : Option Addr) (cap : Nat) w, Rd w p n xs → Calls Try.prog 14 #[cfgV D H L V Hd E K W, askV k p n cap len stop seed topk heat beams pen, .int .i64 0] w fun e w' => e = .returned (.int .i64 z0) ∧ Below w.heap.size w w')
    (N1 : ∀ (p : Option Addr) (cap : Nat) w, Rd w p n xs → Calls Try.prog 14 #[cfgV D H L V Hd E K W, askV k p n cap len stop seed topk heat beams pen, .int .i64 A] w fun e w' => e = .returned (.int .i64 z1) ∧ Below w.heap.size w w')
    (N2 : ∀ (p : Option Addr) (cap : Nat) w, Rd w p n xs → Calls Try.prog 14 #[cfgV D H L V Hd E K W, askV k p n cap len' stop seed topk heat beams pen, .int .i64 0] w fun e w' => e = .returned (.int .i64 z2) ∧ Below w.heap.size w w')
    (hz : (z0 = 0 ∧ z1 = 0) ∨ (1 ≤ z0 ∧ z0 ≤ 1000 ∧ z1 = z0 + Q ∧ (z2 = 0 ∨ (z2 ≠ 0 ∧ z0 ≤ z2)))) :
    Calls Try.prog 7 #[cfgV D H L V Hd E K W, askV k p n cap len stop seed topk heat beams pen, .int .i64 weights] w fun e w' => e = .returned (.bool true) ∧ Below w.heap.size w w' := by
  have HA := Lib.hid hA
  have K0 := Lib.hid N0
  have K1 := Lib.hid N1
  have K2 := Lib.hid N2
  have HR := Lib.hid hr
  have HZ := Lib.hid hz
  have hn1 : (n : Int) ≤ 100 := by omega
  clear hA N0 N1 N2 hr hz
  go_enter Try.func7, Try.ntmps7
  go_wp2_with fail
  refine (works_true _).mono ?_
  rintro e w1 ⟨rfl, hb1⟩
  have C0 : Bk w1 w.heap.size #[.int .i64 D, .int .i64 H, .int .i64 L, .int .i64 V, .int .i64 Hd, .int .i64 E, .int .i64 K, .int .i64 W] 33 := ((Bk.new w _ _).alloc _).below hb1 (by simp; omega)
  have C1 : Bk w1 (w.heap.size + 1) #[.int .i64 k, .slice p n cap, .int .i64 len, .int .i64 stop, .int .u64 seed, .int .i64 topk, .float .f64 heat, .int .i64 beams, .int .i64 pen] 38 := (Bk.new' _ _ _ _ (by simp)).below hb1 (by simp)
  have bel : Below w.heap.size w w1 := below_step (((Below.refl _ _).alloc (Nat.le_refl _) _).alloc (by simp) _) hb1
  have hz1 := hb1.size
  simp only [World.size_alloc] at hz1
  have hrd1 : Rd w1 p n xs := HR.out.below bel
  have HR1 := Lib.hid hrd1
  have HB1 := Lib.hid bel
  obtain ⟨f0, f1, f2, f3, f4, f5, f6, f7, f8, f9, f10, f11, f12, f13, f14, f15, f16⟩ := held17 C0 C1
  have HC0 := Lib.hid C0
  have HC1 := Lib.hid C1
  have e0 : w.heap.size < w1.heap.size := by omega
  have e1 : w.heap.size + 1 < w1.heap.size := by omega
  clear hb1 bel hrd1 C0 C1 hz1
  go_wp2_with fail
  refine (K0.out p cap w1 HR1.out).mono ?_
  rintro e w2 ⟨rfl, hb2⟩
  clear f0 f1 f2 f3 f4 f5 f6 f7 f8 f9 f10 f11 f12 f13 f14 f15 f16
  have C0 := HC0.out.below hb2 e0
  have C1 := HC1.out.below hb2 e1
  obtain ⟨f0, f1, f2, f3, f4, f5, f6, f7, f8, f9, f10, f11, f12, f13, f14, f15, f16⟩ := held17 C0 C1
  have HC0 := Lib.hid C0
  have HC1 := Lib.hid C1
  have HR2 := Lib.hid (HR1.out.below hb2)
  have HB2 := Lib.hid (below_step HB1.out hb2)
  have e0 := Nat.lt_of_lt_of_le e0 hb2.size
  have e1 := Nat.lt_of_lt_of_le e1 hb2.size
  clear hb2 C0 C1
  go_wp2_with fail
  rw [HA.out]
  refine (K1.out p cap w2 HR2.out).mono ?_
  rintro e w3 ⟨rfl, hb3⟩
  clear f0 f1 f2 f3 f4 f5 f6 f7 f8 f9 f10 f11 f12 f13 f14 f15 f16
  have C0 := HC0.out.below hb3 e0
  have C1 := HC1.out.below hb3 e1
  obtain ⟨f0, f1, f2, f3, f4, f5, f6, f7, f8, f9, f10, f11, f12, f13, f14, f15, f16⟩ := held17 C0 C1
  have HC0 := Lib.hid C0
  have HC1 := Lib.hid C1
  have HR3 := Lib.hid (HR2.out.below hb3)
  have HB3 := Lib.hid (below_step HB2.out hb3)
  have e0 := Nat.lt_of_lt_of_le e0 hb3.size
  have e1 := Nat.lt_of_lt_of_le e1 hb3.size
  clear hb3 C0 C1
  go_wp2_with fail
  all_goals
    have hl' := hl
    clear hl
    rcases hl' with ⟨h1, rfl⟩ | ⟨h1, rfl⟩ | ⟨h1, h2, rfl⟩ <;> first | (exfalso; omega) | skip
  · refine (K2.out p cap _ (HR3.out.below ((Below.refl _ _).alloc (Nat.le_refl _) _))).mono ?_
    rintro e w4 ⟨rfl, hb4⟩
    have HB4 := Lib.hid (below_step (HB3.out.alloc HB3.out.size _) hb4)
    clear hb4
    have hz := HZ.out
    clear HZ HC0 HC1 K0 K1 K2
    rcases hz with ⟨rfl, rfl⟩ | ⟨hz1, hz2, rfl, hz3⟩
    · go_wp2
      exact bodyPost_ret (v := .bool true) (by simp [results, Try.results7, go_sem]) rfl ⟨rfl, HB4.out⟩
    · rcases hz3 with rfl | ⟨hz3, hz4⟩
      all_goals
        go_wp2
        exact bodyPost_ret (v := .bool true) (by simp [results, Try.results7, go_sem]) rfl ⟨rfl, HB4.out⟩
  · refine (K2.out p cap _ (HR3.out.below ((Below.refl _ _).alloc (Nat.le_refl _) _))).mono ?_
    rintro e w4 ⟨rfl, hb4⟩
    have HB4 := Lib.hid (below_step (HB3.out.alloc HB3.out.size _) hb4)
    clear hb4
    have hz := HZ.out
    clear HZ HC0 HC1 K0 K1 K2
    rcases hz with ⟨rfl, rfl⟩ | ⟨hz1, hz2, rfl, hz3⟩
    · go_wp2
      exact bodyPost_ret (v := .bool true) (by simp [results, Try.results7, go_sem]) rfl ⟨rfl, HB4.out⟩
    · rcases hz3 with rfl | ⟨hz3, hz4⟩
      all_goals
        go_wp2
        exact bodyPost_ret (v := .bool true) (by simp [results, Try.results7, go_sem]) rfl ⟨rfl, HB4.out⟩
  · refine (K2.out p cap _ (HR3.out.below ((Below.refl _ _).alloc (Nat.le_refl _) _))).mono ?_
    rintro e w4 ⟨rfl, hb4⟩
    have HB4 := Lib.hid (below_step (HB3.out.alloc HB3.out.size _) hb4)
    clear hb4
    have hz := HZ.out
    clear HZ HC0 HC1 K0 K1 K2
    rcases hz with ⟨rfl, rfl⟩ | ⟨hz1, hz2, rfl, hz3⟩
    · go_wp2
      exact bodyPost_ret (v := .bool true) (by simp [results, Try.results7, go_sem]) rfl ⟨rfl, HB4.out⟩
    · rcases hz3 with rfl | ⟨hz3, hz4⟩
      all_goals
        go_wp2
        exact bodyPost_ret (v := .bool true) (by simp [results, Try.results7, go_sem]) rfl ⟨rfl, HB4.out⟩
theorem longer_out (D H L V Hd E K W : Int) (k : Int) (p : Option Addr) (n cap : Nat) (len stop seed topk : Int) (heat : Nat) (beams pen : Int) (w : World) (hn : (100 : Int) < (n : Int)) (weights : Int) :
    Calls Try.prog 7 #[cfgV D H L V Hd E K W, askV k p n cap len stop seed topk heat beams pen, .int .i64 weights] w fun e w' => e = .returned (.bool true) ∧ Below w.heap.size w w' := by
  go_enter Try.func7, Try.ntmps7
  go_wp2_with fail
  refine (works_true _).mono ?_
  rintro e w1 ⟨rfl, hb1⟩
  have C1 : Bk w1 (w.heap.size + 1) #[.int .i64 k, .slice p n cap, .int .i64 len, .int .i64 stop, .int .u64 seed, .int .i64 topk, .float .f64 heat, .int .i64 beams, .int .i64 pen] 38 := (Bk.new' _ _ _ _ (by simp)).below hb1 (by simp)
  have bel : Below w.heap.size w w1 := below_step (((Below.refl _ _).alloc (Nat.le_refl _) _).alloc (by simp) _) hb1
  have f1 := C1.cell 1 (.slice p n cap) rfl
  clear hb1 C1
  go_wp2
  go_ret
  exact ⟨rfl, bel⟩
theorem longer_walk (D H L V Hd E K W : Int) (k : Int) (p : Option Addr) (n cap : Nat) (len stop seed topk : Int) (heat : Nat) (beams pen : Int) (xs : List Int) (hh : heat < 2 ^ 64) (weights : Int) (w : World) (hr : Rd w p n xs) :
    Calls Try.prog 7 #[cfgV D H L V Hd E K W, askV k p n cap len stop seed topk heat beams pen, .int .i64 weights] w fun e w' => e = .returned (.bool true) ∧ Below w.heap.size w w' := by
  by_cases hn : (100 : Int) < (n : Int)
  · exact longer_out D H L V Hd E K W k p n cap len stop seed topk heat beams pen w hn weights
  · have hA := small10k weights
    obtain ⟨len', hl⟩ : ∃ len', (1000 < len ∧ len' = 1001) ∨ (len ≤ 0 ∧ len' = 1) ∨ (0 < len ∧ len ≤ 1000 ∧ len' = len + 1) := by
      by_cases h1 : 1000 < len
      · exact ⟨1001, .inl ⟨h1, rfl⟩⟩
      · by_cases h2 : len ≤ 0
        · exact ⟨1, .inr (.inl ⟨h2, rfl⟩)⟩
        · exact ⟨len + 1, .inr (.inr ⟨by omega, by omega, rfl⟩)⟩
    exact longer_at D H L V Hd E K W k p n cap len stop seed topk heat beams pen xs w hr (by omega) weights _ rfl hA.1 hA.2 _ (Int.tdiv_eq_ediv_of_nonneg (by omega)) (by omega) (by omega) len' hl _ _ _
      (need_F D H L V Hd E K W k n len stop seed topk heat beams pen xs hh 0 (by omega) (by omega))
      (need_F D H L V Hd E K W k n len stop seed topk heat beams pen xs hh _ (by omega) (by omega))
      (need_F D H L V Hd E K W k n len' stop seed topk heat beams pen xs hh 0 (by omega) (by omega))
      (longer_plain D H L V Hd E K W k n len stop topk heat beams pen xs hr.1 _ hA.1 hA.2 len' hl _ _ _ rfl rfl rfl)
end Go.Proofs.Ytkmpjdffhbokdaa.awk
