/- aviarylaw22.works: it answers true. -/
import Derived.Test.YtkmpjdffhbokdaaNdz
import Derived.Test.YtkmpjdffhbokdaaDec
import Derived.Test.YtkmpjdffhbokdaaLoads
namespace Go.Proofs.Ytkmpjdffhbokdaa.awk
open Go.ChangeShapes Go.WideShapes Go.ChangeAt Go.RowKit K Fl ldx cfg _root_.Go.Proofs.Ytkmpjdffhbokdaa.ask
open dec (facts decF dec11 dec13 to12)
set_option linter.unusedVariables false
set_option linter.unusedSimpArgs false
theorem well_call (w : World) :
    Calls Try.prog 27 #[] w fun e w' => e = .returned (facts true false true false true 0 0 3 3) ∧ Below w.heap.size w w' := by
  go_enter Try.func27, Try.ntmps27
  go_wp2
  exact bodyPost_ret (v := facts true false true false true 0 0 3 3) (by simp [results, Try.results27, go_sem]) rfl ⟨rfl, by repeat (first | exact Below.refl _ _ | refine Below.alloc ?_ (by simp) _)⟩
theorem need_works (p : Option Addr) (cap : Nat) (w : World) (hr : Rd w p 5 [0, 0, 0, 0, 0]) :
    Calls Try.prog 14 #[cfgV 2 1 1 2 1 0 0 0, askV 1 p 5 cap 4 (-1) 0 0 0 0 0, .int .i64 0] w fun e w' => e = .returned (.int .i64 2) ∧ Below w.heap.size w w' := by
  have hc : cfgB 2 1 1 2 1 0 0 0 = true := by decide +kernel
  have hb : rightB 1 [0, 0, 0, 0, 0] 4 (-1) 0 (decide (isNum 0)) 0 0 2 = true := by decide +kernel
  have hk : chkI true true 1 5 4 = 0 := by decide +kernel
  have h := need_ok_c 2 1 1 2 1 0 0 0 1 p 5 cap 4 (-1) 0 0 0 0 0 [0, 0, 0, 0, 0] (by decide) w hr hb _ _ (fine_of 2 1 1 2 1 0 0 0 1 p 5 cap 4 (-1) 0 0 0 0 0 [0, 0, 0, 0, 0] _ hc hb hk) hk 0 (by omega) (by omega)
  rw [show needI (rowsI 1 5 4) (seqI 1 0) (32 / (2 * 2 * 1)) 0 = 2 from by decide +kernel] at h
  exact h
theorem works_true (w : World) : Calls Try.prog 16 #[] w fun e w' => e = .returned (.bool true) ∧ Below w.heap.size w w' := by
  have d1 : decF true false true false true 0 0 3 3 = 0 := by decide
  have d2 : decF true false true false true 0 0 3 2 = 6 := by decide
  have l1 : loads.loadF true false 2 5 3 = 0 := by decide
  have l2 : loads.loadF true false 2 5 4 = 6 := by decide
  have l3 : loads.loadF false true 1 1 0 = 1 := by decide
  have d3 : decF false false false false false 0 0 0 0 = 1 := by decide
  go_enter Try.func16, Try.ntmps16
  go_wp2_with fail
  refine (well_call _).mono ?_
  rintro e w1 ⟨rfl, hb1⟩
  obtain ⟨hc1, hf1⟩ := bcell hb1
  go_wp2_with fail
  refine (well_call _).mono ?_
  rintro e w2 ⟨rfl, hb2⟩
  obtain ⟨hc2, hf2⟩ := bcell hb2
  have hz2 := hb2.size
  (try simp at hz2)
  have t2_0 : w1.heap.size < w2.heap.size := by omega
  have u2_0 : w1.heap.size < w2.heap.size + 1 := by omega
  have v2_0 : w1.heap.size < w2.heap.size + 1 + 1 := by omega
  go_wp2_with fail
  refine (dec11 _ _ _ _ _ _ _ _ _ _).mono ?_
  rintro e w3 ⟨rfl, hb3⟩
  obtain ⟨hc3, hf3⟩ := bcell hb3
  have hz3 := hb3.size
  (try simp at hz3)
  have t3_0 : w1.heap.size < w3.heap.size := by omega
  have u3_0 : w1.heap.size < w3.heap.size + 1 := by omega
  have v3_0 : w1.heap.size < w3.heap.size + 1 + 1 := by omega
  have t3_1 : w2.heap.size < w3.heap.size := by omega
  have u3_1 : w2.heap.size < w3.heap.size + 1 := by omega
  have v3_1 : w2.heap.size < w3.heap.size + 1 + 1 := by omega
  have t3_2 : w2.heap.size + 1 < w3.heap.size := by omega
  have u3_2 : w2.heap.size + 1 < w3.heap.size + 1 := by omega
  have v3_2 : w2.heap.size + 1 < w3.heap.size + 1 + 1 := by omega
  go_wp2_with fail
  refine (dec11 _ _ _ _ _ _ _ _ _ _).mono ?_
  rintro e w4 ⟨rfl, hb4⟩
  obtain ⟨hc4, hf4⟩ := bcell hb4
  have hz4 := hb4.size
  (try simp at hz4)
  have t4_0 : w1.heap.size < w4.heap.size := by omega
  have u4_0 : w1.heap.size < w4.heap.size + 1 := by omega
  have v4_0 : w1.heap.size < w4.heap.size + 1 + 1 := by omega
  have t4_1 : w2.heap.size < w4.heap.size := by omega
  have u4_1 : w2.heap.size < w4.heap.size + 1 := by omega
  have v4_1 : w2.heap.size < w4.heap.size + 1 + 1 := by omega
  have t4_2 : w2.heap.size + 1 < w4.heap.size := by omega
  have u4_2 : w2.heap.size + 1 < w4.heap.size + 1 := by omega
  have v4_2 : w2.heap.size + 1 < w4.heap.size + 1 + 1 := by omega
  go_wp2_with fail
  refine (dec11 _ _ _ _ _ _ _ _ _ _).mono ?_
  rintro e w5 ⟨rfl, hb5⟩
  obtain ⟨hc5, hf5⟩ := bcell hb5
  have hz5 := hb5.size
  (try simp at hz5)
  have t5_0 : w1.heap.size < w5.heap.size := by omega
  have u5_0 : w1.heap.size < w5.heap.size + 1 := by omega
  have v5_0 : w1.heap.size < w5.heap.size + 1 + 1 := by omega
  have t5_1 : w2.heap.size < w5.heap.size := by omega
  have u5_1 : w2.heap.size < w5.heap.size + 1 := by omega
  have v5_1 : w2.heap.size < w5.heap.size + 1 + 1 := by omega
  have t5_2 : w2.heap.size + 1 < w5.heap.size := by omega
  have u5_2 : w2.heap.size + 1 < w5.heap.size + 1 := by omega
  have v5_2 : w2.heap.size + 1 < w5.heap.size + 1 + 1 := by omega
  go_wp2_with fail
  have BL : Bk (w5.alloc (.cells #[.int .i64 0, .int .i64 0, .int .i64 0, .int .i64 0, .int .i64 0] 3)) w5.heap.size #[.int .i64 0, .int .i64 0, .int .i64 0, .int .i64 0, .int .i64 0] 3 := Bk.new _ _ _
  have hrd : Rd (w5.alloc (.cells #[.int .i64 0, .int .i64 0, .int .i64 0, .int .i64 0, .int .i64 0] 3)) (some ⟨w5.heap.size, 0, none⟩) 5 [0, 0, 0, 0, 0] := by
    refine ⟨rfl, by omega, fun _ => ⟨w5.heap.size, 0, rfl, by simp, fun j hj => ?_⟩⟩
    have : j = 0 ∨ j = 1 ∨ j = 2 ∨ j = 3 ∨ j = 4 := by omega
    rcases this with rfl | rfl | rfl | rfl | rfl <;> exact BL.cell _ _ rfl
  refine (need_works _ _ _ hrd).mono ?_
  rintro e w6 ⟨rfl, hb6⟩
  clear hrd BL
  go_wp2_with (go_at_call 9; refine (loads.load9 _ _ _ _ _ _).mono ?_; rintro e w' ⟨rfl, rfl⟩)
  go_ret
  refine ⟨rfl, ?_⟩
  have e1 := below_step (Below.refl _ w) hb1
  have e2 := below_step (e1.alloc hb1.size _) hb2
  have e3 : Below w.heap.size w w3 := below_step ((e2.alloc e2.size _).alloc (Nat.le_trans e2.size (by simp)) _) hb3
  have e4 := below_step e3 hb4
  have e5 := below_step e4 hb5
  exact below_step (e5.alloc e5.size _) hb6
end Go.Proofs.Ytkmpjdffhbokdaa.awk
