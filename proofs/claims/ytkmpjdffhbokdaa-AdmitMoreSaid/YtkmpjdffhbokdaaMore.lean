/- AdmitMore: the walk. -/
import Derived.Test.YtkmpjdffhbokdaaAWk
import Derived.BigRegion
import Derived.Deep.RegionHeld3
namespace Go.Proofs.Ytkmpjdffhbokdaa.awk
open Go.ChangeShapes Go.WideShapes Go.ChangeAt Go.RowKit K Fl ldx cfg _root_.Go.Proofs.Ytkmpjdffhbokdaa.ask
open dec (facts decF dec11 dec13 to12)
set_option linter.unusedVariables false
set_option linter.unusedSimpArgs false
/-- More room, and less that waits, refuses nothing that was taken. -/
theorem more_plain (t tw m d ad : Bool) (asked waiting need room A B : Int) (hA : room ≤ A) (hB : B ≤ waiting) :
    decF t tw m d ad asked waiting need room = decF t tw m d ad asked B need A ∨
    (decF t tw m d ad asked waiting need room = 5 ∧ decF t tw m d ad asked B need A = 6) ∨ (decF t tw m d ad asked waiting need room = 5 ∧ decF t tw m d ad asked B need A = 0) ∨
    (decF t tw m d ad asked waiting need room = 6 ∧ decF t tw m d ad asked B need A = 0) := by
  unfold decF
  cases t <;> cases tw <;> cases m <;> cases ad <;> cases d <;> simp only [Bool.false_eq_true, if_true, if_false, true_or] <;> first | (left; rfl) | ((repeat' split) <;> omega)
theorem more_at (t tw m d ad : Bool) (asked waiting need room : Int) (r2 w2' A B a b : Int)
    (hA : (room < r2 ∧ r2 = A) ∨ (r2 ≤ room ∧ room = A)) (hB : (w2' < waiting ∧ w2' = B) ∨ (waiting ≤ w2' ∧ waiting = B))
    (h1 : decF t tw m d ad asked waiting need room = a) (h2 : decF t tw m d ad asked B need A = b) (hab : a = b ∨ (a = 5 ∧ b = 6) ∨ (a = 5 ∧ b = 0) ∨ (a = 6 ∧ b = 0)) (w : World) :
    Calls Try.prog 6 #[facts t tw m d ad asked waiting need room, .int .i64 r2, .int .i64 w2'] w fun e w' => e = .returned (.bool true) ∧ Below w.heap.size w w' := by
  have D1 := Lib.hid (fun w => dec11 t tw m d ad asked waiting need room w)
  rw [h1] at D1
  have D2 := Lib.hid (fun w => dec11 t tw m d ad asked B need A w)
  rw [h2] at D2
  have HAB := Lib.hid hab
  clear h1 h2 hab
  rcases hA with ⟨hA, rfl⟩ | ⟨hA, rfl⟩ <;> rcases hB with ⟨hB, rfl⟩ | ⟨hB, rfl⟩
  all_goals
    go_enter Try.func6, Try.ntmps6
    go_wp2_with fail
    refine (works_true _).mono ?_
    rintro e w1 ⟨rfl, hb1⟩
    obtain ⟨hc1, hf1⟩ := bcell hb1
    have hz1 := hb1.size
    (try simp at hz1)
    have t1 : w.heap.size < w1.heap.size := by omega
    go_wp2_with fail
    refine (to12 _ _ _ _ _ _ _ _ _ _).mono ?_
    rintro e w2 ⟨rfl, hb2⟩
    obtain ⟨hc2, hf2⟩ := bcell hb2
    have hz2 := hb2.size
    have t2 : w.heap.size < w2.heap.size := by omega
    go_wp2_with fail
    refine (D1.out _).mono ?_
    rintro e w3 ⟨rfl, hb3⟩
    obtain ⟨hc3, hf3⟩ := bcell hb3
    have hz3 := hb3.size
    have t3 : w.heap.size < w3.heap.size := by omega
    go_wp2_with fail
    have B0 : Bk (w3.alloc (.cells #[.bool t, .bool tw, .bool m, .bool d, .bool ad, .int .i64 asked, .int .i64 waiting, .int .i64 need, .int .i64 room] 26)) w.heap.size #[.bool t, .bool tw, .bool m, .bool d, .bool ad, .int .i64 asked, .int .i64 waiting, .int .i64 need, .int .i64 room] 26 :=
      ((((Bk.new w _ _).below hb1 (by simp)).below hb2 t1).below hb3 t2).alloc _
    have B1 : Bk (w3.alloc (.cells #[.bool t, .bool tw, .bool m, .bool d, .bool ad, .int .i64 asked, .int .i64 waiting, .int .i64 need, .int .i64 room] 26)) w3.heap.size #[.bool t, .bool tw, .bool m, .bool d, .bool ad, .int .i64 asked, .int .i64 waiting, .int .i64 need, .int .i64 room] 26 := Bk.new _ _ _
    have bel4 := ((below_step (below_step (below_step ((Below.refl _ w).alloc (Nat.le_refl _) _) hb1) hb2) hb3).alloc (Nat.le_of_lt t3) (.cells #[.bool t, .bool tw, .bool m, .bool d, .bool ad, .int .i64 asked, .int .i64 waiting, .int .i64 need, .int .i64 room] 26))
    generalize hG : w3.heap.size = G at *
    generalize w3.alloc (.cells #[.bool t, .bool tw, .bool m, .bool d, .bool ad, .int .i64 asked, .int .i64 waiting, .int .i64 need, .int .i64 room] 26) = w4 at *
    have HB4 := Lib.hid bel4
    have HB0 := Lib.hid B0
    have HB1 := Lib.hid B1
    have hgG : w.heap.size ≤ G := by omega
    have q6 := B0.cell 6 _ rfl
    have q8 := B0.cell 8 _ rfl
    have r6 := B1.cell 6 _ rfl
    have r8 := B1.cell 8 _ rfl
    have z6 := B1.free 6
    have z8 := B1.free 8
    clear bel4 B0 B1 hc1 hf1 hc2 hf2 hc3 hf3 hz1 hz2 hz3 hb1 hb2 hb3 t1 t2 hG
    go_region
    have p0 := HB1.out.cell 0 _ rfl
    have p1 := HB1.out.cell 1 _ rfl
    have p2 := HB1.out.cell 2 _ rfl
    have p3 := HB1.out.cell 3 _ rfl
    have p4 := HB1.out.cell 4 _ rfl
    have p5 := HB1.out.cell 5 _ rfl
    have p7 := HB1.out.cell 7 _ rfl
    go_wp2_with fail
    refine (to12 _ _ _ _ _ _ _ _ _ _).mono ?_
    rintro e w6 ⟨rfl, hb6⟩
    go_wp2_with fail
    refine (D2.out _).mono ?_
    rintro e w7 ⟨rfl, hb7⟩
    have hab := HAB.out
    clear HAB
    rcases hab with rfl | ⟨rfl, rfl⟩ | ⟨rfl, rfl⟩ | ⟨rfl, rfl⟩
    all_goals
      go_wp2
      go_ret
      exact ⟨by simp, below_step (below_step (((HB4.out.setCell (by simp; omega) _).setCell (by simp; omega) _).drew) hb6) hb7⟩
theorem more_walk (t tw m d ad : Bool) (asked waiting need room : Int) (r2 w2' : Int) (w : World) :
    Calls Try.prog 6 #[facts t tw m d ad asked waiting need room, .int .i64 r2, .int .i64 w2'] w fun e w' => e = .returned (.bool true) ∧ Below w.heap.size w w' := by
  obtain ⟨A, hA⟩ : ∃ A, (room < r2 ∧ r2 = A) ∨ (r2 ≤ room ∧ room = A) := by
    by_cases h : room < r2
    · exact ⟨r2, .inl ⟨h, rfl⟩⟩
    · exact ⟨room, .inr ⟨by omega, rfl⟩⟩
  obtain ⟨B, hB⟩ : ∃ B, (w2' < waiting ∧ w2' = B) ∨ (waiting ≤ w2' ∧ waiting = B) := by
    by_cases h : w2' < waiting
    · exact ⟨w2', .inl ⟨h, rfl⟩⟩
    · exact ⟨waiting, .inr ⟨by omega, rfl⟩⟩
  exact more_at t tw m d ad asked waiting need room r2 w2' A B _ _ hA hB rfl rfl (more_plain t tw m d ad asked waiting need room A B (by omega) (by omega)) w
end Go.Proofs.Ytkmpjdffhbokdaa.awk
