/- admit.Need and the reference's Need: contracts. -/
import Derived.Test.YtkmpjdffhbokdaaChk
namespace Go.Proofs.Ytkmpjdffhbokdaa.ask
open Go.ChangeShapes Go.WideShapes Go.ChangeAt Go.RowKit K Fl ldx cfg
set_option linter.unusedVariables false
set_option linter.unusedSimpArgs false
/-- Pages that hold so many rows, so many a page. -/
def pgI (rows per : Int) : Int := rows / per + (if 0 < rows % per then 1 else 0)
theorem pgI_eq (rows per : Int) (h0 : 0 ≤ rows) (h1 : 1 ≤ per) (h2 : per ≤ 8) : (rows + per - 1) / per = pgI rows per := by
  unfold pgI
  have : per = 1 ∨ per = 2 ∨ per = 3 ∨ per = 4 ∨ per = 5 ∨ per = 6 ∨ per = 7 ∨ per = 8 := by omega
  rcases this with rfl | rfl | rfl | rfl | rfl | rfl | rfl | rfl <;> split <;> omega
theorem pgI_bounds (rows per : Int) (h0 : 0 ≤ rows) (h24 : rows ≤ 24) (h1 : 1 ≤ per) (h2 : per ≤ 8) : 0 ≤ pgI rows per ∧ pgI rows per ≤ 24 ∧ 0 ≤ rows / per ∧ rows / per ≤ 24 ∧ 0 ≤ rows % per := by
  unfold pgI
  have : per = 1 ∨ per = 2 ∨ per = 3 ∨ per = 4 ∨ per = 5 ∨ per = 6 ∨ per = 7 ∨ per = 8 := by omega
  rcases this with rfl | rfl | rfl | rfl | rfl | rfl | rfl | rfl <;> split <;> omega
def needI (rows seq per weights : Int) : Int := seq * (pgI rows per + (if 1 < seq then 1 else 0)) + wpagesI weights
theorem wpages_bounds (n : Int) (h : n ≤ 1099511627776) : 0 ≤ wpagesI n ∧ wpagesI n ≤ 34359738369 := by
  unfold wpagesI; split <;> omega
/-- All that an answer's need reads, once it may be asked. -/
structure Fine (D H L V Hd E K W : Int) (k : Int) (p : Option Addr) (n cap : Nat) (len stop seed topk : Int) (heat : Nat) (beams pen : Int) (rows seq : Int) : Prop where
  cfg : cfgB D H L V Hd E K W = true
  rows_c : ∀ w, Calls Try.prog 19 #[askV k p n cap len stop seed topk heat beams pen] w fun e w' => e = .returned (.tuple #[.int .i64 rows, .int .i64 seq]) ∧ Below w.heap.size w w'
  rows_r : ∀ w, Calls Try.prog 23 #[askV k p n cap len stop seed topk heat beams pen] w fun e w' => e = .returned (.tuple #[.int .i64 rows, .int .i64 seq]) ∧ Below w.heap.size w w'
  r0 : 0 ≤ rows
  r1 : rows ≤ 24
  s0 : 1 ≤ seq
  s1 : seq ≤ 4
def rowsI (k : Int) (n : Nat) (len : Int) : Int := if k = 4 then n else n + len
def seqI (k beams : Int) : Int := if k = 3 then beams else 1
theorem fine_of (D H L V Hd E K W : Int) (k : Int) (p : Option Addr) (n cap : Nat) (len stop seed topk : Int) (heat : Nat) (beams pen : Int) (xs : List Int) (num : Bool)
    (hc : cfgB D H L V Hd E K W = true) (hr : rightB k xs len stop topk num beams pen V = true) (hk : chkI true true k n len = 0) :
    Fine D H L V Hd E K W k p n cap len stop seed topk heat beams pen (rowsI k n len) (seqI k beams) := by
  unfold rightB at hr
  simp only [Bool.and_eq_true, decide_eq_true_eq] at hr
  obtain ⟨_, hr⟩ := hr
  unfold chkI at hk
  rw [if_neg (by decide), if_neg (by decide)] at hk
  have hn : n ≤ 24 := by
    rcases Nat.lt_or_ge 24 n with h | h
    · rw [if_pos h] at hk; omega
    · exact h
  rw [if_neg (by omega)] at hk
  have hl : k = 4 ∨ len ≤ 24 - (n : Int) := by
    by_cases h : k ≠ 4 ∧ 24 - (n : Int) < len
    · rw [if_pos h] at hk; omega
    · omega
  by_cases k4 : k = 4
  · subst k4
    exact ⟨hc, fun w => rows_c4 p n cap len stop seed topk heat beams pen hn w, fun w => rows_r4 p n cap len stop seed topk heat beams pen hn w, by unfold rowsI; simp, by unfold rowsI; simp; omega, by unfold seqI; simp, by unfold seqI; simp⟩
  · by_cases k3 : k = 3
    · subst k3
      rw [rest_3] at hr
      simp only [Bool.and_eq_true, decide_eq_true_eq] at hr
      have e1 : rowsI 3 n len = n + len := rfl
      have e2 : seqI 3 beams = beams := rfl
      rw [e1, e2]
      exact ⟨hc, fun w => rows_c3 p n cap len stop seed topk heat beams pen hn (by omega) (by omega) w, fun w => rows_r3 p n cap len stop seed topk heat beams pen hn (by omega) (by omega) w, by omega, by omega, by omega, by omega⟩
    · have e1 : rowsI k n len = n + len := by unfold rowsI; rw [if_neg k4]
      have e2 : seqI k beams = 1 := by unfold seqI; rw [if_neg k3]
      rw [e1, e2]
      have h1 : 1 ≤ len := by
        by_cases k2 : k = 2
        · subst k2; rw [rest_2] at hr; simp only [Bool.and_eq_true, decide_eq_true_eq] at hr; omega
        · by_cases k1 : k = 1
          · subst k1; rw [rest_1] at hr; simp only [Bool.and_eq_true, decide_eq_true_eq] at hr; omega
          · rw [rest_o k len stop topk num beams pen V k1 k2 k3] at hr
            simp only [decide_eq_true_eq] at hr
            exact absurd hr k4
      exact ⟨hc, fun w => rows_co k (by simpa using k3) (by simpa using k4) p n cap len stop seed topk heat beams pen hn h1 (by omega) w, fun w => rows_ro k (by simpa using k3) (by simpa using k4) p n cap len stop seed topk heat beams pen hn h1 (by omega) w, by omega, by omega, by omega, by omega⟩

theorem need_bad_c (D H L V Hd E K W : Int) (k : Int) (p : Option Addr) (n cap : Nat) (len stop seed topk : Int) (heat : Nat) (beams pen : Int) (xs : List Int) (hh : heat < 2 ^ 64) (w : World) (hr : Rd w p n xs)
    (r : Bool) (hrb : rightB k xs len stop topk (decide (isNum heat)) beams pen V = r) (c : Bool) (hcb : cfgB D H L V Hd E K W = c) (e : Int) (he : chkI c r k n len = e) (hne : (e != 0) = true) (weights : Int) :
    Calls Try.prog 14 #[cfgV D H L V Hd E K W, askV k p n cap len stop seed topk heat beams pen, .int .i64 weights] w fun e w' => e = .returned (.int .i64 0) ∧ Below w.heap.size w w' := by
  have CK := Lib.hid (fun w hr => check_c D H L V Hd E K W k p n cap len stop seed topk heat beams pen xs hh w hr r hrb c hcb)
  rw [he] at CK
  have HR := Lib.hid hr
  clear hrb hcb he hr
  go_enter Try.func14, Try.ntmps14
  go_wp2_with (go_at_call 18; refine (CK.out _ (HR.out.below (by repeat (first | exact Below.refl _ _ | refine below_drewN ?_ _ | refine Below.alloc ?_ (by simp) _)))).mono ?_; rintro e w1 ⟨rfl, hb1⟩; obtain ⟨hc1, hf1⟩ := bcell hb1)
  go_ret
  exact ⟨rfl, below_step (by repeat (first | exact Below.refl _ _ | refine below_drewN ?_ _ | refine Below.alloc ?_ (by simp) _)) hb1⟩
theorem need_bad_r (D H L V Hd E K W : Int) (k : Int) (p : Option Addr) (n cap : Nat) (len stop seed topk : Int) (heat : Nat) (beams pen : Int) (xs : List Int) (hh : heat < 2 ^ 64) (w : World) (hr : Rd w p n xs)
    (r : Bool) (hrb : rightB k xs len stop topk (decide (isNum heat)) beams pen V = r) (c : Bool) (hcb : cfgB D H L V Hd E K W = c) (e : Int) (he : chkI c r k n len = e) (hne : (e != 0) = true) (weights : Int) :
    Calls Try.prog 15 #[cfgV D H L V Hd E K W, askV k p n cap len stop seed topk heat beams pen, .int .i64 weights] w fun e w' => e = .returned (.int .i64 0) ∧ Below w.heap.size w w' := by
  have CK := Lib.hid (fun w hr => check_r D H L V Hd E K W k p n cap len stop seed topk heat beams pen xs hh w hr r hrb c hcb)
  rw [he] at CK
  have HR := Lib.hid hr
  clear hrb hcb he hr
  go_enter Try.func15, Try.ntmps15
  go_wp2_with (go_at_call 22; refine (CK.out _ (HR.out.below (by repeat (first | exact Below.refl _ _ | refine below_drewN ?_ _ | refine Below.alloc ?_ (by simp) _)))).mono ?_; rintro e w1 ⟨rfl, hb1⟩; obtain ⟨hc1, hf1⟩ := bcell hb1)
  go_ret
  exact ⟨rfl, below_step (by repeat (first | exact Below.refl _ _ | refine below_drewN ?_ _ | refine Below.alloc ?_ (by simp) _)) hb1⟩
theorem need_ok_c (D H L V Hd E K W : Int) (k : Int) (p : Option Addr) (n cap : Nat) (len stop seed topk : Int) (heat : Nat) (beams pen : Int) (xs : List Int) (hh : heat < 2 ^ 64) (w : World) (hr : Rd w p n xs)
    (hrb : rightB k xs len stop topk (decide (isNum heat)) beams pen V = true) (rows seq : Int) (hf : Fine D H L V Hd E K W k p n cap len stop seed topk heat beams pen rows seq) (he : chkI true true k n len = 0) (weights : Int) (hw1 : -9223372036854775808 ≤ weights) (hw2 : weights ≤ 1099511627776) :
    Calls Try.prog 14 #[cfgV D H L V Hd E K W, askV k p n cap len stop seed topk heat beams pen, .int .i64 weights] w fun e w' => e = .returned (.int .i64 (needI rows seq (32 / (2 * D * L)) weights)) ∧ Below w.heap.size w w' := by
  have CK := Lib.hid (fun w hr => check_c D H L V Hd E K W k p n cap len stop seed topk heat beams pen xs hh w hr true hrb true hf.cfg)
  rw [he] at CK
  have HR := Lib.hid hr
  have RW := Lib.hid hf.rows_c
  have WD := Lib.hid (fun w => width_c D H L V Hd E K W hf.cfg w)
  obtain ⟨nb1, nb2⟩ := wpages_bounds weights hw2
  have NW := Lib.hid (fun w => need_c weights hw1 (by omega) w)
  obtain ⟨_, wb1, wb2⟩ := width_bounds hf.cfg
  obtain ⟨pb1, pb2⟩ := per_bounds wb1 wb2
  obtain ⟨_, _, _, rb1, rb2, sb1, sb2⟩ := hf
  obtain ⟨gb1, gb2, gb3, gb4, gb5⟩ := pgI_bounds rows (32 / (2 * D * L)) rb1 rb2 pb1 pb2
  generalize 2 * D * L = c at *
  clear hrb he hr
  have hs : seq = 1 ∨ seq = 2 ∨ seq = 3 ∨ seq = 4 := by omega
  by_cases hm : 0 < rows % (32 / c)
  · have hp : pgI rows (32 / c) = rows / (32 / c) + 1 := by unfold pgI; rw [if_pos hm]
    rcases hs with rfl | rfl | rfl | rfl
    all_goals
      go_enter Try.func14, Try.ntmps14
      go_wp2_with (first | (go_at_call 18; refine (CK.out _ (HR.out.below (by repeat (first | exact Below.refl _ _ | refine below_drewN ?_ _ | refine Below.alloc ?_ (by simp) _)))).mono ?_; rintro e w1 ⟨rfl, hb1⟩; obtain ⟨hc1, hf1⟩ := bcell hb1; have hz1a : w.heap.size < w1.heap.size := Nat.lt_of_lt_of_le (by simp; omega) hb1.size; have hz1b : w.heap.size + 1 < w1.heap.size := Nat.lt_of_lt_of_le (by simp) hb1.size) | (go_at_call 19; refine (RW.out _).mono ?_; rintro e w2 ⟨rfl, hb2⟩; obtain ⟨hc2, hf2⟩ := bcell hb2; have hz2a : w.heap.size < w2.heap.size := Nat.lt_of_lt_of_le hz1a hb2.size; have hz2b : w.heap.size + 1 < w2.heap.size := Nat.lt_of_lt_of_le hz1b hb2.size) | (go_at_call 20; refine (WD.out _).mono ?_; rintro e w3 ⟨rfl, hb3⟩; obtain ⟨hc3, hf3⟩ := bcell hb3) | (go_at_call 21; refine (NW.out _).mono ?_; rintro e w4 ⟨rfl, rfl⟩))
      go_ret
      refine ⟨ret_int ?_, below_step (below_step (below_step (by repeat (first | exact Below.refl _ _ | refine below_drewN ?_ _ | refine Below.alloc ?_ (by simp) _)) hb1) hb2) hb3⟩
      unfold needI
      rw [hp]
      (try simp)
      (try omega)
  · have hp : pgI rows (32 / c) = rows / (32 / c) := by unfold pgI; rw [if_neg hm]; omega
    rcases hs with rfl | rfl | rfl | rfl
    all_goals
      go_enter Try.func14, Try.ntmps14
      go_wp2_with (first | (go_at_call 18; refine (CK.out _ (HR.out.below (by repeat (first | exact Below.refl _ _ | refine below_drewN ?_ _ | refine Below.alloc ?_ (by simp) _)))).mono ?_; rintro e w1 ⟨rfl, hb1⟩; obtain ⟨hc1, hf1⟩ := bcell hb1; have hz1a : w.heap.size < w1.heap.size := Nat.lt_of_lt_of_le (by simp; omega) hb1.size; have hz1b : w.heap.size + 1 < w1.heap.size := Nat.lt_of_lt_of_le (by simp) hb1.size) | (go_at_call 19; refine (RW.out _).mono ?_; rintro e w2 ⟨rfl, hb2⟩; obtain ⟨hc2, hf2⟩ := bcell hb2; have hz2a : w.heap.size < w2.heap.size := Nat.lt_of_lt_of_le hz1a hb2.size; have hz2b : w.heap.size + 1 < w2.heap.size := Nat.lt_of_lt_of_le hz1b hb2.size) | (go_at_call 20; refine (WD.out _).mono ?_; rintro e w3 ⟨rfl, hb3⟩; obtain ⟨hc3, hf3⟩ := bcell hb3) | (go_at_call 21; refine (NW.out _).mono ?_; rintro e w4 ⟨rfl, rfl⟩))
      go_ret
      refine ⟨ret_int ?_, below_step (below_step (below_step (by repeat (first | exact Below.refl _ _ | refine below_drewN ?_ _ | refine Below.alloc ?_ (by simp) _)) hb1) hb2) hb3⟩
      unfold needI
      rw [hp]
      (try simp)
      (try omega)
theorem need_ok_r (D H L V Hd E K W : Int) (k : Int) (p : Option Addr) (n cap : Nat) (len stop seed topk : Int) (heat : Nat) (beams pen : Int) (xs : List Int) (hh : heat < 2 ^ 64) (w : World) (hr : Rd w p n xs)
    (hrb : rightB k xs len stop topk (decide (isNum heat)) beams pen V = true) (rows seq : Int) (hf : Fine D H L V Hd E K W k p n cap len stop seed topk heat beams pen rows seq) (he : chkI true true k n len = 0) (weights : Int) (hw1 : -9223372036854775808 ≤ weights) (hw2 : weights ≤ 1099511627776) :
    Calls Try.prog 15 #[cfgV D H L V Hd E K W, askV k p n cap len stop seed topk heat beams pen, .int .i64 weights] w fun e w' => e = .returned (.int .i64 (needI rows seq (32 / (2 * D * L)) weights)) ∧ Below w.heap.size w w' := by
  have CK := Lib.hid (fun w hr => check_r D H L V Hd E K W k p n cap len stop seed topk heat beams pen xs hh w hr true hrb true hf.cfg)
  rw [he] at CK
  have HR := Lib.hid hr
  have RW := Lib.hid hf.rows_r
  have WD := Lib.hid (fun w => width_r D H L V Hd E K W hf.cfg w)
  obtain ⟨nb1, nb2⟩ := wpages_bounds weights hw2
  have NW := Lib.hid (fun w => need_r weights hw1 (by omega) w)
  obtain ⟨_, wb1, wb2⟩ := width_bounds hf.cfg
  obtain ⟨pb1, pb2⟩ := per_bounds wb1 wb2
  obtain ⟨_, _, _, rb1, rb2, sb1, sb2⟩ := hf
  obtain ⟨gb1, gb2, gb3, gb4, gb5⟩ := pgI_bounds rows (32 / (2 * D * L)) rb1 rb2 pb1 pb2
  have pg : ∀ w, Calls Try.prog 24 #[.int .i64 rows, .int .i64 (2 * D * L)] w fun e w' => e = .returned (.int .i64 (pgI rows (32 / (2 * D * L)))) ∧ w = w' := by
    intro w
    have := pages_r rows (2 * D * L) rb1 (by omega) wb1 wb2 w
    unfold rpagesI at this
    rw [pgI_eq rows _ rb1 pb1 pb2] at this
    exact this
  have PG := Lib.hid pg
  generalize 2 * D * L = c at *
  generalize hG : pgI rows (32 / c) = G at *
  have HG := Lib.hid hG
  clear hrb he hr pg hG
  have hs : seq = 1 ∨ seq = 2 ∨ seq = 3 ∨ seq = 4 := by omega
  rcases hs with rfl | rfl | rfl | rfl
  all_goals
    go_enter Try.func15, Try.ntmps15
    go_wp2_with (first | (go_at_call 22; refine (CK.out _ (HR.out.below (by repeat (first | exact Below.refl _ _ | refine below_drewN ?_ _ | refine Below.alloc ?_ (by simp) _)))).mono ?_; rintro e w1 ⟨rfl, hb1⟩; obtain ⟨hc1, hf1⟩ := bcell hb1; have hz1a : w.heap.size < w1.heap.size := Nat.lt_of_lt_of_le (by simp; omega) hb1.size; have hz1b : w.heap.size + 1 < w1.heap.size := Nat.lt_of_lt_of_le (by simp) hb1.size) | (go_at_call 23; refine (RW.out _).mono ?_; rintro e w2 ⟨rfl, hb2⟩; obtain ⟨hc2, hf2⟩ := bcell hb2; have hz2a : w.heap.size < w2.heap.size := Nat.lt_of_lt_of_le hz1a hb2.size; have hz2b : w.heap.size + 1 < w2.heap.size := Nat.lt_of_lt_of_le hz1b hb2.size) | (go_at_call 25; refine (WD.out _).mono ?_; rintro e w3 ⟨rfl, hb3⟩; obtain ⟨hc3, hf3⟩ := bcell hb3) | (go_at_call 24; refine (PG.out _).mono ?_; rintro e w5 ⟨rfl, rfl⟩) | (go_at_call 26; refine (NW.out _).mono ?_; rintro e w4 ⟨rfl, rfl⟩))
    go_ret
    refine ⟨ret_int ?_, below_step (below_step (below_step (by repeat (first | exact Below.refl _ _ | refine below_drewN ?_ _ | refine Below.alloc ?_ (by simp) _)) hb1) hb2) hb3⟩
    unfold needI
    rw [HG.out]
    (try simp)
    (try omega)
end Go.Proofs.Ytkmpjdffhbokdaa.ask
