/- gen.Check, Rows and the references': contracts. -/
import Derived.Test.YtkmpjdffhbokdaaAskr
namespace Go.Proofs.Ytkmpjdffhbokdaa.ask
open Go.ChangeShapes Go.WideShapes Go.ChangeAt Go.RowKit K Fl ldx cfg
set_option linter.unusedVariables false
set_option linter.unusedSimpArgs false
/-- What is wrong with what is asked: 1, 4 or 0. -/
def chkI (cok rok : Bool) (k : Int) (n : Nat) (len : Int) : Int :=
  if cok = false then 1 else if rok = false then 1 else if 24 < n then 4 else if k ≠ 4 ∧ 24 - (n : Int) < len then 4 else 0
theorem check_c (D H L V Hd E K W : Int) (k : Int) (p : Option Addr) (n cap : Nat) (len stop seed topk : Int) (heat : Nat) (beams pen : Int) (xs : List Int) (hh : heat < 2 ^ 64) (w : World) (hr : Rd w p n xs)
    (r : Bool) (hrb : rightB k xs len stop topk (decide (isNum heat)) beams pen V = r) (c : Bool) (hcb : cfgB D H L V Hd E K W = c) :
    Calls Try.prog 18 #[cfgV D H L V Hd E K W, askV k p n cap len stop seed topk heat beams pen] w fun e w' => e = .returned (.int .i64 (chkI c r k n len)) ∧ Below w.heap.size w w' := by
  have hm := hr.2.1
  have CC := Lib.hid (fun w => config_c D H L V Hd E K W w)
  rw [hcb] at CC
  cases c
  · have e0 : chkI false r k n len = 1 := rfl
    rw [e0]
    clear hcb e0
    go_enter Try.func18, Try.ntmps18
    go_wp2_with (go_at_call 28; refine (CC.out _).mono ?_; rintro e w1 ⟨rfl, hb1⟩; obtain ⟨hc1, hf1⟩ := bcell hb1)
    go_ret
    exact ⟨rfl, below_step (by repeat (first | exact Below.refl _ _ | refine below_drewN ?_ _ | refine Below.alloc ?_ (by simp) _)) hb1⟩
  · have hV : 2 ≤ V ∧ V ≤ 16 := by
      have := cfgB_true.1 hcb
      unfold cfgP at this
      omega
    have RR := Lib.hid (fun w hr => right_c D H L V Hd E K W k p n cap len stop seed topk heat beams pen xs hV hh w hr)
    rw [hrb] at RR
    have HR := Lib.hid hr
    clear hcb hrb hr hV
    cases r
    · have e0 : chkI true false k n len = 1 := rfl
      rw [e0]
      clear e0
      go_enter Try.func18, Try.ntmps18
      go_wp2_with (first | (go_at_call 28; refine (CC.out _).mono ?_; rintro e w1 ⟨rfl, hb1⟩; obtain ⟨hc1, hf1⟩ := bcell hb1; have hz1a : w.heap.size < w1.heap.size := Nat.lt_of_lt_of_le (by simp; omega) hb1.size; have hz1b : w.heap.size + 1 < w1.heap.size := Nat.lt_of_lt_of_le (by simp) hb1.size) | (go_at_call 29; refine (RR.out _ (HR.out.below (below_step (by repeat (first | exact Below.refl _ _ | refine below_drewN ?_ _ | refine Below.alloc ?_ (by simp) _)) hb1))).mono ?_; rintro e w2 ⟨rfl, hb2⟩; obtain ⟨hc2, hf2⟩ := bcell hb2))
      go_ret
      exact ⟨rfl, below_step (below_step (by repeat (first | exact Below.refl _ _ | refine below_drewN ?_ _ | refine Below.alloc ?_ (by simp) _)) hb1) hb2⟩
    · by_cases h1 : 24 < n
      · have e0 : chkI true true k n len = 4 := by unfold chkI; simp [h1]
        rw [e0]
        have h2 : (24 : Int) < (n : Int) := by omega
        clear e0
        go_enter Try.func18, Try.ntmps18
        go_wp2_with (first | (go_at_call 28; refine (CC.out _).mono ?_; rintro e w1 ⟨rfl, hb1⟩; obtain ⟨hc1, hf1⟩ := bcell hb1; have hz1a : w.heap.size < w1.heap.size := Nat.lt_of_lt_of_le (by simp; omega) hb1.size; have hz1b : w.heap.size + 1 < w1.heap.size := Nat.lt_of_lt_of_le (by simp) hb1.size) | (go_at_call 29; refine (RR.out _ (HR.out.below (below_step (by repeat (first | exact Below.refl _ _ | refine below_drewN ?_ _ | refine Below.alloc ?_ (by simp) _)) hb1))).mono ?_; rintro e w2 ⟨rfl, hb2⟩; obtain ⟨hc2, hf2⟩ := bcell hb2))
        go_ret
        exact ⟨rfl, below_step (below_step (by repeat (first | exact Below.refl _ _ | refine below_drewN ?_ _ | refine Below.alloc ?_ (by simp) _)) hb1) hb2⟩
      · have h2 : (n : Int) ≤ 24 := by omega
        by_cases h3 : k = 4
        · have e0 : chkI true true k n len = 0 := by unfold chkI; simp [h1, h3]
          rw [e0]
          subst h3
          clear e0
          go_enter Try.func18, Try.ntmps18
          go_wp2_with (first | (go_at_call 28; refine (CC.out _).mono ?_; rintro e w1 ⟨rfl, hb1⟩; obtain ⟨hc1, hf1⟩ := bcell hb1; have hz1a : w.heap.size < w1.heap.size := Nat.lt_of_lt_of_le (by simp; omega) hb1.size; have hz1b : w.heap.size + 1 < w1.heap.size := Nat.lt_of_lt_of_le (by simp) hb1.size) | (go_at_call 29; refine (RR.out _ (HR.out.below (below_step (by repeat (first | exact Below.refl _ _ | refine below_drewN ?_ _ | refine Below.alloc ?_ (by simp) _)) hb1))).mono ?_; rintro e w2 ⟨rfl, hb2⟩; obtain ⟨hc2, hf2⟩ := bcell hb2))
          go_ret
          exact ⟨rfl, below_step (below_step (by repeat (first | exact Below.refl _ _ | refine below_drewN ?_ _ | refine Below.alloc ?_ (by simp) _)) hb1) hb2⟩
        · have h4 : (k != 4) = true := by simp [h3]
          by_cases h5 : 24 - (n : Int) < len
          · have e0 : chkI true true k n len = 4 := by unfold chkI; rw [if_neg (by decide), if_neg (by decide), if_neg h1, if_pos ⟨h3, h5⟩]
            rw [e0]
            clear e0 h1
            go_enter Try.func18, Try.ntmps18
            go_wp2_with (first | (go_at_call 28; refine (CC.out _).mono ?_; rintro e w1 ⟨rfl, hb1⟩; obtain ⟨hc1, hf1⟩ := bcell hb1; have hz1a : w.heap.size < w1.heap.size := Nat.lt_of_lt_of_le (by simp; omega) hb1.size; have hz1b : w.heap.size + 1 < w1.heap.size := Nat.lt_of_lt_of_le (by simp) hb1.size) | (go_at_call 29; refine (RR.out _ (HR.out.below (below_step (by repeat (first | exact Below.refl _ _ | refine below_drewN ?_ _ | refine Below.alloc ?_ (by simp) _)) hb1))).mono ?_; rintro e w2 ⟨rfl, hb2⟩; obtain ⟨hc2, hf2⟩ := bcell hb2))
            go_ret
            exact ⟨rfl, below_step (below_step (by repeat (first | exact Below.refl _ _ | refine below_drewN ?_ _ | refine Below.alloc ?_ (by simp) _)) hb1) hb2⟩
          · have e0 : chkI true true k n len = 0 := by unfold chkI; rw [if_neg (by decide), if_neg (by decide), if_neg h1, if_neg (fun h => h5 h.2)]
            rw [e0]
            clear e0 h1
            go_enter Try.func18, Try.ntmps18
            go_wp2_with (first | (go_at_call 28; refine (CC.out _).mono ?_; rintro e w1 ⟨rfl, hb1⟩; obtain ⟨hc1, hf1⟩ := bcell hb1; have hz1a : w.heap.size < w1.heap.size := Nat.lt_of_lt_of_le (by simp; omega) hb1.size; have hz1b : w.heap.size + 1 < w1.heap.size := Nat.lt_of_lt_of_le (by simp) hb1.size) | (go_at_call 29; refine (RR.out _ (HR.out.below (below_step (by repeat (first | exact Below.refl _ _ | refine below_drewN ?_ _ | refine Below.alloc ?_ (by simp) _)) hb1))).mono ?_; rintro e w2 ⟨rfl, hb2⟩; obtain ⟨hc2, hf2⟩ := bcell hb2))
            go_ret
            exact ⟨rfl, below_step (below_step (by repeat (first | exact Below.refl _ _ | refine below_drewN ?_ _ | refine Below.alloc ?_ (by simp) _)) hb1) hb2⟩
theorem check_r (D H L V Hd E K W : Int) (k : Int) (p : Option Addr) (n cap : Nat) (len stop seed topk : Int) (heat : Nat) (beams pen : Int) (xs : List Int) (hh : heat < 2 ^ 64) (w : World) (hr : Rd w p n xs)
    (r : Bool) (hrb : rightB k xs len stop topk (decide (isNum heat)) beams pen V = r) (c : Bool) (hcb : cfgB D H L V Hd E K W = c) :
    Calls Try.prog 22 #[cfgV D H L V Hd E K W, askV k p n cap len stop seed topk heat beams pen] w fun e w' => e = .returned (.int .i64 (chkI c r k n len)) ∧ Below w.heap.size w w' := by
  have hm := hr.2.1
  have CC := Lib.hid (fun w => config_r D H L V Hd E K W w)
  rw [hcb] at CC
  cases c
  · have e0 : chkI false r k n len = 1 := rfl
    rw [e0]
    clear hcb e0
    go_enter Try.func22, Try.ntmps22
    go_wp2_with (go_at_call 30; refine (CC.out _).mono ?_; rintro e w1 ⟨rfl, hb1⟩; obtain ⟨hc1, hf1⟩ := bcell hb1)
    go_ret
    exact ⟨rfl, below_step (by repeat (first | exact Below.refl _ _ | refine below_drewN ?_ _ | refine Below.alloc ?_ (by simp) _)) hb1⟩
  · have hV : 2 ≤ V ∧ V ≤ 16 := by
      have := cfgB_true.1 hcb
      unfold cfgP at this
      omega
    have RR := Lib.hid (fun w hr => right_r D H L V Hd E K W k p n cap len stop seed topk heat beams pen xs hV w hr)
    rw [hrb] at RR
    have HR := Lib.hid hr
    clear hcb hrb hr hV
    cases r
    · have e0 : chkI true false k n len = 1 := rfl
      rw [e0]
      clear e0
      go_enter Try.func22, Try.ntmps22
      go_wp2_with (first | (go_at_call 30; refine (CC.out _).mono ?_; rintro e w1 ⟨rfl, hb1⟩; obtain ⟨hc1, hf1⟩ := bcell hb1; have hz1a : w.heap.size < w1.heap.size := Nat.lt_of_lt_of_le (by simp; omega) hb1.size; have hz1b : w.heap.size + 1 < w1.heap.size := Nat.lt_of_lt_of_le (by simp) hb1.size) | (go_at_call 31; refine (RR.out _ (HR.out.below (below_step (by repeat (first | exact Below.refl _ _ | refine below_drewN ?_ _ | refine Below.alloc ?_ (by simp) _)) hb1))).mono ?_; rintro e w2 ⟨rfl, hb2⟩; obtain ⟨hc2, hf2⟩ := bcell hb2))
      go_ret
      exact ⟨rfl, below_step (below_step (by repeat (first | exact Below.refl _ _ | refine below_drewN ?_ _ | refine Below.alloc ?_ (by simp) _)) hb1) hb2⟩
    · by_cases h1 : 24 < n
      · have e0 : chkI true true k n len = 4 := by unfold chkI; simp [h1]
        rw [e0]
        have h2 : (24 : Int) < (n : Int) := by omega
        clear e0
        go_enter Try.func22, Try.ntmps22
        go_wp2_with (first | (go_at_call 30; refine (CC.out _).mono ?_; rintro e w1 ⟨rfl, hb1⟩; obtain ⟨hc1, hf1⟩ := bcell hb1; have hz1a : w.heap.size < w1.heap.size := Nat.lt_of_lt_of_le (by simp; omega) hb1.size; have hz1b : w.heap.size + 1 < w1.heap.size := Nat.lt_of_lt_of_le (by simp) hb1.size) | (go_at_call 31; refine (RR.out _ (HR.out.below (below_step (by repeat (first | exact Below.refl _ _ | refine below_drewN ?_ _ | refine Below.alloc ?_ (by simp) _)) hb1))).mono ?_; rintro e w2 ⟨rfl, hb2⟩; obtain ⟨hc2, hf2⟩ := bcell hb2))
        go_ret
        exact ⟨rfl, below_step (below_step (by repeat (first | exact Below.refl _ _ | refine below_drewN ?_ _ | refine Below.alloc ?_ (by simp) _)) hb1) hb2⟩
      · have h2 : (n : Int) ≤ 24 := by omega
        by_cases h3 : k = 4
        · have e0 : chkI true true k n len = 0 := by unfold chkI; simp [h1, h3]
          rw [e0]
          subst h3
          clear e0
          go_enter Try.func22, Try.ntmps22
          go_wp2_with (first | (go_at_call 30; refine (CC.out _).mono ?_; rintro e w1 ⟨rfl, hb1⟩; obtain ⟨hc1, hf1⟩ := bcell hb1; have hz1a : w.heap.size < w1.heap.size := Nat.lt_of_lt_of_le (by simp; omega) hb1.size; have hz1b : w.heap.size + 1 < w1.heap.size := Nat.lt_of_lt_of_le (by simp) hb1.size) | (go_at_call 31; refine (RR.out _ (HR.out.below (below_step (by repeat (first | exact Below.refl _ _ | refine below_drewN ?_ _ | refine Below.alloc ?_ (by simp) _)) hb1))).mono ?_; rintro e w2 ⟨rfl, hb2⟩; obtain ⟨hc2, hf2⟩ := bcell hb2))
          go_ret
          exact ⟨rfl, below_step (below_step (by repeat (first | exact Below.refl _ _ | refine below_drewN ?_ _ | refine Below.alloc ?_ (by simp) _)) hb1) hb2⟩
        · have h4 : (k != 4) = true := by simp [h3]
          by_cases h5 : 24 - (n : Int) < len
          · have e0 : chkI true true k n len = 4 := by unfold chkI; rw [if_neg (by decide), if_neg (by decide), if_neg h1, if_pos ⟨h3, h5⟩]
            rw [e0]
            clear e0 h1
            go_enter Try.func22, Try.ntmps22
            go_wp2_with (first | (go_at_call 30; refine (CC.out _).mono ?_; rintro e w1 ⟨rfl, hb1⟩; obtain ⟨hc1, hf1⟩ := bcell hb1; have hz1a : w.heap.size < w1.heap.size := Nat.lt_of_lt_of_le (by simp; omega) hb1.size; have hz1b : w.heap.size + 1 < w1.heap.size := Nat.lt_of_lt_of_le (by simp) hb1.size) | (go_at_call 31; refine (RR.out _ (HR.out.below (below_step (by repeat (first | exact Below.refl _ _ | refine below_drewN ?_ _ | refine Below.alloc ?_ (by simp) _)) hb1))).mono ?_; rintro e w2 ⟨rfl, hb2⟩; obtain ⟨hc2, hf2⟩ := bcell hb2))
            go_ret
            exact ⟨rfl, below_step (below_step (by repeat (first | exact Below.refl _ _ | refine below_drewN ?_ _ | refine Below.alloc ?_ (by simp) _)) hb1) hb2⟩
          · have e0 : chkI true true k n len = 0 := by unfold chkI; rw [if_neg (by decide), if_neg (by decide), if_neg h1, if_neg (fun h => h5 h.2)]
            rw [e0]
            clear e0 h1
            go_enter Try.func22, Try.ntmps22
            go_wp2_with (first | (go_at_call 30; refine (CC.out _).mono ?_; rintro e w1 ⟨rfl, hb1⟩; obtain ⟨hc1, hf1⟩ := bcell hb1; have hz1a : w.heap.size < w1.heap.size := Nat.lt_of_lt_of_le (by simp; omega) hb1.size; have hz1b : w.heap.size + 1 < w1.heap.size := Nat.lt_of_lt_of_le (by simp) hb1.size) | (go_at_call 31; refine (RR.out _ (HR.out.below (below_step (by repeat (first | exact Below.refl _ _ | refine below_drewN ?_ _ | refine Below.alloc ?_ (by simp) _)) hb1))).mono ?_; rintro e w2 ⟨rfl, hb2⟩; obtain ⟨hc2, hf2⟩ := bcell hb2))
            go_ret
            exact ⟨rfl, below_step (below_step (by repeat (first | exact Below.refl _ _ | refine below_drewN ?_ _ | refine Below.alloc ?_ (by simp) _)) hb1) hb2⟩
theorem rows_c4 (p : Option Addr) (n cap : Nat) (len stop seed topk : Int) (heat : Nat) (beams pen : Int) (hn : n ≤ 24) (w : World) :
    Calls Try.prog 19 #[askV 4 p n cap len stop seed topk heat beams pen] w fun e w' => e = .returned (.tuple #[.int .i64 n, .int .i64 1]) ∧ Below w.heap.size w w' := by
  go_enter Try.func19, Try.ntmps19
  go_wp2
  go_ret2
  exact ⟨rfl, (Below.refl _ _).alloc (Nat.le_refl _) _⟩
theorem rows_c3 (p : Option Addr) (n cap : Nat) (len stop seed topk : Int) (heat : Nat) (beams pen : Int) (hn : n ≤ 24) (h1 : 1 ≤ len) (h2 : len ≤ 24) (w : World) :
    Calls Try.prog 19 #[askV 3 p n cap len stop seed topk heat beams pen] w fun e w' => e = .returned (.tuple #[.int .i64 (n + len), .int .i64 beams]) ∧ Below w.heap.size w w' := by
  go_enter Try.func19, Try.ntmps19
  go_wp2
  go_quiet (fail)
  go_wp2
  go_ret2
  exact ⟨rfl, below_drewN ((Below.refl _ _).alloc (Nat.le_refl _) _) _⟩
theorem rows_co (k : Int) (k3 : (k == 3) = false) (k4 : (k == 4) = false) (p : Option Addr) (n cap : Nat) (len stop seed topk : Int) (heat : Nat) (beams pen : Int) (hn : n ≤ 24) (h1 : 1 ≤ len) (h2 : len ≤ 24) (w : World) :
    Calls Try.prog 19 #[askV k p n cap len stop seed topk heat beams pen] w fun e w' => e = .returned (.tuple #[.int .i64 (n + len), .int .i64 1]) ∧ Below w.heap.size w w' := by
  go_enter Try.func19, Try.ntmps19
  go_wp2
  go_ret2
  exact ⟨rfl, (Below.refl _ _).alloc (Nat.le_refl _) _⟩
theorem rows_r4 (p : Option Addr) (n cap : Nat) (len stop seed topk : Int) (heat : Nat) (beams pen : Int) (hn : n ≤ 24) (w : World) :
    Calls Try.prog 23 #[askV 4 p n cap len stop seed topk heat beams pen] w fun e w' => e = .returned (.tuple #[.int .i64 n, .int .i64 1]) ∧ Below w.heap.size w w' := by
  go_enter Try.func23, Try.ntmps23
  go_wp2
  go_ret2
  exact ⟨rfl, (Below.refl _ _).alloc (Nat.le_refl _) _⟩
theorem rows_r3 (p : Option Addr) (n cap : Nat) (len stop seed topk : Int) (heat : Nat) (beams pen : Int) (hn : n ≤ 24) (h1 : 1 ≤ len) (h2 : len ≤ 24) (w : World) :
    Calls Try.prog 23 #[askV 3 p n cap len stop seed topk heat beams pen] w fun e w' => e = .returned (.tuple #[.int .i64 (n + len), .int .i64 beams]) ∧ Below w.heap.size w w' := by
  go_enter Try.func23, Try.ntmps23
  go_wp2
  go_quiet (fail)
  go_wp2
  go_ret2
  exact ⟨rfl, below_drewN ((Below.refl _ _).alloc (Nat.le_refl _) _) _⟩
theorem rows_ro (k : Int) (k3 : (k == 3) = false) (k4 : (k == 4) = false) (p : Option Addr) (n cap : Nat) (len stop seed topk : Int) (heat : Nat) (beams pen : Int) (hn : n ≤ 24) (h1 : 1 ≤ len) (h2 : len ≤ 24) (w : World) :
    Calls Try.prog 23 #[askV k p n cap len stop seed topk heat beams pen] w fun e w' => e = .returned (.tuple #[.int .i64 (n + len), .int .i64 1]) ∧ Below w.heap.size w w' := by
  go_enter Try.func23, Try.ntmps23
  go_wp2
  go_ret2
  exact ⟨rfl, (Below.refl _ _).alloc (Nat.le_refl _) _⟩
end Go.Proofs.Ytkmpjdffhbokdaa.ask
