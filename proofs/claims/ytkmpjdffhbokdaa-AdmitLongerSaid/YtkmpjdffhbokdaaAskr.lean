/- The reference's right: contract. -/
import Derived.Test.YtkmpjdffhbokdaaAsk
import Derived.Deep.QuietTactic
import Derived.BigQuiet
namespace Go.Proofs.Ytkmpjdffhbokdaa.ask
open Go.ChangeShapes Go.WideShapes Go.ChangeAt Go.RowKit K Fl ldx cfg
set_option linter.unusedVariables false
set_option linter.unusedSimpArgs false
/-- The two boxes of the parameters. -/
def boxes (D H L V Hd E K W : Int) (k : Int) (p : Option Addr) (n cap : Nat) (len stop seed topk : Int) (heat : Nat) (beams pen : Int) (w : World) : World :=
  (w.alloc (.cells #[.int .i64 D, .int .i64 H, .int .i64 L, .int .i64 V, .int .i64 Hd, .int .i64 E, .int .i64 K, .int .i64 W] 33)).alloc
    (.cells #[.int .i64 k, .slice p n cap, .int .i64 len, .int .i64 stop, .int .u64 seed, .int .i64 topk, .float .f64 heat, .int .i64 beams, .int .i64 pen] 38)
theorem rest_4 (len stop topk : Int) (num : Bool) (beams pen V : Int) : restB 4 len stop topk num beams pen V = true := rfl
theorem self_num (x : Nat) : (FloatKind.f64.format.order x x == some .eq) = decide (isNum x) := by
  rw [show FloatKind.f64.format = Ieee.double from rfl]
  by_cases h1 : isNum x
  · rw [order_num h1 h1, cmp_eq rfl]; simp [h1]
  · rw [order_nan_left h1]; simp [h1]
set_option maxHeartbeats 1000000 in
theorem rref1 (D H L V Hd E K W : Int) (b o : Nat) (n cap : Nat) (len stop seed topk : Int) (heat : Nat) (beams pen : Int) (xs : List Int) (num : Bool)
    (v1 : 2 ≤ V) (v2 : V ≤ 16) (hl : xs.length = n) (hn : 0 < n) (hm : n ≤ 9223372036854775807) (w : World) (hbl : b < w.heap.size) (hc : ∀ j, j < n → w.cell? ⟨b, o + j, none⟩ = some (.int .i64 (xs.getD j 0))) :
    Calls Try.prog 31 #[cfgV D H L V Hd E K W, askV 1 (some ⟨b, o, none⟩) n cap len stop seed topk heat beams pen] w fun e w' => e = .returned (.bool (rightB 1 xs len stop topk num beams pen V)) ∧ Below w.heap.size w w' := by
  have hn0 : ((n : Int) == 0) = false := by simp; omega
  have hbn : b ≠ w.heap.size := by omega
  have hbn1 : b ≠ w.heap.size + 1 := by omega
  have hlen : decide (0 < xs.length) = true := decide_eq_true (by omega)
  have HL := Lib.hid hlen
  have HX := Lib.hid hl
  have HC := Lib.hid hc
  clear hlen hl hc
  go_enter Try.func31, Try.ntmps31
  go_wp2
  go_loopw [5] (fun i wr => ∃ j m : Nat, j ≤ n ∧ i = .int .i64 j ∧ wr = (boxes D H L V Hd E K W 1 (some ⟨b, o, none⟩) n cap len stop seed topk heat beams pen w).drewN m ∧ (xs.take j).all (fun t => decide (0 ≤ t) && decide (t ≤ V - 1)) = true) (fun i _ => n - (intOf i).toNat)
  case atStart => exact ⟨0, 0, Nat.zero_le _, rfl, rfl, by simp⟩
  case round =>
    obtain ⟨j, m, hj, rfl, rfl, hall⟩ := hrel
    unfold boxes
    have HA := Lib.hid hall
    clear hall
    by_cases hlt : j < n
    · have hcj := HC.out j hlt
      have hx : xs.getD j 0 = xs[j]'(by rw [HX.out]; exact hlt) := by rw [List.getD_eq_getElem?_getD, List.getElem?_eq_getElem]; rfl
      rw [hx] at hcj
      generalize hX : xs[j]'(by rw [HX.out]; exact hlt) = x at hcj
      have HXJ := Lib.hid hX
      clear hx hX
      by_cases ht : 0 ≤ x ∧ x ≤ V - 1
      · obtain ⟨ht1, ht2⟩ := ht
        have ht3 : decide (V ≤ x) = false := decide_eq_false (by omega)
        have ht4 : decide (x < 0) = false := decide_eq_false (by omega)
        have hj0 : (0 : Int) ≤ (j : Int) := by omega
        have hj1 : (j : Int) < (n : Int) := by omega
        go_wp2
        go_quiet (fail)
        go_wp2
        have hts := take_step HA.out (by rw [HX.out]; exact hlt) (by rw [HXJ.out]; exact ⟨ht1, ht2⟩)
        refine ⟨⟨j + 1, _, ?_, ?_, rfl, hts⟩, ?_⟩
        · omega
        · go_num
        · simp [intOf]; omega
      · have htb : (decide (x < 0) || decide (V ≤ x)) = true := by
          rw [Bool.or_eq_true]; simp only [decide_eq_true_eq]; omega
        have hfin : rightB 1 xs len stop topk num beams pen V = false := by
          unfold rightB
          rw [not_all (V := V) (j := j) (by rw [HX.out]; exact hlt) (by rw [HXJ.out]; exact ht)]
          simp
        have HF := Lib.hid hfin
        clear hfin
        by_cases hx0 : x < 0
        · clear ht htb
          have ht4 : decide (x < 0) = true := decide_eq_true hx0
          have hj0 : (0 : Int) ≤ (j : Int) := by omega
          have hj1 : (j : Int) < (n : Int) := by omega
          go_wp2
          go_quiet (fail)
          go_wp2
          go_ret
          exact ⟨ret_bool HF.out.symm, by repeat (first | exact Below.refl _ _ | refine below_drewN ?_ _ | refine Below.alloc ?_ (by simp) _)⟩
        · have hx1 : V ≤ x := by omega
          have ht3 : decide (V ≤ x) = true := decide_eq_true hx1
          have ht4 : decide (x < 0) = false := decide_eq_false hx0
          have hj0 : (0 : Int) ≤ (j : Int) := by omega
          have hj1 : (j : Int) < (n : Int) := by omega
          clear ht htb
          go_wp2
          go_quiet (fail)
          go_wp2
          go_ret
          exact ⟨ret_bool HF.out.symm, by repeat (first | exact Below.refl _ _ | refine below_drewN ?_ _ | refine Below.alloc ?_ (by simp) _)⟩
    · have hfin : rightB 1 xs len stop topk num beams pen V = restB 1 len stop topk num beams pen V := by
        unfold rightB
        rw [HL.out, take_all HA.out (by rw [HX.out]; omega)]
        simp
      have HF := Lib.hid hfin
      clear hfin
      go_wp2
      all_goals
        go_ret
        exact ⟨ret_bool (by rw [HF.out, rest_1]; rw [Bool.eq_iff_iff]; (try simp only [Bool.and_eq_true, decide_eq_true_eq, beq_iff_eq, Bool.false_eq_true, false_iff, true_iff, and_true, and_false, false_and, true_and, iff_self, not_false_eq_true]); (try (first | omega | (simp_all; done)))), by repeat (first | exact Below.refl _ _ | refine below_drewN ?_ _ | refine Below.alloc ?_ (by simp) _)⟩
set_option maxHeartbeats 1000000 in
theorem rref2 (D H L V Hd E K W : Int) (b o : Nat) (n cap : Nat) (len stop seed topk : Int) (heat : Nat) (beams pen : Int) (xs : List Int) (num : Bool)
    (v1 : 2 ≤ V) (v2 : V ≤ 16) (hl : xs.length = n) (hn : 0 < n) (hm : n ≤ 9223372036854775807) (hnum : (FloatKind.f64.format.order heat heat == some .eq) = num) (w : World) (hbl : b < w.heap.size) (hc : ∀ j, j < n → w.cell? ⟨b, o + j, none⟩ = some (.int .i64 (xs.getD j 0))) :
    Calls Try.prog 31 #[cfgV D H L V Hd E K W, askV 2 (some ⟨b, o, none⟩) n cap len stop seed topk heat beams pen] w fun e w' => e = .returned (.bool (rightB 2 xs len stop topk num beams pen V)) ∧ Below w.heap.size w w' := by
  have hn0 : ((n : Int) == 0) = false := by simp; omega
  have hbn : b ≠ w.heap.size := by omega
  have hbn1 : b ≠ w.heap.size + 1 := by omega
  have hlen : decide (0 < xs.length) = true := decide_eq_true (by omega)
  have HL := Lib.hid hlen
  have HX := Lib.hid hl
  have HC := Lib.hid hc
  clear hlen hl hc
  go_enter Try.func31, Try.ntmps31
  go_wp2
  go_loopw [5] (fun i wr => ∃ j m : Nat, j ≤ n ∧ i = .int .i64 j ∧ wr = (boxes D H L V Hd E K W 2 (some ⟨b, o, none⟩) n cap len stop seed topk heat beams pen w).drewN m ∧ (xs.take j).all (fun t => decide (0 ≤ t) && decide (t ≤ V - 1)) = true) (fun i _ => n - (intOf i).toNat)
  case atStart => exact ⟨0, 0, Nat.zero_le _, rfl, rfl, by simp⟩
  case round =>
    obtain ⟨j, m, hj, rfl, rfl, hall⟩ := hrel
    unfold boxes
    have HA := Lib.hid hall
    clear hall
    by_cases hlt : j < n
    · have hcj := HC.out j hlt
      have hx : xs.getD j 0 = xs[j]'(by rw [HX.out]; exact hlt) := by rw [List.getD_eq_getElem?_getD, List.getElem?_eq_getElem]; rfl
      rw [hx] at hcj
      generalize hX : xs[j]'(by rw [HX.out]; exact hlt) = x at hcj
      have HXJ := Lib.hid hX
      clear hx hX
      by_cases ht : 0 ≤ x ∧ x ≤ V - 1
      · obtain ⟨ht1, ht2⟩ := ht
        have ht3 : decide (V ≤ x) = false := decide_eq_false (by omega)
        have ht4 : decide (x < 0) = false := decide_eq_false (by omega)
        have hj0 : (0 : Int) ≤ (j : Int) := by omega
        have hj1 : (j : Int) < (n : Int) := by omega
        go_wp2
        go_quiet (fail)
        go_wp2
        have hts := take_step HA.out (by rw [HX.out]; exact hlt) (by rw [HXJ.out]; exact ⟨ht1, ht2⟩)
        refine ⟨⟨j + 1, _, ?_, ?_, rfl, hts⟩, ?_⟩
        · omega
        · go_num
        · simp [intOf]; omega
      · have htb : (decide (x < 0) || decide (V ≤ x)) = true := by
          rw [Bool.or_eq_true]; simp only [decide_eq_true_eq]; omega
        have hfin : rightB 2 xs len stop topk num beams pen V = false := by
          unfold rightB
          rw [not_all (V := V) (j := j) (by rw [HX.out]; exact hlt) (by rw [HXJ.out]; exact ht)]
          simp
        have HF := Lib.hid hfin
        clear hfin
        by_cases hx0 : x < 0
        · clear ht htb
          have ht4 : decide (x < 0) = true := decide_eq_true hx0
          have hj0 : (0 : Int) ≤ (j : Int) := by omega
          have hj1 : (j : Int) < (n : Int) := by omega
          go_wp2
          go_quiet (fail)
          go_wp2
          go_ret
          exact ⟨ret_bool HF.out.symm, by repeat (first | exact Below.refl _ _ | refine below_drewN ?_ _ | refine Below.alloc ?_ (by simp) _)⟩
        · have hx1 : V ≤ x := by omega
          have ht3 : decide (V ≤ x) = true := decide_eq_true hx1
          have ht4 : decide (x < 0) = false := decide_eq_false hx0
          have hj0 : (0 : Int) ≤ (j : Int) := by omega
          have hj1 : (j : Int) < (n : Int) := by omega
          clear ht htb
          go_wp2
          go_quiet (fail)
          go_wp2
          go_ret
          exact ⟨ret_bool HF.out.symm, by repeat (first | exact Below.refl _ _ | refine below_drewN ?_ _ | refine Below.alloc ?_ (by simp) _)⟩
    · have hfin : rightB 2 xs len stop topk num beams pen V = restB 2 len stop topk num beams pen V := by
        unfold rightB
        rw [HL.out, take_all HA.out (by rw [HX.out]; omega)]
        simp
      have HF := Lib.hid hfin
      clear hfin
      go_wp2
      all_goals
        go_ret
        exact ⟨ret_bool (by rw [HF.out, rest_2]; rw [Bool.eq_iff_iff]; (try simp only [Bool.and_eq_true, decide_eq_true_eq, beq_iff_eq, Bool.false_eq_true, false_iff, true_iff, and_true, and_false, false_and, true_and, iff_self, not_false_eq_true]); (try (first | omega | (simp_all; done)))), by repeat (first | exact Below.refl _ _ | refine below_drewN ?_ _ | refine Below.alloc ?_ (by simp) _)⟩
set_option maxHeartbeats 1000000 in
theorem rref3 (D H L V Hd E K W : Int) (b o : Nat) (n cap : Nat) (len stop seed topk : Int) (heat : Nat) (beams pen : Int) (xs : List Int) (num : Bool)
    (v1 : 2 ≤ V) (v2 : V ≤ 16) (hl : xs.length = n) (hn : 0 < n) (hm : n ≤ 9223372036854775807) (w : World) (hbl : b < w.heap.size) (hc : ∀ j, j < n → w.cell? ⟨b, o + j, none⟩ = some (.int .i64 (xs.getD j 0))) :
    Calls Try.prog 31 #[cfgV D H L V Hd E K W, askV 3 (some ⟨b, o, none⟩) n cap len stop seed topk heat beams pen] w fun e w' => e = .returned (.bool (rightB 3 xs len stop topk num beams pen V)) ∧ Below w.heap.size w w' := by
  have hn0 : ((n : Int) == 0) = false := by simp; omega
  have hbn : b ≠ w.heap.size := by omega
  have hbn1 : b ≠ w.heap.size + 1 := by omega
  have hlen : decide (0 < xs.length) = true := decide_eq_true (by omega)
  have HL := Lib.hid hlen
  have HX := Lib.hid hl
  have HC := Lib.hid hc
  clear hlen hl hc
  go_enter Try.func31, Try.ntmps31
  go_wp2
  go_loopw [5] (fun i wr => ∃ j m : Nat, j ≤ n ∧ i = .int .i64 j ∧ wr = (boxes D H L V Hd E K W 3 (some ⟨b, o, none⟩) n cap len stop seed topk heat beams pen w).drewN m ∧ (xs.take j).all (fun t => decide (0 ≤ t) && decide (t ≤ V - 1)) = true) (fun i _ => n - (intOf i).toNat)
  case atStart => exact ⟨0, 0, Nat.zero_le _, rfl, rfl, by simp⟩
  case round =>
    obtain ⟨j, m, hj, rfl, rfl, hall⟩ := hrel
    unfold boxes
    have HA := Lib.hid hall
    clear hall
    by_cases hlt : j < n
    · have hcj := HC.out j hlt
      have hx : xs.getD j 0 = xs[j]'(by rw [HX.out]; exact hlt) := by rw [List.getD_eq_getElem?_getD, List.getElem?_eq_getElem]; rfl
      rw [hx] at hcj
      generalize hX : xs[j]'(by rw [HX.out]; exact hlt) = x at hcj
      have HXJ := Lib.hid hX
      clear hx hX
      by_cases ht : 0 ≤ x ∧ x ≤ V - 1
      · obtain ⟨ht1, ht2⟩ := ht
        have ht3 : decide (V ≤ x) = false := decide_eq_false (by omega)
        have ht4 : decide (x < 0) = false := decide_eq_false (by omega)
        have hj0 : (0 : Int) ≤ (j : Int) := by omega
        have hj1 : (j : Int) < (n : Int) := by omega
        go_wp2
        go_quiet (fail)
        go_wp2
        have hts := take_step HA.out (by rw [HX.out]; exact hlt) (by rw [HXJ.out]; exact ⟨ht1, ht2⟩)
        refine ⟨⟨j + 1, _, ?_, ?_, rfl, hts⟩, ?_⟩
        · omega
        · go_num
        · simp [intOf]; omega
      · have htb : (decide (x < 0) || decide (V ≤ x)) = true := by
          rw [Bool.or_eq_true]; simp only [decide_eq_true_eq]; omega
        have hfin : rightB 3 xs len stop topk num beams pen V = false := by
          unfold rightB
          rw [not_all (V := V) (j := j) (by rw [HX.out]; exact hlt) (by rw [HXJ.out]; exact ht)]
          simp
        have HF := Lib.hid hfin
        clear hfin
        by_cases hx0 : x < 0
        · clear ht htb
          have ht4 : decide (x < 0) = true := decide_eq_true hx0
          have hj0 : (0 : Int) ≤ (j : Int) := by omega
          have hj1 : (j : Int) < (n : Int) := by omega
          go_wp2
          go_quiet (fail)
          go_wp2
          go_ret
          exact ⟨ret_bool HF.out.symm, by repeat (first | exact Below.refl _ _ | refine below_drewN ?_ _ | refine Below.alloc ?_ (by simp) _)⟩
        · have hx1 : V ≤ x := by omega
          have ht3 : decide (V ≤ x) = true := decide_eq_true hx1
          have ht4 : decide (x < 0) = false := decide_eq_false hx0
          have hj0 : (0 : Int) ≤ (j : Int) := by omega
          have hj1 : (j : Int) < (n : Int) := by omega
          clear ht htb
          go_wp2
          go_quiet (fail)
          go_wp2
          go_ret
          exact ⟨ret_bool HF.out.symm, by repeat (first | exact Below.refl _ _ | refine below_drewN ?_ _ | refine Below.alloc ?_ (by simp) _)⟩
    · have hfin : rightB 3 xs len stop topk num beams pen V = restB 3 len stop topk num beams pen V := by
        unfold rightB
        rw [HL.out, take_all HA.out (by rw [HX.out]; omega)]
        simp
      have HF := Lib.hid hfin
      clear hfin
      go_wp2
      all_goals
        go_ret
        exact ⟨ret_bool (by rw [HF.out, rest_3]; rw [Bool.eq_iff_iff]; (try simp only [Bool.and_eq_true, decide_eq_true_eq, beq_iff_eq, Bool.false_eq_true, false_iff, true_iff, and_true, and_false, false_and, true_and, iff_self, not_false_eq_true]); (try (first | omega | (simp_all; done)))), by repeat (first | exact Below.refl _ _ | refine below_drewN ?_ _ | refine Below.alloc ?_ (by simp) _)⟩
set_option maxHeartbeats 1000000 in
theorem rref4 (D H L V Hd E K W : Int) (b o : Nat) (n cap : Nat) (len stop seed topk : Int) (heat : Nat) (beams pen : Int) (xs : List Int) (num : Bool)
    (v1 : 2 ≤ V) (v2 : V ≤ 16) (hl : xs.length = n) (hn : 0 < n) (hm : n ≤ 9223372036854775807) (w : World) (hbl : b < w.heap.size) (hc : ∀ j, j < n → w.cell? ⟨b, o + j, none⟩ = some (.int .i64 (xs.getD j 0))) :
    Calls Try.prog 31 #[cfgV D H L V Hd E K W, askV 4 (some ⟨b, o, none⟩) n cap len stop seed topk heat beams pen] w fun e w' => e = .returned (.bool (rightB 4 xs len stop topk num beams pen V)) ∧ Below w.heap.size w w' := by
  have hn0 : ((n : Int) == 0) = false := by simp; omega
  have hbn : b ≠ w.heap.size := by omega
  have hbn1 : b ≠ w.heap.size + 1 := by omega
  have hlen : decide (0 < xs.length) = true := decide_eq_true (by omega)
  have HL := Lib.hid hlen
  have HX := Lib.hid hl
  have HC := Lib.hid hc
  clear hlen hl hc
  go_enter Try.func31, Try.ntmps31
  go_wp2
  go_loopw [5] (fun i wr => ∃ j m : Nat, j ≤ n ∧ i = .int .i64 j ∧ wr = (boxes D H L V Hd E K W 4 (some ⟨b, o, none⟩) n cap len stop seed topk heat beams pen w).drewN m ∧ (xs.take j).all (fun t => decide (0 ≤ t) && decide (t ≤ V - 1)) = true) (fun i _ => n - (intOf i).toNat)
  case atStart => exact ⟨0, 0, Nat.zero_le _, rfl, rfl, by simp⟩
  case round =>
    obtain ⟨j, m, hj, rfl, rfl, hall⟩ := hrel
    unfold boxes
    have HA := Lib.hid hall
    clear hall
    by_cases hlt : j < n
    · have hcj := HC.out j hlt
      have hx : xs.getD j 0 = xs[j]'(by rw [HX.out]; exact hlt) := by rw [List.getD_eq_getElem?_getD, List.getElem?_eq_getElem]; rfl
      rw [hx] at hcj
      generalize hX : xs[j]'(by rw [HX.out]; exact hlt) = x at hcj
      have HXJ := Lib.hid hX
      clear hx hX
      by_cases ht : 0 ≤ x ∧ x ≤ V - 1
      · obtain ⟨ht1, ht2⟩ := ht
        have ht3 : decide (V ≤ x) = false := decide_eq_false (by omega)
        have ht4 : decide (x < 0) = false := decide_eq_false (by omega)
        have hj0 : (0 : Int) ≤ (j : Int) := by omega
        have hj1 : (j : Int) < (n : Int) := by omega
        go_wp2
        go_quiet (fail)
        go_wp2
        have hts := take_step HA.out (by rw [HX.out]; exact hlt) (by rw [HXJ.out]; exact ⟨ht1, ht2⟩)
        refine ⟨⟨j + 1, _, ?_, ?_, rfl, hts⟩, ?_⟩
        · omega
        · go_num
        · simp [intOf]; omega
      · have htb : (decide (x < 0) || decide (V ≤ x)) = true := by
          rw [Bool.or_eq_true]; simp only [decide_eq_true_eq]; omega
        have hfin : rightB 4 xs len stop topk num beams pen V = false := by
          unfold rightB
          rw [not_all (V := V) (j := j) (by rw [HX.out]; exact hlt) (by rw [HXJ.out]; exact ht)]
          simp
        have HF := Lib.hid hfin
        clear hfin
        by_cases hx0 : x < 0
        · clear ht htb
          have ht4 : decide (x < 0) = true := decide_eq_true hx0
          have hj0 : (0 : Int) ≤ (j : Int) := by omega
          have hj1 : (j : Int) < (n : Int) := by omega
          go_wp2
          go_quiet (fail)
          go_wp2
          go_ret
          exact ⟨ret_bool HF.out.symm, by repeat (first | exact Below.refl _ _ | refine below_drewN ?_ _ | refine Below.alloc ?_ (by simp) _)⟩
        · have hx1 : V ≤ x := by omega
          have ht3 : decide (V ≤ x) = true := decide_eq_true hx1
          have ht4 : decide (x < 0) = false := decide_eq_false hx0
          have hj0 : (0 : Int) ≤ (j : Int) := by omega
          have hj1 : (j : Int) < (n : Int) := by omega
          clear ht htb
          go_wp2
          go_quiet (fail)
          go_wp2
          go_ret
          exact ⟨ret_bool HF.out.symm, by repeat (first | exact Below.refl _ _ | refine below_drewN ?_ _ | refine Below.alloc ?_ (by simp) _)⟩
    · have hfin : rightB 4 xs len stop topk num beams pen V = restB 4 len stop topk num beams pen V := by
        unfold rightB
        rw [HL.out, take_all HA.out (by rw [HX.out]; omega)]
        simp
      have HF := Lib.hid hfin
      clear hfin
      go_wp2
      all_goals
        go_ret
        exact ⟨ret_bool (by rw [HF.out, rest_4]), by repeat (first | exact Below.refl _ _ | refine below_drewN ?_ _ | refine Below.alloc ?_ (by simp) _)⟩
theorem rref_none (D H L V Hd E K W : Int) (k : Int) (p : Option Addr) (n cap : Nat) (len stop seed topk : Int) (heat : Nat) (beams pen : Int) (h : k < 1 ∨ 4 < k ∨ n = 0) (w : World) :
    Calls Try.prog 31 #[cfgV D H L V Hd E K W, askV k p n cap len stop seed topk heat beams pen] w fun e w' => e = .returned (.bool false) ∧ Below w.heap.size w w' := by
  by_cases h1 : k < 1
  · clear h
    go_enter Try.func31, Try.ntmps31
    go_wp2
    go_ret
    exact ⟨rfl, by repeat (first | exact Below.refl _ _ | refine below_drewN ?_ _ | refine Below.alloc ?_ (by simp) _)⟩
  · by_cases h2 : 4 < k
    · clear h
      go_enter Try.func31, Try.ntmps31
      go_wp2
      go_ret
      exact ⟨rfl, by repeat (first | exact Below.refl _ _ | refine below_drewN ?_ _ | refine Below.alloc ?_ (by simp) _)⟩
    · obtain rfl : n = 0 := by omega
      clear h
      go_enter Try.func31, Try.ntmps31
      go_wp2
      go_ret
      exact ⟨rfl, by repeat (first | exact Below.refl _ _ | refine below_drewN ?_ _ | refine Below.alloc ?_ (by simp) _)⟩
theorem right_r (D H L V Hd E K W : Int) (k : Int) (p : Option Addr) (n cap : Nat) (len stop seed topk : Int) (heat : Nat) (beams pen : Int) (xs : List Int)
    (hV : 2 ≤ V ∧ V ≤ 16) (w : World) (hr : Rd w p n xs) :
    Calls Try.prog 31 #[cfgV D H L V Hd E K W, askV k p n cap len stop seed topk heat beams pen] w fun e w' => e = .returned (.bool (rightB k xs len stop topk (decide (isNum heat)) beams pen V)) ∧ Below w.heap.size w w' := by
  obtain ⟨hl, hm, hcell⟩ := hr
  by_cases h : k < 1 ∨ 4 < k ∨ n = 0
  · have e : rightB k xs len stop topk (decide (isNum heat)) beams pen V = false := by
      unfold rightB
      rcases h with h | h | h
      · rw [rest_o k len stop topk _ beams pen V (by omega) (by omega) (by omega), decide_eq_false (show ¬ k = 4 by omega), Bool.and_false]
      · rw [rest_o k len stop topk _ beams pen V (by omega) (by omega) (by omega), decide_eq_false (show ¬ k = 4 by omega), Bool.and_false]
      · rw [hl, h]; simp
    rw [e]
    exact rref_none D H L V Hd E K W k p n cap len stop seed topk heat beams pen h w
  · have h0 : 0 < n := by omega
    obtain ⟨b, o, rfl, hbl, hc⟩ := hcell h0
    have h4 : k = 1 ∨ k = 2 ∨ k = 3 ∨ k = 4 := by omega
    rcases h4 with rfl | rfl | rfl | rfl
    · exact rref1 D H L V Hd E K W b o n cap len stop seed topk heat beams pen xs _ hV.1 hV.2 hl h0 hm w hbl hc
    · exact rref2 D H L V Hd E K W b o n cap len stop seed topk heat beams pen xs _ hV.1 hV.2 hl h0 hm (self_num heat) w hbl hc
    · exact rref3 D H L V Hd E K W b o n cap len stop seed topk heat beams pen xs _ hV.1 hV.2 hl h0 hm w hbl hc
    · exact rref4 D H L V Hd E K W b o n cap len stop seed topk heat beams pen xs _ hV.1 hV.2 hl h0 hm w hbl hc
end Go.Proofs.Ytkmpjdffhbokdaa.ask
