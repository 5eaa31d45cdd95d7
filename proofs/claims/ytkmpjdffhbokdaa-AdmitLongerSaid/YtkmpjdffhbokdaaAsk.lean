/- gen.right, Check, Rows and the references': contracts. -/
import Derived.Test.YtkmpjdffhbokdaaWid
import Derived.Test.YtkmpjdffhbokdaaFix
import Derived.LoopTactic
namespace Go.Proofs.Ytkmpjdffhbokdaa.ask
open Go.ChangeShapes Go.WideShapes Go.ChangeAt Go.RowKit K Fl ldx cfg
set_option linter.unusedVariables false
set_option linter.unusedSimpArgs false
/-- A slice of ints that is only read. -/
def Rd (w : World) (p : Option Addr) (n : Nat) (xs : List Int) : Prop :=
  xs.length = n ∧ n ≤ 9223372036854775807 ∧ (0 < n → ∃ b o, p = some ⟨b, o, none⟩ ∧ b < w.heap.size ∧ ∀ j, j < n → w.cell? ⟨b, o + j, none⟩ = some (.int .i64 (xs.getD j 0)))
theorem Rd.below {w W : World} {p : Option Addr} {n : Nat} {xs : List Int} (h : Rd w p n xs) (hb : Below w.heap.size w W) : Rd W p n xs := by
  obtain ⟨h1, h2, h3⟩ := h
  refine ⟨h1, h2, fun hn => ?_⟩
  obtain ⟨b, o, e, hlt, hc⟩ := h3 hn
  exact ⟨b, o, e, Nat.lt_of_lt_of_le hlt hb.size, fun j hj => (hb.cell (p := ⟨b, o + j, none⟩) hlt).trans (hc j hj)⟩
abbrev askV (k : Int) (p : Option Addr) (n cap : Nat) (len stop seed topk : Int) (heat : Nat) (beams pen : Int) : Value :=
  .agg #[.int .i64 k, .slice p n cap, .int .i64 len, .int .i64 stop, .int .u64 seed, .int .i64 topk, .float .f64 heat, .int .i64 beams, .int .i64 pen]
theorem within_g (n lo hi : Int) (w : World) :
    Calls Try.prog 33 #[.int .i64 n, .int .i64 lo, .int .i64 hi] w fun e w' => e = .returned (.bool (decide (lo ≤ n) && decide (n ≤ hi))) ∧ w = w' := by
  by_cases h : lo ≤ n
  · go_enter Try.func33, Try.ntmps33
    go_wp2
    go_ret
    exact ⟨ret_bool (by simp [h]), rfl⟩
  · go_enter Try.func33, Try.ntmps33
    go_wp2
    go_ret
    exact ⟨ret_bool (by rw [show decide (lo ≤ n) = false from decide_eq_false (by omega)]; rfl), rfl⟩
theorem heat_num (x : Nat) (hx : x < 2 ^ 64) (hi : isNum x) (w : World) :
    Calls Try.prog 34 #[.float .f64 x] w fun e w' => e = .returned (.tuple #[.int .i64 (if fixV x < 0 then 0 else fixV x), .int .i64 0]) ∧ w = w' := by
  by_cases h : fixV x < 0
  · rw [if_pos h]
    go_enter Try.func34, Try.ntmps34
    go_wp2_with (go_at_call 36; refine (Fix_num x hx hi _).mono ?_; rintro e w' ⟨rfl, rfl⟩)
    go_ret2
    exact ⟨rfl, rfl⟩
  · rw [if_neg h]
    go_enter Try.func34, Try.ntmps34
    go_wp2_with (go_at_call 36; refine (Fix_num x hx hi _).mono ?_; rintro e w' ⟨rfl, rfl⟩)
    go_ret2
    exact ⟨rfl, rfl⟩
theorem heat_nan (x : Nat) (hi : ¬ isNum x) (w : World) :
    Calls Try.prog 34 #[.float .f64 x] w fun e w' => e = .returned (.tuple #[.int .i64 0, .int .i64 28]) ∧ w = w' := by
  go_enter Try.func34, Try.ntmps34
  go_wp2_with (go_at_call 36; refine (Fix_nan x hi _).mono ?_; rintro e w' ⟨rfl, rfl⟩)
  go_ret2
  exact ⟨rfl, rfl⟩
def allB (xs : List Int) (V : Int) : Bool := xs.all (fun t => decide (0 ≤ t) && decide (t ≤ V - 1))
/-- What is asked beside the prompt. -/
def restB (k len stop topk : Int) (num : Bool) (beams pen V : Int) : Bool :=
  if k = 2 then decide (1 ≤ topk) && decide (topk ≤ V) && num && decide (1 ≤ len) && decide (stop < V)
  else if k = 1 then decide (1 ≤ len) && decide (stop < V)
  else if k = 3 then decide (1 ≤ beams) && decide (beams ≤ 4) && decide (0 ≤ pen) && decide (pen ≤ 64) && decide (1 ≤ len) && decide (stop < V)
  else decide (k = 4)
def rightB (k : Int) (xs : List Int) (len stop topk : Int) (num : Bool) (beams pen V : Int) : Bool := decide (0 < xs.length) && allB xs V && restB k len stop topk num beams pen V
theorem take_all {xs : List Int} {V : Int} {j : Nat} (h : (xs.take j).all (fun t => decide (0 ≤ t) && decide (t ≤ V - 1)) = true) (hj : xs.length ≤ j) : allB xs V = true := by
  rw [List.take_of_length_le hj] at h; exact h
theorem take_step {xs : List Int} {V : Int} {j : Nat} (h : (xs.take j).all (fun t => decide (0 ≤ t) && decide (t ≤ V - 1)) = true) (hj : j < xs.length) (h2 : 0 ≤ xs[j] ∧ xs[j] ≤ V - 1) :
    (xs.take (j + 1)).all (fun t => decide (0 ≤ t) && decide (t ≤ V - 1)) = true := by
  rw [List.take_succ_eq_append_getElem hj, List.all_append, h]
  simp [h2.1, h2.2]
theorem not_all {xs : List Int} {V : Int} {j : Nat} (hj : j < xs.length) (h2 : ¬ (0 ≤ xs[j] ∧ xs[j] ≤ V - 1)) : allB xs V = false := by
  unfold allB
  rw [Bool.eq_false_iff]
  intro h
  rw [List.all_eq_true] at h
  have := h xs[j] (List.getElem_mem hj)
  simp only [Bool.and_eq_true, decide_eq_true_eq] at this
  exact h2 this
theorem rest_1 (len stop topk : Int) (num : Bool) (beams pen V : Int) : restB 1 len stop topk num beams pen V = (decide (1 ≤ len) && decide (stop < V)) := rfl
theorem rest_2 (len stop topk : Int) (num : Bool) (beams pen V : Int) : restB 2 len stop topk num beams pen V = (decide (1 ≤ topk) && decide (topk ≤ V) && num && decide (1 ≤ len) && decide (stop < V)) := rfl
theorem rest_3 (len stop topk : Int) (num : Bool) (beams pen V : Int) : restB 3 len stop topk num beams pen V = (decide (1 ≤ beams) && decide (beams ≤ 4) && decide (0 ≤ pen) && decide (pen ≤ 64) && decide (1 ≤ len) && decide (stop < V)) := rfl
theorem rest_o (k len stop topk : Int) (num : Bool) (beams pen V : Int) (h1 : k ≠ 1) (h2 : k ≠ 2) (h3 : k ≠ 3) : restB k len stop topk num beams pen V = decide (k = 4) := by
  unfold restB; rw [if_neg h2, if_neg h1, if_neg h3]
set_option maxHeartbeats 1000000 in
theorem right1 (D H L V Hd E K W : Int) (b o : Nat) (n cap : Nat) (len stop seed topk : Int) (heat : Nat) (beams pen : Int) (xs : List Int) (num : Bool)
    (v1 : 2 ≤ V) (v2 : V ≤ 16) (hl : xs.length = n) (hn : 0 < n) (hm : n ≤ 9223372036854775807) (w : World) (hbl : b < w.heap.size) (hc : ∀ j, j < n → w.cell? ⟨b, o + j, none⟩ = some (.int .i64 (xs.getD j 0))) :
    Calls Try.prog 29 #[cfgV D H L V Hd E K W, askV 1 (some ⟨b, o, none⟩) n cap len stop seed topk heat beams pen] w fun e w' => e = .returned (.bool (rightB 1 xs len stop topk num beams pen V)) ∧ Below w.heap.size w w' := by
  have hn0 : ((n : Int) == 0) = false := by simp; omega
  have hbn : b ≠ w.heap.size := by omega
  have hbn1 : b ≠ w.heap.size + 1 := by omega
  have hlen : decide (0 < xs.length) = true := decide_eq_true (by omega)
  have HL := Lib.hid hlen
  have HX := Lib.hid hl
  have HC := Lib.hid hc
  clear hlen hl hc
  go_enter Try.func29, Try.ntmps29
  go_wp2
  go_loop [17] (fun i => ∃ j : Nat, j ≤ n ∧ i = .int .i64 j ∧ (xs.take j).all (fun t => decide (0 ≤ t) && decide (t ≤ V - 1)) = true) (fun i => n - (intOf i).toNat)
  case atStart => exact ⟨0, Nat.zero_le _, rfl, by simp⟩
  case round =>
    obtain ⟨j, hj, rfl, hall⟩ := hrel
    have HA := Lib.hid hall
    clear hall
    by_cases hlt : j < n
    · have hcj := HC.out j hlt
      have hx : xs.getD j 0 = xs[j]'(by rw [HX.out]; exact hlt) := by rw [List.getD_eq_getElem?_getD, List.getElem?_eq_getElem]; rfl
      rw [hx] at hcj
      generalize hX : xs[j]'(by rw [HX.out]; exact hlt) = x at hcj
      have HXJ := Lib.hid hX
      clear hx hX
      by_cases ht : 0 ≤ x ∧ x ≤ V - 1
      · obtain ⟨ht1, ht2⟩ := ht
        go_wp2_with (go_at_call 33; refine (within_g _ _ _ _).mono ?_; rintro e w' ⟨rfl, rfl⟩)
        have hts := take_step HA.out (by rw [HX.out]; exact hlt) (by rw [HXJ.out]; exact ⟨ht1, ht2⟩)
        refine ⟨⟨j + 1, ?_, ?_, hts⟩, ?_⟩
        · omega
        · go_num
        · simp [intOf]; omega
      · have htb : (decide (0 ≤ x) && decide (x ≤ V - 1)) = false := by
          rw [Bool.and_eq_false_iff]; simp only [decide_eq_false_iff_not]; omega
        have hfin : rightB 1 xs len stop topk num beams pen V = false := by
          unfold rightB
          rw [not_all (V := V) (j := j) (by rw [HX.out]; exact hlt) (by rw [HXJ.out]; exact ht)]
          simp
        have HF := Lib.hid hfin
        clear ht hfin
        go_wp2_with (go_at_call 33; refine (within_g _ _ _ _).mono ?_; rintro e w' ⟨rfl, rfl⟩)
        go_ret
        exact ⟨ret_bool HF.out.symm, ((Below.refl _ _).alloc (Nat.le_refl _) _).alloc (by simp) _⟩
    · have hfin : rightB 1 xs len stop topk num beams pen V = restB 1 len stop topk num beams pen V := by
        unfold rightB
        rw [HL.out, take_all HA.out (by rw [HX.out]; omega)]
        simp
      have HF := Lib.hid hfin
      clear hfin
      go_wp2_with (first | (go_at_call 33; refine (within_g _ _ _ _).mono ?_; rintro e w' ⟨rfl, rfl⟩))
      all_goals
        go_ret
        exact ⟨ret_bool (by rw [HF.out, rest_1]; rw [Bool.eq_iff_iff]; (try simp only [Bool.and_eq_true, decide_eq_true_eq, beq_iff_eq, Bool.false_eq_true, false_iff, true_iff, and_true, and_false, false_and, true_and, iff_self, not_false_eq_true]); (try omega)), ((Below.refl _ _).alloc (Nat.le_refl _) _).alloc (by simp) _⟩
set_option maxHeartbeats 1000000 in
theorem right2a (D H L V Hd E K W : Int) (b o : Nat) (n cap : Nat) (len stop seed topk : Int) (heat : Nat) (beams pen : Int) (xs : List Int) (num : Bool)
    (v1 : 2 ≤ V) (v2 : V ≤ 16) (hl : xs.length = n) (hn : 0 < n) (hm : n ≤ 9223372036854775807) (hx : heat < 2 ^ 64) (hi : isNum heat) (hnum : num = true) (w : World) (hbl : b < w.heap.size) (hc : ∀ j, j < n → w.cell? ⟨b, o + j, none⟩ = some (.int .i64 (xs.getD j 0))) :
    Calls Try.prog 29 #[cfgV D H L V Hd E K W, askV 2 (some ⟨b, o, none⟩) n cap len stop seed topk heat beams pen] w fun e w' => e = .returned (.bool (rightB 2 xs len stop topk num beams pen V)) ∧ Below w.heap.size w w' := by
  have hn0 : ((n : Int) == 0) = false := by simp; omega
  have hbn : b ≠ w.heap.size := by omega
  have hbn1 : b ≠ w.heap.size + 1 := by omega
  have HN := Lib.hid hnum
  clear hnum
  have hlen : decide (0 < xs.length) = true := decide_eq_true (by omega)
  have HL := Lib.hid hlen
  have HX := Lib.hid hl
  have HC := Lib.hid hc
  clear hlen hl hc
  go_enter Try.func29, Try.ntmps29
  go_wp2
  go_loop [17] (fun i => ∃ j : Nat, j ≤ n ∧ i = .int .i64 j ∧ (xs.take j).all (fun t => decide (0 ≤ t) && decide (t ≤ V - 1)) = true) (fun i => n - (intOf i).toNat)
  case atStart => exact ⟨0, Nat.zero_le _, rfl, by simp⟩
  case round =>
    obtain ⟨j, hj, rfl, hall⟩ := hrel
    have HA := Lib.hid hall
    clear hall
    by_cases hlt : j < n
    · have hcj := HC.out j hlt
      have hx : xs.getD j 0 = xs[j]'(by rw [HX.out]; exact hlt) := by rw [List.getD_eq_getElem?_getD, List.getElem?_eq_getElem]; rfl
      rw [hx] at hcj
      generalize hX : xs[j]'(by rw [HX.out]; exact hlt) = x at hcj
      have HXJ := Lib.hid hX
      clear hx hX
      by_cases ht : 0 ≤ x ∧ x ≤ V - 1
      · obtain ⟨ht1, ht2⟩ := ht
        go_wp2_with (go_at_call 33; refine (within_g _ _ _ _).mono ?_; rintro e w' ⟨rfl, rfl⟩)
        have hts := take_step HA.out (by rw [HX.out]; exact hlt) (by rw [HXJ.out]; exact ⟨ht1, ht2⟩)
        refine ⟨⟨j + 1, ?_, ?_, hts⟩, ?_⟩
        · omega
        · go_num
        · simp [intOf]; omega
      · have htb : (decide (0 ≤ x) && decide (x ≤ V - 1)) = false := by
          rw [Bool.and_eq_false_iff]; simp only [decide_eq_false_iff_not]; omega
        have hfin : rightB 2 xs len stop topk num beams pen V = false := by
          unfold rightB
          rw [not_all (V := V) (j := j) (by rw [HX.out]; exact hlt) (by rw [HXJ.out]; exact ht)]
          simp
        have HF := Lib.hid hfin
        clear ht hfin
        go_wp2_with (go_at_call 33; refine (within_g _ _ _ _).mono ?_; rintro e w' ⟨rfl, rfl⟩)
        go_ret
        exact ⟨ret_bool HF.out.symm, ((Below.refl _ _).alloc (Nat.le_refl _) _).alloc (by simp) _⟩
    · have hfin : rightB 2 xs len stop topk num beams pen V = restB 2 len stop topk num beams pen V := by
        unfold rightB
        rw [HL.out, take_all HA.out (by rw [HX.out]; omega)]
        simp
      have HF := Lib.hid hfin
      clear hfin
      go_wp2_with (first | (go_at_call 33; refine (within_g _ _ _ _).mono ?_; rintro e w' ⟨rfl, rfl⟩) | (go_at_call 34; refine (heat_num heat hx hi _).mono ?_; rintro e w' ⟨rfl, rfl⟩))
      all_goals
        go_ret
        exact ⟨ret_bool (by rw [HF.out, rest_2, HN.out]; rw [Bool.eq_iff_iff]; (try simp only [Bool.and_eq_true, decide_eq_true_eq, beq_iff_eq, Bool.false_eq_true, false_iff, true_iff, and_true, and_false, false_and, true_and, iff_self, not_false_eq_true]); (try omega)), ((Below.refl _ _).alloc (Nat.le_refl _) _).alloc (by simp) _⟩
set_option maxHeartbeats 1000000 in
theorem right2b (D H L V Hd E K W : Int) (b o : Nat) (n cap : Nat) (len stop seed topk : Int) (heat : Nat) (beams pen : Int) (xs : List Int) (num : Bool)
    (v1 : 2 ≤ V) (v2 : V ≤ 16) (hl : xs.length = n) (hn : 0 < n) (hm : n ≤ 9223372036854775807) (hi : ¬ isNum heat) (hnum : num = false) (w : World) (hbl : b < w.heap.size) (hc : ∀ j, j < n → w.cell? ⟨b, o + j, none⟩ = some (.int .i64 (xs.getD j 0))) :
    Calls Try.prog 29 #[cfgV D H L V Hd E K W, askV 2 (some ⟨b, o, none⟩) n cap len stop seed topk heat beams pen] w fun e w' => e = .returned (.bool (rightB 2 xs len stop topk num beams pen V)) ∧ Below w.heap.size w w' := by
  have hn0 : ((n : Int) == 0) = false := by simp; omega
  have hbn : b ≠ w.heap.size := by omega
  have hbn1 : b ≠ w.heap.size + 1 := by omega
  have HN := Lib.hid hnum
  clear hnum
  have hlen : decide (0 < xs.length) = true := decide_eq_true (by omega)
  have HL := Lib.hid hlen
  have HX := Lib.hid hl
  have HC := Lib.hid hc
  clear hlen hl hc
  go_enter Try.func29, Try.ntmps29
  go_wp2
  go_loop [17] (fun i => ∃ j : Nat, j ≤ n ∧ i = .int .i64 j ∧ (xs.take j).all (fun t => decide (0 ≤ t) && decide (t ≤ V - 1)) = true) (fun i => n - (intOf i).toNat)
  case atStart => exact ⟨0, Nat.zero_le _, rfl, by simp⟩
  case round =>
    obtain ⟨j, hj, rfl, hall⟩ := hrel
    have HA := Lib.hid hall
    clear hall
    by_cases hlt : j < n
    · have hcj := HC.out j hlt
      have hx : xs.getD j 0 = xs[j]'(by rw [HX.out]; exact hlt) := by rw [List.getD_eq_getElem?_getD, List.getElem?_eq_getElem]; rfl
      rw [hx] at hcj
      generalize hX : xs[j]'(by rw [HX.out]; exact hlt) = x at hcj
      have HXJ := Lib.hid hX
      clear hx hX
      by_cases ht : 0 ≤ x ∧ x ≤ V - 1
      · obtain ⟨ht1, ht2⟩ := ht
        go_wp2_with (go_at_call 33; refine (within_g _ _ _ _).mono ?_; rintro e w' ⟨rfl, rfl⟩)
        have hts := take_step HA.out (by rw [HX.out]; exact hlt) (by rw [HXJ.out]; exact ⟨ht1, ht2⟩)
        refine ⟨⟨j + 1, ?_, ?_, hts⟩, ?_⟩
        · omega
        · go_num
        · simp [intOf]; omega
      · have htb : (decide (0 ≤ x) && decide (x ≤ V - 1)) = false := by
          rw [Bool.and_eq_false_iff]; simp only [decide_eq_false_iff_not]; omega
        have hfin : rightB 2 xs len stop topk num beams pen V = false := by
          unfold rightB
          rw [not_all (V := V) (j := j) (by rw [HX.out]; exact hlt) (by rw [HXJ.out]; exact ht)]
          simp
        have HF := Lib.hid hfin
        clear ht hfin
        go_wp2_with (go_at_call 33; refine (within_g _ _ _ _).mono ?_; rintro e w' ⟨rfl, rfl⟩)
        go_ret
        exact ⟨ret_bool HF.out.symm, ((Below.refl _ _).alloc (Nat.le_refl _) _).alloc (by simp) _⟩
    · have hfin : rightB 2 xs len stop topk num beams pen V = restB 2 len stop topk num beams pen V := by
        unfold rightB
        rw [HL.out, take_all HA.out (by rw [HX.out]; omega)]
        simp
      have HF := Lib.hid hfin
      clear hfin
      go_wp2_with (first | (go_at_call 33; refine (within_g _ _ _ _).mono ?_; rintro e w' ⟨rfl, rfl⟩) | (go_at_call 34; refine (heat_nan heat hi _).mono ?_; rintro e w' ⟨rfl, rfl⟩))
      all_goals
        go_ret
        exact ⟨ret_bool (by rw [HF.out, rest_2, HN.out]; rw [Bool.eq_iff_iff]; (try simp only [Bool.and_eq_true, decide_eq_true_eq, beq_iff_eq, Bool.false_eq_true, false_iff, true_iff, and_true, and_false, false_and, true_and, iff_self, not_false_eq_true]); (try omega)), ((Below.refl _ _).alloc (Nat.le_refl _) _).alloc (by simp) _⟩
set_option maxHeartbeats 1000000 in
theorem right3 (D H L V Hd E K W : Int) (b o : Nat) (n cap : Nat) (len stop seed topk : Int) (heat : Nat) (beams pen : Int) (xs : List Int) (num : Bool)
    (v1 : 2 ≤ V) (v2 : V ≤ 16) (hl : xs.length = n) (hn : 0 < n) (hm : n ≤ 9223372036854775807) (w : World) (hbl : b < w.heap.size) (hc : ∀ j, j < n → w.cell? ⟨b, o + j, none⟩ = some (.int .i64 (xs.getD j 0))) :
    Calls Try.prog 29 #[cfgV D H L V Hd E K W, askV 3 (some ⟨b, o, none⟩) n cap len stop seed topk heat beams pen] w fun e w' => e = .returned (.bool (rightB 3 xs len stop topk num beams pen V)) ∧ Below w.heap.size w w' := by
  have hn0 : ((n : Int) == 0) = false := by simp; omega
  have hbn : b ≠ w.heap.size := by omega
  have hbn1 : b ≠ w.heap.size + 1 := by omega
  have hlen : decide (0 < xs.length) = true := decide_eq_true (by omega)
  have HL := Lib.hid hlen
  have HX := Lib.hid hl
  have HC := Lib.hid hc
  clear hlen hl hc
  go_enter Try.func29, Try.ntmps29
  go_wp2
  go_loop [17] (fun i => ∃ j : Nat, j ≤ n ∧ i = .int .i64 j ∧ (xs.take j).all (fun t => decide (0 ≤ t) && decide (t ≤ V - 1)) = true) (fun i => n - (intOf i).toNat)
  case atStart => exact ⟨0, Nat.zero_le _, rfl, by simp⟩
  case round =>
    obtain ⟨j, hj, rfl, hall⟩ := hrel
    have HA := Lib.hid hall
    clear hall
    by_cases hlt : j < n
    · have hcj := HC.out j hlt
      have hx : xs.getD j 0 = xs[j]'(by rw [HX.out]; exact hlt) := by rw [List.getD_eq_getElem?_getD, List.getElem?_eq_getElem]; rfl
      rw [hx] at hcj
      generalize hX : xs[j]'(by rw [HX.out]; exact hlt) = x at hcj
      have HXJ := Lib.hid hX
      clear hx hX
      by_cases ht : 0 ≤ x ∧ x ≤ V - 1
      · obtain ⟨ht1, ht2⟩ := ht
        go_wp2_with (go_at_call 33; refine (within_g _ _ _ _).mono ?_; rintro e w' ⟨rfl, rfl⟩)
        have hts := take_step HA.out (by rw [HX.out]; exact hlt) (by rw [HXJ.out]; exact ⟨ht1, ht2⟩)
        refine ⟨⟨j + 1, ?_, ?_, hts⟩, ?_⟩
        · omega
        · go_num
        · simp [intOf]; omega
      · have htb : (decide (0 ≤ x) && decide (x ≤ V - 1)) = false := by
          rw [Bool.and_eq_false_iff]; simp only [decide_eq_false_iff_not]; omega
        have hfin : rightB 3 xs len stop topk num beams pen V = false := by
          unfold rightB
          rw [not_all (V := V) (j := j) (by rw [HX.out]; exact hlt) (by rw [HXJ.out]; exact ht)]
          simp
        have HF := Lib.hid hfin
        clear ht hfin
        go_wp2_with (go_at_call 33; refine (within_g _ _ _ _).mono ?_; rintro e w' ⟨rfl, rfl⟩)
        go_ret
        exact ⟨ret_bool HF.out.symm, ((Below.refl _ _).alloc (Nat.le_refl _) _).alloc (by simp) _⟩
    · have hfin : rightB 3 xs len stop topk num beams pen V = restB 3 len stop topk num beams pen V := by
        unfold rightB
        rw [HL.out, take_all HA.out (by rw [HX.out]; omega)]
        simp
      have HF := Lib.hid hfin
      clear hfin
      go_wp2_with (first | (go_at_call 33; refine (within_g _ _ _ _).mono ?_; rintro e w' ⟨rfl, rfl⟩))
      all_goals
        go_ret
        exact ⟨ret_bool (by rw [HF.out, rest_3]; rw [Bool.eq_iff_iff]; (try simp only [Bool.and_eq_true, decide_eq_true_eq, beq_iff_eq, Bool.false_eq_true, false_iff, true_iff, and_true, and_false, false_and, true_and, iff_self, not_false_eq_true]); (try omega)), ((Below.refl _ _).alloc (Nat.le_refl _) _).alloc (by simp) _⟩
set_option maxHeartbeats 1000000 in
theorem righto (D H L V Hd E K W : Int) (k : Int) (b o : Nat) (n cap : Nat) (len stop seed topk : Int) (heat : Nat) (beams pen : Int) (xs : List Int) (num : Bool)
    (v1 : 2 ≤ V) (v2 : V ≤ 16) (hl : xs.length = n) (hn : 0 < n) (hm : n ≤ 9223372036854775807) (k1 : (k == 1) = false) (k2 : (k == 2) = false) (k3 : (k == 3) = false) (w : World) (hbl : b < w.heap.size) (hc : ∀ j, j < n → w.cell? ⟨b, o + j, none⟩ = some (.int .i64 (xs.getD j 0))) :
    Calls Try.prog 29 #[cfgV D H L V Hd E K W, askV k (some ⟨b, o, none⟩) n cap len stop seed topk heat beams pen] w fun e w' => e = .returned (.bool (rightB k xs len stop topk num beams pen V)) ∧ Below w.heap.size w w' := by
  have hn0 : ((n : Int) == 0) = false := by simp; omega
  have hbn : b ≠ w.heap.size := by omega
  have hbn1 : b ≠ w.heap.size + 1 := by omega
  have hlen : decide (0 < xs.length) = true := decide_eq_true (by omega)
  have HL := Lib.hid hlen
  have HX := Lib.hid hl
  have HC := Lib.hid hc
  clear hlen hl hc
  go_enter Try.func29, Try.ntmps29
  go_wp2
  go_loop [17] (fun i => ∃ j : Nat, j ≤ n ∧ i = .int .i64 j ∧ (xs.take j).all (fun t => decide (0 ≤ t) && decide (t ≤ V - 1)) = true) (fun i => n - (intOf i).toNat)
  case atStart => exact ⟨0, Nat.zero_le _, rfl, by simp⟩
  case round =>
    obtain ⟨j, hj, rfl, hall⟩ := hrel
    have HA := Lib.hid hall
    clear hall
    by_cases hlt : j < n
    · have hcj := HC.out j hlt
      have hx : xs.getD j 0 = xs[j]'(by rw [HX.out]; exact hlt) := by rw [List.getD_eq_getElem?_getD, List.getElem?_eq_getElem]; rfl
      rw [hx] at hcj
      generalize hX : xs[j]'(by rw [HX.out]; exact hlt) = x at hcj
      have HXJ := Lib.hid hX
      clear hx hX
      by_cases ht : 0 ≤ x ∧ x ≤ V - 1
      · obtain ⟨ht1, ht2⟩ := ht
        go_wp2_with (go_at_call 33; refine (within_g _ _ _ _).mono ?_; rintro e w' ⟨rfl, rfl⟩)
        have hts := take_step HA.out (by rw [HX.out]; exact hlt) (by rw [HXJ.out]; exact ⟨ht1, ht2⟩)
        refine ⟨⟨j + 1, ?_, ?_, hts⟩, ?_⟩
        · omega
        · go_num
        · simp [intOf]; omega
      · have htb : (decide (0 ≤ x) && decide (x ≤ V - 1)) = false := by
          rw [Bool.and_eq_false_iff]; simp only [decide_eq_false_iff_not]; omega
        have hfin : rightB k xs len stop topk num beams pen V = false := by
          unfold rightB
          rw [not_all (V := V) (j := j) (by rw [HX.out]; exact hlt) (by rw [HXJ.out]; exact ht)]
          simp
        have HF := Lib.hid hfin
        clear ht hfin
        go_wp2_with (go_at_call 33; refine (within_g _ _ _ _).mono ?_; rintro e w' ⟨rfl, rfl⟩)
        go_ret
        exact ⟨ret_bool HF.out.symm, ((Below.refl _ _).alloc (Nat.le_refl _) _).alloc (by simp) _⟩
    · have hfin : rightB k xs len stop topk num beams pen V = restB k len stop topk num beams pen V := by
        unfold rightB
        rw [HL.out, take_all HA.out (by rw [HX.out]; omega)]
        simp
      have HF := Lib.hid hfin
      clear hfin
      go_wp2_with (first | (go_at_call 33; refine (within_g _ _ _ _).mono ?_; rintro e w' ⟨rfl, rfl⟩))
      all_goals
        go_ret
        exact ⟨ret_bool (by rw [HF.out, rest_o k len stop topk num beams pen V (by simpa using k1) (by simpa using k2) (by simpa using k3)]; rw [Bool.eq_iff_iff]; (try simp only [Bool.and_eq_true, decide_eq_true_eq, beq_iff_eq, Bool.false_eq_true, false_iff, true_iff, and_true, and_false, false_and, true_and, iff_self, not_false_eq_true]); (try omega)), ((Below.refl _ _).alloc (Nat.le_refl _) _).alloc (by simp) _⟩
theorem right_none (D H L V Hd E K W : Int) (k : Int) (p : Option Addr) (cap : Nat) (len stop seed topk : Int) (heat : Nat) (beams pen : Int) (w : World) :
    Calls Try.prog 29 #[cfgV D H L V Hd E K W, askV k p 0 cap len stop seed topk heat beams pen] w fun e w' => e = .returned (.bool false) ∧ Below w.heap.size w w' := by
  go_enter Try.func29, Try.ntmps29
  go_wp2
  go_ret
  exact ⟨rfl, ((Below.refl _ _).alloc (Nat.le_refl _) _).alloc (by simp) _⟩
theorem right_c (D H L V Hd E K W : Int) (k : Int) (p : Option Addr) (n cap : Nat) (len stop seed topk : Int) (heat : Nat) (beams pen : Int) (xs : List Int)
    (hV : 2 ≤ V ∧ V ≤ 16) (hh : heat < 2 ^ 64) (w : World) (hr : Rd w p n xs) :
    Calls Try.prog 29 #[cfgV D H L V Hd E K W, askV k p n cap len stop seed topk heat beams pen] w fun e w' => e = .returned (.bool (rightB k xs len stop topk (decide (isNum heat)) beams pen V)) ∧ Below w.heap.size w w' := by
  obtain ⟨hl, hm, hcell⟩ := hr
  rcases Nat.eq_zero_or_pos n with h0 | h0
  · subst h0
    have e : rightB k xs len stop topk (decide (isNum heat)) beams pen V = false := by unfold rightB; rw [hl]; rfl
    rw [e]
    exact right_none D H L V Hd E K W k p cap len stop seed topk heat beams pen w
  · obtain ⟨b, o, rfl, hbl, hc⟩ := hcell h0
    by_cases k1 : k = 1
    · subst k1; exact right1 D H L V Hd E K W b o n cap len stop seed topk heat beams pen xs _ hV.1 hV.2 hl h0 hm w hbl hc
    · by_cases k2 : k = 2
      · subst k2
        by_cases hi : isNum heat
        · exact right2a D H L V Hd E K W b o n cap len stop seed topk heat beams pen xs _ hV.1 hV.2 hl h0 hm hh hi (decide_eq_true hi) w hbl hc
        · exact right2b D H L V Hd E K W b o n cap len stop seed topk heat beams pen xs _ hV.1 hV.2 hl h0 hm hi (decide_eq_false hi) w hbl hc
      · by_cases k3 : k = 3
        · subst k3; exact right3 D H L V Hd E K W b o n cap len stop seed topk heat beams pen xs _ hV.1 hV.2 hl h0 hm w hbl hc
        · exact righto D H L V Hd E K W k b o n cap len stop seed topk heat beams pen xs _ hV.1 hV.2 hl h0 hm (by simpa using k1) (by simpa using k2) (by simpa using k3) w hbl hc
end Go.Proofs.Ytkmpjdffhbokdaa.ask
