/- AdmitNeeds: an empty prompt; where the law says nothing; the whole walk. -/
import Derived.Test.YtkmpjdffhbokdaaNds
namespace Go.Proofs.Ytkmpjdffhbokdaa.ask
open Go.ChangeShapes Go.WideShapes Go.ChangeAt Go.RowKit K Fl ldx cfg
set_option linter.unusedVariables false
set_option linter.unusedSimpArgs false
theorem needs_zero (D H L V Hd E K W : Int) (k : Int) (p : Option Addr) (cap : Nat) (len stop seed topk : Int) (heat : Nat) (beams pen : Int) (w : World)
   (weights : Int) (hw2 : weights ≤ 1099511627776) (z : Int)
   (hc : ∀ (p : Option Addr) (cap : Nat) w, Rd w p 0 [] → Calls Try.prog 14 #[cfgV D H L V Hd E K W, askV k p 0 cap len stop seed topk heat beams pen, .int .i64 weights] w fun e w' => e = .returned (.int .i64 z) ∧ Below w.heap.size w w')
   (hf : ∀ (p : Option Addr) (cap : Nat) w, Rd w p 0 [] → Calls Try.prog 15 #[cfgV D H L V Hd E K W, askV k p 0 cap len stop seed topk heat beams pen, .int .i64 weights] w fun e w' => e = .returned (.int .i64 z) ∧ Below w.heap.size w w') :
    Calls Try.prog 5 #[cfgV D H L V Hd E K W, askV k p 0 cap len stop seed topk heat beams pen, .int .i64 weights] w fun e w' => e = .returned (.bool true) ∧ Below w.heap.size w w' := by
  have HC := Lib.hid hc
  have HF := Lib.hid hf
  clear hc hf
  cases p with
  | none =>
    go_enter Try.func5, Try.ntmps5
    go_wp2_with fail
    generalize hW : ((w.alloc _).alloc _).alloc _ = w2
    have HC0' : Bk w2 w.heap.size #[.int .i64 D, .int .i64 H, .int .i64 L, .int .i64 V, .int .i64 Hd, .int .i64 E, .int .i64 K, .int .i64 W] 33 := by
      rw [← hW]; exact ((Bk.new w _ _).alloc _).alloc _
    have HC1' : Bk w2 (w.heap.size + 1) #[.int .i64 k, .slice (some ⟨w.heap.size + 1 + 1, 0, none⟩) 0 0, .int .i64 len, .int .i64 stop, .int .u64 seed, .int .i64 topk, .float .f64 heat, .int .i64 beams, .int .i64 pen] 38 := by
      rw [← hW]; exact (Bk.new' _ _ _ _ (by simp)).alloc _
    have hsz : w2.heap.size = w.heap.size + 3 := by rw [← hW]; simp
    have hbel : Below w.heap.size w w2 := by rw [← hW]; exact (((Below.refl _ _).alloc (Nat.le_refl _) _).alloc (by simp) _).alloc (by simp; omega) _
    have hrd : Rd w2 (some ⟨w.heap.size + 1 + 1, 0, none⟩) 0 [] := ⟨rfl, by omega, fun h => absurd h (by omega)⟩
    have HRD := Lib.hid hrd
    have HB := Lib.hid hbel
    have s0 : w.heap.size < w2.drew.heap.size := by show w.heap.size < w2.heap.size; omega
    have s1 : w.heap.size + 1 < w2.drew.heap.size := by show w.heap.size + 1 < w2.heap.size; omega
    have HC0d := HC0'.drew
    have HC1d := HC1'.drew
    have S0 := Lib.hid s0
    have S1 := Lib.hid s1
    clear s0 s1 hsz hbel hrd hW
    go_region_held3 (fun w' => w'.cell? ⟨w.heap.size, 0, none⟩ = some (.int .i64 D) ∧ w'.cell? ⟨w.heap.size, 1, none⟩ = some (.int .i64 H) ∧ w'.cell? ⟨w.heap.size, 2, none⟩ = some (.int .i64 L) ∧ w'.cell? ⟨w.heap.size, 3, none⟩ = some (.int .i64 V) ∧ w'.cell? ⟨w.heap.size, 4, none⟩ = some (.int .i64 Hd) ∧ w'.cell? ⟨w.heap.size, 5, none⟩ = some (.int .i64 E) ∧ w'.cell? ⟨w.heap.size, 6, none⟩ = some (.int .i64 K) ∧ w'.cell? ⟨w.heap.size, 7, none⟩ = some (.int .i64 W) ∧ w'.cell? ⟨w.heap.size + 1, 0, none⟩ = some (.int .i64 k) ∧ w'.cell? ⟨w.heap.size + 1, 1, none⟩ = some (.slice (some ⟨w.heap.size + 1 + 1, 0, none⟩) 0 0) ∧ w'.cell? ⟨w.heap.size + 1, 2, none⟩ = some (.int .i64 len) ∧ w'.cell? ⟨w.heap.size + 1, 3, none⟩ = some (.int .i64 stop) ∧ w'.cell? ⟨w.heap.size + 1, 4, none⟩ = some (.int .u64 seed) ∧ w'.cell? ⟨w.heap.size + 1, 5, none⟩ = some (.int .i64 topk) ∧ w'.cell? ⟨w.heap.size + 1, 6, none⟩ = some (.float .f64 heat) ∧ w'.cell? ⟨w.heap.size + 1, 7, none⟩ = some (.int .i64 beams) ∧ w'.cell? ⟨w.heap.size + 1, 8, none⟩ = some (.int .i64 pen))
      (first | exact held17 HC0' HC1' | exact held17 (HC0d.below hb1 S0.out) (HC1d.below hb1 S1.out) | exact held17 ((HC0d.below hb1 S0.out).below hb2 (Nat.lt_of_lt_of_le S0.out hb1.size)) ((HC1d.below hb1 S1.out).below hb2 (Nat.lt_of_lt_of_le S1.out hb1.size)))
      (first | (go_at_call 14; refine (HC.out _ _ _ ?_).mono ?_; (exact HRD.out.below ((Below.refl _ _).drew)); rintro e w3 ⟨rfl, hb1⟩) | (go_at_call 15; refine (HF.out _ _ _ ?_).mono ?_; (exact (HRD.out.below ((Below.refl _ _).drew)).below hb1); rintro e w4 ⟨rfl, hb2⟩))
    go_wp2
    go_ret
    exact ⟨ret_bool (by simp), below_step (below_step HB.out.drew hb1) hb2⟩
  | some ad =>
    go_enter Try.func5, Try.ntmps5
    go_wp2_with fail
    generalize hW : ((w.alloc _).alloc _).alloc _ = w2
    have HC0' : Bk w2 w.heap.size #[.int .i64 D, .int .i64 H, .int .i64 L, .int .i64 V, .int .i64 Hd, .int .i64 E, .int .i64 K, .int .i64 W] 33 := by
      rw [← hW]; exact ((Bk.new w _ _).alloc _).alloc _
    have HC1' : Bk w2 (w.heap.size + 1) #[.int .i64 k, .slice (some ⟨w.heap.size + 1 + 1, 0, none⟩) 0 0, .int .i64 len, .int .i64 stop, .int .u64 seed, .int .i64 topk, .float .f64 heat, .int .i64 beams, .int .i64 pen] 38 := by
      rw [← hW]; exact (Bk.new' _ _ _ _ (by simp)).alloc _
    have hsz : w2.heap.size = w.heap.size + 3 := by rw [← hW]; simp
    have hbel : Below w.heap.size w w2 := by rw [← hW]; exact (((Below.refl _ _).alloc (Nat.le_refl _) _).alloc (by simp) _).alloc (by simp; omega) _
    have hrd : Rd w2 (some ⟨w.heap.size + 1 + 1, 0, none⟩) 0 [] := ⟨rfl, by omega, fun h => absurd h (by omega)⟩
    have HRD := Lib.hid hrd
    have HB := Lib.hid hbel
    have s0 : w.heap.size < w2.drew.heap.size := by show w.heap.size < w2.heap.size; omega
    have s1 : w.heap.size + 1 < w2.drew.heap.size := by show w.heap.size + 1 < w2.heap.size; omega
    have HC0d := HC0'.drew
    have HC1d := HC1'.drew
    have S0 := Lib.hid s0
    have S1 := Lib.hid s1
    clear s0 s1 hsz hbel hrd hW
    go_region_held3 (fun w' => w'.cell? ⟨w.heap.size, 0, none⟩ = some (.int .i64 D) ∧ w'.cell? ⟨w.heap.size, 1, none⟩ = some (.int .i64 H) ∧ w'.cell? ⟨w.heap.size, 2, none⟩ = some (.int .i64 L) ∧ w'.cell? ⟨w.heap.size, 3, none⟩ = some (.int .i64 V) ∧ w'.cell? ⟨w.heap.size, 4, none⟩ = some (.int .i64 Hd) ∧ w'.cell? ⟨w.heap.size, 5, none⟩ = some (.int .i64 E) ∧ w'.cell? ⟨w.heap.size, 6, none⟩ = some (.int .i64 K) ∧ w'.cell? ⟨w.heap.size, 7, none⟩ = some (.int .i64 W) ∧ w'.cell? ⟨w.heap.size + 1, 0, none⟩ = some (.int .i64 k) ∧ w'.cell? ⟨w.heap.size + 1, 1, none⟩ = some (.slice (some ⟨w.heap.size + 1 + 1, 0, none⟩) 0 0) ∧ w'.cell? ⟨w.heap.size + 1, 2, none⟩ = some (.int .i64 len) ∧ w'.cell? ⟨w.heap.size + 1, 3, none⟩ = some (.int .i64 stop) ∧ w'.cell? ⟨w.heap.size + 1, 4, none⟩ = some (.int .u64 seed) ∧ w'.cell? ⟨w.heap.size + 1, 5, none⟩ = some (.int .i64 topk) ∧ w'.cell? ⟨w.heap.size + 1, 6, none⟩ = some (.float .f64 heat) ∧ w'.cell? ⟨w.heap.size + 1, 7, none⟩ = some (.int .i64 beams) ∧ w'.cell? ⟨w.heap.size + 1, 8, none⟩ = some (.int .i64 pen))
      (first | exact held17 HC0' HC1' | exact held17 (HC0d.below hb1 S0.out) (HC1d.below hb1 S1.out) | exact held17 ((HC0d.below hb1 S0.out).below hb2 (Nat.lt_of_lt_of_le S0.out hb1.size)) ((HC1d.below hb1 S1.out).below hb2 (Nat.lt_of_lt_of_le S1.out hb1.size)))
      (first | (go_at_call 14; refine (HC.out _ _ _ ?_).mono ?_; (exact HRD.out.below ((Below.refl _ _).drew)); rintro e w3 ⟨rfl, hb1⟩) | (go_at_call 15; refine (HF.out _ _ _ ?_).mono ?_; (exact (HRD.out.below ((Below.refl _ _).drew)).below hb1); rintro e w4 ⟨rfl, hb2⟩))
    go_wp2
    go_ret
    exact ⟨ret_bool (by simp), below_step (below_step HB.out.drew hb1) hb2⟩
theorem needs_out (D H L V Hd E K W : Int) (k : Int) (p : Option Addr) (n cap : Nat) (len stop seed topk : Int) (heat : Nat) (beams pen : Int) (w : World)
   (weights : Int) (h : (decide ((1000 : Int) < (n : Int)) || decide (1099511627776 < weights)) = true) :
    Calls Try.prog 5 #[cfgV D H L V Hd E K W, askV k p n cap len stop seed topk heat beams pen, .int .i64 weights] w fun e w' => e = .returned (.bool true) ∧ Below w.heap.size w w' := by
  by_cases h1 : (1000 : Int) < (n : Int)
  · clear h
    go_enter Try.func5, Try.ntmps5
    go_wp2
    go_ret
    exact ⟨rfl, ((Below.refl _ _).alloc (Nat.le_refl _) _).alloc (by simp) _⟩
  · have h2 : 1099511627776 < weights := by
      rw [Bool.or_eq_true, decide_eq_true_eq, decide_eq_true_eq] at h; omega
    clear h
    go_enter Try.func5, Try.ntmps5
    go_wp2
    go_ret
    exact ⟨rfl, ((Below.refl _ _).alloc (Nat.le_refl _) _).alloc (by simp) _⟩
theorem needs_walk (D H L V Hd E K W : Int) (k : Int) (p : Option Addr) (n cap : Nat) (len stop seed topk : Int) (heat : Nat) (beams pen : Int) (xs : List Int) (hh : heat < 2 ^ 64) (w : World) (hr : Rd w p n xs)
   (weights : Int) (hw1 : -9223372036854775808 ≤ weights) (hw3 : weights ≤ 9223372036854775807) :
    Calls Try.prog 5 #[cfgV D H L V Hd E K W, askV k p n cap len stop seed topk heat beams pen, .int .i64 weights] w fun e w' => e = .returned (.bool true) ∧ Below w.heap.size w w' := by
  by_cases h : (decide ((1000 : Int) < (n : Int)) || decide (1099511627776 < weights)) = true
  · exact needs_out D H L V Hd E K W k p n cap len stop seed topk heat beams pen w weights h
  · rw [Bool.or_eq_true, decide_eq_true_eq, decide_eq_true_eq] at h
    have hw2 : weights ≤ 1099511627776 := by omega
    have hn : n ≤ 1000 := by omega
    generalize hcb : cfgB D H L V Hd E K W = c
    generalize hrb : rightB k xs len stop topk (decide (isNum heat)) beams pen V = r
    generalize hek : chkI c r k n len = e
    have both : ∃ z, (∀ (p : Option Addr) (cap : Nat) w, Rd w p n xs → Calls Try.prog 14 #[cfgV D H L V Hd E K W, askV k p n cap len stop seed topk heat beams pen, .int .i64 weights] w fun e w' => e = .returned (.int .i64 z) ∧ Below w.heap.size w w') ∧
        (∀ (p : Option Addr) (cap : Nat) w, Rd w p n xs → Calls Try.prog 15 #[cfgV D H L V Hd E K W, askV k p n cap len stop seed topk heat beams pen, .int .i64 weights] w fun e w' => e = .returned (.int .i64 z) ∧ Below w.heap.size w w') := by
      by_cases he : e = 0
      · subst he
        have hc : c = true := by
          cases c
          · simp [chkI] at hek
          · rfl
        have hr2 : r = true := by
          cases r
          · subst hc; simp [chkI] at hek
          · rfl
        subst hc hr2
        exact ⟨needI (rowsI k n len) (seqI k beams) (32 / (2 * D * L)) weights,
          fun p cap w hrd => need_ok_c D H L V Hd E K W k p n cap len stop seed topk heat beams pen xs hh w hrd hrb _ _ (fine_of D H L V Hd E K W k p n cap len stop seed topk heat beams pen xs _ hcb hrb hek) hek weights hw1 hw2,
          fun p cap w hrd => need_ok_r D H L V Hd E K W k p n cap len stop seed topk heat beams pen xs hh w hrd hrb _ _ (fine_of D H L V Hd E K W k p n cap len stop seed topk heat beams pen xs _ hcb hrb hek) hek weights hw1 hw2⟩
      · have hne : (e != 0) = true := by simp [he]
        exact ⟨0, fun p cap w hrd => need_bad_c D H L V Hd E K W k p n cap len stop seed topk heat beams pen xs hh w hrd r hrb c hcb e hek hne weights,
          fun p cap w hrd => need_bad_r D H L V Hd E K W k p n cap len stop seed topk heat beams pen xs hh w hrd r hrb c hcb e hek hne weights⟩
    obtain ⟨z, hz1, hz2⟩ := both
    rcases Nat.eq_zero_or_pos n with h0 | h0
    · subst h0
      obtain rfl : xs = [] := List.eq_nil_of_length_eq_zero hr.1
      exact needs_zero D H L V Hd E K W k p cap len stop seed topk heat beams pen w weights hw2 z hz1 hz2
    · obtain ⟨b, o, rfl, _, _⟩ := hr.2.2 h0
      exact needs_ok D H L V Hd E K W k b o n cap len stop seed topk heat beams pen xs w hr h0 weights hw2 hn z hz1 hz2
end Go.Proofs.Ytkmpjdffhbokdaa.ask
