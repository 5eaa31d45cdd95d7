/- A sequence: open, Need, at. -/
import Derived.Test.YtfimadeokdlpnaaVt
namespace Go.Proofs.Ytfimadeokdlpnaa.kv
open Go.ChangeShapes Go.WideShapes Go.ChangeAt Go.RowKit K
set_option linter.unusedVariables false
set_option linter.unusedSimpArgs false
theorem PR.drewN {w : World} {p b : Nat} {S : List Pg} (h : PR w p b S) (n : Nat) : PR (w.drewN n) p b S := ⟨h.head, h.rows, h.few, h.ne⟩
theorem SR.drewN {w : World} {s p : Nat} {Q : Sq} {v : Value} {own : Option Nat} (h : SR w s p Q v own) (n : Nat) : SR (w.drewN n) s p Q v own :=
  ⟨h.head, h.row, h.ne, h.wd, h.tg, h.fl, h.short, h.few, h.fit⟩
theorem wrap_mul (a b : Nat) (ha : a ≤ 1000) (hb : b ≤ 32) : IntKind.i64.wrap ((a : Int) * (b : Int)) = ((a * b : Nat) : Int) := by
  have : a * b ≤ 1000 * 32 := Nat.mul_le_mul ha hb
  rw [IntKind.wrap_i64]
  rw [← Int.natCast_mul]
  omega
def Sq.isOpen (Q : Sq) : Bool := decide (Q.len - Q.first < Q.pages.length * Q.per)
variable (s p : Nat) (Q : Sq) (v : Value) (own : Option Nat) (w : World)
theorem open_c (h : SR w s p Q v own) : Calls Try.prog 31 #[.pointer (some ⟨s, 0, none⟩)] w fun e w' => e = .returned (.bool Q.isOpen) ∧ ∃ m, w' = w.drewN m := by
  have PE : Hid (∀ n, Calls Try.prog 47 #[.pointer (some ⟨s, 0, none⟩)] (w.drewN n) fun e w' => e = .returned (.int .i64 Q.per) ∧ w.drewN n = w') := fun n => per_c s p Q v own _ (h.drewN n)
  obtain ⟨a, c, rfl, h3⟩ := h.c3
  have h4 := h.c4
  have h5 := h.c5
  have hw := wrap_mul Q.pages.length Q.per h.few h.per_pos.2
  have hM : Q.pages.length * Q.per ≤ 1000 * 32 := Nat.mul_le_mul h.few h.per_pos.2
  have h1 := h.fl
  have h2 := h.short
  have hfew := h.few
  have hO : Hid (Q.isOpen = decide (Q.len - Q.first < Q.pages.length * Q.per)) := rfl
  generalize Q.isOpen = o at *
  generalize Q.per = P at *
  generalize Q.pages.length = L at *
  generalize Q.len = N at *
  generalize Q.first = F at *
  have hw2 : (L : Int) * (P : Int) = ((L * P : Nat) : Int) := by simp
  generalize L * P = M at *
  have hw3 : wrap64 (M : Int) = M := by unfold wrap64; omega
  clear h
  go_enter Try.func31, Try.ntmps31
  go_wp2
  go_quiet ((go_at_call 47; exact Calls.quiet_of_same ((PE.out _).mono (fun e w' h => ⟨h.1, h.2.symm⟩))))
  go_wp2
  go_ret
  refine ⟨?_, _, rfl⟩
  rw [hO.out]
  exact ret_bool (by simp; omega)
def Sq.last (Q : Sq) : Nat := (Q.pages[Q.pages.length - 1]?).getD 0
def needOf (S : List Pg) (Q : Sq) : Nat := if Q.isOpen && (ownersOf S Q.last == 1) then 0 else 1
theorem Sq.last_at {Q : Sq} (h : 0 < Q.pages.length) : Q.pages[Q.pages.length - 1]? = some Q.last := by
  unfold Sq.last
  rw [List.getElem?_eq_getElem (by omega)]; rfl
theorem open_pos {Q : Sq} (h : Q.isOpen = true) : 0 < Q.pages.length := by
  unfold Sq.isOpen at h
  simp only [decide_eq_true_eq] at h
  rcases Nat.eq_zero_or_pos Q.pages.length with e | e
  · rw [e] at h; omega
  · exact e
theorem need_c (b : Nat) (S : List Pg) (h : SR w s p Q v own) (hp : PR w p b S) : Calls Try.prog 10 #[.pointer (some ⟨s, 0, none⟩)] w fun e w' => e = .returned (.int .i64 (needOf S Q)) ∧ ∃ m, w' = w.drewN m := by
  have OP : Hid (∀ n, Calls Try.prog 31 #[.pointer (some ⟨s, 0, none⟩)] (w.drewN n) fun e w' => e = .returned (.bool Q.isOpen) ∧ ∃ m, w' = (w.drewN n).drewN m) := fun n => open_c s p Q v own _ (h.drewN n)
  have OW : Hid (∀ n k, Calls Try.prog 32 #[.pointer (some ⟨p, 0, none⟩), .int .i64 k] (w.drewN n) fun e w' => e = .returned (.int .i64 (ownersOf S k)) ∧ w.drewN n = w') := fun n k => owners_c p b S _ (hp.drewN n) k
  have h0 := h.c0
  have hN : Hid (needOf S Q = if Q.isOpen && (ownersOf S Q.last == 1) then 0 else 1) := rfl
  generalize needOf S Q = r at *
  cases ho : Q.isOpen with
  | false =>
    have HO := Lib.hid ho
    rw [ho] at OP hN
    clear h hp ho
    go_enter Try.func10, Try.ntmps10
    go_wp2
    go_quiet ((go_at_call 31; exact Calls.quiet_of (OP.out _)))
    go_wp2
    go_ret
    exact ⟨by rw [hN.out]; rfl, _, rfl⟩
  | true =>
    have LA : Hid (∀ n, Calls Try.prog 33 #[.pointer (some ⟨s, 0, none⟩)] (w.drewN n) fun e w' => e = .returned (.int .i64 Q.last) ∧ ∃ m, w' = (w.drewN n).drewN m) := fun n => last_c s p Q v own _ (h.drewN n) _ (Sq.last_at (open_pos ho))
    have HO := Lib.hid ho
    rw [ho, Bool.true_and] at hN
    rw [ho] at OP
    generalize Q.last = l at *
    generalize hk : ownersOf S l = k at *
    have OWL : Hid (∀ n, Calls Try.prog 32 #[.pointer (some ⟨p, 0, none⟩), .int .i64 l] (w.drewN n) fun e w' => e = .returned (.int .i64 k) ∧ w.drewN n = w') := fun n => by have := OW.out n l; rw [hk] at this; exact this
    clear h hp ho hk
    by_cases h1 : k = 1
    · subst h1
      go_enter Try.func10, Try.ntmps10
      go_wp2
      go_quiet (first | (go_at_call 31; exact Calls.quiet_of (OP.out _)) | (go_at_call 33; exact Calls.quiet_of (LA.out _)) | (go_at_call 32; exact Calls.quiet_of_same ((OWL.out _).mono (fun e w' h => ⟨h.1, h.2.symm⟩))))
      go_wp2
      go_ret
      exact ⟨by rw [hN.out]; rfl, _, rfl⟩
    · have hz : ((k : Int) == 1) = false := by rw [beq_eq_false_iff_ne]; omega
      have hz2 : (k == 1) = false := by rw [beq_eq_false_iff_ne]; omega
      go_enter Try.func10, Try.ntmps10
      go_wp2
      go_quiet (first | (go_at_call 31; exact Calls.quiet_of (OP.out _)) | (go_at_call 33; exact Calls.quiet_of (LA.out _)) | (go_at_call 32; exact Calls.quiet_of_same ((OWL.out _).mono (fun e w' h => ⟨h.1, h.2.symm⟩))))
      go_wp2
      go_ret
      exact ⟨by rw [hN.out, hz2]; rfl, _, rfl⟩
theorem at_c (h : SR w s p Q v own) (i n : Nat) (h1 : Q.first ≤ i) (hi : i ≤ 1000) (hn : Q.pages[(i - Q.first) / Q.per]? = some n) :
    Calls Try.prog 35 #[.pointer (some ⟨s, 0, none⟩), .int .i64 i] w fun e w' => e = .returned (.tuple #[.int .i64 n, .int .i64 (((i - Q.first) % Q.per * Q.width : Nat) : Int)]) ∧ ∃ m, w' = w.drewN m := by
  have PE : Hid (∀ n, Calls Try.prog 47 #[.pointer (some ⟨s, 0, none⟩)] (w.drewN n) fun e w' => e = .returned (.int .i64 Q.per) ∧ w.drewN n = w') := fun n => per_c s p Q v own _ (h.drewN n)
  obtain ⟨b, off, c, rfl, h3, hc, hb, ho, hl⟩ := h.page hn
  have hjl := (List.getElem?_eq_some_iff.1 hn).1
  have hj := hn
  clear hn
  have h4 := h.c4
  have h2 := h.c2
  have hpp := h.per_pos
  have hwd := h.wd
  have hr : (i - Q.first) % Q.per < Q.per := Nat.mod_lt _ (by omega)
  have hwm := wrap_mul ((i - Q.first) % Q.per) Q.width (by omega) hwd.2
  have hfl := h.fl
  have hfew := h.few
  clear h hj
  generalize Q.per = P at *
  generalize Q.width = W at *
  generalize Q.pages.length = L at *
  generalize Q.first = F at *
  obtain ⟨d, hd⟩ : ∃ d, i - F = d := ⟨_, rfl⟩
  have hd1 : (i : Int) - (F : Int) = (d : Int) := by omega
  rw [hd] at hc hjl hr hwm ⊢
  have hq : (d : Int) / (P : Int) = ((d / P : Nat) : Int) := rfl
  have hm : (d : Int) % (P : Int) = ((d % P : Nat) : Int) := rfl
  have hd2 : d ≤ 1000 := by omega
  clear hd
  generalize hQ : d / P = q at *
  generalize hM : d % P = r at *
  have hw3 : (r : Int) * (W : Int) = ((r * W : Nat) : Int) := by simp
  have hz : ((P : Int) == 0) = false := by rw [beq_eq_false_iff_ne]; omega
  have hq0 : (0 : Int) ≤ (q : Int) := by omega
  have hq1 : (q : Int) < (L : Int) := by omega
  have hb2 : r * W ≤ 1000 * 32 := Nat.mul_le_mul (by omega) hwd.2
  generalize r * W = m at *
  go_enter Try.func35, Try.ntmps35
  go_wp2
  go_quiet ((go_at_call 47; exact Calls.quiet_of_same ((PE.out _).mono (fun e w' h => ⟨h.1, h.2.symm⟩))))
  go_wp2
  go_ret2
  exact ⟨rfl, _, rfl⟩
end Go.Proofs.Ytfimadeokdlpnaa.kv
