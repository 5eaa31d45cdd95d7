/- A sequence: how it lies in the heap; Len, First, per, last. A sequence: open, Need, at. A sequence: own, Pages. -/
import Derived.Test.YtfimadeokdlpnaaVn
import Derived.Deep.RegionHeld3
import Derived.BigQuiet
import Derived.Deep.QuietTactic
import Derived.Laws.CopyOwn
namespace Go.Proofs.Ytfimadeokdlpnaa.kv
open Go.ChangeShapes Go.WideShapes Go.ChangeAt Go.RowKit K
set_option linter.unusedVariables false
set_option linter.unusedSimpArgs false
structure Sq where
  tag : ByteArray
  width : Nat
  pages : List Nat
  first : Nat
  len : Nat
def Sq.per (Q : Sq) : Nat := 32 / Q.width
def encN (l : List Nat) : List Value := l.map fun (n : Nat) => .int .i64 (n : Int)
theorem encN_length (l : List Nat) : (encN l).length = l.length := by simp [encN]
structure SR (w : World) (s p : Nat) (Q : Sq) (v : Value) (own : Option Nat) : Prop where
  head : Bk w s #[.pointer (some ⟨p, 0, none⟩), .string Q.tag, .int .i64 Q.width, v, .int .i64 Q.first, .int .i64 Q.len] 69
  row : Row w 3 1 v own Q.pages.length (encN Q.pages)
  ne : own ≠ some s
  wd : 1 ≤ Q.width ∧ Q.width ≤ 32
  tg : Q.tag.toList ≠ []
  fl : Q.first ≤ Q.len
  short : Q.len ≤ 1000
  few : Q.pages.length ≤ 1000
  fit : Q.len - Q.first ≤ Q.pages.length * Q.per
namespace SR
variable {w w' : World} {s p : Nat} {Q : Sq} {v : Value} {own : Option Nat} {G : Nat → Prop}
theorem chg (h : SR w s p Q v own) (hc : Chg G w w') (h1 : ¬ G s) (h2 : ∀ b, own = some b → ¬ G b) : SR w' s p Q v own :=
  ⟨hc.bk h.head h1, h.row.chg hc h2, h.ne, h.wd, h.tg, h.fl, h.short, h.few, h.fit⟩
theorem below (h : SR w s p Q v own) (hb : Below w.heap.size w w') : SR w' s p Q v own := h.chg (G := fun _ => False) (Chg.of_below hb rfl) id (fun _ _ => id)
theorem c0 (h : SR w s p Q v own) : w.cell? ⟨s, 0, none⟩ = some (.pointer (some ⟨p, 0, none⟩)) := h.head.cell 0 _ rfl
theorem c1 (h : SR w s p Q v own) : w.cell? ⟨s, 1, none⟩ = some (.string Q.tag) := h.head.cell 1 _ rfl
theorem c2 (h : SR w s p Q v own) : w.cell? ⟨s, 2, none⟩ = some (.int .i64 Q.width) := h.head.cell 2 _ rfl
theorem c3 (h : SR w s p Q v own) : ∃ a c, v = .slice a Q.pages.length c ∧ w.cell? ⟨s, 3, none⟩ = some (.slice a Q.pages.length c) := by
  obtain ⟨a, c, rfl⟩ := h.row.form
  exact ⟨a, c, rfl, h.head.cell 3 _ rfl⟩
theorem c4 (h : SR w s p Q v own) : w.cell? ⟨s, 4, none⟩ = some (.int .i64 Q.first) := h.head.cell 4 _ rfl
theorem c5 (h : SR w s p Q v own) : w.cell? ⟨s, 5, none⟩ = some (.int .i64 Q.len) := h.head.cell 5 _ rfl
theorem per_pos (h : SR w s p Q v own) : 1 ≤ Q.per ∧ Q.per ≤ 32 := by
  have := h.wd
  unfold Sq.per
  exact ⟨(Nat.le_div_iff_mul_le (by omega)).2 (by omega), Nat.div_le_self _ _⟩
/-- A page's number in the list: where it lies. -/
theorem page (h : SR w s p Q v own) {j n : Nat} (hj : Q.pages[j]? = some n) : ∃ b off c, v = .slice (some ⟨b, off, none⟩) Q.pages.length c ∧ w.cell? ⟨s, 3, none⟩ = some (.slice (some ⟨b, off, none⟩) Q.pages.length c) ∧ w.cell? ⟨b, off + j, none⟩ = some (.int .i64 (n : Int)) ∧ b < w.heap.size ∧ own = some b ∧ Q.pages.length ≤ c := by
  have hlt := (List.getElem?_eq_some_iff.1 hj).1
  obtain ⟨b, off, cap, cs, e1, e2, e3, e4, e5, e6, e7⟩ := h.row.pos (by omega)
  subst e1
  refine ⟨b, off, cap, rfl, h.head.cell 3 _ rfl, e5.cell _ _ ?_, e5.lt, e2, e3⟩
  rw [e7 j (by omega)]
  simp [encN, hj]
end SR
variable (s p : Nat) (Q : Sq) (v : Value) (own : Option Nat) (w : World)
theorem len_c (h : SR w s p Q v own) : Calls Try.prog 13 #[.pointer (some ⟨s, 0, none⟩)] w fun e w' => e = .returned (.int .i64 Q.len) ∧ w = w' := by
  have h5 := h.c5
  clear h
  go_enter Try.func13, Try.ntmps13
  go_wp2
  go_ret
  exact ⟨rfl, rfl⟩
theorem first_c (h : SR w s p Q v own) : Calls Try.prog 16 #[.pointer (some ⟨s, 0, none⟩)] w fun e w' => e = .returned (.int .i64 Q.first) ∧ w = w' := by
  have h5 := h.c4
  clear h
  go_enter Try.func16, Try.ntmps16
  go_wp2
  go_ret
  exact ⟨rfl, rfl⟩
theorem per_c (h : SR w s p Q v own) : Calls Try.prog 47 #[.pointer (some ⟨s, 0, none⟩)] w fun e w' => e = .returned (.int .i64 Q.per) ∧ w = w' := by
  have h5 := h.c2
  have h1 := h.wd
  have h2 := h.per_pos
  have hz : ((Q.width : Int) == 0) = false := by rw [beq_eq_false_iff_ne]; omega
  have hp : (32 : Int) / (Q.width : Int) = (Q.per : Int) := rfl
  generalize Q.per = P at *
  generalize Q.width = W at *
  clear h
  go_enter Try.func47, Try.ntmps47
  go_wp2
  go_ret
  exact ⟨ret_int hp, rfl⟩
theorem last_c (h : SR w s p Q v own) (n : Nat) (hn : Q.pages[Q.pages.length - 1]? = some n) : Calls Try.prog 33 #[.pointer (some ⟨s, 0, none⟩)] w fun e w' => e = .returned (.int .i64 n) ∧ ∃ m, w' = w.drewN m := by
  obtain ⟨b, off, c, rfl, h3, hc, hb, ho, hl⟩ := h.page hn
  have hlt := (List.getElem?_eq_some_iff.1 hn).1
  have hf := h.few
  generalize Q.pages.length = L at *
  have hL : (1 : Int) ≤ (L : Int) := by omega
  obtain ⟨k, rfl⟩ : ∃ k, L = k + 1 := ⟨L - 1, by omega⟩
  simp only [Nat.add_sub_cancel] at hc hn
  have e1 : ((k + 1 : Nat) : Int) - 1 = (k : Int) := by omega
  clear h
  go_enter Try.func33, Try.ntmps33
  go_wp2
  go_quiet (fail)
  go_wp2
  go_ret
  exact ⟨rfl, _, rfl⟩
end Go.Proofs.Ytfimadeokdlpnaa.kv
namespace Go.Proofs.Ytfimadeokdlpnaa.kv
open Go.ChangeShapes Go.WideShapes Go.ChangeAt Go.RowKit K
set_option linter.unusedVariables false
set_option linter.unusedSimpArgs false
theorem PR.drewN {w : World} {p b : Nat} {S : List Pg} (h : PR w p b S) (n : Nat) : PR (w.drewN n) p b S := ⟨h.head, h.rows, h.few, h.ne⟩
theorem SR.drewN {w : World} {s p : Nat} {Q : Sq} {v : Value} {own : Option Nat} (h : SR w s p Q v own) (n : Nat) : SR (w.drewN n) s p Q v own :=
  ⟨h.head, h.row, h.ne, h.wd, h.tg, h.fl, h.short, h.few, h.fit⟩
theorem wrap_mul (a b : Nat) (ha : a ≤ 1000) (hb : b ≤ 32) : IntKind.i64.wrap ((a : Int) * (b : Int)) = ((a * b : Nat) : Int) := by
  have : a * b ≤ 1000 * 32 := Nat.mul_le_mul ha hb
  rw [IntKind.wrap_i64]
  rw [← Int.natCast_mul]
  omega
def Sq.isOpen (Q : Sq) : Bool := decide (Q.len - Q.first < Q.pages.length * Q.per)
variable (s p : Nat) (Q : Sq) (v : Value) (own : Option Nat) (w : World)
theorem open_c (h : SR w s p Q v own) : Calls Try.prog 31 #[.pointer (some ⟨s, 0, none⟩)] w fun e w' => e = .returned (.bool Q.isOpen) ∧ ∃ m, w' = w.drewN m := by
  have PE : Hid (∀ n, Calls Try.prog 47 #[.pointer (some ⟨s, 0, none⟩)] (w.drewN n) fun e w' => e = .returned (.int .i64 Q.per) ∧ w.drewN n = w') := fun n => per_c s p Q v own _ (h.drewN n)
  obtain ⟨a, c, rfl, h3⟩ := h.c3
  have h4 := h.c4
  have h5 := h.c5
  have hw := wrap_mul Q.pages.length Q.per h.few h.per_pos.2
  have hM : Q.pages.length * Q.per ≤ 1000 * 32 := Nat.mul_le_mul h.few h.per_pos.2
  have h1 := h.fl
  have h2 := h.short
  have hfew := h.few
  have hO : Hid (Q.isOpen = decide (Q.len - Q.first < Q.pages.length * Q.per)) := rfl
  generalize Q.isOpen = o at *
  generalize Q.per = P at *
  generalize Q.pages.length = L at *
  generalize Q.len = N at *
  generalize Q.first = F at *
  have hw2 : (L : Int) * (P : Int) = ((L * P : Nat) : Int) := by simp
  generalize L * P = M at *
  have hw3 : wrap64 (M : Int) = M := by unfold wrap64; omega
  clear h
  go_enter Try.func31, Try.ntmps31
  go_wp2
  go_quiet ((go_at_call 47; exact Calls.quiet_of_same ((PE.out _).mono (fun e w' h => ⟨h.1, h.2.symm⟩))))
  go_wp2
  go_ret
  refine ⟨?_, _, rfl⟩
  rw [hO.out]
  exact ret_bool (by simp; omega)
def Sq.last (Q : Sq) : Nat := (Q.pages[Q.pages.length - 1]?).getD 0
def needOf (S : List Pg) (Q : Sq) : Nat := if Q.isOpen && (ownersOf S Q.last == 1) then 0 else 1
theorem Sq.last_at {Q : Sq} (h : 0 < Q.pages.length) : Q.pages[Q.pages.length - 1]? = some Q.last := by
  unfold Sq.last
  rw [List.getElem?_eq_getElem (by omega)]; rfl
theorem open_pos {Q : Sq} (h : Q.isOpen = true) : 0 < Q.pages.length := by
  unfold Sq.isOpen at h
  simp only [decide_eq_true_eq] at h
  rcases Nat.eq_zero_or_pos Q.pages.length with e | e
  · rw [e] at h; omega
  · exact e
theorem need_c (b : Nat) (S : List Pg) (h : SR w s p Q v own) (hp : PR w p b S) : Calls Try.prog 10 #[.pointer (some ⟨s, 0, none⟩)] w fun e w' => e = .returned (.int .i64 (needOf S Q)) ∧ ∃ m, w' = w.drewN m := by
  have OP : Hid (∀ n, Calls Try.prog 31 #[.pointer (some ⟨s, 0, none⟩)] (w.drewN n) fun e w' => e = .returned (.bool Q.isOpen) ∧ ∃ m, w' = (w.drewN n).drewN m) := fun n => open_c s p Q v own _ (h.drewN n)
  have OW : Hid (∀ n k, Calls Try.prog 32 #[.pointer (some ⟨p, 0, none⟩), .int .i64 k] (w.drewN n) fun e w' => e = .returned (.int .i64 (ownersOf S k)) ∧ w.drewN n = w') := fun n k => owners_c p b S _ (hp.drewN n) k
  have h0 := h.c0
  have hN : Hid (needOf S Q = if Q.isOpen && (ownersOf S Q.last == 1) then 0 else 1) := rfl
  generalize needOf S Q = r at *
  cases ho : Q.isOpen with
  | false =>
    have HO := Lib.hid ho
    rw [ho] at OP hN
    clear h hp ho
    go_enter Try.func10, Try.ntmps10
    go_wp2
    go_quiet ((go_at_call 31; exact Calls.quiet_of (OP.out _)))
    go_wp2
    go_ret
    exact ⟨by rw [hN.out]; rfl, _, rfl⟩
  | true =>
    have LA : Hid (∀ n, Calls Try.prog 33 #[.pointer (some ⟨s, 0, none⟩)] (w.drewN n) fun e w' => e = .returned (.int .i64 Q.last) ∧ ∃ m, w' = (w.drewN n).drewN m) := fun n => last_c s p Q v own _ (h.drewN n) _ (Sq.last_at (open_pos ho))
    have HO := Lib.hid ho
    rw [ho, Bool.true_and] at hN
    rw [ho] at OP
    generalize Q.last = l at *
    generalize hk : ownersOf S l = k at *
    have OWL : Hid (∀ n, Calls Try.prog 32 #[.pointer (some ⟨p, 0, none⟩), .int .i64 l] (w.drewN n) fun e w' => e = .returned (.int .i64 k) ∧ w.drewN n = w') := fun n => by have := OW.out n l; rw [hk] at this; exact this
    clear h hp ho hk
    by_cases h1 : k = 1
    · subst h1
      go_enter Try.func10, Try.ntmps10
      go_wp2
      go_quiet (first | (go_at_call 31; exact Calls.quiet_of (OP.out _)) | (go_at_call 33; exact Calls.quiet_of (LA.out _)) | (go_at_call 32; exact Calls.quiet_of_same ((OWL.out _).mono (fun e w' h => ⟨h.1, h.2.symm⟩))))
      go_wp2
      go_ret
      exact ⟨by rw [hN.out]; rfl, _, rfl⟩
    · have hz : ((k : Int) == 1) = false := by rw [beq_eq_false_iff_ne]; omega
      have hz2 : (k == 1) = false := by rw [beq_eq_false_iff_ne]; omega
      go_enter Try.func10, Try.ntmps10
      go_wp2
      go_quiet (first | (go_at_call 31; exact Calls.quiet_of (OP.out _)) | (go_at_call 33; exact Calls.quiet_of (LA.out _)) | (go_at_call 32; exact Calls.quiet_of_same ((OWL.out _).mono (fun e w' h => ⟨h.1, h.2.symm⟩))))
      go_wp2
      go_ret
      exact ⟨by rw [hN.out, hz2]; rfl, _, rfl⟩
theorem at_c (h : SR w s p Q v own) (i n : Nat) (h1 : Q.first ≤ i) (hi : i ≤ 1000) (hn : Q.pages[(i - Q.first) / Q.per]? = some n) :
    Calls Try.prog 35 #[.pointer (some ⟨s, 0, none⟩), .int .i64 i] w fun e w' => e = .returned (.tuple #[.int .i64 n, .int .i64 (((i - Q.first) % Q.per * Q.width : Nat) : Int)]) ∧ ∃ m, w' = w.drewN m := by
  have PE : Hid (∀ n, Calls Try.prog 47 #[.pointer (some ⟨s, 0, none⟩)] (w.drewN n) fun e w' => e = .returned (.int .i64 Q.per) ∧ w.drewN n = w') := fun n => per_c s p Q v own _ (h.drewN n)
  obtain ⟨b, off, c, rfl, h3, hc, hb, ho, hl⟩ := h.page hn
  have hjl := (List.getElem?_eq_some_iff.1 hn).1
  have hj := hn
  clear hn
  have h4 := h.c4
  have h2 := h.c2
  have hpp := h.per_pos
  have hwd := h.wd
  have hr : (i - Q.first) % Q.per < Q.per := Nat.mod_lt _ (by omega)
  have hwm := wrap_mul ((i - Q.first) % Q.per) Q.width (by omega) hwd.2
  have hfl := h.fl
  have hfew := h.few
  clear h hj
  generalize Q.per = P at *
  generalize Q.width = W at *
  generalize Q.pages.length = L at *
  generalize Q.first = F at *
  obtain ⟨d, hd⟩ : ∃ d, i - F = d := ⟨_, rfl⟩
  have hd1 : (i : Int) - (F : Int) = (d : Int) := by omega
  rw [hd] at hc hjl hr hwm ⊢
  have hq : (d : Int) / (P : Int) = ((d / P : Nat) : Int) := rfl
  have hm : (d : Int) % (P : Int) = ((d % P : Nat) : Int) := rfl
  have hd2 : d ≤ 1000 := by omega
  clear hd
  generalize hQ : d / P = q at *
  generalize hM : d % P = r at *
  have hw3 : (r : Int) * (W : Int) = ((r * W : Nat) : Int) := by simp
  have hz : ((P : Int) == 0) = false := by rw [beq_eq_false_iff_ne]; omega
  have hq0 : (0 : Int) ≤ (q : Int) := by omega
  have hq1 : (q : Int) < (L : Int) := by omega
  have hb2 : r * W ≤ 1000 * 32 := Nat.mul_le_mul (by omega) hwd.2
  generalize r * W = m at *
  go_enter Try.func35, Try.ntmps35
  go_wp2
  go_quiet ((go_at_call 47; exact Calls.quiet_of_same ((PE.out _).mono (fun e w' h => ⟨h.1, h.2.symm⟩))))
  go_wp2
  go_ret2
  exact ⟨rfl, _, rfl⟩
end Go.Proofs.Ytfimadeokdlpnaa.kv
namespace Go.Proofs.Ytfimadeokdlpnaa.kv
open Go.ChangeShapes Go.WideShapes Go.ChangeAt Go.RowKit K
set_option linter.unusedVariables false
set_option linter.unusedSimpArgs false
variable (s p : Nat) (Q : Sq) (v : Value) (own : Option Nat) (w : World)
theorem encN_one (l : List Nat) : ∀ u ∈ encN l, u.oneCell' = true := by
  intro u hu
  obtain ⟨n, _, rfl⟩ := List.mem_map.1 hu
  rfl
theorem own_c (h : SR w s p Q v own) : Calls Try.prog 37 #[.pointer (some ⟨s, 0, none⟩)] w fun e w' =>
    e = .returned (.slice (some ⟨w.heap.size, 0, none⟩) Q.pages.length Q.pages.length) ∧ Row w' 3 1 (.slice (some ⟨w.heap.size, 0, none⟩) Q.pages.length Q.pages.length) (some w.heap.size) Q.pages.length (encN Q.pages) ∧ Below w.heap.size w w' := by
  obtain ⟨i0, hi0, hz0, hz1, hz2⟩ := info_parts infoI
  obtain ⟨a, c, rfl, h3⟩ := h.c3
  obtain ⟨Z, hZ1, hZ2, hmk⟩ := mk_int Q.pages.length Q.pages.length (Nat.le_refl _) (by have := h.few; omega)
  have hfew := h.few
  have hlt := h.head.lt
  have hrow := Lib.hid h.row
  have HZ := Lib.hid hZ1
  have h3' : (w.alloc (.cells Z 3)).cell? ⟨s, 3, none⟩ = some (.slice a Q.pages.length c) := (World.cell?_of_block (Below.heap_alloc w _ _ hlt)).trans h3
  have HB : Hid ((w.alloc (.cells Z 3)).heap[w.heap.size]? = some (.cells Z.toList.toArray 3 (0, 0))) := by
    show _ = _
    have := Bk.new w Z 3
    unfold Bk at this
    simpa using this
  have HL := Lib.hid (encN_length Q.pages)
  have HP : Hid (0 < (encN Q.pages).length → (some ⟨w.heap.size, 0, none⟩ : Option Addr) = some ⟨w.heap.size, 0, none⟩ ∧ ∃ ad, a = some ad ∧ ∀ j v, (encN Q.pages)[j]? = some v → (w.alloc (.cells Z 3)).cell? (ad.add j) = some v) := by
    intro hpos
    rw [encN_length] at hpos
    obtain ⟨g, off, cap, cs, e1, e2, e3, e4, e5, e6, e7⟩ := h.row.pos hpos
    cases e1
    refine ⟨rfl, _, rfl, fun j u hu => ?_⟩
    rw [Addr.add_lit]
    refine (e5.alloc _).cell _ _ ?_
    rw [e7 j (by have := (List.getElem?_eq_some_iff.1 hu).1; rw [encN_length] at this; omega)]
    exact hu
  have HO := Lib.hid (encN_one Q.pages)
  have HW : Hid (Below w.heap.size w (w.alloc (.cells Z 3))) := (Below.refl _ _).alloc (Nat.le_refl _) _
  have hmk' := hmk w
  clear hmk h hZ1 hZ2
  generalize hE : encN Q.pages = xs at *
  have HE := Lib.hid hE
  generalize Q.pages.length = L at *
  clear hE
  go_enter Try.func37, Try.ntmps37
  go_wp2_with ((with_reducible show wpList _ _ _ (Oper.mk (some 15) _ _ _ _ _ :: _) _ _); refine wpList_copy_splice rfl (.tmp 10) (.tmp 14) 35 35 rfl 3 Try.underlying35 (by rw [hi0]; simp [hz1]) (some ⟨w.heap.size, 0, none⟩) a L L L c rfl rfl w.heap.size 0 Z.toList 3 HB.out xs (by rw [HL.out]; simp) HP.out (by rw [HL.out, Array.length_toList, HZ.out]; omega) HO.out w.heap.size w HW.out (Nat.le_refl _) ?_; intro w2 hw2 hb2; have HB2 := Lib.hid hb2; clear hb2)
  go_ret
  refine ⟨rfl, ⟨by rw [HL.out]; omega, .inr ⟨_, 0, L, _, rfl, rfl, Nat.le_refl _, by unfold maxLen; omega, hw2.out, ?_, fun j hj => ?_⟩⟩, HB2.out⟩
  · have := HL.out
    have := HZ.out
    simp [splice]; omega
  · have h1 := HL.out
    have h2 := HZ.out
    simp [splice, h1, h2]
    rw [List.getElem?_append_left (by omega)]
theorem pages_c (h : SR w s p Q v own) : Calls Try.prog 14 #[.pointer (some ⟨s, 0, none⟩)] w fun e w' =>
    e = .returned (.slice (some ⟨w.heap.size, 0, none⟩) Q.pages.length Q.pages.length) ∧ Row w' 3 1 (.slice (some ⟨w.heap.size, 0, none⟩) Q.pages.length Q.pages.length) (some w.heap.size) Q.pages.length (encN Q.pages) ∧ Below w.heap.size w w' := by
  have OW := Lib.hid (own_c s p Q v own w h)
  clear h
  go_enter Try.func14, Try.ntmps14
  go_wp2_with fail
  refine OW.out.mono ?_
  rintro e w' ⟨rfl, h1, h2⟩
  have H1 := Lib.hid h1
  have H2 := Lib.hid h2
  clear h1 h2
  go_wp2
  go_ret
  exact ⟨rfl, H1.out, H2.out⟩
end Go.Proofs.Ytfimadeokdlpnaa.kv
