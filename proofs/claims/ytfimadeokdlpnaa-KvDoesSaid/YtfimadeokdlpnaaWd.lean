/- The reference's sequences: New, rows, fits, Need. -/
import Derived.Test.YtfimadeokdlpnaaWc
namespace Go.Proofs.Ytfimadeokdlpnaa.kv
open Go.ChangeShapes Go.WideShapes Go.ChangeAt Go.RowKit K
set_option linter.unusedVariables false
set_option linter.unusedSimpArgs false
structure RQ (w : World) (s p : Nat) (Q : Sq) (v : Value) (own : Option Nat) : Prop where
  head : Bk w s #[.pointer (some ⟨p, 0, none⟩), .string Q.tag, .int .i64 Q.width, v, .int .i64 Q.first, .int .i64 Q.len] 56
  row : Row w 3 1 v own Q.pages.length (encN Q.pages)
  ne : own ≠ some s
  wd : 1 ≤ Q.width ∧ Q.width ≤ 32
  tg : Q.tag.toList ≠ []
  fl : Q.first ≤ Q.len
  short : Q.len ≤ 1000
  few : Q.pages.length ≤ 1000
  fit : Q.len - Q.first ≤ Q.pages.length * Q.per
namespace RQ
variable {w w' : World} {s p : Nat} {Q : Sq} {v : Value} {own : Option Nat} {G : Nat → Prop}
theorem chg (h : RQ w s p Q v own) (hc : Chg G w w') (h1 : ¬ G s) (h2 : ∀ b, own = some b → ¬ G b) : RQ w' s p Q v own :=
  ⟨hc.bk h.head h1, h.row.chg hc h2, h.ne, h.wd, h.tg, h.fl, h.short, h.few, h.fit⟩
theorem below (h : RQ w s p Q v own) (hb : Below w.heap.size w w') : RQ w' s p Q v own := h.chg (G := fun _ => False) (Chg.of_below hb rfl) id (fun _ _ => id)
theorem c0 (h : RQ w s p Q v own) : w.cell? ⟨s, 0, none⟩ = some (.pointer (some ⟨p, 0, none⟩)) := h.head.cell 0 _ rfl
theorem c1 (h : RQ w s p Q v own) : w.cell? ⟨s, 1, none⟩ = some (.string Q.tag) := h.head.cell 1 _ rfl
theorem c2 (h : RQ w s p Q v own) : w.cell? ⟨s, 2, none⟩ = some (.int .i64 Q.width) := h.head.cell 2 _ rfl
theorem c3 (h : RQ w s p Q v own) : ∃ a c, v = .slice a Q.pages.length c ∧ w.cell? ⟨s, 3, none⟩ = some (.slice a Q.pages.length c) := by
  obtain ⟨a, c, rfl⟩ := h.row.form
  exact ⟨a, c, rfl, h.head.cell 3 _ rfl⟩
theorem c4 (h : RQ w s p Q v own) : w.cell? ⟨s, 4, none⟩ = some (.int .i64 Q.first) := h.head.cell 4 _ rfl
theorem c5 (h : RQ w s p Q v own) : w.cell? ⟨s, 5, none⟩ = some (.int .i64 Q.len) := h.head.cell 5 _ rfl
theorem per_pos (h : RQ w s p Q v own) : 1 ≤ Q.per ∧ Q.per ≤ 32 := by
  have := h.wd
  unfold Sq.per
  exact ⟨(Nat.le_div_iff_mul_le (by omega)).2 (by omega), Nat.div_le_self _ _⟩
/-- A page's number in the list: where it lies. -/
theorem page (h : RQ w s p Q v own) {j n : Nat} (hj : Q.pages[j]? = some n) : ∃ b off c, v = .slice (some ⟨b, off, none⟩) Q.pages.length c ∧ w.cell? ⟨s, 3, none⟩ = some (.slice (some ⟨b, off, none⟩) Q.pages.length c) ∧ w.cell? ⟨b, off + j, none⟩ = some (.int .i64 (n : Int)) ∧ b < w.heap.size ∧ own = some b ∧ Q.pages.length ≤ c := by
  have hlt := (List.getElem?_eq_some_iff.1 hj).1
  obtain ⟨b, off, cap, cs, e1, e2, e3, e4, e5, e6, e7⟩ := h.row.pos (by omega)
  subst e1
  refine ⟨b, off, cap, rfl, h.head.cell 3 _ rfl, e5.cell _ _ ?_, e5.lt, e2, e3⟩
  rw [e7 j (by omega)]
  simp [encN, hj]
end RQ
theorem RQ.drewN {w : World} {s p : Nat} {Q : Sq} {v : Value} {own : Option Nat} (h : RQ w s p Q v own) (n : Nat) : RQ (w.drewN n) s p Q v own :=
  ⟨h.head, h.row, h.ne, h.wd, h.tg, h.fl, h.short, h.few, h.fit⟩
theorem infoRP : (Try.prog.info? 96).map (fun i => (i.zero, i.size, i.bytes)) = some (some (.agg #[.string ⟨#[]⟩, .int .i64 0, .slice none 0 0]), 3, 48) := by kernel_rfl
set_option maxRecDepth 100000 in
theorem r11new_c (n : Nat) (h1 : 1 ≤ n) (h2 : n ≤ 256) (w : World) :
    Calls Try.prog 17 #[.int .i64 n] w fun e w' => ∃ r rb, e = .returned (.tuple #[.pointer (some ⟨r, 0, none⟩), .int .i64 0]) ∧ RP w' r rb (List.replicate n Pg.no) (fun _ => 0) ∧ Below w.heap.size w w' ∧ w.heap.size ≤ r ∧ w.heap.size ≤ rb := by
  obtain ⟨i0, hi0, hz0, hz1, hz2⟩ := info_parts infoRP
  obtain ⟨Z, hZ⟩ : ∃ Z, Z = madeCells #[.string ⟨#[]⟩, .int .i64 0, .slice none 0 0] (n * 3) := ⟨_, rfl⟩
  have hC : Hid (Z.size = n * 3 ∧ ∀ i, i < n → Z[i * 3]? = some (.string ⟨#[]⟩) ∧ Z[i * 3 + 1]? = some (.int .i64 0) ∧ Z[i * 3 + 2]? = some (.slice none 0 0)) := by
    rw [hZ]
    refine ⟨by simp [size_madeCells], fun i hi => ⟨?_, ?_, ?_⟩⟩
    · unfold madeCells
      rw [Array.getElem?_map, Array.getElem?_range, if_pos (by omega)]
      simp
    · unfold madeCells
      rw [Array.getElem?_map, Array.getElem?_range, if_pos (by omega)]
      simp [Nat.add_mod]
    · unfold madeCells
      rw [Array.getElem?_map, Array.getElem?_range, if_pos (by omega)]
      simp [Nat.add_mod]
  have hmk : ∀ w, (Instr.makeSlice 78 (.int .i64 (n : Int)) (.int .i64 (n : Int))).run Try.prog w = .ok (.slice (some ⟨w.heap.size, 0, none⟩) n n) (w.alloc (.cells Z 96)) := by
    intro w
    have h := run_make (P := Try.prog) w 78 96 i0 _ Try.underlying78 hi0 hz0 .i64 .i64 (n : Int) (n : Int) (by omega) (Int.le_refl _) (by rw [hz2]; omega) (by omega)
    rw [show (Value.agg #[.string ⟨#[]⟩, .int .i64 0, .slice none 0 0]).cells = #[.string ⟨#[]⟩, .int .i64 0, .slice none 0 0] from rfl, Int.toNat_natCast, hz1, ← hZ] at h
    exact h
  have hz1' : (1 : Int) ≤ (n : Int) := by omega
  have hz2' : (n : Int) ≤ 256 := by omega
  clear hZ
  go_enter Try.func17, Try.ntmps17
  go_wp2
  go_ret2
  have hno : ∀ (i : Nat) (x : Pg), (List.replicate n Pg.no)[i]? = some x → i < n ∧ x = Pg.no := fun i x hx => by
    rw [List.getElem?_replicate] at hx
    split at hx
    · cases hx; exact ⟨by assumption, rfl⟩
    · cases hx
  refine ⟨w.heap.size + 1, w.heap.size, by simp, ⟨?_, ⟨Z, (Bk.new w Z 96).alloc _, by rw [List.length_replicate]; exact hC.out.1, fun i x hx => ?_⟩, fun i x hx ho => ?_, fun i j x y _ hx hy ho => ?_, fun i x hx _ => (hno i x hx).2, fun i x hx => ?_, by simp; omega, by omega⟩, ((Below.refl _ _).alloc (Nat.le_refl _) _).alloc (by simp) _, by omega, by omega⟩
  · rw [List.length_replicate]; exact Bk.new' _ _ _ _ (by simp)
  · obtain ⟨hi, rfl⟩ := hno i x hx
    exact hC.out.2 i hi
  · exact absurd ((hno i x hx).2 ▸ rfl) ho
  · exact absurd ((hno i x hx).2 ▸ rfl) ho
  · rw [(hno i x hx).2]; rfl
variable (s r : Nat) (Q : Sq) (v : Value) (own : Option Nat) (w : World)
theorem r13new_c (tag : ByteArray) (ht : tag.toList ≠ []) (W : Nat) (h1 : 1 ≤ W) (h2 : W ≤ 32) : Calls Try.prog 18 #[.pointer (some ⟨r, 0, none⟩), .string tag, .int .i64 W] w fun e w' =>
    e = .returned (.tuple #[.pointer (some ⟨w.heap.size, 0, none⟩), .int .i64 0]) ∧ RQ w' w.heap.size r ⟨tag, W, [], 0, 0⟩ (.slice none 0 0) none ∧ Below w.heap.size w w' := by
  have hte : tag.toList.isEmpty = false := by simpa using ht
  have hz1 : (1 : Int) ≤ (W : Int) := by omega
  have hz2 : (W : Int) ≤ 32 := by omega
  have HT := Lib.hid ht
  go_enter Try.func18, Try.ntmps18
  go_wp2
  go_ret2
  exact ⟨rfl, ⟨Bk.new _ _ _, Row.nil _ _ _, by simp, ⟨h1, h2⟩, HT.out, Nat.le_refl _, by simp, by simp, by simp⟩, (Below.refl _ _).alloc (Nat.le_refl _) _⟩
theorem rrows_w (W : Nat) (h5 : w.cell? ⟨s, 2, none⟩ = some (.int .i64 W)) (h1 : 1 ≤ W ∧ W ≤ 32) : Calls Try.prog 44 #[.pointer (some ⟨s, 0, none⟩)] w fun e w' => e = .returned (.int .i64 ((32 / W : Nat) : Int)) ∧ w = w' := by
  have hz : ((W : Int) == 0) = false := by rw [beq_eq_false_iff_ne]; omega
  have hp : (32 : Int) / (W : Int) = ((32 / W : Nat) : Int) := rfl
  have h2 : 32 / W ≤ 32 := Nat.div_le_self _ _
  generalize 32 / W = P at *
  go_enter Try.func44, Try.ntmps44
  go_wp2
  go_ret
  exact ⟨ret_int hp, rfl⟩
theorem rrows_c (h : RQ w s r Q v own) : Calls Try.prog 44 #[.pointer (some ⟨s, 0, none⟩)] w fun e w' => e = .returned (.int .i64 Q.per) ∧ w = w' := rrows_w s w Q.width h.c2 h.wd
theorem rfits_c (h : RQ w s r Q v own) : Calls Try.prog 40 #[.pointer (some ⟨s, 0, none⟩)] w fun e w' => e = .returned (.bool Q.isOpen) ∧ ∃ m, w' = w.drewN m := by
  have PE : Hid (∀ n, Calls Try.prog 44 #[.pointer (some ⟨s, 0, none⟩)] (w.drewN n) fun e w' => e = .returned (.int .i64 Q.per) ∧ w.drewN n = w') := fun n => rrows_c s r Q v own _ (h.drewN n)
  obtain ⟨a, c, rfl, h3⟩ := h.c3
  have h4 := h.c4
  have h5 := h.c5
  have hw := wrap_mul Q.pages.length Q.per h.few h.per_pos.2
  have hM : Q.pages.length * Q.per ≤ 1000 * 32 := Nat.mul_le_mul h.few h.per_pos.2
  have h1 := h.fl
  have h2 := h.short
  have hfew := h.few
  have hO : Hid (Q.isOpen = decide (Q.len - Q.first < Q.pages.length * Q.per)) := rfl
  generalize Q.isOpen = o at *
  generalize Q.per = P at *
  generalize Q.pages.length = L at *
  generalize Q.len = N at *
  generalize Q.first = F at *
  have hw2 : (L : Int) * (P : Int) = ((L * P : Nat) : Int) := by simp
  generalize L * P = M at *
  have hw3 : wrap64 (M : Int) = M := by unfold wrap64; omega
  clear h
  go_enter Try.func40, Try.ntmps40
  go_wp2
  go_quiet ((go_at_call 44; exact Calls.quiet_of_same ((PE.out _).mono (fun e w' h => ⟨h.1, h.2.symm⟩))))
  go_wp2
  go_ret
  refine ⟨?_, _, rfl⟩
  rw [hO.out]
  exact ret_bool (by simp; omega)
theorem rneed_c (rb : Nat) (S : List Pg) (c : Nat → Nat) (h : RQ w s r Q v own) (hp : RP w r rb S c) (hu : Q.isOpen = true → ownersOf S Q.last ≠ 0) : Calls Try.prog 38 #[.pointer (some ⟨s, 0, none⟩)] w fun e w' => e = .returned (.int .i64 (needOf S Q)) ∧ ∃ m, w' = w.drewN m := by
  have OP : Hid (∀ n, Calls Try.prog 40 #[.pointer (some ⟨s, 0, none⟩)] (w.drewN n) fun e w' => e = .returned (.bool Q.isOpen) ∧ ∃ m, w' = (w.drewN n).drewN m) := fun n => rfits_c s r Q v own _ (h.drewN n)
  have OW : Hid (∀ n k, Calls Try.prog 52 #[.pointer (some ⟨r, 0, none⟩), .int .i64 k] (w.drewN n) fun e w' => e = .returned (.int .i64 (ownersOf S k)) ∧ w.drewN n = w') := fun n k => rowners_c r rb S c _ (hp.drewN n) k
  have h0 := h.c0
  have hN : Hid (needOf S Q = if Q.isOpen && (ownersOf S Q.last == 1) then 0 else 1) := rfl
  generalize needOf S Q = rr at *
  cases ho : Q.isOpen with
  | false =>
    rw [ho] at OP hN
    clear h hp ho hu
    go_enter Try.func38, Try.ntmps38
    go_wp2
    go_quiet ((go_at_call 40; exact Calls.quiet_of (OP.out _)))
    go_wp2
    go_ret
    exact ⟨by rw [hN.out]; rfl, _, rfl⟩
  | true =>
    obtain ⟨b, off, cc, rfl, h3, hc, hb, -, hl⟩ := h.page (Sq.last_at (open_pos ho))
    have hpos := open_pos ho
    have hf := h.few
    have hu := hu ho
    rw [ho, Bool.true_and] at hN
    rw [ho] at OP
    generalize Q.last = l at *
    generalize hk : ownersOf S l = k at *
    have OWL : Hid (∀ n, Calls Try.prog 52 #[.pointer (some ⟨r, 0, none⟩), .int .i64 l] (w.drewN n) fun e w' => e = .returned (.int .i64 k) ∧ w.drewN n = w') := fun n => by have := OW.out n l; rw [hk] at this; exact this
    generalize Q.pages.length = L at *
    have hL : (1 : Int) ≤ (L : Int) := by omega
    obtain ⟨m, rfl⟩ : ∃ m, L = m + 1 := ⟨L - 1, by omega⟩
    simp only [Nat.add_sub_cancel] at hc
    have e1 : ((m + 1 : Nat) : Int) - 1 = (m : Int) := by omega
    have e2 : IntKind.i64.wrap (((m + 1 : Nat) : Int) - 1) = (m : Int) := by unfold IntKind.wrap; simp [IntKind.signed, IntKind.bits]; omega
    clear h hp ho hk
    by_cases h1 : k = 1
    · subst h1
      go_enter Try.func38, Try.ntmps38
      go_wp2
      go_quiet (first | (go_at_call 40; exact Calls.quiet_of (OP.out _)) | (go_at_call 52; exact Calls.quiet_of_same ((OWL.out _).mono (fun e w' h => ⟨h.1, h.2.symm⟩))))
      go_wp2
      go_ret
      exact ⟨by rw [hN.out]; rfl, _, rfl⟩
    · have hz2 : (k == 1) = false := by rw [beq_eq_false_iff_ne]; omega
      have hz3 : (1 : Int) < (k : Int) := by omega
      go_enter Try.func38, Try.ntmps38
      go_wp2
      go_quiet (first | (go_at_call 40; exact Calls.quiet_of (OP.out _)) | (go_at_call 52; exact Calls.quiet_of_same ((OWL.out _).mono (fun e w' h => ⟨h.1, h.2.symm⟩))))
      go_wp2
      go_ret
      exact ⟨by rw [hN.out, hz2]; rfl, _, rfl⟩
end Go.Proofs.Ytfimadeokdlpnaa.kv
