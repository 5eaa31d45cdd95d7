/- The reference's sequences: Row. -/
import Derived.Test.YtfimadeokdlpnaaWd
namespace Go.Proofs.Ytfimadeokdlpnaa.kv
open Go.ChangeShapes Go.WideShapes Go.ChangeAt Go.RowKit K
set_option linter.unusedVariables false
set_option linter.unusedSimpArgs false
theorem RQ.page_at {w : World} {s p : Nat} {Q : Sq} {v : Value} {own : Option Nat} (h : RQ w s p Q v own) {i : Nat} (h1 : Q.first ≤ i) (h2 : i < Q.len) : Q.pages[(i - Q.first) / Q.per]? = some (Q.page i) := by
  have hp := h.per_pos
  have hf := h.fit
  have : (i - Q.first) / Q.per < Q.pages.length := (Nat.div_lt_iff_lt_mul (by omega)).2 (by omega)
  unfold Sq.page
  rw [List.getElem?_eq_getElem this]; rfl
variable (s r : Nat) (Q : Sq) (v : Value) (own : Option Nat) (w : World)
theorem rrow_out (h : RQ w s r Q v own) (i : Int) (hi : i < Q.first ∨ (Q.len : Int) ≤ i) : Calls Try.prog 49 #[.pointer (some ⟨s, 0, none⟩), .int .i64 i] w fun e w' =>
    e = .returned (.tuple #[.slice none 0 0, .int .i64 25]) ∧ w = w' := by
  have h4 := h.c4
  have h5 := h.c5
  clear h
  generalize Q.first = F at *
  generalize Q.len = N at *
  by_cases h1 : i < (F : Int)
  · clear hi
    go_enter Try.func49, Try.ntmps49
    go_wp2
    go_ret2
    exact ⟨rfl, rfl⟩
  · have h2 : (F : Int) ≤ i := by omega
    have h3 : (N : Int) ≤ i := by omega
    clear hi
    go_enter Try.func49, Try.ntmps49
    go_wp2
    go_ret2
    exact ⟨rfl, rfl⟩
set_option maxHeartbeats 2000000 in
theorem rrow_in (rb : Nat) (S : List Pg) (c : Nat → Nat) (h : RQ w s r Q v own) (hp : RP w r rb S c) (i : Nat) (h1 : Q.first ≤ i) (h2 : i < Q.len) : Calls Try.prog 49 #[.pointer (some ⟨s, 0, none⟩), .int .i64 i] w fun e w' =>
    ∃ g f cp, e = .returned (.tuple #[.slice (some ⟨g, f, none⟩) Q.width cp, .int .i64 0]) ∧ Vals w' (some ⟨g, f, none⟩) (rowOf S Q i) ∧ Below w.heap.size w w' ∧ w.heap.size ≤ g := by
  obtain ⟨i0, hi0, hz0, hz1, hz2⟩ := info_parts infoL
  have PE : Hid (∀ n, Calls Try.prog 44 #[.pointer (some ⟨s, 0, none⟩)] (w.drewN n) fun e w' => e = .returned (.int .i64 Q.per) ∧ w.drewN n = w') := fun n => rrows_c s r Q v own _ (h.drewN n)
  have PE2 : Hid (∀ a n, Calls Try.prog 44 #[.pointer (some ⟨s, 0, none⟩)] ((w.drewN a).drewN n) fun e w' => e = .returned (.int .i64 Q.per) ∧ (w.drewN a).drewN n = w') := fun a n => rrows_c s r Q v own _ ((h.drewN a).drewN n)
  have hwd := h.wd
  obtain ⟨b, off, cc, rfl, h3, hc, hb, -, hl⟩ := h.page (h.page_at h1 h2)
  have hjl := (List.getElem?_eq_some_iff.1 (h.page_at h1 h2)).1
  have h0 := h.c0
  have hw := h.c2
  have h4 := h.c4
  have h5 := h.c5
  have hs := h.head.lt
  have hpp := h.per_pos
  have hsh := h.short
  have hfew := h.few
  have GT : Hid (∀ wr k, Below w.heap.size w wr → k < Q.width → Calls Try.prog 41 #[.pointer (some ⟨r, 0, none⟩), .int .i64 (Q.page i : Int), .int .i64 ((Q.cell i : Int) + (k : Int))] wr fun e w' => e = .returned (.tuple #[.int .i64 (getOf S (Q.page i) (Q.cell i + k)), .int .i64 (errOf S (Q.page i))]) ∧ wr = w') := by
    intro wr k hb hk
    have := rget_c r rb S c wr (hp.below hb) (Q.page i) (Q.cell i + k) (Sq.cell_lt hwd i k hk)
    rw [Int.natCast_add] at this
    exact this
  have hcell : ∀ k, k < Q.width → Q.cell i + k < 32 := fun k hk => Sq.cell_lt hwd i k hk
  have HR : Hid (rowOf S Q i = (List.range Q.width).map fun k => getOf S (Q.page i) (Q.cell i + k)) := rfl
  have HCE : Hid (Q.cell i = (i - Q.first) % Q.per * Q.width) := rfl
  have hr : (i - Q.first) % Q.per < Q.per := Nat.mod_lt _ (by omega)
  have hwm := wrap_mul ((i - Q.first) % Q.per) Q.width (by omega) hwd.2
  generalize rowOf S Q i = xs at *
  generalize Q.page i = pg at *
  generalize Q.cell i = ce at *
  have hy1 : (Q.first : Int) ≤ (i : Int) := by omega
  have hy2 : (i : Int) < (Q.len : Int) := by omega
  clear h hp
  generalize Q.per = P at *
  generalize Q.width = W at *
  generalize Q.pages.length = L at *
  generalize Q.first = F at *
  generalize Q.len = N at *
  obtain ⟨d, hd⟩ : ∃ d, i - F = d := ⟨_, rfl⟩
  have hd1 : (i : Int) - (F : Int) = (d : Int) := by omega
  rw [hd] at hc hjl hr hwm HCE
  have hq : (d : Int) / (P : Int) = ((d / P : Nat) : Int) := rfl
  have hm : (d : Int) % (P : Int) = ((d % P : Nat) : Int) := rfl
  have hd2 : d ≤ 1000 := by omega
  clear hd
  generalize hQ : d / P = q at *
  generalize hM : d % P = rr at *
  have hw3 : (rr : Int) * (W : Int) = ((rr * W : Nat) : Int) := by simp
  have hz : ((P : Int) == 0) = false := by rw [beq_eq_false_iff_ne]; omega
  have hq0 : (0 : Int) ≤ (q : Int) := by omega
  have hq1 : (q : Int) < (L : Int) := by omega
  have hb2 : rr * W ≤ 1000 * 32 := Nat.mul_le_mul (by omega) hwd.2
  rw [← HCE.out] at hw3 hb2 hwm
  clear HCE
  go_enter Try.func49, Try.ntmps49
  go_wp2
  go_quiet ((go_at_call 44; exact Calls.quiet_of_same ((PE.out _).mono (fun e w' h => ⟨h.1, h.2.symm⟩))))
  go_wp2
  have PE3 := Lib.hid (PE2.out nq)
  have k0 : (w.drewN nq).cell? ⟨s, 0, none⟩ = some (.pointer (some ⟨r, 0, none⟩)) := h0
  have kw : (w.drewN nq).cell? ⟨s, 2, none⟩ = some (.int .i64 W) := hw
  have k4 : (w.drewN nq).cell? ⟨s, 4, none⟩ = some (.int .i64 F) := h4
  have HBW : Hid (Below w.heap.size w (w.drewN nq)) := ⟨rfl, rfl, rfl, Nat.le_refl _, fun _ _ => rfl⟩
  have hsw : s < (w.drewN nq).heap.size := hs
  have H0 := Lib.hid h0
  have HW0 := Lib.hid hw
  clear h0 hw h4 h5 h3 hc hb PE PE2
  generalize w.drewN nq = w1 at *
  go_quiet ((go_at_call 44; exact Calls.quiet_of_same ((PE3.out _).mono (fun e w' h => ⟨h.1, h.2.symm⟩))))
  go_wp2
  have HBW2 : Hid (Below w.heap.size w (w1.drewN nq)) := ⟨HBW.out.os, HBW.out.tape, HBW.out.output, HBW.out.size, HBW.out.block⟩
  have b1 : decide (i < F) = false := by simp; omega
  have b2 : decide (N ≤ i) = false := by simp; omega
  simp only [b1, b2, Bool.or_self]
  clear b1 b2 h1 h2 k0 kw k4 HBW PE3 hsw hq hm hw3 hwm hd1 hz hq0 hq1 hb2 hy1 hy2 hjl hr
  generalize w1.drewN nq = w2 at *
  go_loopw [8, 9] (fun s8 s9 wr => ∃ (k : Nat) (a : Option Addr) (ca : Nat) (own : Option Nat), k ≤ W ∧ s9 = .int .i64 k ∧ s8 = .slice a k ca ∧ Hid (Row wr 2 1 (.slice a k ca) own k (encI (xs.take k))) ∧ Hid (Below w.heap.size w wr) ∧ Hid (∀ m, own = some m → w.heap.size ≤ m)) (fun _ s9 _ => W - (intOf s9).toNat)
  case atStart => exact ⟨0, none, 0, none, by omega, rfl, rfl, Lib.hid (Row.nil _ _ _), HBW2, Lib.hid (fun k hk => by cases hk)⟩
  case round =>
    obtain ⟨k, a, ca, own2, hk, rfl, rfl, HROW, HB, HO⟩ := hrel
    have k0 := (HB.out.cell (p := ⟨s, 0, none⟩) hs).trans H0.out
    have kw := (HB.out.cell (p := ⟨s, 2, none⟩) hs).trans HW0.out
    by_cases hkW : k < W
    · have hkz : (k : Int) < (W : Int) := by omega
      have hce := hcell k hkW
      have GTk := Lib.hid (GT.out wr k HB.out hkW)
      have hxk : Hid (xs.take (k + 1) = xs.take k ++ [getOf S pg (ce + k)]) := by
        have hxl : xs.length = W := by rw [HR.out]; simp
        show _ = _
        rw [List.take_succ_eq_append_getElem (by omega)]
        congr 2
        simp [HR.out]
      generalize getOf S pg (ce + k) = gv at *
      generalize errOf S pg = ge at *
      have HRW : Hid (Row (wr.alloc (.cells #[.int .i64 gv] 2)) 2 1 (.slice a k ca) own2 k (encI (xs.take k))) := HROW.out.keep fun k hk => Below.heap_alloc _ _ _ (HROW.out.lt k hk)
      have HN : Hid (∀ j u, [Value.int .i64 gv][j]? = some u → (wr.alloc (.cells #[.int .i64 gv] 2)).cell? ((⟨wr.heap.size, 0, none⟩ : Addr).add j) = some u) := World.news_of_block (cs := #[.int .i64 gv]) (heap_alloc_new wr _)
      clear hcell
      go_wp2_with fail
      refine GTk.out.mono ?_
      rintro e w' ⟨rfl, rfl⟩
      go_wp2_with (at_builtin; refine wpList_row_append rfl (.tmp 75) (.tmp 77) 33 rfl 2 i0 _ 1 Try.underlying33 hi0 (by assumption) hz1 rfl (by decide) (by omega) (.slice a k ca) own2 k (encI (xs.take k)) rfl HRW.out ⟨wr.heap.size, 0, none⟩ 1 1 [.int .i64 gv] rfl rfl HN.out (by simp [Value.oneCell']) (by omega) (by omega) ?_; intro g2 f2 cp2 w3 hrow hgrow hown; have HRW3 := Lib.hid hrow; have HGW := Lib.hid hgrow; have HOW := Lib.hid hown; clear hrow hgrow hown)
      refine ⟨⟨k + 1, some ⟨g2, f2, none⟩, cp2, some g2, by omega, by go_num, rfl, ?_, ?_, ?_⟩, by simp [intOf]; omega⟩
      · rw [hxk.out, encI_snoc]; exact HRW3.out
      · exact (HB.out.alloc HB.out.size _).grown HGW.out (by have := HB.out.size; simp; omega) HO.out
      · intro m hm
        cases hm
        rcases HOW.out with e | e
        · exact HO.out g2 e
        · rw [e]; have := HB.out.size; simp; omega
    · obtain rfl : k = W := by omega
      have hkz : ¬ (k : Int) < (k : Int) := by omega
      obtain ⟨g, f, cap, cs, e1, e2, e3, e4, e5, e6, e7⟩ := HROW.out.pos (by omega)
      cases e1
      have hg := HO.out g e2
      have hxl : xs.length = k := by rw [HR.out]; simp
      have hV : Vals wr (some ⟨g, f, none⟩) xs := (Row.args (by
        have := HROW.out
        rw [List.take_of_length_le (by omega), e2] at this
        exact this) (by omega)).vals
      have HV := Lib.hid hV
      have HG := Lib.hid hg
      clear hV hg hcell e5 e7 e4 e6
      go_wp2
      go_ret2
      exact ⟨g, f, ⟨ca, rfl⟩, HV.out, HB.out, HG.out⟩
end Go.Proofs.Ytfimadeokdlpnaa.kv
