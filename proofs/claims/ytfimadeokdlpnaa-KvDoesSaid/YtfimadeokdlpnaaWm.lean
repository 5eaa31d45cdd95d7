/- aviaryref07.Same, aviarylaw11.Same: both sides on one abstract state. The law's same: both sequences on one abstract state. New refused, on both sides. -/
import Derived.Test.YtfimadeokdlpnaaWh
namespace Go.Proofs.Ytfimadeokdlpnaa.kv
open Go.ChangeShapes Go.WideShapes Go.ChangeAt Go.RowKit K
set_option linter.unusedVariables false
set_option linter.unusedSimpArgs false
/-- A slice of page numbers, read. -/
def NVals (w : World) (a : Option Addr) (l : List Nat) : Prop := ∀ j (n : Nat), l[j]? = some n → ∃ b off, a = some ⟨b, off, none⟩ ∧ b < w.heap.size ∧ w.cell? ⟨b, off + j, none⟩ = some (.int .i64 (n : Int))
theorem NVals.of_row {w : World} {a : Option Addr} {n c : Nat} {o : Option Nat} {l : List Nat} (h : Row w 3 1 (.slice a n c) o n (encN l)) : NVals w a l := fun j k hj => by
  have hl := h.1
  rw [encN_length] at hl
  have hjl := (List.getElem?_eq_some_iff.1 hj).1
  obtain ⟨b, off, cap, cs, e1, e2, e3, e4, e5, e6, e7⟩ := h.pos (by omega)
  cases e1
  refine ⟨b, off, rfl, e5.lt, e5.cell _ _ ?_⟩
  rw [e7 j (by omega)]
  simp [encN, hj]
theorem NVals.below {w w' : World} {a : Option Addr} {l : List Nat} (h : NVals w a l) (hb : Below w.heap.size w w') : NVals w' a l := fun j n hj => by
  obtain ⟨b, off, h1, h2, h3⟩ := h j n hj
  exact ⟨b, off, h1, Nat.lt_of_lt_of_le h2 hb.size, (hb.cell (p := ⟨b, off + j, none⟩) h2).trans h3⟩
set_option maxHeartbeats 1000000 in
theorem same07_c (a1 a2 : Option Addr) (c1 c2 : Nat) (l : List Nat) (w : World) (h1 : NVals w a1 l) (h2 : NVals w a2 l) (hl : l.length ≤ 1000) : Calls Try.prog 50 #[.slice a1 l.length c1, .slice a2 l.length c2] w fun e w' =>
    e = .returned (.bool true) ∧ ∃ m, w' = w.drewN m := by
  have H1 := Lib.hid h1
  have H2 := Lib.hid h2
  clear h1 h2
  generalize hL : l.length = L at *
  have HL := Lib.hid hL
  clear hL
  go_enter Try.func50, Try.ntmps50
  go_wp2_with fail
  go_loopw [5] (fun s5 wr => ∃ (j m : Nat), j ≤ L ∧ s5 = .int .i64 j ∧ wr = w.drewN m) (fun s5 _ => L - (intOf s5).toNat)
  case atStart => exact ⟨0, 0, by omega, rfl, rfl⟩
  case round =>
    obtain ⟨j, m, hj, rfl, rfl⟩ := hrel
    by_cases hjL : j < L
    · have hjz : (j : Int) < (L : Int) := by omega
      have hj0 : (0 : Int) ≤ (j : Int) := by omega
      have hx : l[j]? = some (l[j]'(by rw [HL.out]; exact hjL)) := List.getElem?_eq_getElem _
      generalize l[j]'(by rw [HL.out]; exact hjL) = x at hx
      obtain ⟨b1, o1, rfl, hb1, hc1⟩ := H1.out j x hx
      obtain ⟨b2, o2, rfl, hb2, hc2⟩ := H2.out j x hx
      clear hx
      go_wp2
      go_quiet (fail)
      go_wp2
      exact ⟨⟨j + 1, _, by omega, by go_num, rfl⟩, by simp [intOf]; omega⟩
    · obtain rfl : j = L := by omega
      have hjz : ¬ (j : Int) < (j : Int) := by omega
      go_wp2
      go_ret
      exact ⟨rfl, _, rfl⟩
set_option maxHeartbeats 2000000 in
theorem same11_c (p b r rb : Nat) (S : List Pg) (c : Nat → Nat) (w : World) (hp : PR w p b S) (hr : RP w r rb S c) : Calls Try.prog 27 #[.pointer (some ⟨p, 0, none⟩), .pointer (some ⟨r, 0, none⟩)] w fun e w' =>
    e = .returned (.bool true) ∧ Below w.heap.size w w' := by
  have SZ := Lib.hid (sizes_c p b S w hp)
  have HP := Lib.hid hp
  have HR := Lib.hid hr
  have hfew := hp.few
  clear hp hr
  go_enter Try.func27, Try.ntmps27
  go_wp2_with fail
  refine SZ.out.mono ?_
  rintro e w1 ⟨rfl, hb⟩
  have HB := Lib.hid hb
  have HP1 := Lib.hid (HP.out.below hb)
  have HR1 := Lib.hid (HR.out.below hb)
  clear hb SZ HP HR
  have FR := Lib.hid (rfree_c r rb S c w1 HR1.out)
  have h0 := HR1.out.h0
  have h1 := HR1.out.h1
  have OW := Lib.hid (owners_c p b S w1 HP1.out)
  have RO := Lib.hid (rowners_c r rb S c w1 HR1.out)
  have TG := Lib.hid (tag_c p b S w1 HP1.out)
  have RT := Lib.hid (rtag_c r rb S c w1 HR1.out)
  generalize freeOf S = fr at *
  go_wp2_with fail
  refine FR.out.mono ?_
  rintro e w' ⟨rfl, rfl⟩
  go_wp2_with fail
  go_loopw [8] (fun s8 wr => ∃ j : Int, -1 ≤ j ∧ j ≤ S.length + 1 ∧ s8 = .int .i64 j ∧ w1 = wr) (fun s8 _ => (S.length + 1 - intOf s8).toNat)
  case atStart => exact ⟨-1, by omega, by omega, rfl, rfl⟩
  case round =>
    obtain ⟨j, hj0, hj, rfl, rfl⟩ := hrel
    by_cases hjl : j ≤ (S.length : Int)
    · have OWj := Lib.hid (OW.out j)
      have ROj := Lib.hid (RO.out j)
      have TGj := Lib.hid (TG.out j)
      have RTj := Lib.hid (RT.out j)
      generalize ownersOf S j = oj at *
      generalize tagOf S j = tj at *
      go_wp2_with fail
      refine OWj.out.mono ?_
      rintro e w' ⟨rfl, rfl⟩
      go_wp2_with fail
      refine ROj.out.mono ?_
      rintro e w' ⟨rfl, rfl⟩
      go_wp2_with fail
      refine TGj.out.mono ?_
      rintro e w' ⟨rfl, rfl⟩
      go_wp2_with fail
      refine RTj.out.mono ?_
      rintro e w' ⟨rfl, rfl⟩
      go_wp2
      exact ⟨⟨j + 1, by omega, by omega, by go_num, trivial⟩, by simp [intOf]; omega⟩
    · obtain rfl : j = (S.length : Int) + 1 := by omega
      go_wp2
      go_ret
      exact ⟨rfl, HB.out⟩
end Go.Proofs.Ytfimadeokdlpnaa.kv
namespace Go.Proofs.Ytfimadeokdlpnaa.kv
open Go.ChangeShapes Go.WideShapes Go.ChangeAt Go.RowKit K
set_option linter.unusedVariables false
set_option linter.unusedSimpArgs false
/-- A row as asked for by whatever number. -/
def rowX (S : List Pg) (Q : Sq) (i : Int) : List Int := if (Q.first : Int) ≤ i ∧ i < Q.len then rowOf S Q i.toNat else []
def errX (Q : Sq) (i : Int) : Int := if (Q.first : Int) ≤ i ∧ i < Q.len then 0 else 25
theorem rowOf_length (S : List Pg) (Q : Sq) (i : Nat) : (rowOf S Q i).length = Q.width := by simp [rowOf]
theorem rowX_le (S : List Pg) (Q : Sq) (i : Int) (hw : Q.width ≤ 32) : (rowX S Q i).length ≤ 1000 := by
  unfold rowX
  split
  · rw [rowOf_length]; omega
  · simp
theorem rowX_c (s p b : Nat) (S : List Pg) (Q : Sq) (v : Value) (own : Option Nat) (w : World) (h : SR w s p Q v own) (hp : PR w p b S) (i : Int) : Calls Try.prog 28 #[.pointer (some ⟨s, 0, none⟩), .int .i64 i] w fun e w' =>
    ∃ a c, e = .returned (.tuple #[.slice a (rowX S Q i).length c, .int .i64 (errX Q i)]) ∧ Vals w' a (rowX S Q i) ∧ Below w.heap.size w w' := by
  unfold rowX errX
  by_cases hc : (Q.first : Int) ≤ i ∧ i < Q.len
  · rw [if_pos hc, if_pos hc]
    obtain ⟨k, rfl⟩ : ∃ k : Nat, i = k := ⟨i.toNat, by omega⟩
    refine (row_in s p Q v own w b S h hp k (by omega) (by omega)).mono ?_
    rintro e w' ⟨g, he, hr, hb, hg⟩
    rw [Int.toNat_natCast, rowOf_length]
    exact ⟨_, _, he, (Row.args hr (by have := h.wd; omega)).vals, hb⟩
  · rw [if_neg hc, if_neg hc]
    refine (row_out s p Q v own w h i (by omega)).mono ?_
    rintro e w' ⟨he, rfl⟩
    exact ⟨none, 0, he, Vals.nil _ _, Below.refl _ _⟩
theorem rrowX_c (s r rb : Nat) (S : List Pg) (c : Nat → Nat) (Q : Sq) (v : Value) (own : Option Nat) (w : World) (h : RQ w s r Q v own) (hp : RP w r rb S c) (i : Int) : Calls Try.prog 49 #[.pointer (some ⟨s, 0, none⟩), .int .i64 i] w fun e w' =>
    ∃ a cc, e = .returned (.tuple #[.slice a (rowX S Q i).length cc, .int .i64 (errX Q i)]) ∧ Vals w' a (rowX S Q i) ∧ Below w.heap.size w w' := by
  unfold rowX errX
  by_cases hc : (Q.first : Int) ≤ i ∧ i < Q.len
  · rw [if_pos hc, if_pos hc]
    obtain ⟨k, rfl⟩ : ∃ k : Nat, i = k := ⟨i.toNat, by omega⟩
    refine (rrow_in s r Q v own w rb S c h hp k (by omega) (by omega)).mono ?_
    rintro e w' ⟨g, f, cp, he, hr, hb, hg⟩
    rw [Int.toNat_natCast, rowOf_length]
    exact ⟨_, _, he, hr, hb⟩
  · rw [if_neg hc, if_neg hc]
    refine (rrow_out s r Q v own w h i (by omega)).mono ?_
    rintro e w' ⟨he, rfl⟩
    exact ⟨none, 0, he, Vals.nil _ _, Below.refl _ _⟩
set_option maxHeartbeats 4000000 in
set_option maxRecDepth 100000 in
theorem same13_c (s p b q r rb : Nat) (S : List Pg) (c : Nat → Nat) (Q : Sq) (v v2 : Value) (own own2 : Option Nat) (w : World) (h : SR w s p Q v own) (hp : PR w p b S) (hq : RQ w q r Q v2 own2) (hr : RP w r rb S c) (hu : Q.isOpen = true → ownersOf S Q.last ≠ 0) (i : Int) :
    Calls Try.prog 26 #[.pointer (some ⟨s, 0, none⟩), .pointer (some ⟨q, 0, none⟩), .int .i64 i] w fun e w' => e = .returned (.bool true) ∧ Below w.heap.size w w' := by
  have RX := Lib.hid (rowX_c s p b S Q v own w h hp i)
  have hlx := rowX_le S Q i h.wd.2
  have H := Lib.hid h
  have HP := Lib.hid hp
  have HQ := Lib.hid hq
  have HR := Lib.hid hr
  have HU := Lib.hid hu
  have hfew := h.few
  clear h hp hq hr hu
  go_enter Try.func26, Try.ntmps26
  go_wp2_with fail
  refine RX.out.mono ?_
  rintro e w1 ⟨a1, c1, rfl, hv1, hb1⟩
  have RY := Lib.hid (rrowX_c q r rb S c Q v2 own2 w1 (HQ.out.below hb1) (HR.out.below hb1) i)
  have HV1 := Lib.hid hv1
  have HB1 := Lib.hid hb1
  clear hv1 hb1 RX
  generalize hxs : rowX S Q i = xs at *
  clear hxs
  go_wp2_with fail
  refine RY.out.mono ?_
  rintro e w2 ⟨a2, c2, rfl, hv2, hb2⟩
  have HV1' := Lib.hid (HV1.out.below (B := 0) hb2)
  have HV2 := Lib.hid hv2
  have HB2 := Lib.hid (below_step HB1.out hb2)
  clear hv2 hb2 RY HV1 HB1
  have H2 := Lib.hid (H.out.below HB2.out)
  have HP2 := Lib.hid (HP.out.below HB2.out)
  have HQ2 := Lib.hid (HQ.out.below HB2.out)
  have HR2 := Lib.hid (HR.out.below HB2.out)
  clear H HP HQ HR
  obtain ⟨aq, cq, hvq, -⟩ := HQ2.out.c3
  have HVQ := Lib.hid hvq
  clear hvq
  have KC : Hid (∀ w', Below w2.heap.size w2 w' → w'.cell? ⟨q, 5, none⟩ = some (.int .i64 Q.len) ∧ w'.cell? ⟨q, 4, none⟩ = some (.int .i64 Q.first) ∧ w'.cell? ⟨q, 3, none⟩ = some (.slice aq Q.pages.length cq)) := fun w' hb => by
    have := HQ2.out.below hb
    exact ⟨this.c5, this.c4, (this.head.cell 3 _ rfl).trans (congrArg some HVQ.out)⟩
  have LN : Hid (∀ w', Hid (Below w2.heap.size w2 w') → _) := fun w' hb => len_c s p Q v own w' (H2.out.below hb.out)
  have FC : Hid (∀ w', Hid (Below w2.heap.size w2 w') → _) := fun w' hb => first_c s p Q v own w' (H2.out.below hb.out)
  have PG : Hid (∀ w', Hid (Below w2.heap.size w2 w') → Calls Try.prog 14 #[.pointer (some ⟨s, 0, none⟩)] w' fun e w'' => ∃ a, e = .returned (.slice a Q.pages.length Q.pages.length) ∧ NVals w'' a Q.pages ∧ Below w2.heap.size w2 w'') := fun w' hb => (pages_c s p Q v own w' (H2.out.below hb.out)).mono fun e w'' ⟨h1, h2, h3⟩ => ⟨_, h1, NVals.of_row h2, bstep hb.out h3 hb.out.size⟩
  have S7 : Hid (∀ w' a c, Hid (Below w2.heap.size w2 w') → Hid (NVals w' a Q.pages) → Calls Try.prog 50 #[.slice a Q.pages.length c, .slice aq Q.pages.length cq] w' fun e w'' => e = .returned (.bool true) ∧ Below w2.heap.size w2 w'') := fun w' a c hb hn => by
    have hrow := (HQ2.out.below hb.out).row
    rw [HVQ.out] at hrow
    refine (same07_c a aq c cq Q.pages w' hn.out (NVals.of_row hrow) hfew).mono ?_
    rintro e w'' ⟨h1, m, rfl⟩
    exact ⟨h1, belowDrewN hb.out m⟩
  have ND : Hid (∀ w', Hid (Below w2.heap.size w2 w') → Calls Try.prog 10 #[.pointer (some ⟨s, 0, none⟩)] w' fun e w'' => e = .returned (.int .i64 (needOf S Q)) ∧ Below w2.heap.size w2 w'') := fun w' hb => (need_c s p Q v own w' b S (H2.out.below hb.out) (HP2.out.below hb.out)).mono fun e w'' ⟨h1, m, h2⟩ => ⟨h1, h2 ▸ belowDrewN hb.out m⟩
  have RN : Hid (∀ w', Hid (Below w2.heap.size w2 w') → Calls Try.prog 38 #[.pointer (some ⟨q, 0, none⟩)] w' fun e w'' => e = .returned (.int .i64 (needOf S Q)) ∧ Below w2.heap.size w2 w'') := fun w' hb => (rneed_c q r Q v2 own2 w' rb S c (HQ2.out.below hb.out) (HR2.out.below hb.out) HU.out).mono fun e w'' ⟨h1, m, h2⟩ => ⟨h1, h2 ▸ belowDrewN hb.out m⟩
  have S4 : Hid (∀ w', Hid (Below w2.heap.size w2 w') → Calls Try.prog 29 #[.slice a1 xs.length c1, .slice a2 xs.length c2] w' fun e w'' => e = .returned (.bool true) ∧ Below w2.heap.size w2 w'') := fun w' hb => by
    refine (same_c a1 a2 c1 c2 xs xs w' (HV1'.out.below (B := 0) hb.out) (HV2.out.below (B := 0) hb.out) hlx).mono ?_
    rintro e w'' ⟨h1, m, rfl⟩
    rw [decide_eq_true rfl] at h1
    exact ⟨h1, belowDrewN hb.out m⟩
  have HB0 : Hid (Below w2.heap.size w2 w2.drew) := (Below.refl _ w2).drew
  obtain ⟨x5, x4, x3⟩ := KC.out w2 (Below.refl _ _)
  obtain ⟨y5, y4, y3⟩ := KC.out w2.drew HB0.out
  generalize needOf S Q = nd at *
  generalize errX Q i = er at *
  clear H2 HP2 HQ2 HR2 HV1' HV2 HVQ HU
  go_wp2_with fail
  go_region_held3 (fun w' => w'.cell? ⟨q, 5, none⟩ = some (.int .i64 Q.len) ∧ w'.cell? ⟨q, 4, none⟩ = some (.int .i64 Q.first) ∧ w'.cell? ⟨q, 3, none⟩ = some (.slice aq Q.pages.length cq)) (first | exact ⟨by assumption, by assumption, by assumption⟩ | go_keep) (first
    | (go_at_call 13; (with_reducible refine (LN.out _ (by assumption)).mono ?_); rintro e w' ⟨rfl, rfl⟩)
    | (go_at_call 16; (with_reducible refine (FC.out _ (by assumption)).mono ?_); rintro e w' ⟨rfl, rfl⟩)
    | (go_at_call 14; (with_reducible refine (PG.out _ (by assumption)).mono ?_); rintro e w3 ⟨a3, rfl, hn3, hb3⟩; have HN3 := Lib.hid hn3; have HB3 := Lib.hid hb3; obtain ⟨z5, z4, z3⟩ := KC.out w3 hb3; clear hn3 hb3)
    | (go_at_call 50; (with_reducible refine (S7.out _ _ _ (by assumption) (by assumption)).mono ?_); rintro e w4 ⟨rfl, hb4⟩; have HB4 := Lib.hid hb4; obtain ⟨u5, u4, u3⟩ := KC.out w4 hb4; clear hb4)
    | (go_at_call 10; (with_reducible refine (ND.out _ (by assumption)).mono ?_); rintro e w5 ⟨rfl, hb5⟩; have HB5 := Lib.hid hb5; obtain ⟨t5, t4, t3⟩ := KC.out w5 hb5; clear hb5)
    | (go_at_call 38; (with_reducible refine (RN.out _ (by assumption)).mono ?_); rintro e w6 ⟨rfl, hb6⟩; have HB6 := Lib.hid hb6; obtain ⟨r5, r4, r3⟩ := KC.out w6 hb6; clear hb6)
    | (go_at_call 29; (with_reducible refine (S4.out _ (by assumption)).mono ?_); rintro e w7 ⟨rfl, hb7⟩; have HB7 := Lib.hid hb7; obtain ⟨o5, o4, o3⟩ := KC.out w7 hb7; clear hb7))
  go_wp2
  go_ret
  exact ⟨rfl, below_step HB2.out HB7.out⟩
end Go.Proofs.Ytfimadeokdlpnaa.kv
namespace Go.Proofs.Ytfimadeokdlpnaa.kv
open Go.ChangeShapes Go.WideShapes Go.ChangeAt Go.RowKit K
set_option linter.unusedVariables false
set_option linter.unusedSimpArgs false
theorem knew_bad (p : Nat) (w : World) (tag : ByteArray) (W : Int) (hb : tag.toList = [] ∨ W < 1 ∨ 32 < W) : Calls Try.prog 9 #[.pointer (some ⟨p, 0, none⟩), .string tag, .int .i64 W] w fun e w' => e = .returned (.tuple #[.pointer none, .int .i64 20]) ∧ w = w' := by
  by_cases h0 : tag.toList = []
  · have hte : tag.toList.isEmpty = true := by simpa using h0
    clear h0 hb
    go_enter Try.func9, Try.ntmps9
    go_wp2
    go_ret2
    exact ⟨rfl, rfl⟩
  · have hte : tag.toList.isEmpty = false := by simpa using h0
    by_cases h1 : W < 1
    · clear h0 hb
      go_enter Try.func9, Try.ntmps9
      go_wp2
      go_ret2
      exact ⟨rfl, rfl⟩
    · have h2 : 32 < W := by
        rcases hb with e | e | e
        · exact absurd e h0
        · exact absurd e h1
        · exact e
      have h3 : 1 ≤ W := by omega
      clear h0 hb
      go_enter Try.func9, Try.ntmps9
      go_wp2
      go_ret2
      exact ⟨rfl, rfl⟩
theorem r13new_bad (r : Nat) (w : World) (tag : ByteArray) (W : Int) (hb : tag.toList = [] ∨ W < 1 ∨ 32 < W) : Calls Try.prog 18 #[.pointer (some ⟨r, 0, none⟩), .string tag, .int .i64 W] w fun e w' => e = .returned (.tuple #[.pointer none, .int .i64 20]) ∧ w = w' := by
  by_cases h0 : tag.toList = []
  · have hte : tag.toList.isEmpty = true := by simpa using h0
    clear h0 hb
    go_enter Try.func18, Try.ntmps18
    go_wp2
    go_ret2
    exact ⟨rfl, rfl⟩
  · have hte : tag.toList.isEmpty = false := by simpa using h0
    by_cases h1 : W < 1
    · clear h0 hb
      go_enter Try.func18, Try.ntmps18
      go_wp2
      go_ret2
      exact ⟨rfl, rfl⟩
    · have h2 : 32 < W := by
        rcases hb with e | e | e
        · exact absurd e h0
        · exact absurd e h1
        · exact e
      have h3 : 1 ≤ W := by omega
      clear h0 hb
      go_enter Try.func18, Try.ntmps18
      go_wp2
      go_ret2
      exact ⟨rfl, rfl⟩
end Go.Proofs.Ytfimadeokdlpnaa.kv
