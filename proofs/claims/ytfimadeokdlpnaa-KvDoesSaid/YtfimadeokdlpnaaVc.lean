/- works. -/
import Derived.Test.YtfimadeokdlpnaaVbb
namespace Go.Proofs.Ytfimadeokdlpnaa.kv
open Go.ChangeShapes Go.WideShapes Go.ChangeAt Go.RowKit K
set_option linter.unusedVariables false
set_option linter.unusedSimpArgs false
theorem stW_step (k : Nat) (hk : k < 3) : appendOf (stW k).1 (stW k).2 (rowN 16 k) = some ((stW (k + 1)).1, (stW (k + 1)).2) := by
  have : (appendOf (stW k).1 (stW k).2 (rowN 16 k)).isSome = true := by
    match k, hk with
    | 0, _ => exact stW_0
    | 1, _ => exact stW_1
    | 2, _ => exact stW_2
  exact getD_of_some (d := stW k) this
theorem stW_small : ∀ k, k ≤ 3 → Small (stW k).1
  | 0, _ => small_no 8
  | k + 1, h => (stW_small k (by omega)).append (stW_step k (by omega))
theorem stW_len (k : Nat) (hk : k ≤ 3) : (stW k).2.len < 1000 ∧ (stW k).2.width = 16 := by
  match k, hk with
  | 0, _ => exact ⟨by decide, rfl⟩
  | 1, _ => exact ⟨by rw [show (stW 1).2.len = 1 by kernel_rfl]; omega, by kernel_rfl⟩
  | 2, _ => exact ⟨by rw [show (stW 2).2.len = 2 by kernel_rfl]; omega, by kernel_rfl⟩
  | 3, _ => exact ⟨by rw [show (stW 3).2.len = 3 by kernel_rfl]; omega, by kernel_rfl⟩
theorem tagR_ne : ({ data := #[114] } : ByteArray).toList ≠ [] := by rw [ByteArray.toList_eq]; simp
theorem Many.start {B : Nat} {w : World} {p b s : Nat} {S : List Pg} {Q : Sq} (hp : PR w p b S) (hpB : B ≤ p) (hbB : B ≤ b) (hs : SR w s p Q (.slice none 0 0) none) (hB : B ≤ s) (h1 : s ≠ p) (h2 : s ≠ b) : Many B w p b S [⟨s, Q, .slice none 0 0, none⟩] := by
  refine ⟨hp, hpB, hbB, fun i x hx => ?_, fun i j x y hij hx hy => ?_⟩
  · rw [List.getElem?_singleton] at hx
    split at hx
    · cases hx; exact ⟨hs, ⟨h1, h2, by simp, by simp⟩, hB, fun k hk => by cases hk⟩
    · cases hx
  · rw [List.getElem?_singleton] at hx hy
    split at hx
    · split at hy
      · omega
      · cases hy
    · cases hx
theorem belowDrewN {B : Nat} {a w : World} (h : Below B a w) (n : Nat) : Below B a (w.drewN n) := ⟨h.os, h.tape, h.output, h.size, h.block⟩
theorem smallW4_all : (sW4.all fun x => Nat.ble x.own 1000000000) = true := by kernel_rfl
theorem smallW4 : Small sW4 := fun x hx => Nat.le_of_ble_eq_true (List.all_eq_true.1 smallW4_all x hx)
theorem first3 : (stW 3).2.first = 0 := by kernel_rfl
theorem len3 : (stW 3).2.len = 3 := by kernel_rfl
theorem first5 : stW5.2.first = 0 := by kernel_rfl
theorem len5 : stW5.2.len = 4 := by kernel_rfl
theorem wid5 : stW5.2.width = 16 := by kernel_rfl
theorem smallW5_all : (stW5.1.all fun x => Nat.ble x.own 1000000000) = true := by kernel_rfl
theorem smallW5 : Small stW5.1 := fun x hx => Nat.le_of_ble_eq_true (List.all_eq_true.1 smallW5_all x hx)
theorem mostW_all : ((stW 3).1.all fun x => Nat.ble x.own 900000000) = true := by kernel_rfl
theorem mostW : Most 900000000 (stW 3).1 := fun x hx => Nat.le_of_ble_eq_true (List.all_eq_true.1 mostW_all x hx)
set_option maxHeartbeats 4000000 in
set_option maxRecDepth 100000 in
theorem works_c (w : World) : Calls Try.prog 7 #[] w fun e w' => e = .returned (.bool true) ∧ Below w.heap.size w w' := by
  have NW := Lib.hid (new_c 8 (by omega) (by omega) w)
  go_enter Try.func7, Try.ntmps7
  go_wp2_with fail
  refine NW.out.mono ?_
  rintro e w1 ⟨p, b, rfl, hp, hb, hpB, hbB⟩
  have HP := Lib.hid hp
  have HB := Lib.hid hb
  have KN := Lib.hid (knew_c p w1 { data := #[114] } tagR_ne 16 (by omega) (by omega))
  clear hp hb
  go_wp2_with fail
  refine KN.out.mono ?_
  rintro e w2 ⟨rfl, hs, hb2⟩
  have hw1 := HB.out.size
  have hpl := HP.out.head.lt
  have hbl := HP.out.lt
  have HM : Hid (∃ y : Ent, Many w.heap.size w2 p b (stW 0).1 [y] ∧ y.s = w1.heap.size ∧ y.Q = (stW 0).2 ∧ Below w.heap.size w w2) :=
    ⟨⟨w1.heap.size, _, .slice none 0 0, none⟩, Many.start (HP.out.below hb2) hpB hbB hs hw1 (by omega) (by omega), rfl, rfl, below_step HB.out hb2⟩
  have hwz := HM.out.choose_spec.2.2.2.size
  clear hs hb2
  clear NW KN
  generalize hs0 : w1.heap.size = s0 at *
  clear hs0 HP HB hpl hbl
  go_wp2_with fail
  go_loopw [4] (fun s4 wr => ∃ k : Nat, k ≤ 3 ∧ s4 = .int .i64 k ∧ Hid (∃ y : Ent, Many w.heap.size wr p b (stW k).1 [y] ∧ y.s = s0 ∧ y.Q = (stW k).2 ∧ Below w.heap.size w wr)) (fun s4 _ => 3 - (intOf s4).toNat)
  case atStart => exact ⟨0, by omega, rfl, HM⟩
  case round =>
    obtain ⟨k, hk, rfl, HMk⟩ := hrel
    obtain ⟨y, hM, hys, hyQ, hBw⟩ := HMk.out
    have hBs := hBw.size
    by_cases hk3 : k < 3
    · have hkz : (k : Int) < 3 := by omega
      have LR := Lib.hid (lrow_c 16 k (by omega) (by omega) wr)
      have HMM := Lib.hid hM
      have HYQ := Lib.hid hyQ
      have HBW := Lib.hid hBw
      clear hM hyQ hBw
      go_wp2_with fail
      refine LR.out.mono ?_
      rintro e w3 ⟨g, f, cp, rfl, ha, hg, hb3⟩
      have hw3 := hb3.size
      have AP := (HMM.out.below hb3).append_c (i := 0) (x := y) rfl (by omega) (stW_small k hk) (by rw [HYQ.out]; exact (stW_len k hk).1) 16 (by rw [HYQ.out]; exact (stW_len k hk).2) (rowN 16 k) (rowN_length _ _) _ (by rw [HYQ.out]; exact stW_step k hk3) g f cp ha (HMM.out.notFoot (i := 0) rfl hg)
      rw [hys] at AP
      have HAP := Lib.hid AP
      have HB3 := Lib.hid (below_step HBW.out hb3)
      clear AP ha hg hb3
      go_wp2_with fail
      refine HAP.out.mono ?_
      rintro e w4 ⟨rfl, y2, hM2, hy2s, hy2Q, hb4⟩
      have HM2 : Hid (∃ y : Ent, Many w.heap.size w4 p b (stW (k + 1)).1 [y] ∧ y.s = s0 ∧ y.Q = (stW (k + 1)).2 ∧ Below w.heap.size w w4) := ⟨y2, hM2, hy2s, hy2Q, HB3.out.trans hb4⟩
      clear hM2 hy2s hy2Q hb4
      go_wp2
      exact ⟨⟨k + 1, by omega, by go_num, HM2⟩, by simp [intOf]; omega⟩
    · obtain rfl : k = 3 := by omega
      have FK := hM.fork_c (i := 0) (x := y) rfl hBs mostW
      rw [hys, hyQ] at FK
      have HFK := Lib.hid FK
      have HBW := Lib.hid hBw
      have HYS := Lib.hid hys
      have HYQ := Lib.hid hyQ
      clear FK hM hyQ hBw hys HMk hk3
      go_wp2_with fail
      refine HFK.out.mono ?_
      rintro e w4 ⟨f, rfl, t, hM4, hts, htQ, hb4⟩
      have M4 : Hid (Many w.heap.size w4 p b sW4 [y, t]) := hM4
      have B4 := Lib.hid (HBW.out.trans hb4)
      have HTS := Lib.hid hts
      have HTQ := Lib.hid htQ
      clear hM4 hb4 hts htQ
      have N1 : Hid (Calls Try.prog 10 #[.pointer (some ⟨s0, 0, none⟩)] w4 fun e w' => e = .returned (.int .i64 1) ∧ ∃ m, w' = w4.drewN m) := by
        have := M4.out.need_c (i := 0) (x := y) rfl
        rw [HYS.out, HYQ.out, needW1] at this
        exact this
      go_wp2_with fail
      refine N1.out.mono ?_
      rintro e w5 ⟨rfl, m5, rfl⟩
      have N2 : Hid (Calls Try.prog 10 #[.pointer (some ⟨f, 0, none⟩)] (w4.drewN m5) fun e w' => e = .returned (.int .i64 1) ∧ ∃ m, w' = (w4.drewN m5).drewN m) := by
        have := (M4.out.drewN m5).need_c (i := 1) (x := t) rfl
        rw [HTS.out, HTQ.out, needW1] at this
        exact this
      have M5 := Lib.hid (M4.out.drewN m5)
      have B5 : Hid (Below w.heap.size w (w4.drewN m5)) := belowDrewN B4.out m5
      clear N1 M4 B4
      generalize w4.drewN m5 = w5 at *
      go_wp2_with fail
      refine N2.out.mono ?_
      rintro e w6 ⟨rfl, m6, rfl⟩
      have M6 := Lib.hid (M5.out.drewN m6)
      have B6 : Hid (Below w.heap.size w (w5.drewN m6)) := belowDrewN B5.out m6
      clear N2 M5 B5
      generalize w5.drewN m6 = w6 at *
      have LR9 := Lib.hid (lrow_c 16 9 (by omega) (by omega) w6)
      go_wp2_with fail
      refine LR9.out.mono ?_
      rintro e w7 ⟨g7, f7, cp7, rfl, ha7, hg7, hb7⟩
      have hB7 := (below_step B6.out hb7).size
      have AP : Hid (Calls Try.prog 11 #[.pointer (some ⟨s0, 0, none⟩), .slice (some ⟨g7, f7, none⟩) 16 cp7] w7 fun e w' => e = .returned (.int .i64 0) ∧ ∃ z : Ent, Many w.heap.size w' p b stW5.1 [z, t] ∧ z.s = s0 ∧ z.Q = stW5.2 ∧ Below w.heap.size w7 w') := by
        have := (M6.out.below hb7).append_c (i := 0) (x := y) rfl hB7 smallW4 (by rw [HYQ.out]; exact (stW_len 3 (by omega)).1) 16 (by rw [HYQ.out]; exact (stW_len 3 (by omega)).2) (rowN 16 9) (rowN_length _ _) stW5.2 (by rw [HYQ.out]; exact getD_of_some (d := stW 3) stW_5) g7 f7 cp7 ha7 (M6.out.notFoot (i := 0) rfl hg7)
        rw [HYS.out] at this
        exact this
      have B7 := Lib.hid (below_step B6.out hb7)
      clear ha7 hg7 hb7 LR9 M6 B6
      go_wp2_with fail
      refine AP.out.mono ?_
      rintro e w8 ⟨rfl, z, hM8, hzs, hzQ, hb8⟩
      have M8 := Lib.hid hM8
      have HZS := Lib.hid hzs
      have HZQ := Lib.hid hzQ
      have B8 := Lib.hid (B7.out.trans hb8)
      clear hM8 hzs hzQ hb8 AP B7
      have N3 : Hid (Calls Try.prog 10 #[.pointer (some ⟨f, 0, none⟩)] w8 fun e w' => e = .returned (.int .i64 0) ∧ ∃ m, w' = w8.drewN m) := by
        have := M8.out.need_c (i := 1) (x := t) rfl
        rw [HTS.out, HTQ.out, needW5] at this
        exact this
      go_wp2_with fail
      refine N3.out.mono ?_
      rintro e w9 ⟨rfl, m9, rfl⟩
      have M9 := Lib.hid (M8.out.drewN m9)
      have B9 : Hid (Below w.heap.size w (w8.drewN m9)) := belowDrewN B8.out m9
      clear N3 M8 B8
      generalize w8.drewN m9 = w9 at *
      have CT : Hid (Calls Try.prog 15 #[.pointer (some ⟨p, 0, none⟩), .string { data := #[114] }] w9 fun e w' => e = .returned (.int .i64 3) ∧ w9 = w') := by
        have := count_c p b stW5.1 w9 M9.out.pool tagR
        rw [cntW5] at this
        exact this
      go_wp2_with fail
      refine CT.out.mono ?_
      rintro e w' ⟨rfl, rfl⟩
      have R1 : Hid (Calls Try.prog 28 #[.pointer (some ⟨f, 0, none⟩), .int .i64 2] w9 fun e w' => ∃ g, e = .returned (.tuple #[.slice (some ⟨g, 0, none⟩) 16 16, .int .i64 0]) ∧ Vals w' (some ⟨g, 0, none⟩) (rowN 16 2) ∧ Below w9.heap.size w9 w' ∧ w9.heap.size ≤ g) := by
        have := M9.out.row_c (i := 1) (x := t) rfl 2 (by rw [HTQ.out, first3]; omega) (by rw [HTQ.out, len3]; omega)
        rw [HTS.out, HTQ.out, rowW2, (stW_len 3 (by omega)).2] at this
        exact this
      clear CT
      go_wp2_with fail
      refine R1.out.mono ?_
      rintro e w10 ⟨ga, rfl, hva, hb10, hga⟩
      have NA : Hid (¬ Foot p b z.s z.own ga ∧ ¬ Foot p b t.s t.own ga) := ⟨M9.out.notFoot (i := 0) rfl hga, M9.out.notFoot (i := 1) rfl hga⟩
      have M10 := Lib.hid (M9.out.below hb10)
      have B10 := Lib.hid (below_step B9.out hb10)
      have VA := Lib.hid hva
      clear hva hb10 hga R1 M9 B9
      have R2 : Hid (Calls Try.prog 28 #[.pointer (some ⟨s0, 0, none⟩), .int .i64 3] w10 fun e w' => ∃ g, e = .returned (.tuple #[.slice (some ⟨g, 0, none⟩) 16 16, .int .i64 0]) ∧ Vals w' (some ⟨g, 0, none⟩) (rowN 16 9) ∧ Below w10.heap.size w10 w' ∧ w10.heap.size ≤ g) := by
        have := M10.out.row_c (i := 0) (x := z) rfl 3 (by rw [HZQ.out, first5]; omega) (by rw [HZQ.out, len5]; omega)
        rw [HZS.out, HZQ.out, rowW3, wid5] at this
        exact this
      go_wp2_with fail
      refine R2.out.mono ?_
      rintro e w11 ⟨gb, rfl, hvb, hb11, hgb⟩
      have NB : Hid (¬ Foot p b z.s z.own gb ∧ ¬ Foot p b t.s t.own gb) := ⟨M10.out.notFoot (i := 0) rfl hgb, M10.out.notFoot (i := 1) rfl hgb⟩
      have M11 := Lib.hid (M10.out.below hb11)
      have B11 := Lib.hid (below_step B10.out hb11)
      have VA2 := Lib.hid (VA.out.below (B := 0) hb11)
      have VB := Lib.hid hvb
      clear hvb hb11 hgb R2 M10 B10 VA
      have R3 : Hid (Calls Try.prog 28 #[.pointer (some ⟨f, 0, none⟩), .int .i64 3] w11 fun e w' => e = .returned (.tuple #[.slice none 0 0, .int .i64 25]) ∧ w11 = w') := by
        have h1 := (M11.out.one 1 t rfl).seq
        have := row_out t.s p t.Q t.v t.own w11 h1 3 (.inr (by rw [HTQ.out, len3]; omega))
        rw [HTS.out] at this
        exact this
      go_wp2_with fail
      refine R3.out.mono ?_
      rintro e w' ⟨rfl, rfl⟩
      clear R3
      have L1 : Hid (Calls Try.prog 24 #[.pointer (some ⟨s0, 0, none⟩)] w11 fun e w' => e = .returned (.tuple #[]) ∧ ∃ z' : Ent, Many w.heap.size w' p b sW6 [z', t] ∧ Below w.heap.size w11 w' ∧ Chg (Foot p b z.s z.own) w11 w') := by
        have := M11.out.release_c (i := 0) (x := z) rfl B11.out.size smallW5
        rw [HZQ.out] at this
        rw [← HZS.out]
        exact this.mono fun e w' ⟨h1, y, h2, _, _, h3, h4⟩ => ⟨h1, y, h2, h3, h4⟩
      go_wp2_with fail
      refine L1.out.mono ?_
      rintro e w12 ⟨rfl, z2, hM12, hb12, hc12⟩
      have M12 := Lib.hid hM12
      have B12 := Lib.hid (B11.out.trans hb12)
      have VA3 := Lib.hid (VA2.out.chg hc12 NA.out.1)
      have VB3 := Lib.hid (VB.out.chg hc12 NB.out.1)
      clear hM12 hb12 hc12 L1 M11 B11 VA2 VB
      have L2 : Hid (Calls Try.prog 24 #[.pointer (some ⟨f, 0, none⟩)] w12 fun e w' => e = .returned (.tuple #[]) ∧ ∃ t' : Ent, Many w.heap.size w' p b sW7 [z2, t'] ∧ Below w.heap.size w12 w' ∧ Chg (Foot p b t.s t.own) w12 w') := by
        have := M12.out.release_c (i := 1) (x := t) rfl B12.out.size (smallW5.dropAll _)
        rw [HTQ.out] at this
        rw [← HTS.out]
        exact this.mono fun e w' ⟨h1, y, h2, _, _, h3, h4⟩ => ⟨h1, y, h2, h3, h4⟩
      go_wp2_with fail
      refine L2.out.mono ?_
      rintro e w13 ⟨rfl, t2, hM13, hb13, hc13⟩
      have M13 := Lib.hid hM13
      have B13 := Lib.hid (B12.out.trans hb13)
      have VA4 := Lib.hid (VA3.out.chg hc13 NA.out.2)
      have VB4 := Lib.hid (VB3.out.chg hc13 NB.out.2)
      clear hM13 hb13 hc13 L2 M12 B12 VA3 VB3
      have LA := Lib.hid (lrow_c 16 2 (by omega) (by omega) w13)
      go_wp2_with fail
      refine LA.out.mono ?_
      rintro e w14 ⟨g14, f14, cp14, rfl, ha14, hg14, hb14⟩
      have SA : Hid (Calls Try.prog 29 #[.slice (some ⟨ga, 0, none⟩) 16 16, .slice (some ⟨g14, f14, none⟩) 16 cp14] w14 fun e w' => e = .returned (.bool true) ∧ ∃ m, w' = w14.drewN m) := by
        have := same_c (some ⟨ga, 0, none⟩) (some ⟨g14, f14, none⟩) 16 cp14 (rowN 16 2) (rowN 16 2) w14 (VA4.out.below (B := 0) hb14) ha14.vals (by rw [rowN_length]; omega)
        rw [rowN_length, decide_eq_true rfl] at this
        exact this
      have M14 := Lib.hid (M13.out.below hb14)
      have B14 := Lib.hid (below_step B13.out hb14)
      have VB5 := Lib.hid (VB4.out.below (B := 0) hb14)
      clear ha14 hg14 hb14 LA M13 B13 VA4 VB4
      go_wp2_with fail
      refine SA.out.mono ?_
      rintro e w15 ⟨rfl, m15, rfl⟩
      have M15 := Lib.hid (M14.out.drewN m15)
      have B15 : Hid (Below w.heap.size w (w14.drewN m15)) := belowDrewN B14.out m15
      have VB6 : Hid (Vals (w14.drewN m15) (some ⟨gb, 0, none⟩) (rowN 16 9)) := VB5.out
      clear SA M14 B14 VB5
      generalize w14.drewN m15 = w15 at *
      have LB := Lib.hid (lrow_c 16 9 (by omega) (by omega) w15)
      go_wp2_with fail
      refine LB.out.mono ?_
      rintro e w16 ⟨g16, f16, cp16, rfl, ha16, hg16, hb16⟩
      have SB : Hid (Calls Try.prog 29 #[.slice (some ⟨gb, 0, none⟩) 16 16, .slice (some ⟨g16, f16, none⟩) 16 cp16] w16 fun e w' => e = .returned (.bool true) ∧ ∃ m, w' = w16.drewN m) := by
        have := same_c (some ⟨gb, 0, none⟩) (some ⟨g16, f16, none⟩) 16 cp16 (rowN 16 9) (rowN 16 9) w16 (VB6.out.below (B := 0) hb16) ha16.vals (by rw [rowN_length]; omega)
        rw [rowN_length, decide_eq_true rfl] at this
        exact this
      have M16 := Lib.hid (M15.out.below hb16)
      have B16 := Lib.hid (below_step B15.out hb16)
      clear ha16 hg16 hb16 LB M15 B15 VB6
      go_wp2_with fail
      refine SB.out.mono ?_
      rintro e w17 ⟨rfl, m17, rfl⟩
      have B17 : Hid (Below w.heap.size w (w16.drewN m17)) := belowDrewN B16.out m17
      have C7 : Hid (Calls Try.prog 15 #[.pointer (some ⟨p, 0, none⟩), .string { data := #[114] }] (w16.drewN m17) fun e w' => e = .returned (.int .i64 0) ∧ w16.drewN m17 = w') := by
        have := count_c p b sW7 (w16.drewN m17) (M16.out.drewN m17).pool tagR
        rw [cntW7] at this
        exact this
      clear SB M16 B16
      go_wp2_with fail
      refine C7.out.mono ?_
      rintro e w' ⟨rfl, rfl⟩
      clear C7
      go_wp2
      go_ret
      exact ⟨rfl, B17.out⟩
end Go.Proofs.Ytfimadeokdlpnaa.kv
