/- KvKeeps. -/
import Derived.Test.YtfimadeokdlpnaaVkf
namespace Go.Proofs.Ytfimadeokdlpnaa.kv
open Go.ChangeShapes Go.WideShapes Go.ChangeAt Go.RowKit K
set_option linter.unusedVariables false
set_option linter.unusedSimpArgs false
theorem um_bd (a m : Int) (h0 : 0 < m) (h1 : m ≤ 100000) : 0 ≤ wrap64 ((IntKind.u64.wrap a).tmod m) ∧ wrap64 ((IntKind.u64.wrap a).tmod m) < m ∧ wrap64 (1 + wrap64 ((IntKind.u64.wrap a).tmod m)) = 1 + wrap64 ((IntKind.u64.wrap a).tmod m) := by
  have hu : 0 ≤ IntKind.u64.wrap a := by
    simp [IntKind.wrap, IntKind.signed, IntKind.bits]; omega
  have e : (IntKind.u64.wrap a).tmod m = IntKind.u64.wrap a % m := Int.tmod_eq_emod_of_nonneg hu
  have b1 := Int.emod_nonneg (IntKind.u64.wrap a) (show m ≠ 0 by omega)
  have b2 := Int.emod_lt_of_pos (IntKind.u64.wrap a) h0
  rw [e]
  have w1 : wrap64 (IntKind.u64.wrap a % m) = IntKind.u64.wrap a % m := by unfold wrap64; omega
  rw [w1]
  refine ⟨b1, b2, ?_⟩
  unfold wrap64; omega
theorem Own.small {tag : ByteArray} {N m : Nat} {S : List Pg} (h : Own tag N m S) : Small S := fun x hx => by
  obtain ⟨i, hi, rfl⟩ := List.mem_iff_getElem.1 hx
  have := h.pg i _ (List.getElem?_eq_getElem hi)
  split at this
  · omega
  · omega
def SoloAt (B : Nat) (p b s0 W N : Nat) (w wr : World) (k : Nat) : Prop := ∃ (y : Ent) (m : Nat) (S : List Pg), Many B wr p b S [y] ∧ y.s = s0 ∧ Solo { data := #[114] } W N k m S y.Q ∧ Below B w wr
def okI (a : Int) : Prop := -9223372036854775808 ≤ a ∧ a ≤ 9223372036854775807
set_option maxHeartbeats 4000000 in
set_option maxRecDepth 100000 in
theorem keeps_walk (w : World) (a0 a1 a2 : Int) (h0 : okI a0) (h1 : okI a1) (h2 : okI a2) :
    Calls Try.prog 5 #[.int .i64 a0, .int .i64 a1, .int .i64 a2] w fun e w' => e = .returned (.bool true) ∧ Below w.heap.size w w' := by
  go_enter Try.func5, Try.ntmps5
  go_wp2_with fail
  refine (works_c _).mono ?_
  rintro e w1 ⟨rfl, hb1⟩
  have HB1 := Lib.hid hb1
  clear hb1
  go_wp2_with fail
  obtain ⟨u0, u1, u2⟩ := um_bd a0 32 (by omega) (by omega)
  obtain ⟨v0, v1, v2⟩ := um_bd a1 60 (by omega) (by omega)
  obtain ⟨x0, x1, x2⟩ := um_bd a2 70 (by omega) (by omega)
  generalize ht0 : wrap64 (1 + wrap64 ((IntKind.u64.wrap a0).tmod 32)) = wt at *
  generalize ht1 : wrap64 ((IntKind.u64.wrap a1).tmod 60) = rr at *
  generalize ht2 : wrap64 ((IntKind.u64.wrap a2).tmod 70) = nn at *
  obtain ⟨W, rfl⟩ : ∃ W : Nat, wt = W := ⟨wt.toNat, by omega⟩
  obtain ⟨r, rfl⟩ : ∃ r : Nat, rr = r := ⟨rr.toNat, by omega⟩
  obtain ⟨n, rfl⟩ : ∃ n : Nat, nn = n := ⟨nn.toNat, by omega⟩
  have hW : 1 ≤ W ∧ W ≤ 32 := by omega
  have hr : r < 60 := by omega
  have hn : n < 70 := by omega
  clear u0 u1 u2 v0 v1 v2 x0 x1 x2 ht0 ht1 ht2
  refine (new_c 64 (by omega) (by omega) w1).mono ?_
  rintro e w2 ⟨p, b, rfl, hp, hb, hpB, hbB⟩
  have HP := Lib.hid hp
  have HB2 := Lib.hid (below_step HB1.out hb)
  have KN := Lib.hid (knew_c p w2 { data := #[114] } tagR_ne W hW.1 hW.2)
  clear hp hb
  have hs1 := HB1.out.size
  have hs2 := HB2.out.size
  have hpl := HP.out.head.lt
  have hbl := HP.out.lt
  go_wp2_with fail
  refine KN.out.mono ?_
  rintro e w3 ⟨rfl, hs, hb3⟩
  have HM : Hid (∃ (y : Ent) (m : Nat), Many w.heap.size w3 p b (List.replicate 64 Pg.no) [y] ∧ y.s = w2.heap.size ∧ Solo { data := #[114] } W 64 0 m (List.replicate 64 Pg.no) y.Q ∧ Below w.heap.size w w3) :=
    ⟨_, 0, Many.start (HP.out.below hb3) (by omega) (by omega) hs hs2 (by omega) (by omega), rfl, Solo.start _ W 64 hW, below_step HB2.out hb3⟩
  clear KN HP HB1 HB2 hs hb3 hpB hbB hpl hbl hs1
  generalize hs0 : w2.heap.size = s0 at *
  clear hs0
  have HM0 : Hid (SoloAt w.heap.size p b s0 W 64 w w3 0) := by
    obtain ⟨y, m, q1, q2, q3, q4⟩ := HM.out
    exact ⟨y, m, _, q1, q2, q3, q4⟩
  clear HM
  go_wp2_with fail
  go_loopw [11] (fun s11 wr => ∃ k : Nat, k ≤ r ∧ s11 = .int .i64 k ∧ Hid (SoloAt w.heap.size p b s0 W 64 w wr k)) (fun s11 _ => r - (intOf s11).toNat)
  case atStart => exact ⟨0, by omega, rfl, HM0⟩
  case round =>
    obtain ⟨k, hk, rfl, HK⟩ := hrel
    obtain ⟨y, m, S, hM, hys, hSo, hBw⟩ := HK.out
    have hBs := hBw.size
    by_cases hkr : k < r
    · have hkz : (k : Int) < (r : Int) := by omega
      have LR := Lib.hid (lrow_c W k hW (by omega) wr)
      have HMM := Lib.hid hM
      have HSO := Lib.hid hSo
      have HBW := Lib.hid hBw
      clear hM hSo hBw
      go_wp2_with fail
      refine LR.out.mono ?_
      rintro e w4 ⟨g, f, cp, rfl, ha, hg, hb4⟩
      have hw4 := hb4.size
      have hper : 1 ≤ 32 / W := (Nat.le_div_iff_mul_le (by omega)).2 (by omega)
      obtain ⟨S2, Q2, m2, hap, hSo2⟩ := HSO.out.append (by have := Nat.mul_le_mul_left 64 hper; omega) (rowN W k)
      have AP := (HMM.out.below hb4).append_c (i := 0) (x := y) rfl (by omega) HSO.out.own.small (by rw [HSO.out.seq]; show k < 1000; omega) W (by rw [HSO.out.seq]) (rowN W k) (rowN_length _ _) Q2 hap g f cp ha (HMM.out.notFoot (i := 0) rfl hg)
      rw [hys] at AP
      have HAP := Lib.hid AP
      have HB4 := Lib.hid (below_step HBW.out hb4)
      have HS2 := Lib.hid hSo2
      clear AP ha hg hb4 hap hSo2
      go_wp2_with fail
      refine HAP.out.mono ?_
      rintro e w5 ⟨rfl, y2, hM2, hy2s, hy2Q, hb5⟩
      have HK2 : Hid (SoloAt w.heap.size p b s0 W 64 w w5 (k + 1)) := ⟨y2, m2, S2, hM2, hy2s, by rw [hy2Q]; exact HS2.out, HB4.out.trans hb5⟩
      clear hM2 hy2s hy2Q hb5
      go_wp2
      exact ⟨⟨k + 1, by omega, by go_num, HK2⟩, by simp [intOf]; omega⟩
    · obtain rfl : k = r := by omega
      have hkz : ¬ (k : Int) < (k : Int) := by omega
      have KE := hM.keep_c (i := 0) (x := y) rfl hBs hSo.own.small (n : Int) (n : Int) (.inl ⟨by omega, rfl⟩) (by omega)
      rw [hys] at KE
      have HKE := Lib.hid KE
      have HSO := Lib.hid hSo
      have HBW := Lib.hid hBw
      clear KE hM hSo hBw
      go_wp2_with fail
      refine HKE.out.mono ?_
      rintro e w5 ⟨rfl, y2, hM2, hy2s, hy2Q, hb5⟩
      have hlo := HSO.out.lo
      have hper : 1 ≤ 32 / W := (Nat.le_div_iff_mul_le (by omega)).2 (by omega)
      have hp32 : 32 / W ≤ 32 := Nat.div_le_self _ _
      have hQ1 : y2.Q.first = (k - n) / (32 / W) * (32 / W) := by
        rw [hy2Q]
        show (keepOf _ _ _ _ _ _).2.2 = _
        rw [HSO.out.seq]
        show (keepOf (32 / W) k (n : Int) S (List.range m) 0).2.2 = _
        rw [keep_first _ _ hper]
        have e : ((k : Int) - (n : Int)).toNat = k - n := by omega
        have e2 : (k - n) / (32 / W) ≤ m := by
          have := Nat.div_le_div_right (c := 32 / W) (show k - n ≤ m * (32 / W) by omega)
          rwa [Nat.mul_div_cancel _ (by omega)] at this
        simp only [List.length_range, e, Nat.sub_zero, Nat.zero_add]
        show min m ((k - n) / (32 / W)) * (32 / W) = _
        rw [Nat.min_eq_right e2]
      have hQ2 : y2.Q.len = k := by rw [hy2Q, HSO.out.seq]
      have FC := Lib.hid (first_c y2.s p y2.Q y2.v y2.own w5 (hM2.one 0 y2 rfl).seq)
      have LC := Lib.hid (len_c y2.s p y2.Q y2.v y2.own w5 (hM2.one 0 y2 rfl).seq)
      rw [hy2s, hQ1] at FC
      rw [hy2s, hQ2] at LC
      have HB5 := Lib.hid (HBW.out.trans hb5)
      clear hM2 hy2s hy2Q hb5 HKE hQ1 hQ2 HSO
      generalize hP : 32 / W = P at *
      obtain ⟨d, hd⟩ : ∃ d, k - n = d := ⟨_, rfl⟩
      have hqk : d / P ≤ k / P := Nat.div_le_div_right (by omega)
      have hF1 : d / P * P ≤ d := Nat.div_mul_le_self _ _
      have hF2 : d / P * P ≤ k / P * P := Nat.mul_le_mul_right _ hqk
      have hF3 : k / P * P ≤ k := Nat.div_mul_le_self _ _
      have hd1 : d / P ≤ d := Nat.div_le_self _ _
      have hd2 : k / P ≤ k := Nat.div_le_self _ _
      have hm1 : k % P < P := Nat.mod_lt _ (by omega)
      have hw1 := wrap_mul (d / P) P (by omega) hp32
      have hw2 := wrap_mul (k / P) P (by omega) hp32
      rw [hd] at FC
      have e0 : (32 : Int) / (W : Int) = (P : Int) := by rw [← hP]; rfl
      have e1 : ((W : Int) == 0) = false := by rw [beq_eq_false_iff_ne]; omega
      have e2 : ((P : Int) == 0) = false := by rw [beq_eq_false_iff_ne]; omega
      have e3 : (if (0 : Int) < (k : Int) - (n : Int) then (k : Int) - (n : Int) else 0) = (d : Int) := by split <;> omega
      have e3' : (if (k : Int) - (n : Int) < 0 then 0 else (k : Int) - (n : Int)) = (d : Int) := by split <;> omega
      have e3n : (if n < k then (k : Int) - (n : Int) else 0) = (d : Int) := by split <;> omega
      have e4 : (d : Int) / (P : Int) = ((d / P : Nat) : Int) := rfl
      have e5 : (k : Int) / (P : Int) = ((k / P : Nat) : Int) := rfl
      have e6 : (k : Int) % (P : Int) = ((k % P : Nat) : Int) := rfl
      have HBF := HB5.out
      generalize d / P = q at *
      generalize k / P = kq at *
      have e7 : (q : Int) * (P : Int) = ((q * P : Nat) : Int) := by simp
      have e8 : (kq : Int) * (P : Int) = ((kq * P : Nat) : Int) := by simp
      generalize q * P = F at *
      generalize kq * P = G at *
      generalize k % P = km at *
      have e9 : (if (G : Int) < (F : Int) then (G : Int) else (F : Int)) = (F : Int) := if_neg (by omega)
      have e10 : (if (k : Int) < (F : Int) then (k : Int) else (F : Int)) = (F : Int) := if_neg (by omega)
      have e9n : (if G < F then (G : Int) else (F : Int)) = (F : Int) := if_neg (by omega)
      have e10n : (if k < F then (k : Int) else (F : Int)) = (F : Int) := if_neg (by omega)
      clear hP hd hlo hm1 HBF
      by_cases hkm : km = 0
      · subst hkm
        go_wp2_with fail
        refine FC.out.mono ?_
        rintro e w' ⟨rfl, rfl⟩
        go_wp2_with fail
        refine LC.out.mono ?_
        rintro e w' ⟨rfl, rfl⟩
        go_wp2
        go_ret
        exact ⟨rfl, HB5.out⟩
      · have hkz2 : ((km : Int) == 0) = false := by rw [beq_eq_false_iff_ne]; omega
        go_wp2_with fail
        refine FC.out.mono ?_
        rintro e w' ⟨rfl, rfl⟩
        go_wp2_with fail
        refine LC.out.mono ?_
        rintro e w' ⟨rfl, rfl⟩
        go_wp2
        go_ret
        exact ⟨rfl, HB5.out⟩
end Go.Proofs.Ytfimadeokdlpnaa.kv
