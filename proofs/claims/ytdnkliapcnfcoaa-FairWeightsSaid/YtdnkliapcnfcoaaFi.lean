/- FairIdle: the walk. -/
import Derived.Test.YtdnkliapcnfcoaaPi
import Derived.Test.YtdnkliapcnfcoaaFk
import Derived.Test.YtdnkliapcnfcoaaMp
namespace Go.Proofs.Ytdnkliapcnfcoaa.fair
open Go.ChangeShapes Go.WideShapes Go.ChangeAt Go.RowKit K
set_option linter.unusedVariables false
set_option linter.unusedSimpArgs false
theorem um_bd (a m : Int) (h0 : 0 < m) (h1 : m ≤ 100000) : 0 ≤ wrap64 ((IntKind.u64.wrap a).tmod m) ∧ wrap64 ((IntKind.u64.wrap a).tmod m) < m ∧ wrap64 (1 + wrap64 ((IntKind.u64.wrap a).tmod m)) = 1 + wrap64 ((IntKind.u64.wrap a).tmod m) := by
  have hu : 0 ≤ IntKind.u64.wrap a := by
    simp [IntKind.wrap, IntKind.signed, IntKind.bits]; omega
  have e : (IntKind.u64.wrap a).tmod m = IntKind.u64.wrap a % m := Int.tmod_eq_emod_of_nonneg hu
  have b1 := Int.emod_nonneg (IntKind.u64.wrap a) (show m ≠ 0 by omega)
  have b2 := Int.emod_lt_of_pos (IntKind.u64.wrap a) h0
  rw [e]
  have w1 : wrap64 (IntKind.u64.wrap a % m) = IntKind.u64.wrap a % m := by unfold wrap64; omega
  rw [w1]
  refine ⟨b1, b2, ?_⟩
  unfold wrap64; omega
def IdRel (W wr : World) (p : Nat) (wt u : Int) (k Mb c r0 r1 : Nat) : Prop :=
  ∃ S f, OneF W.heap.size (fun b => b = Mb) wr p S ∧ Mid S wt u k f ((k : Int) + c) r0 r1 ∧ Good S (k * 7207200000) ∧ MapII wr Mb c f ∧ Below W.heap.size W wr
def FinRel (W wr : World) (p : Nat) (wt u : Int) (k Mb c : Nat) (f : Int → Option Int) (e i r0 r1 : Nat) : Prop :=
  ∃ S m, OneF W.heap.size (fun b => b = Mb) wr p S ∧ Fin S wt u f e r0 r1 m ∧ Good S ((k + i) * 7207200000) ∧ MapII wr Mb c f ∧ Below W.heap.size W wr
set_option maxHeartbeats 8000000 in
set_option maxRecDepth 100000 in
theorem idle_walk (W : World) (a0 a1 a2 : Int) (h0 : okI a0) (h1 : okI a1) (h2 : okI a2) :
    Calls Try.prog 4 #[.int .i64 a0, .int .i64 a1, .int .i64 a2] W fun e w' => e = .returned (.bool true) ∧ Below W.heap.size W w' := by
  go_enter Try.func4, Try.ntmps4
  go_wp2_with fail
  refine (works_true _).mono ?_
  rintro e w1 ⟨rfl, hb1⟩
  have HB1 := Lib.hid hb1
  clear hb1
  go_wp2_with fail
  obtain ⟨u0, u1, u2⟩ := um_bd a0 16 (by omega) (by omega)
  obtain ⟨v0, v1, v2⟩ := um_bd a1 40 (by omega) (by omega)
  obtain ⟨x0, x1, x2⟩ := um_bd a2 8 (by omega) (by omega)
  generalize ht0 : wrap64 (1 + wrap64 ((IntKind.u64.wrap a0).tmod 16)) = wt at *
  generalize ht1 : wrap64 ((IntKind.u64.wrap a1).tmod 40) = bf at *
  generalize ht2 : wrap64 (1 + wrap64 ((IntKind.u64.wrap a2).tmod 8)) = nn at *
  have hwt : 1 ≤ wt ∧ wt ≤ 16 := by omega
  obtain ⟨bn, rfl⟩ : ∃ bn : Nat, bf = bn := ⟨bf.toNat, by omega⟩
  obtain ⟨n, rfl⟩ : ∃ n : Nat, nn = n := ⟨nn.toNat, by omega⟩
  have hbn : bn < 40 := by omega
  have hn1 : 1 ≤ n := by omega
  have hn8 : n ≤ 8 := by omega
  have I0 : Ints (w1.alloc (.cells #[.int .i64 wt, .int .i64 wt] 3)) (some ⟨w1.heap.size, 0, none⟩) [wt, wt] := by
    intro j x hx
    refine ⟨_, _, rfl, by simp, (Bk.new w1 #[.int .i64 wt, .int .i64 wt] 3).cell _ _ ?_⟩
    match j, hx with
    | 0, hx => simp at hx; subst hx; rfl
    | 1, hx => simp at hx; subst hx; rfl
    | j + 2, hx => simp at hx
  have NC := Lib.hid (new_c _ _ 2 2 [wt, wt] rfl I0)
  have hs1 := HB1.out.size
  have HB2 : Hid (Below W.heap.size W (w1.alloc (.cells #[.int .i64 wt, .int .i64 wt] 3))) := HB1.out.alloc hs1 _
  have hz0 : W.heap.size ≤ (w1.alloc (.cells #[.int .i64 wt, .int .i64 wt] 3)).heap.size := by simp; omega
  have HWT := Lib.hid hwt
  clear I0 u0 u1 u2 v0 v1 v2 x0 x1 x2 ht0 ht1 ht2 hwt
  generalize w1.alloc (.cells #[.int .i64 wt, .int .i64 wt] 3) = w2 at *
  refine NC.out.mono ?_
  rintro e w3 ⟨hb3, hcase⟩
  rcases hcase with ⟨hbad, _⟩ | ⟨_, rfl, L, hL⟩
  · exact absurd (hbad.symm.trans (wOk_two wt HWT.out)) (by simp)
  have HB3 := Lib.hid (HB2.out.trans (hb3.mono HB2.out.size))
  generalize hp : w2.heap.size = p at *
  have HO3 := Lib.hid (OneF.made (X := fun _ => False) hz0 hL (fun b hb => hb.elim))
  have HP3 := Lib.hid (pre_new wt HWT.out)
  have HG3 := Lib.hid (good_new [wt, wt] (wOk_two wt HWT.out) 0 (Int.le_refl _))
  obtain ⟨u, hu⟩ : ∃ u, u = 10 * (720720 / wt) := ⟨_, rfl⟩
  rw [← hu] at HP3
  clear hb3 hL hp hz0 hu hs1
  go_wp2
  go_loopw [9, 10] (fun d i wr => ∃ k : Nat, k ≤ bn ∧ d = .int .i64 k ∧ i = .int .i64 k ∧ Hid (∃ S, OneF W.heap.size (fun _ => False) wr p S ∧ Pre S wt u k ∧ Good S (k * 7207200000) ∧ Below W.heap.size W wr)) (fun _ i _ => bn - (intOf i).toNat)
  case atStart => exact ⟨0, Nat.zero_le _, rfl, rfl, Lib.hid ⟨_, HO3.out, HP3.out, by simpa using HG3.out, HB3.out⟩⟩
  case round =>
    obtain ⟨k, hk, rfl, rfl, REL⟩ := hrel
    obtain ⟨S, hO, hP, hG, hB⟩ := REL.out
    obtain ⟨wo, rfl⟩ : ∃ wo : World, wo = wr := ⟨_, rfl⟩
    by_cases hlt : k < bn
    · have hkz : (k : Int) < (bn : Int) := by omega
      obtain ⟨S1, S2, e1, e2, hP2⟩ := hP.step k
      have hG1 := hG.add 0 k 10
      rw [e1] at hG1
      have hG2 := hG1.next
      rw [e2] at hG2
      have A1 := Lib.hid (hO.add hB.size hG 0 k 10 e1)
      have HBX := Lib.hid hB
      have HG1 := Lib.hid hG1
      have HG2 := Lib.hid hG2
      have HE2 := Lib.hid e2
      have HP2 := Lib.hid hP2
      clear hO hP hG hB e1 e2 hP2 hG1 hG2
      go_wp2_with fail
      refine A1.out.mono ?_
      rintro e w4 ⟨rfl, h1, h2, -⟩
      have H2 := Lib.hid (HBX.out.trans h2)
      have A2 := Lib.hid (h1.next H2.out.size HG1.out (by omega) HE2.out)
      clear h1 h2
      go_wp2_with fail
      refine A2.out.mono ?_
      rintro e w5 ⟨rfl, h1, h2, -⟩
      have H3 := Lib.hid (H2.out.trans h2)
      have HO5 := Lib.hid h1
      clear h1 h2
      go_wp2
      exact ⟨⟨k + 1, by omega, by go_num, by go_num, Lib.hid ⟨S2, HO5.out, HP2.out, HG2.out.mono (by omega), H3.out⟩⟩, by simp [intOf]; omega⟩
    · have hkz : ¬ (k : Int) < (bn : Int) := by omega
      obtain rfl : k = bn := by omega
      have HOX := Lib.hid (hO.wider (Y := fun b => b = wo.heap.size) ((Below.refl _ wo).alloc (Nat.le_refl _) (.map #[] 0)) (fun b hb => .inr ⟨by omega, by simp; omega⟩))
      have HMX := Lib.hid (MapII.made wo)
      have HBX := Lib.hid (hB.alloc hB.size (.map #[] 0))
      have HGX := Lib.hid hG
      have HMID := Lib.hid (hP.mid (fun _ => none) k)
      have hmm := @run_makeMap Try.prog
      clear hO hP hG hB
      go_wp2
      obtain ⟨Mb, hMb⟩ : ∃ Mb, Mb = wo.heap.size := ⟨_, rfl⟩
      obtain ⟨wm, hwm⟩ : ∃ wm, wm = wo.alloc (.map #[] 0) := ⟨_, rfl⟩
      have hmz0 : W.heap.size ≤ Mb := by rw [hMb]; exact REL.out.choose_spec.2.2.2.size
      rw [← hMb, ← hwm]
      rw [← hMb, ← hwm] at HOX HMX
      rw [← hwm] at HBX
      have HR0 : Hid (IdRel W wm p wt u k Mb 0 0 0) := ⟨S, _, HOX.out, by simpa using HMID.out, HGX.out, HMX.out, HBX.out⟩
      clear hMb hwm HOX HMX HBX HGX HMID REL hmm
      go_loopw [9, 12] (fun d i wr => ∃ i0 : Nat, i0 ≤ n ∧ d = .int .i64 ((k : Int) + ((2 * i0 : Nat) : Int)) ∧ i = .int .i64 i0 ∧ Hid (IdRel W wr p wt u k Mb (2 * i0) i0 i0)) (fun _ i _ => n - (intOf i).toNat)
      case atStart => exact ⟨0, Nat.zero_le _, by simp, rfl, HR0⟩
      case round =>
        obtain ⟨i0, hi0, rfl, rfl, REL⟩ := hrel
        obtain ⟨wq, rfl⟩ : ∃ wq : World, wq = wr := ⟨_, rfl⟩
        by_cases hlt2 : i0 < n
        · have hiz : (i0 : Int) < (n : Int) := by omega
          go_wp2
          go_loopw [9, 13] (fun d t wr => (d = .int .i64 ((k : Int) + ((2 * i0 : Nat) : Int)) ∧ t = .int .i64 0 ∧ Hid (IdRel W wr p wt u k Mb (2 * i0) i0 i0)) ∨ (d = .int .i64 ((k : Int) + ((2 * i0 + 1 : Nat) : Int)) ∧ t = .int .i64 1 ∧ Hid (IdRel W wr p wt u k Mb (2 * i0 + 1) (i0 + 1) i0)) ∨ (d = .int .i64 ((k : Int) + ((2 * i0 + 2 : Nat) : Int)) ∧ t = .int .i64 2 ∧ Hid (IdRel W wr p wt u k Mb (2 * i0 + 2) (i0 + 1) (i0 + 1)))) (fun _ t _ => (2 - intOf t).toNat)
          case atStart => exact .inl ⟨rfl, rfl, REL⟩
          case round =>
            rcases hrel with ⟨rfl, rfl, R⟩ | ⟨rfl, rfl, R⟩ | ⟨rfl, rfl, R⟩
            · have hdz : 0 ≤ (k : Int) + ((2 * i0 : Nat) : Int) ∧ (k : Int) + ((2 * i0 : Nat) : Int) ≤ 100 := by omega
              generalize hd : (k : Int) + ((2 * i0 : Nat) : Int) = dd at *
              have HD := Lib.hid hd
              clear hd
              obtain ⟨S, f, hO, hM, hG, hF, hB⟩ := R.out
              rw [HD.out] at hM
              obtain ⟨S1, e1, hM1⟩ := hM.step0 (by omega) (by omega)
              have hG1 := hG.add 0 (dd) 10
              rw [e1] at hG1
              have A1 := Lib.hid (hO.add hB.size hG 0 (dd) 10 e1)
              have HBX := Lib.hid hB
              have HG1 := Lib.hid hG1
              have HF := Lib.hid hF
              have HM1 := Lib.hid hM1
              have hmz : Mb < wr.heap.size := hF.lt
              clear hO hM hG hF hB e1 hG1 hM1
              go_wp2_with fail
              refine A1.out.mono ?_
              rintro e w4 ⟨rfl, h1, h2, h3⟩
              have H2 := Lib.hid (HBX.out.trans h2)
              have HO1 := Lib.hid h1
              have HF1 := Lib.hid (HF.out.keep (h3 Mb rfl))
              have hmz4 : Mb < w4.heap.size := HF1.out.lt
              clear h1 h2 h3
              go_wp2_with (at_mapUpdate; refine wpList_update_ii rfl (.tmp 75) (.tmp 76) (.tmp 77) rfl Mb _ _ rfl HF1.out (by unfold maxLen; omega) (dd) 0 rfl rfl (by unfold okI; omega) (by unfold okI; omega) ?_; intro w5 hF5 hg5; have HF5 := Lib.hid hF5; have HG5 := Lib.hid hg5; clear hF5 hg5)
              have HB5 : Hid (Below W.heap.size W w5) := H2.out.grown HG5.out H2.out.size (fun b hb => by cases hb; omega)
              have HO5 : Hid (OneF W.heap.size (fun b => b = Mb) w5 p S1) := HO1.out.chg (Chg.of_grown HG5.out (fun b hb => Option.some.inj hb))
              refine ⟨.inr (.inl ⟨?_, rfl, Lib.hid ⟨S1, _, HO5.out, ?_, HG1.out, HF5.out, HB5.out⟩⟩), by simp [intOf]⟩
              · rw [← HD.out]; go_num
              · have := HM1.out
                rw [← HD.out] at this
                rw [show (k : Int) + ((2 * i0 + 1 : Nat) : Int) = (k : Int) + ((2 * i0 : Nat) : Int) + 1 by omega, ← HD.out]
                exact this
            · have hdz : 0 ≤ (k : Int) + ((2 * i0 + 1 : Nat) : Int) ∧ (k : Int) + ((2 * i0 + 1 : Nat) : Int) ≤ 100 := by omega
              generalize hd : (k : Int) + ((2 * i0 + 1 : Nat) : Int) = dd at *
              have HD := Lib.hid hd
              clear hd
              obtain ⟨S, f, hO, hM, hG, hF, hB⟩ := R.out
              rw [HD.out] at hM
              obtain ⟨S1, e1, hM1⟩ := hM.step1 (by omega) (by omega)
              have hG1 := hG.add 1 (dd) 10
              rw [e1] at hG1
              have A1 := Lib.hid (hO.add hB.size hG 1 (dd) 10 e1)
              have HBX := Lib.hid hB
              have HG1 := Lib.hid hG1
              have HF := Lib.hid hF
              have HM1 := Lib.hid hM1
              have hmz : Mb < wr.heap.size := hF.lt
              clear hO hM hG hF hB e1 hG1 hM1
              go_wp2_with fail
              refine A1.out.mono ?_
              rintro e w4 ⟨rfl, h1, h2, h3⟩
              have H2 := Lib.hid (HBX.out.trans h2)
              have HO1 := Lib.hid h1
              have HF1 := Lib.hid (HF.out.keep (h3 Mb rfl))
              have hmz4 : Mb < w4.heap.size := HF1.out.lt
              clear h1 h2 h3
              go_wp2_with (at_mapUpdate; refine wpList_update_ii rfl (.tmp 75) (.tmp 76) (.tmp 77) rfl Mb _ _ rfl HF1.out (by unfold maxLen; omega) (dd) 1 rfl rfl (by unfold okI; omega) (by unfold okI; omega) ?_; intro w5 hF5 hg5; have HF5 := Lib.hid hF5; have HG5 := Lib.hid hg5; clear hF5 hg5)
              have HB5 : Hid (Below W.heap.size W w5) := H2.out.grown HG5.out H2.out.size (fun b hb => by cases hb; omega)
              have HO5 : Hid (OneF W.heap.size (fun b => b = Mb) w5 p S1) := HO1.out.chg (Chg.of_grown HG5.out (fun b hb => Option.some.inj hb))
              refine ⟨.inr (.inr ⟨?_, rfl, Lib.hid ⟨S1, _, HO5.out, ?_, HG1.out, HF5.out, HB5.out⟩⟩), by simp [intOf]⟩
              · rw [← HD.out]; go_num
              · have := HM1.out
                rw [← HD.out] at this
                rw [show (k : Int) + ((2 * i0 + 2 : Nat) : Int) = (k : Int) + ((2 * i0 + 1 : Nat) : Int) + 1 by omega, ← HD.out]
                exact this
            · go_wp2
              exact ⟨⟨i0 + 1, by omega, by rw [show 2 * (i0 + 1) = 2 * i0 + 2 by omega], by go_num, R⟩, by simp [intOf]; omega⟩
        · have hiz : ¬ (i0 : Int) < (n : Int) := by omega
          obtain rfl : i0 = n := by omega
          obtain ⟨S, f, hO, hM, hG, hF, hB⟩ := REL.out
          obtain ⟨e, hFin⟩ := hM.fin (by omega) (by omega)
          have HR0 : Hid (FinRel W wq p wt u k Mb (2 * i0) f e 0 i0 i0) := ⟨S, e, hO, hFin, hG.mono (by omega), hF, hB⟩
          clear hO hM hG hF hB hFin REL
          go_wp2
          go_loopw [14, 15] (fun d i wr => ∃ j r0 r1 : Nat, j ≤ 2 * i0 ∧ r0 + r1 + j = 2 * i0 ∧ d = .int .i64 ((r1 : Int) - r0) ∧ i = .int .i64 j ∧ Hid (FinRel W wr p wt u k Mb (2 * i0) f e j r0 r1)) (fun _ i _ => 2 * i0 - (intOf i).toNat)
          case atStart => exact ⟨0, i0, i0, by omega, by omega, by simp, rfl, HR0⟩
          case round =>
            obtain ⟨j, r0, r1, hj, hsum, rfl, rfl, REL⟩ := hrel
            obtain ⟨S, m, hO, hFin, hG, hF, hB⟩ := REL.out
            have b1 := hFin.he
            have b2 := hFin.hm
            have b3 := hFin.eq
            by_cases hlt3 : j < 2 * i0
            · have hjz : (j : Int) < 2 * (i0 : Int) := by omega
              obtain ⟨x, S1, e1, ⟨hfx, hx0, hx1⟩, hcase⟩ := hFin.step (by omega)
              have hG1 := hG.next
              rw [e1] at hG1
              have A1 := Lib.hid (hO.next hB.size hG (by omega) e1)
              have HBX := Lib.hid hB
              have HG1 := Lib.hid hG1
              have HF := Lib.hid hF
              have HFX := Lib.hid hfx
              clear hO hFin hG hF hB e1 hG1 hfx
              go_wp2_with fail
              refine A1.out.mono ?_
              rintro e' w4 ⟨rfl, h1, h2, h3⟩
              have H2 := Lib.hid (HBX.out.trans h2)
              have HO1 := Lib.hid h1
              have hF1 := HF.out.keep (h3 Mb rfl)
              have HF1 := Lib.hid hF1
              have hl := hF1.lookup x ⟨by omega, by omega⟩
              rw [HFX.out] at hl
              simp only [Option.getD_some] at hl
              clear h1 h2 h3 hF1
              rcases hcase with ⟨rfl, hr0, hfin⟩ | ⟨rfl, hr1, hfin⟩
              · have HFIN := Lib.hid hfin
                clear hfin
                go_wp2
                refine ⟨⟨j + 1, r0 - 1, r1, by omega, by omega, ?_, by go_num, Lib.hid ⟨S1, _, HO1.out, HFIN.out, HG1.out.mono (by omega), HF1.out, H2.out⟩⟩, by simp [intOf]; omega⟩
                rw [show (r1 : Int) - r0 + 1 = (r1 : Int) - ((r0 - 1 : Nat) : Int) by omega]
              · have HFIN := Lib.hid hfin
                clear hfin
                go_wp2
                refine ⟨⟨j + 1, r0, r1 - 1, by omega, by omega, ?_, by go_num, Lib.hid ⟨S1, _, HO1.out, HFIN.out, HG1.out.mono (by omega), HF1.out, H2.out⟩⟩, by simp [intOf]; omega⟩
                rw [show (r1 : Int) - r0 - 1 = ((r1 - 1 : Nat) : Int) - r0 by omega]
            · have hjz : ¬ (j : Int) < 2 * (i0 : Int) := by omega
              obtain rfl : r0 = 0 := by omega
              obtain rfl : r1 = 0 := by omega
              have HBX := Lib.hid hB
              clear hO hFin hG hF hB
              go_wp2
              go_ret
              exact ⟨rfl, HBX.out⟩
end Go.Proofs.Ytdnkliapcnfcoaa.fair
