/- The reference's Append: a page is at hand. -/
import Derived.Test.YtfimadeokdlpnaaWi
namespace Go.Proofs.Ytfimadeokdlpnaa.kv
open Go.ChangeShapes Go.WideShapes Go.ChangeAt Go.RowKit K
set_option linter.unusedVariables false
set_option linter.unusedSimpArgs false
variable (s r rb : Nat) (S : List Pg) (c : Nat → Nat) (Q : Sq) (v : Value) (own : Option Nat) (w : World)
set_option maxHeartbeats 8000000 in
set_option maxRecDepth 100000 in
theorem rappend_ok0 (h : RQ w s r Q v own) (hp : RP w r rb S c) (ha : RApart r rb S c s own) (hS : Small S) (hu : Q.isOpen = true → ownersOf S Q.last ≠ 0) (hlen : Q.len < 1000) (hn : needOf S Q = 0) (S' : List Pg) (Q' : Sq) (hr : roomOf S Q = some (S', Q')) (bx bo cc : Nat) (xs : List Int) (hx : Args w bx bo xs) (hxl : xs.length = Q.width) (hF : ¬ GF r rb S c s own bx) :
    Calls Try.prog 19 #[.pointer (some ⟨s, 0, none⟩), .slice (some ⟨bx, bo, none⟩) Q.width cc] w (QPost r rb S c s own (putRow S' (Q'.page Q.len) (Q'.cell Q.len) xs Q.width) { Q' with len := Q.len + 1 } w (.int .i64 0)) := by
  obtain ⟨i0, hi0, hz0, hz1, hz2⟩ := info_parts infoI
  have HN0 := Lib.hid hn
  clear hn
  have hfewQ := h.few
  have ND := Lib.hid (rneed_c s r Q v own w rb S c h hp hu)
  obtain ⟨⟨l, hq⟩, hlt⟩ := roomOf_seq hr h.fit h.per_pos.1
  have h2 := h.c2
  have hwd := h.wd
  have H := Lib.hid h
  have HP := Lib.hid hp
  have HX := Lib.hid hx
  have HA := Lib.hid ha
  have HF := Lib.hid hF
  have HLT := Lib.hid hlt
  have HQ := Lib.hid hq
  have HXL := Lib.hid hxl
  have HR := Lib.hid hr
  clear h hp hr hx ha hF hlt hq hxl
  generalize hW : Q.width = W at *
  go_enter Try.func19, Try.ntmps19
  go_wp2_with fail
  refine ND.out.mono ?_
  rintro e w0 ⟨rfl, mn, rfl⟩
  go_upto_if 23 with fail
  go_cut [] from 22 to 117 (fun wc => Hid (∃ c1 v1 own1, QMid r rb S c s own w wc S' Q' c1 v1 own1))
  case first =>
    have hn := HN0.out
    have HRS := HR.out
    unfold roomOf at HRS
    rw [if_pos hn] at HRS
    obtain ⟨rfl, rfl⟩ := Prod.mk.inj (Option.some.inj HRS)
    rw [hn]
    go_wp2_with fail
    go_meet
    exact ⟨c, v, own, HP.out.drewN mn, H.out.drewN mn, HA.out, fun k hk => .inl hk, fun k hk => .inl hk, chg_drewN _ _ _⟩
  case rest =>
    obtain ⟨c1, v1, own1, hM⟩ := hcut.out
    have HM := Lib.hid hM
    clear hM hcut
    have e1 : Q'.width = W := by rw [HQ.out, ← hW]
    have e2 : Q'.first = Q.first := by rw [HQ.out]
    have e3 : Q'.len = Q.len := by rw [HQ.out]
    have e4 : Q'.per = Q.per := by unfold Sq.per; rw [e1, ← hW]
    have hfl := H.out.fl
    have hpl : Q'.pages[(Q'.len - Q'.first) / Q'.per]? = some (Q'.page Q'.len) := by
      have hp := H.out.per_pos
      have hlt := HLT.out
      have : (Q'.len - Q'.first) / Q'.per < Q'.pages.length := by
        rw [e2, e3, e4]
        exact (Nat.div_lt_iff_lt_mul (by omega)).2 hlt
      unfold Sq.page
      rw [List.getElem?_eq_getElem this]; rfl
    obtain ⟨b3, off3, cc3, hv3, k3, kp, hb3, -, hl3⟩ := HM.out.seq.page hpl
    have hjl := (List.getElem?_eq_some_iff.1 hpl).1
    have hwd' : 1 ≤ Q'.width ∧ Q'.width ≤ 32 := by omega
    have hcell : ∀ k, k < W → Q'.cell Q'.len + k < 32 := fun k hk => Sq.cell_lt hwd' _ k (by omega)
    have HCE : Hid (Q'.cell Q'.len = (Q'.len - Q'.first) % Q'.per * Q'.width) := rfl
    have k0 := HM.out.seq.c0
    have k2 := HM.out.seq.c2
    have k4 := HM.out.seq.c4
    have k5 := HM.out.seq.c5
    have hpp := HM.out.seq.per_pos
    have hfew := HM.out.seq.few
    have hq1 := HM.out.seq.fl
    have hsl := HM.out.seq.head.lt
    have hrr : (Q'.len - Q'.first) % Q'.per < Q'.per := Nat.mod_lt _ (by omega)
    have hwm := wrap_mul ((Q'.len - Q'.first) % Q'.per) Q'.width (by omega) hwd'.2
    have PE : Hid (∀ n, Calls Try.prog 44 #[.pointer (some ⟨s, 0, none⟩)] (wc.drewN n) fun e w' => e = .returned (.int .i64 Q'.per) ∧ wc.drewN n = w') := fun n => rrows_c s r Q' v1 own1 _ (HM.out.seq.drewN n)
    have PE2 : Hid (∀ a n, Calls Try.prog 44 #[.pointer (some ⟨s, 0, none⟩)] ((wc.drewN a).drewN n) fun e w' => e = .returned (.int .i64 Q'.per) ∧ (wc.drewN a).drewN n = w') := fun a n => rrows_c s r Q' v1 own1 _ ((HM.out.seq.drewN a).drewN n)
    have hN : Q'.len ≤ 1000 := by omega
    have HPG : Hid (Q'.page Q'.len = Q'.page Q.len ∧ Q'.cell Q'.len = Q'.cell Q.len) := by rw [e3]; exact ⟨rfl, rfl⟩
    have E1 := Lib.hid e1
    have E2 := Lib.hid e2
    have E3 := Lib.hid e3
    have E4 := Lib.hid e4
    clear e1 e2 e3 e4 hpl hwd hwd' h2 ND HP
    obtain ⟨pg, hpg⟩ : ∃ pg, Q'.page Q'.len = pg := ⟨_, rfl⟩
    obtain ⟨ce, hce⟩ : ∃ ce, Q'.cell Q'.len = ce := ⟨_, rfl⟩
    have HPGE := Lib.hid hpg
    have HCEE := Lib.hid hce
    rw [hpg] at kp
    rw [hce] at hcell HCE
    clear hpg hce
    obtain ⟨P, hP⟩ : ∃ P, Q'.per = P := ⟨_, rfl⟩
    obtain ⟨L, hL⟩ : ∃ L, Q'.pages.length = L := ⟨_, rfl⟩
    obtain ⟨F, hFF⟩ : ∃ F, Q'.first = F := ⟨_, rfl⟩
    obtain ⟨N, hNN⟩ : ∃ N, Q'.len = N := ⟨_, rfl⟩
    obtain ⟨W2, hW2⟩ : ∃ W2, Q'.width = W2 := ⟨_, rfl⟩
    have hww : W2 = W := hW2.symm.trans E1.out
    subst hww
    rw [hL] at k3 hl3 hjl hfew
    rw [hFF] at k4 kp HCE hrr hwm hjl hq1
    rw [hNN] at k5 kp HCE hrr hwm hjl hq1 hN
    rw [hW2] at k2 HCE hwm
    rw [hP] at kp HCE hrr hwm hjl hpp PE PE2
    have HPE := Lib.hid hP
    have HLE := Lib.hid hL
    have HFE := Lib.hid hFF
    have HNE := Lib.hid hNN
    have HWE := Lib.hid hW2
    clear hP hL hFF hNN hW2
    obtain ⟨d, hd⟩ : ∃ d, N - F = d := ⟨_, rfl⟩
    have hd1 : (N : Int) - (F : Int) = (d : Int) := by omega
    rw [hd] at kp hjl hrr hwm HCE
    have hqq : (d : Int) / (P : Int) = ((d / P : Nat) : Int) := rfl
    have hmm : (d : Int) % (P : Int) = ((d % P : Nat) : Int) := rfl
    have hd2 : d ≤ 1000 := by omega
    clear hd
    generalize hQQ : d / P = q at *
    generalize hMM : d % P = rr at *
    have hwx : W2 ≤ 32 := by have := HM.out.seq.wd; have := HWE.out; omega
    have hw3 : (rr : Int) * (W2 : Int) = ((rr * W2 : Nat) : Int) := by simp
    have hz : ((P : Int) == 0) = false := by rw [beq_eq_false_iff_ne]; omega
    have hq0 : (0 : Int) ≤ (q : Int) := by omega
    have hqL : (q : Int) < (L : Int) := by omega
    have hb2 : rr * W2 ≤ 1000 * 32 := Nat.mul_le_mul (by omega) hwx
    rw [← HCE.out] at hw3 hb2 hwm
    clear HCE
    go_wp2
    go_quiet ((go_at_call 44; exact Calls.quiet_of_same ((PE.out _).mono (fun e w' h => ⟨h.1, h.2.symm⟩))))
    go_wp2
    have PE3 := Lib.hid (PE2.out nq)
    have HM2 := Lib.hid (HM.out.drewN nq)
    have K0 : Hid (wc.cell? ⟨s, 0, none⟩ = some (.pointer (some ⟨r, 0, none⟩))) := k0
    have j0 : (wc.drewN nq).cell? ⟨s, 0, none⟩ = some (.pointer (some ⟨r, 0, none⟩)) := k0
    have j2 : (wc.drewN nq).cell? ⟨s, 2, none⟩ = some (.int .i64 W2) := k2
    have j4 : (wc.drewN nq).cell? ⟨s, 4, none⟩ = some (.int .i64 F) := k4
    have j5 : (wc.drewN nq).cell? ⟨s, 5, none⟩ = some (.int .i64 N) := k5
    clear k0 k2 k3 k4 k5 kp PE PE2 HM K0
    generalize wc.drewN nq = w1 at *
    go_quiet ((go_at_call 44; exact Calls.quiet_of_same ((PE3.out _).mono (fun e w' h => ⟨h.1, h.2.symm⟩))))
    go_wp2
    have HM3 : Hid (∃ c2, QMid r rb S c s own w (w1.drewN nq) (putRow S' pg ce xs 0) Q' c2 v1 own1) := ⟨c1, HM2.out.drewN nq⟩
    clear HM2 j0 j2 j4 j5 PE3 hqq hmm hw3 hz hq0 hqL hb2 hwm hd1 hjl hrr hq1
    generalize w1.drewN nq = w2 at *
    go_loopw [13] (fun s13 wr => ∃ k : Nat, k ≤ W2 ∧ s13 = .int .i64 k ∧ Hid (∃ c2, QMid r rb S c s own w wr (putRow S' pg ce xs k) Q' c2 v1 own1)) (fun s13 _ => W2 - (intOf s13).toNat)
    case atStart => exact ⟨0, by omega, rfl, HM3⟩
    case round =>
      obtain ⟨k, hk, rfl, ⟨c2, hMk⟩⟩ := hrel
      have HMk := Lib.hid hMk
      have k0 := hMk.seq.c0
      have k2 := hMk.seq.c2
      rw [HWE.out] at k2
      clear hMk HM3
      by_cases hkW : k < W2
      · have hkz : (k : Int) < (W2 : Int) := by omega
        have hk0 : (0 : Int) ≤ (k : Int) := by omega
        have hcek := hcell k hkW
        have hxk : xs[k]? = some (xs.getD k 0) := by rw [List.getD_eq_getElem?_getD, List.getElem?_eq_getElem (by rw [HXL.out]; exact hkW)]; rfl
        have hrx := (HX.out.chg HMk.out.chg HF.out).cell k _ hxk
        have PU : Hid (Calls Try.prog 42 #[.pointer (some ⟨r, 0, none⟩), .int .i64 (pg : Int), .int .i64 ((ce : Int) + (k : Int)), .int .i64 (xs.getD k 0)] wr.drew fun e w' => ∃ er : Int, e = .returned (.int .i64 er) ∧ (∃ c3, QMid r rb S c s own w w' (putRow S' pg ce xs (k + 1)) Q' c3 v1 own1) ∧ w'.cell? ⟨s, 0, none⟩ = some (.pointer (some ⟨r, 0, none⟩)) ∧ w'.cell? ⟨bx, bo + k, none⟩ = some (.int .i64 (xs.getD k 0))) := by
          have h1 := rput_c r rb _ c2 _ (HMk.out.drewN 1).pool pg (ce + k) hcek (xs.getD k 0)
          rw [Int.natCast_add] at h1
          refine h1.mono fun e w' hp => ?_
          obtain ⟨c3, h3⟩ := (HMk.out.drewN 1).step hp
          exact ⟨_, hp.ret, ⟨c3, h3⟩, h3.seq.c0, (HX.out.chg h3.chg HF.out).cell k _ hxk⟩
        generalize hgv : xs.getD k 0 = gv at hrx PU
        have hwk : IntKind.i64.wrap ((ce : Int) + (k : Int)) = (ce : Int) + (k : Int) := by rw [IntKind.wrap_i64]; omega
        clear hgv hxk hcell
        go_wp2_with fail
        go_region_held3 (fun w' => w'.cell? ⟨s, 0, none⟩ = some (.pointer (some ⟨r, 0, none⟩)) ∧ w'.cell? ⟨bx, bo + k, none⟩ = some (.int .i64 gv)) (first | exact ⟨by assumption, by assumption⟩ | go_keep)
          ((go_at_call 42; (with_reducible refine PU.out.mono ?_); rintro e w' ⟨er, rfl, hq, j0, jx⟩; have HQ3 := Lib.hid hq; clear hq))
        go_wp2
        exact ⟨⟨k + 1, by omega, by go_num, HQ3⟩, by simp [intOf]; omega⟩
      · obtain rfl : k = W2 := by omega
        have hkz : ¬ (k : Int) < (k : Int) := by omega
        have h5 := HMk.out.seq.c5
        have hf5 := HMk.out.seq.head.free 5
        rw [HNE.out] at h5
        have hwN : IntKind.i64.wrap ((N : Int) + 1) = (N : Int) + 1 := by rw [IntKind.wrap_i64]; omega
        clear hcell
        go_wp2
        go_ret
        have hcd : Chg (fun k => k = s) wr (wr.setCell ⟨s, 5, none⟩ (.int .i64 ((N : Int) + 1))) := (Chg.refl _ _).setCell _ _ (.inl rfl)
        have hNQ : N = Q.len := HNE.out.symm.trans E3.out
        have hsq := HMk.out.seq
        have hfin : QPost r rb S c s own (putRow S' pg ce xs k) { Q' with len := Q.len + 1 } w (.int .i64 0) (.returned (.int .i64 0)) (wr.setCell ⟨s, 5, none⟩ (.int .i64 ((N : Int) + 1))) := by
          refine ⟨rfl, ⟨c2, v1, own1, HMk.out.pool.chg hcd (fun q hq e => HMk.out.apart.s (e ▸ hq)), ⟨?_, ?_, hsq.ne, hsq.wd, hsq.tg, ?_, ?_, hsq.few, ?_⟩, HMk.out.apart, HMk.out.foot, HMk.out.grow⟩, HMk.out.chg.trans hcd (fun q e => .inl (.inr (.inl e)))⟩
          · have := hsq.head.set 5 (.int .i64 ((N : Int) + 1))
            rw [hNQ] at this ⊢
            exact this
          · exact hsq.row.keep fun q hq => Below.heap_setCell _ _ _ _ (fun e => hsq.ne (by rw [hq]; exact congrArg some e))
          · show Q'.first ≤ Q.len + 1
            have := hsq.fl
            rw [E3.out] at this; omega
          · show Q.len + 1 ≤ 1000
            omega
          · show Q.len + 1 - Q'.first ≤ Q'.pages.length * Q'.per
            have := HLT.out
            rw [E2.out, E4.out]; omega
        rw [← HPGE.out, ← HCEE.out, HPG.out.1, HPG.out.2] at hfin
        exact hfin
end Go.Proofs.Ytfimadeokdlpnaa.kv
