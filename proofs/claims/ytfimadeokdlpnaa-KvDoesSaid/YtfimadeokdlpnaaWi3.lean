/- The reference's Append: a page copied. -/
import Derived.Test.YtfimadeokdlpnaaWi
import Derived.Test.YtfimadeokdlpnaaHel
namespace Go.Proofs.Ytfimadeokdlpnaa.kv
open Go.ChangeShapes Go.WideShapes Go.ChangeAt Go.RowKit K
set_option linter.unusedVariables false
set_option linter.unusedSimpArgs false
variable (s r rb : Nat) (S : List Pg) (c : Nat → Nat) (Q : Sq) (v : Value) (own : Option Nat) (w : World)
set_option maxHeartbeats 8000000 in
set_option maxRecDepth 100000 in
theorem rappend_ok2 (h : RQ w s r Q v own) (hp : RP w r rb S c) (ha : RApart r rb S c s own) (hS : Small S) (hu : Q.isOpen = true → ownersOf S Q.last ≠ 0) (hlen : Q.len < 1000) (hn : ¬ needOf S Q = 0) (ho : Q.isOpen = true) (S' : List Pg) (Q' : Sq) (hr : roomOf S Q = some (S', Q')) (bx bo cc : Nat) (xs : List Int) (hx : Args w bx bo xs) (hxl : xs.length = Q.width) (hF : ¬ GF r rb S c s own bx) :
    Calls Try.prog 19 #[.pointer (some ⟨s, 0, none⟩), .slice (some ⟨bx, bo, none⟩) Q.width cc] w (QPost r rb S c s own (putRow S' (Q'.page Q.len) (Q'.cell Q.len) xs Q.width) { Q' with len := Q.len + 1 } w (.int .i64 0)) := by
  obtain ⟨i0, hi0, hz0, hz1, hz2⟩ := info_parts infoI
  have HN0 := Lib.hid hn
  have HO0 := Lib.hid ho
  clear hn ho
  have hfewQ := h.few
  have ND := Lib.hid (rneed_c s r Q v own w rb S c h hp hu)
  obtain ⟨⟨l, hq⟩, hlt⟩ := roomOf_seq hr h.fit h.per_pos.1
  have h2 := h.c2
  have hwd := h.wd
  have H := Lib.hid h
  have HP := Lib.hid hp
  have HX := Lib.hid hx
  have HA := Lib.hid ha
  have HF := Lib.hid hF
  have HLT := Lib.hid hlt
  have HQ := Lib.hid hq
  have HXL := Lib.hid hxl
  have HR := Lib.hid hr
  clear h hp hr hx ha hF hlt hq hxl
  generalize hW : Q.width = W at *
  go_enter Try.func19, Try.ntmps19
  go_wp2_with fail
  refine ND.out.mono ?_
  rintro e w0 ⟨rfl, mn, rfl⟩
  go_upto_if 23 with fail
  go_cut [] from 22 to 117 (fun wc => Hid (∃ c1 v1 own1, QMid r rb S c s own w wc S' Q' c1 v1 own1))
  case first =>
    have hn := HN0.out
    have HRS := HR.out
    unfold roomOf at HRS
    have hn1 : needOf S Q = 1 := (needOf_le S Q).resolve_left hn
    rw [if_neg hn] at HRS
    rw [hn1]
    by_cases hf : freeOf S = 0
    · rw [if_pos hf] at HRS; cases HRS
    rw [if_neg hf] at HRS
    have hf1 : 0 < freeOf S := by omega
    have HF1 := Lib.hid hf1
    have TK : Hid (∀ n, Calls Try.prog 39 #[.pointer (some ⟨r, 0, none⟩), .string Q.tag, .int .i64 1] (w.drewN n) fun e w' => ∃ g f cp, e = .returned (.tuple #[.slice (some ⟨g, f, none⟩) 1 cp, .int .i64 0]) ∧ Took1 r rb S c Q.tag w w' g f) := fun n => (rTake_ok r rb S c _ (HP.out.drewN n) Q.tag H.out.tg hf1).mono fun e w' ⟨g, f, cp, h1, h2⟩ => ⟨g, f, cp, h1, ⟨h2.pool, ⟨h2.chg.os, h2.chg.tape, h2.chg.output, h2.chg.size, h2.chg.block⟩, h2.num, h2.lt, h2.ge⟩⟩
    have TK2 : Hid (Calls Try.prog 39 #[.pointer (some ⟨r, 0, none⟩), .string Q.tag, .int .i64 1] (w.drewN mn).drew fun e w' => ∃ g f cp, e = .returned (.tuple #[.slice (some ⟨g, f, none⟩) 1 cp, .int .i64 0]) ∧ Took1 r rb S c Q.tag w w' g f) := TK.out (mn + 1)
    have k0 : (w.drewN mn).cell? ⟨s, 0, none⟩ = some (.pointer (some ⟨r, 0, none⟩)) := H.out.c0
    have k1 : (w.drewN mn).cell? ⟨s, 1, none⟩ = some (.string Q.tag) := H.out.c1
    clear hf hf1 h2 hn ND TK
    generalize w.drewN mn = w0 at *
    go_wp2_with fail
    go_region_held3 (fun w' => w'.cell? ⟨s, 0, none⟩ = some (.pointer (some ⟨r, 0, none⟩)) ∧ w'.cell? ⟨s, 1, none⟩ = some (.string Q.tag)) (first | exact ⟨by assumption, by assumption⟩ | go_keep)
      ((go_at_call 39; (with_reducible refine TK2.out.mono ?_); rintro e w1 ⟨g, f, cp, rfl, hT⟩; have HT := Lib.hid hT; have HS1 := Lib.hid (H.out.chg hT.chg HA.out.s HA.out.o); have j0 := HS1.out.c0; have j1 := HS1.out.c1; clear hT))
    clear k0 k1 TK2
    have FI := Lib.hid (rfits_c s r Q v own w1 HS1.out)
    have j3 := HS1.out.c3
    have ho := HO0.out
    rw [ho] at FI HRS
    obtain ⟨rfl, rfl⟩ := Prod.mk.inj (Option.some.inj HRS)
    have hlastp := Sq.last_at (open_pos ho)
    have hposL := open_pos ho
    go_wp2_with fail
    refine FI.out.mono ?_
    rintro e w2 ⟨rfl, m2, rfl⟩
    have HS2 : Hid (RQ (w1.drewN m2) s r Q v own) := HS1.out.drewN m2
    have HT2 : Hid (Took1 r rb S c Q.tag w (w1.drewN m2) g f) := by
      obtain ⟨⟨c', t1, t2, t3⟩, t4, t5, t6, t7⟩ := HT.out
      exact ⟨⟨c', t1.drewN m2, t2, t3⟩, Chg.drewR t4 m2, t5, t6, t7⟩
    clear HT HS1 j0 j1 j3 FI HRS
    generalize w1.drewN m2 = w2 at *
    obtain ⟨b4, off4, c4, hv4, q3, qc, hb4, -, hl4⟩ := HS2.out.page hlastp
    have hslen := Q.pages.length
    generalize hLL : Q.pages.length = L at *
    have HLL := Lib.hid hLL
    obtain ⟨K, rfl⟩ : ∃ K, L = K + 1 := ⟨L - 1, by omega⟩
    simp only [Nat.add_sub_cancel] at qc hlastp
    obtain ⟨last, hla⟩ : ∃ last, Q.last = last := ⟨_, rfl⟩
    have HLA := Lib.hid hla
    rw [hla] at qc hlastp
    have eK : ((K + 1 : Nat) : Int) - 1 = (K : Int) := by omega
    have eK2 : IntKind.i64.wrap (((K + 1 : Nat) : Int) - 1) = (K : Int) := by rw [IntKind.wrap_i64]; omega
    have hK1 : K + 1 ≤ 1000 := hfewQ
    have HV4 := Lib.hid hv4
    have HLP := Lib.hid hlastp
    clear hla hlastp hLL hv4
    go_wp2_with fail
    go_quiet (fail)
    have HS3 : Hid (RQ (w2.drewN nq) s r Q v own) := HS2.out.drewN nq
    have HT3 : Hid (Took1 r rb S c Q.tag w (w2.drewN nq) g f) := by
      obtain ⟨⟨c', t1, t2, t3⟩, t4, t5, t6, t7⟩ := HT2.out
      exact ⟨⟨c', t1.drewN nq, t2, t3⟩, Chg.drewR t4 nq, t5, t6, t7⟩
    clear HS2 HT2 q3 qc
    generalize w2.drewN nq = w3 at *
    have HA0 : Hid (∃ c', RAt r rb S c w w3 (copyTo (kv.take1 S Q.tag) last (ff S) 0) c' ∧ ¬ RF r rb (copyTo (kv.take1 S Q.tag) last (ff S) 0) c' g ∧ g < w3.heap.size ∧ w3.cell? ⟨g, f, none⟩ = some (.int .i64 (ff S))) := by
      obtain ⟨⟨c', t1, t2, t3⟩, t4, t5, t6, t7⟩ := HT3.out
      exact ⟨c', ⟨t1, t2, t4⟩, t3, t6, t5⟩
    have hgw := HT3.out.ge
    clear HT3 HS3
    go_wp2_with fail
    go_loopw [8] (fun s8 wr => ∃ k : Nat, k ≤ 32 ∧ s8 = .int .i64 k ∧ Hid (∃ c', RAt r rb S c w wr (copyTo (kv.take1 S Q.tag) last (ff S) k) c' ∧ ¬ RF r rb (copyTo (kv.take1 S Q.tag) last (ff S) k) c' g ∧ g < wr.heap.size ∧ wr.cell? ⟨g, f, none⟩ = some (.int .i64 (ff S)))) (fun s8 _ => 32 - (intOf s8).toNat)
    case atStart => exact ⟨0, by omega, rfl, HA0⟩
    case round =>
      obtain ⟨k, hk, rfl, ⟨c', hAt, hng, hgl, hgc⟩⟩ := hrel
      have HAt := Lib.hid hAt
      have HSk := Lib.hid (hAt.seq H.out HA.out)
      have k0 := HSk.out.c0
      have HNG := Lib.hid hng
      clear hAt hng HA0
      by_cases hk32 : k < 32
      · have hkz : (k : Int) < 32 := by omega
        have GT := Lib.hid (rget_c r rb _ c' _ HAt.out.pool last k hk32)
        have PU : Hid (∀ gv, getOf (copyTo (kv.take1 S Q.tag) last (ff S) k) last k = gv → Calls Try.prog 42 #[.pointer (some ⟨r, 0, none⟩), .int .i64 (ff S : Int), .int .i64 (k : Int), .int .i64 gv] wr.drew fun e w' => ∃ er : Int, e = .returned (.int .i64 er) ∧ (∃ c3, RAt r rb S c w w' (copyTo (kv.take1 S Q.tag) last (ff S) (k + 1)) c3 ∧ ¬ RF r rb (copyTo (kv.take1 S Q.tag) last (ff S) (k + 1)) c3 g ∧ g < w'.heap.size ∧ w'.cell? ⟨g, f, none⟩ = some (.int .i64 (ff S))) ∧ w'.cell? ⟨s, 0, none⟩ = some (.pointer (some ⟨r, 0, none⟩)) ∧ w'.cell? ⟨g, f, none⟩ = some (.int .i64 (ff S))) := by
          rintro gv rfl
          refine (rput_c r rb _ c' _ (HAt.out.drewN 1).pool (ff S) k hk32 _).mono fun e w' hp => ?_
          obtain ⟨er, hret⟩ : ∃ er : Int, e = .returned (.int .i64 er) := ⟨_, hp.ret⟩
          have hst : ∃ c3, RAt r rb S c w w' (copyTo (kv.take1 S Q.tag) last (ff S) (k + 1)) c3 ∧ ¬ RF r rb (copyTo (kv.take1 S Q.tag) last (ff S) (k + 1)) c3 g := by
            obtain ⟨c'', h1, h2⟩ := hp.pool
            have hz := HAt.out.chg.size
            have hzz : wr.drew.heap.size = wr.heap.size := rfl
            have hzz2 : (wr.drewN 1).heap.size = wr.heap.size := rfl
            have hgl2 : g < wr.heap.size := hgl
            exact ⟨c'', ⟨h1, fun q hq => (h2 q hq).elim (fun e => HAt.out.foot q e) (fun e => .inr (by omega)), (HAt.out.drewN 1).chg.trans hp.chg (fun q hq => HAt.out.foot q hq)⟩, fun e => (h2 g e).elim HNG.out (fun e => by omega)⟩
          obtain ⟨c3, h3, h4⟩ := hst
          have hgz : g < w'.heap.size := Nat.lt_of_lt_of_le hgl hp.chg.size
          have hgcc : w'.cell? ⟨g, f, none⟩ = some (.int .i64 (ff S)) := (World.cell?_of_block (hp.chg.block g hgl HNG.out)).trans hgc
          exact ⟨er, hret, ⟨c3, h3, h4, hgz, hgcc⟩, (h3.seq H.out HA.out).c0, hgcc⟩
        generalize getOf (copyTo (kv.take1 S Q.tag) last (ff S) k) last k = gv at *
        generalize errOf (copyTo (kv.take1 S Q.tag) last (ff S) k) last = ge at *
        have PU2 := Lib.hid (PU.out gv rfl)
        clear PU
        go_wp2_with fail
        refine GT.out.mono ?_
        rintro e w' ⟨rfl, rfl⟩
        go_wp2_with fail
        go_region_held3 (fun w' => w'.cell? ⟨s, 0, none⟩ = some (.pointer (some ⟨r, 0, none⟩)) ∧ w'.cell? ⟨g, f, none⟩ = some (.int .i64 (ff S))) (first | exact ⟨by assumption, by assumption⟩ | go_keep)
          ((go_at_call 42; (with_reducible refine PU2.out.mono ?_); rintro e w' ⟨er, rfl, hq, x0, xg⟩; have HQ3 := Lib.hid hq; clear hq))
        go_wp2
        exact ⟨⟨k + 1, by omega, by go_num, HQ3⟩, by simp [intOf]; omega⟩
      · obtain rfl : k = 32 := by omega
        have hkz : ¬ (32 : Int) < 32 := by omega
        have DR : Hid (Calls Try.prog 43 #[.pointer (some ⟨r, 0, none⟩), .int .i64 (last : Int)] wr fun e w' => ∃ er : Int, e = .returned (.int .i64 er) ∧ (∃ c3, RAt r rb S c w w' (drop1 (copyTo (kv.take1 S Q.tag) last (ff S) 32) last) c3 ∧ ¬ RF r rb (drop1 (copyTo (kv.take1 S Q.tag) last (ff S) 32) last) c3 g) ∧ g < w'.heap.size ∧ w'.cell? ⟨g, f, none⟩ = some (.int .i64 (ff S))) := by
          refine (rdrop_c r rb _ c' _ HAt.out.pool ((hS.take1 _).copyTo _ _ _) last).mono fun e w' hp => ?_
          obtain ⟨er, hret⟩ : ∃ er : Int, e = .returned (.int .i64 er) := ⟨_, hp.ret⟩
          obtain ⟨c'', h1, h2⟩ := hp.pool
          have hz := HAt.out.chg.size
          have hgl2 : g < wr.heap.size := hgl
          exact ⟨er, hret, ⟨c'', ⟨h1, fun q hq => (h2 q hq).elim (fun e => HAt.out.foot q e) (fun e => .inr (by omega)), HAt.out.chg.trans hp.chg (fun q hq => HAt.out.foot q hq)⟩, fun e => (h2 g e).elim HNG.out (fun e => by omega)⟩, Nat.lt_of_lt_of_le hgl hp.chg.size, (World.cell?_of_block (hp.chg.block g hgl HNG.out)).trans hgc⟩
        go_wp2_with fail
        refine DR.out.mono ?_
        rintro e w4 ⟨er, rfl, ⟨c5, hA5, hn5⟩, hgl5, hgc5⟩
        have HA5 := Lib.hid hA5
        have HN5 := Lib.hid hn5
        have HS4 := Lib.hid (hA5.seq H.out HA.out)
        have j3 : w4.cell? ⟨s, 3, none⟩ = some (.slice (some ⟨b4, off4, none⟩) (K + 1) c4) := (HS4.out.head.cell 3 _ rfl).trans (congrArg some HV4.out)
        have fr3 := HS4.out.head.free 3
        have hsl := HS4.out.head.lt
        have hrow : Row w4 3 1 (.slice (some ⟨b4, off4, none⟩) (K + 1) c4) own (K + 1) (encN Q.pages) := by
          have := HS4.out.row
          rw [HV4.out, HLL.out] at this
          exact this
        clear hA5 hn5 HSk k0 HNG HAt hgl hgc
        have TS : ∀ (wz : World) , Src wz (some ⟨b4, off4, none⟩) (encN Q.pages) → Src wz (some ⟨b4, off4, none⟩) (encN (Q.pages.take K)) := fun wz h j u hu => h j u (by
          unfold encN at hu ⊢
          rw [List.map_take, List.getElem?_take] at hu
          split at hu
          · exact hu
          · cases hu)
        have gE : ∀ o : Obj, Chg (fun _ => False) w4 (w4.alloc o).drew := fun o => ((Chg.refl _ w4).alloc o).drew
        have gEE : ∀ o1 o2 : Obj, Chg (fun _ => False) w4 ((w4.alloc o1).alloc o2).drew := fun o1 o2 => (((Chg.refl _ w4).alloc o1).alloc o2).drew
        have HE1 : Hid (Row (w4.alloc (.cells #[] 3)).drew 3 1 (.slice (some ⟨w4.heap.size, 0, none⟩) 0 0) (some w4.heap.size) 0 []) := (Row.empty (w := w4)).keep (fun _ _ => rfl)
        have HE2 : Hid (Row ((w4.alloc (.cells #[] 3)).alloc (.cells #[.int .i64 (ff S)] 3)).drew 3 1 (.slice (some ⟨w4.heap.size, 0, none⟩) 0 0) (some w4.heap.size) 0 []) := (Row.empty (w := w4)).keep (fun b hb => by cases hb; exact Below.heap_alloc _ _ _ (by simp))
        have HE3 : Hid (Row ((w4.alloc (.cells #[.int .i64 (ff S)] 3)).alloc (.cells #[] 3)).drew 3 1 (.slice (some ⟨w4.heap.size + 1, 0, none⟩) 0 0) (some (w4.heap.size + 1)) 0 []) := by
          have := (Row.empty (w := w4.alloc (.cells #[.int .i64 (ff S)] 3)) (t := 3))
          rw [show (w4.alloc (.cells #[.int .i64 (ff S)] 3)).heap.size = w4.heap.size + 1 by simp] at this
          exact this.keep (fun _ _ => rfl)
        have HR1 : Hid (Src (w4.alloc (.cells #[] 3)).drew (some ⟨b4, off4, none⟩) (encN (Q.pages.take K))) := TS _ (kv.Row.src (hrow.chg (gE _) (fun _ _ => id)))
        have HR2 : Hid (Src ((w4.alloc (.cells #[] 3)).alloc (.cells #[.int .i64 (ff S)] 3)).drew (some ⟨b4, off4, none⟩) (encN (Q.pages.take K))) := TS _ (kv.Row.src (hrow.chg (gEE _ _) (fun _ _ => id)))
        have HR3 : Hid (Src ((w4.alloc (.cells #[.int .i64 (ff S)] 3)).alloc (.cells #[] 3)).drew (some ⟨b4, off4, none⟩) (encN (Q.pages.take K))) := TS _ (kv.Row.src (hrow.chg (gEE _ _) (fun _ _ => id)))
        have HLEN : Hid ((encN (Q.pages.take K)).length = K * 1) := by show _ = _; rw [encN_length, List.length_take, HLL.out]; omega
        have HONE := Lib.hid (encN_one (Q.pages.take K))
        have HK : Hid (∀ w6, Below w4.heap.size w4 w6 → w6.cell? ⟨s, 3, none⟩ = some (.slice (some ⟨b4, off4, none⟩) (K + 1) c4) ∧ w6.frozen? ⟨s, 3, none⟩ = false ∧ w6.cell? ⟨g, f, none⟩ = some (.int .i64 (ff S))) := fun w6 hb => ⟨(hb.cell (p := ⟨s, 3, none⟩) hsl).trans j3, (hb.frozen (p := ⟨s, 3, none⟩) hsl).trans fr3, (hb.cell (p := ⟨g, f, none⟩) hgl5).trans hgc5⟩
        have B1 : Hid (Below w4.heap.size w4 (w4.alloc (.cells #[] 3)).drew) := ((Below.refl _ w4).alloc (Nat.le_refl _) _).drew
        have B2 : Hid (Below w4.heap.size w4 ((w4.alloc (.cells #[] 3)).alloc (.cells #[.int .i64 (ff S)] 3)).drew) := (((Below.refl _ w4).alloc (Nat.le_refl _) _).alloc (by simp) _).drew
        have B3 : Hid (Below w4.heap.size w4 ((w4.alloc (.cells #[.int .i64 (ff S)] 3)).alloc (.cells #[] 3)).drew) := (((Below.refl _ w4).alloc (Nat.le_refl _) _).alloc (by simp) _).drew
        have I2 : Hid (Bk ((w4.alloc (.cells #[] 3)).alloc (.cells #[.int .i64 (ff S)] 3)).drew (w4.heap.size + 1) #[.int .i64 (ff S)] 3) := by
          have := Bk.new (w4.alloc (.cells #[] 3)) #[.int .i64 (ff S)] 3
          rw [show (w4.alloc (.cells #[] 3)).heap.size = w4.heap.size + 1 by simp] at this
          exact this
        have I3 : Hid (Bk ((w4.alloc (.cells #[.int .i64 (ff S)] 3)).alloc (.cells #[] 3)).drew w4.heap.size #[.int .i64 (ff S)] 3) := (Bk.new w4 _ _).alloc _
        have HSB : Hid (∀ (w6 : World) (b : Nat), Bk w6 b #[.int .i64 (ff S)] 3 → Src w6 (some ⟨b, 0, none⟩) [.int .i64 (ff S)]) := fun w6 b hb => src_one hb
        have FIN : Hid (∀ (w9 : World) (p2 : Option Addr) (cp2 : Nat) (own2 : Option Nat), Below w4.heap.size w4 w9 → Row w9 3 1 (.slice p2 (K + 1) cp2) own2 (K + 1) (encN (Q.pages.take K) ++ [.int .i64 (ff S)]) → (∀ k, own2 = some k → w4.heap.size ≤ k) →
            ∃ c1 v1 own1, QMid r rb S c s own w (w9.setCell ⟨s, 3, none⟩ (.slice p2 (K + 1) cp2)) (drop1 (copyTo (kv.take1 S Q.tag) Q.last (ff S) 32) Q.last) { Q with pages := Q.pages.set (Q.pages.length - 1) (ff S) } c1 v1 own1) := by
          intro w9 p2 cp2 own2 hb hrw ho2
          rw [HLA.out]
          have hA := HA5.out
          have hws : w.heap.size ≤ w4.heap.size := hA.chg.size
          have hns := (hA.apart H.out HA.out).s
          have hcd : Chg (fun k => k = s) w9 (w9.setCell ⟨s, 3, none⟩ (.slice p2 (K + 1) cp2)) := (Chg.refl _ w9).setCell _ _ (.inl rfl)
          have hsq := HS4.out.below hb
          have hset : Q.pages.set (Q.pages.length - 1) (ff S) = Q.pages.take K ++ [ff S] := by
            rw [HLL.out, Nat.add_sub_cancel, List.set_eq_take_append_cons_drop, if_pos (by rw [HLL.out]; omega), List.drop_of_length_le (by rw [HLL.out]; omega)]
          refine ⟨c5, .slice p2 (K + 1) cp2, own2, (hA.pool.below hb).chg hcd (fun k hk e => hns (e ▸ hk)), ⟨hsq.head.set 3 _, ?_, ?_, hsq.wd, hsq.tg, hsq.fl, hsq.short, ?_, ?_⟩, ⟨hns, fun k hk e => ?_⟩, hA.foot, fun k hk => .inr (by have := ho2 k hk; omega), ?_⟩
          · show Row _ _ _ _ _ (Q.pages.set (Q.pages.length - 1) (ff S)).length (encN (Q.pages.set (Q.pages.length - 1) (ff S)))
            rw [List.length_set, HLL.out]
            rw [HLL.out] at hset
            rw [hset, show encN (Q.pages.take K ++ [ff S]) = encN (Q.pages.take K) ++ [.int .i64 (ff S : Int)] by simp [encN]]
            exact hrw.chg hcd (fun k hk e => by have := ho2 k hk; omega)
          · intro e
            have := ho2 s e; omega
          · show (Q.pages.set _ _).length ≤ 1000
            rw [List.length_set]; exact H.out.few
          · show Q.len - Q.first ≤ (Q.pages.set _ _).length * Q.per
            rw [List.length_set]; exact H.out.fit
          · have := hA.pool.lt k e
            have := ho2 k hk; omega
          · exact ((hA.chg.mono (G := GF r rb S c s own) (fun k e => .inl e)).trans (Chg.of_below (F := fun _ => False) hb rfl) (fun k e => e.elim)).trans hcd (fun k e => .inl (.inr (.inl e)))
        clear gE gEE TS hrow
        have hs1 : (0 : Int) ≤ (K : Int) := by omega
        have hs2 : (K : Int) ≤ (c4 : Int) := by omega
        have hs3 : ((K : Int)).toNat = K := by omega
        have hkc : K ≤ c4 := by omega
        have eK3 : IntKind.i64.wrap (K : Int) = (K : Int) := by rw [IntKind.wrap_i64]; omega
        go_wp2_with fail
        have SX : Hid (∀ wz, Below w4.heap.size w4 wz → wz.cell? ⟨s, 3, none⟩ = some (.slice (some ⟨b4, off4, none⟩) (K + 1) c4) ∧ wz.cell? ⟨g, f, none⟩ = some (.int .i64 (ff S))) := fun wz hb => ⟨(HK.out wz hb).1, (HK.out wz hb).2.2⟩
        have B0 : Hid (Below w4.heap.size w4 w4.drew) := (Below.refl _ w4).drew
        have B5 : Hid (Below w4.heap.size w4 (w4.alloc (.cells #[.int .i64 (ff S)] 3)).drew) := ((Below.refl _ w4).alloc (Nat.le_refl _) _).drew
        refine region_last2 (S := fun wz => wz.cell? ⟨s, 3, none⟩ = some (.slice (some ⟨b4, off4, none⟩) (K + 1) c4) ∧ wz.cell? ⟨g, f, none⟩ = some (.int .i64 (ff S))) rfl (by kernel_rfl) (by kernel_rfl) ?_
        have hHeld := SX.out _ B0.out
        simp only [List.dropLast_cons_cons, List.dropLast_singleton, List.length_cons, List.length_nil, Nat.zero_add, Nat.reduceAdd]
        (refine wpAnyH_take (i := 0) (v := ?qv1) rfl (by kernel_rfl) (by kernel_rfl) (by kernel_rfl) (fun _ _ _ h => h) (Or.inl ⟨by rfl, ?qy1⟩) (by assumption) ?qr1; case qy1 => (intro wz hSw; (try dsimp only at hSw); go_simp; (try with_reducible rfl)); (try simp only [Act.put, List.setIfInBounds_toArray, List.set_cons_zero, List.set_cons_succ]))
        (refine wpAnyH_take (i := 2) (v := ?qv2) rfl (by kernel_rfl) (by kernel_rfl) (by kernel_rfl) (fun _ _ _ h => h) (Or.inl ⟨by rfl, ?qy2⟩) (by assumption) ?qr2; case qy2 => (intro wz hSw; (try dsimp only at hSw); go_simp; (try with_reducible rfl)); (try simp only [Act.put, List.setIfInBounds_toArray, List.set_cons_zero, List.set_cons_succ]))
        (refine wpAnyH_take (i := 3) (v := ?qv3) rfl (by kernel_rfl) (by kernel_rfl) (by kernel_rfl) (fun _ _ _ h => h) (Or.inl ⟨by rfl, ?qy3⟩) (by assumption) ?qr3; case qy3 => (intro wz hSw; (try dsimp only at hSw); go_simp; (try with_reducible rfl)); (try simp only [Act.put, List.setIfInBounds_toArray, List.set_cons_zero, List.set_cons_succ]))
        (refine wpAnyH_take (i := 4) (v := ?qv4) rfl (by kernel_rfl) (by kernel_rfl) (by kernel_rfl) (fun _ _ _ h => h) (Or.inl ⟨by rfl, ?qy4⟩) (by assumption) ?qr4; case qy4 => (intro wz hSw; (try dsimp only at hSw); go_simp; (try with_reducible rfl)); (try simp only [Act.put, List.setIfInBounds_toArray, List.set_cons_zero, List.set_cons_succ]))
        (refine wpAnyH_take (i := 5) (v := ?qv5) rfl (by kernel_rfl) (by kernel_rfl) (by kernel_rfl) (fun _ _ _ h => h) (Or.inl ⟨by rfl, ?qy5⟩) (by assumption) ?qr5; case qy5 => (intro wz hSw; (try dsimp only at hSw); go_simp; (try with_reducible rfl)); (try simp only [Act.put, List.setIfInBounds_toArray, List.set_cons_zero, List.set_cons_succ]))
        (refine wpAnyH_take (i := 6) (v := ?qv6) rfl (by kernel_rfl) (by kernel_rfl) (by kernel_rfl) (fun _ _ _ h => h) (Or.inl ⟨by rfl, ?qy6⟩) (by assumption) ?qr6; case qy6 => (intro wz hSw; (try dsimp only at hSw); go_simp; (try with_reducible rfl)); (try simp only [Act.put, List.setIfInBounds_toArray, List.set_cons_zero, List.set_cons_succ]))
        (refine wpAnyH_take (i := 7) (v := ?qv7) rfl (by kernel_rfl) (by kernel_rfl) (by kernel_rfl) (fun _ _ _ h => h) (Or.inl ⟨by rfl, ?qy7⟩) (by assumption) ?qr7; case qy7 => (intro wz hSw; (try dsimp only at hSw); go_simp; (try with_reducible rfl)); (try simp only [Act.put, List.setIfInBounds_toArray, List.set_cons_zero, List.set_cons_succ]))
        (refine wpAnyH_take (i := 8) (v := ?qv8) rfl (by kernel_rfl) (by kernel_rfl) (by kernel_rfl) (fun _ _ _ h => h) (Or.inl ⟨by rfl, ?qy8⟩) (by assumption) ?qr8; case qy8 => (intro wz hSw; (try dsimp only at hSw); go_simp; (try with_reducible rfl)); (try simp only [Act.put, List.setIfInBounds_toArray, List.set_cons_zero, List.set_cons_succ]))
        (refine wpAnyH_take (i := 9) (v := ?qv9) rfl (by kernel_rfl) (by kernel_rfl) (by kernel_rfl) (fun _ _ _ h => h) (Or.inl ⟨by rfl, ?qy9⟩) (by assumption) ?qr9; case qy9 => (intro wz hSw; (try dsimp only at hSw); go_simp; (try with_reducible rfl)); (try simp only [Act.put, List.setIfInBounds_toArray, List.set_cons_zero, List.set_cons_succ]))
        (refine wpAnyH_take (i := 10) (v := ?qv10) rfl (by kernel_rfl) (by kernel_rfl) (by kernel_rfl) (fun _ _ _ h => h) (Or.inl ⟨by rfl, ?qy10⟩) (by assumption) ?qr10; case qy10 => (intro wz hSw; (try dsimp only at hSw); go_simp; (try with_reducible rfl)); (try simp only [Act.put, List.setIfInBounds_toArray, List.set_cons_zero, List.set_cons_succ]))
        (refine wpAnyH_take (i := 11) (v := ?qv11) rfl (by kernel_rfl) (by kernel_rfl) (by kernel_rfl) (fun _ _ _ h => h) (Or.inl ⟨by rfl, ?qy11⟩) (by assumption) ?qr11; case qy11 => (intro wz hSw; (try dsimp only at hSw); go_simp; (try with_reducible rfl)); (try simp only [Act.put, List.setIfInBounds_toArray, List.set_cons_zero, List.set_cons_succ]))
        (refine wpAnyH_take (i := 12) (v := ?qv12) rfl (by kernel_rfl) (by kernel_rfl) (by kernel_rfl) (fun _ _ _ h => h) (Or.inl ⟨by rfl, ?qy12⟩) (by assumption) ?qr12; case qy12 => (intro wz hSw; (try dsimp only at hSw); go_simp; (try with_reducible rfl)); (try simp only [Act.put, List.setIfInBounds_toArray, List.set_cons_zero, List.set_cons_succ]))
        (refine wpAnyH_take (i := 14) (v := ?qv13) rfl (by kernel_rfl) (by kernel_rfl) (by kernel_rfl) (fun _ _ _ h => h) (Or.inl ⟨by rfl, ?qy13⟩) (by assumption) ?qr13; case qy13 => (intro wz hSw; (try dsimp only at hSw); go_simp; (try with_reducible rfl)); (try simp only [Act.put, List.setIfInBounds_toArray, List.set_cons_zero, List.set_cons_succ]))
        (refine wpAnyH_take (i := 15) (v := ?qv14) rfl (by kernel_rfl) (by kernel_rfl) (by kernel_rfl) (fun _ _ _ h => h) (Or.inl ⟨by rfl, ?qy14⟩) (by assumption) ?qr14; case qy14 => (intro wz hSw; (try dsimp only at hSw); go_simp; (try with_reducible rfl)); (try simp only [Act.put, List.setIfInBounds_toArray, List.set_cons_zero, List.set_cons_succ]))
        (refine wpAnyH_take (i := 16) (v := ?qv15) rfl (by kernel_rfl) (by kernel_rfl) (by kernel_rfl) (fun _ _ _ h => h) (Or.inl ⟨by rfl, ?qy15⟩) (by assumption) ?qr15; case qy15 => (intro wz hSw; (try dsimp only at hSw); go_simp; (try with_reducible rfl)); (try simp only [Act.put, List.setIfInBounds_toArray, List.set_cons_zero, List.set_cons_succ]))
        refine wpAnyH_ready (rs := [1, 17]) (by kernel_rfl) (by simp) ?_
        refine AllReadyH.cons (o := _) rfl (fun K9 hK9 => ?_) ?_
        · go_simp
          refine hK9.out _ _ (SX.out _ B1.out) (fun hHeld => ?_)
          clear hK9 K9
          (try simp only [Act.put, List.setIfInBounds_toArray, List.set_cons_zero, List.set_cons_succ])
          refine wpAnyH_ready (rs := [13, 17]) (by kernel_rfl) (by simp) ?_
          refine AllReadyH.cons (o := _) rfl (fun K9 hK9 => ?_) ?_
          · refine step_row_append_any rfl (.tmp 84) (.tmp 95) 35 rfl 3 i0 _ 1 Try.underlying35 hi0 (by assumption) hz1 rfl (by decide) (by omega) (.slice (some ⟨w4.heap.size, 0, none⟩) 0 0) (some (w4.heap.size)) 0 [] (by simp [Act.eval, Act.put]) HE1.out (some ⟨b4, off4, none⟩) K c4 (encN (Q.pages.take K)) (by simp [Act.eval, Act.put]) HLEN.out HR1.out HONE.out (by omega) ?_; intro p1 cp1 w6 own1 hrow1 hgrow1 hown1; simp only [Nat.zero_add, List.nil_append] at hrow1; have B6 : Hid (Below w4.heap.size w4 w6) := B1.out.grown hgrow1 (by first | (simp; done) | (simp; omega)) (fun k hk => by cases hk; omega); obtain ⟨x3, x4, x5⟩ := HK.out w6 B6.out; have z6 := B6.out.size; have HRI : Hid (Row (w6.alloc (.cells #[.int .i64 (ff S)] 3)) 3 1 (.slice p1 K cp1) own1 K (encN (Q.pages.take K))) := hrow1.chg ((Chg.refl (fun _ => False) w6).alloc _) (fun _ _ => id); have HNI : Hid (Src (w6.alloc (.cells #[.int .i64 (ff S)] 3)) (some ⟨w6.heap.size, 0, none⟩) [.int .i64 (ff S)]) := HSB.out _ _ (Bk.new w6 _ _); have BY : Hid (Below w4.heap.size w4 (w6.alloc (.cells #[.int .i64 (ff S)] 3))) := B6.out.alloc z6 _; have HO1 : Hid (∀ k, own1 = some k → w4.heap.size ≤ k) := (fun k hk => by rcases hown1 with e | e <;> rw [e] at hk <;> cases hk <;> (first | omega | (simp; done) | (simp; omega))); clear hrow1 hgrow1 hown1
            refine hK9.out _ _ (SX.out _ B6.out) (fun hHeld => ?_)
            clear hK9 K9
            (try simp only [Act.put, List.setIfInBounds_toArray, List.set_cons_zero, List.set_cons_succ])
            refine wpAnyH_ready (rs := [17]) (by kernel_rfl) (by simp) ?_
            refine AllReadyH.cons (o := _) rfl (fun K9 hK9 => ?_) ?_
            · go_simp
              refine hK9.out _ _ (SX.out _ BY.out) (fun hHeld => ?_)
              clear hK9 K9
              (try simp only [Act.put, List.setIfInBounds_toArray, List.set_cons_zero, List.set_cons_succ])
              refine wpAnyH_ready (rs := [18]) (by kernel_rfl) (by simp) ?_
              refine AllReadyH.cons (o := _) rfl (fun K9 hK9 => ?_) ?_
              · refine step_row_append_any rfl (.tmp 96) (.tmp 100) 35 rfl 3 i0 _ 1 Try.underlying35 hi0 (by assumption) hz1 rfl (by decide) (by omega) (.slice p1 K cp1) own1 K (encN (Q.pages.take K)) (by simp [Act.eval, Act.put]) HRI.out (some ⟨w6.heap.size, 0, none⟩) 1 1 [.int .i64 (ff S)] (by simp [Act.eval, Act.put]) rfl HNI.out (by simp [Value.oneCell']) (by omega) ?_; intro p2 cp2 w9 own2 hrow2 hgrow2 hown2; have B9 : Hid (Below w4.heap.size w4 w9) := BY.out.grown hgrow2 (by have := BY.out.size; exact this) HO1.out; obtain ⟨y3, y4, y5⟩ := HK.out w9 B9.out; have HO2 : Hid (∀ k, own2 = some k → w4.heap.size ≤ k) := (fun k hk => by rcases hown2 with e | e; (exact HO1.out k (e.symm.trans hk)); (rw [e] at hk; cases hk; exact BY.out.size)); have HRF := Lib.hid hrow2; clear hrow2 hgrow2 hown2
                refine hK9.out _ _ (SX.out _ B9.out) (fun hHeld => ?_)
                clear hK9 K9
                (try simp only [Act.put, List.setIfInBounds_toArray, List.set_cons_zero, List.set_cons_succ])
                (refine wpAnyH_take (i := 19) (v := ?qv16) rfl (by kernel_rfl) (by kernel_rfl) (by kernel_rfl) (fun _ _ _ h => h) (Or.inl ⟨by rfl, ?qy16⟩) (by assumption) ?qr16; case qy16 => (intro wz hSw; (try dsimp only at hSw); go_simp; (try with_reducible rfl)); (try simp only [Act.put, List.setIfInBounds_toArray, List.set_cons_zero, List.set_cons_succ]))
                (refine wpAnyH_take (i := 20) (v := ?qv17) rfl (by kernel_rfl) (by kernel_rfl) (by kernel_rfl) (fun _ _ _ h => h) (Or.inl ⟨by rfl, ?qy17⟩) (by assumption) ?qr17; case qy17 => (intro wz hSw; (try dsimp only at hSw); go_simp; (try with_reducible rfl)); (try simp only [Act.put, List.setIfInBounds_toArray, List.set_cons_zero, List.set_cons_succ]))
                refine wpAnyH_done (by kernel_rfl) ?_ _
                refine QL_normal ?_
                refine wpOp_step (o := _) rfl (fun K9 hK9 => ?_)
                go_simp
                refine hK9 _ _ ?_
                clear hK9 K9
                (try simp only [Act.put, List.setIfInBounds_toArray, List.set_cons_zero, List.set_cons_succ])
                go_wp2_with fail
                go_meet
                have hh := FIN.out w9 p2 cp2 own2 B9.out HRF.out HO2.out
                rw [HLL.out] at hh
                exact hh
              exact AllReadyH.nil
            exact AllReadyH.nil
          refine AllReadyH.cons (o := _) rfl (fun K9 hK9 => ?_) ?_
          · go_simp
            refine hK9.out _ _ (SX.out _ B2.out) (fun hHeld => ?_)
            clear hK9 K9
            (try simp only [Act.put, List.setIfInBounds_toArray, List.set_cons_zero, List.set_cons_succ])
            refine wpAnyH_ready (rs := [13]) (by kernel_rfl) (by simp) ?_
            refine AllReadyH.cons (o := _) rfl (fun K9 hK9 => ?_) ?_
            · refine step_row_append_any rfl (.tmp 84) (.tmp 95) 35 rfl 3 i0 _ 1 Try.underlying35 hi0 (by assumption) hz1 rfl (by decide) (by omega) (.slice (some ⟨w4.heap.size, 0, none⟩) 0 0) (some (w4.heap.size)) 0 [] (by simp [Act.eval, Act.put]) HE2.out (some ⟨b4, off4, none⟩) K c4 (encN (Q.pages.take K)) (by simp [Act.eval, Act.put]) HLEN.out HR2.out HONE.out (by omega) ?_; intro p1 cp1 w6 own1 hrow1 hgrow1 hown1; simp only [Nat.zero_add, List.nil_append] at hrow1; have B6 : Hid (Below w4.heap.size w4 w6) := B2.out.grown hgrow1 (by first | (simp; done) | (simp; omega)) (fun k hk => by cases hk; omega); obtain ⟨x3, x4, x5⟩ := HK.out w6 B6.out; have z6 := B6.out.size; have HRI : Hid (Row w6 3 1 (.slice p1 K cp1) own1 K (encN (Q.pages.take K))) := hrow1; have HNI : Hid (Src w6 (some ⟨w4.heap.size + 1, 0, none⟩) [.int .i64 (ff S)]) := HSB.out _ _ (I2.out.grown hgrow1 (by simp)); have BY := B6; have HO1 : Hid (∀ k, own1 = some k → w4.heap.size ≤ k) := (fun k hk => by rcases hown1 with e | e <;> rw [e] at hk <;> cases hk <;> (first | omega | (simp; done) | (simp; omega))); clear hrow1 hgrow1 hown1
              refine hK9.out _ _ (SX.out _ B6.out) (fun hHeld => ?_)
              clear hK9 K9
              (try simp only [Act.put, List.setIfInBounds_toArray, List.set_cons_zero, List.set_cons_succ])
              refine wpAnyH_ready (rs := [18]) (by kernel_rfl) (by simp) ?_
              refine AllReadyH.cons (o := _) rfl (fun K9 hK9 => ?_) ?_
              · refine step_row_append_any rfl (.tmp 96) (.tmp 100) 35 rfl 3 i0 _ 1 Try.underlying35 hi0 (by assumption) hz1 rfl (by decide) (by omega) (.slice p1 K cp1) own1 K (encN (Q.pages.take K)) (by simp [Act.eval, Act.put]) HRI.out (some ⟨w4.heap.size + 1, 0, none⟩) 1 1 [.int .i64 (ff S)] (by simp [Act.eval, Act.put]) rfl HNI.out (by simp [Value.oneCell']) (by omega) ?_; intro p2 cp2 w9 own2 hrow2 hgrow2 hown2; have B9 : Hid (Below w4.heap.size w4 w9) := BY.out.grown hgrow2 (by have := BY.out.size; exact this) HO1.out; obtain ⟨y3, y4, y5⟩ := HK.out w9 B9.out; have HO2 : Hid (∀ k, own2 = some k → w4.heap.size ≤ k) := (fun k hk => by rcases hown2 with e | e; (exact HO1.out k (e.symm.trans hk)); (rw [e] at hk; cases hk; exact BY.out.size)); have HRF := Lib.hid hrow2; clear hrow2 hgrow2 hown2
                refine hK9.out _ _ (SX.out _ B9.out) (fun hHeld => ?_)
                clear hK9 K9
                (try simp only [Act.put, List.setIfInBounds_toArray, List.set_cons_zero, List.set_cons_succ])
                (refine wpAnyH_take (i := 19) (v := ?qv18) rfl (by kernel_rfl) (by kernel_rfl) (by kernel_rfl) (fun _ _ _ h => h) (Or.inl ⟨by rfl, ?qy18⟩) (by assumption) ?qr18; case qy18 => (intro wz hSw; (try dsimp only at hSw); go_simp; (try with_reducible rfl)); (try simp only [Act.put, List.setIfInBounds_toArray, List.set_cons_zero, List.set_cons_succ]))
                (refine wpAnyH_take (i := 20) (v := ?qv19) rfl (by kernel_rfl) (by kernel_rfl) (by kernel_rfl) (fun _ _ _ h => h) (Or.inl ⟨by rfl, ?qy19⟩) (by assumption) ?qr19; case qy19 => (intro wz hSw; (try dsimp only at hSw); go_simp; (try with_reducible rfl)); (try simp only [Act.put, List.setIfInBounds_toArray, List.set_cons_zero, List.set_cons_succ]))
                refine wpAnyH_done (by kernel_rfl) ?_ _
                refine QL_normal ?_
                refine wpOp_step (o := _) rfl (fun K9 hK9 => ?_)
                go_simp
                refine hK9 _ _ ?_
                clear hK9 K9
                (try simp only [Act.put, List.setIfInBounds_toArray, List.set_cons_zero, List.set_cons_succ])
                go_wp2_with fail
                go_meet
                have hh := FIN.out w9 p2 cp2 own2 B9.out HRF.out HO2.out
                rw [HLL.out] at hh
                exact hh
              exact AllReadyH.nil
            exact AllReadyH.nil
          exact AllReadyH.nil
        refine AllReadyH.cons (o := _) rfl (fun K9 hK9 => ?_) ?_
        · go_simp
          refine hK9.out _ _ (SX.out _ B5.out) (fun hHeld => ?_)
          clear hK9 K9
          (try simp only [Act.put, List.setIfInBounds_toArray, List.set_cons_zero, List.set_cons_succ])
          refine wpAnyH_ready (rs := [1]) (by kernel_rfl) (by simp) ?_
          refine AllReadyH.cons (o := _) rfl (fun K9 hK9 => ?_) ?_
          · go_simp
            refine hK9.out _ _ (SX.out _ B3.out) (fun hHeld => ?_)
            clear hK9 K9
            (try simp only [Act.put, List.setIfInBounds_toArray, List.set_cons_zero, List.set_cons_succ])
            refine wpAnyH_ready (rs := [13]) (by kernel_rfl) (by simp) ?_
            refine AllReadyH.cons (o := _) rfl (fun K9 hK9 => ?_) ?_
            · refine step_row_append_any rfl (.tmp 84) (.tmp 95) 35 rfl 3 i0 _ 1 Try.underlying35 hi0 (by assumption) hz1 rfl (by decide) (by omega) (.slice (some ⟨w4.heap.size + 1, 0, none⟩) 0 0) (some (w4.heap.size + 1)) 0 [] (by simp [Act.eval, Act.put]) HE3.out (some ⟨b4, off4, none⟩) K c4 (encN (Q.pages.take K)) (by simp [Act.eval, Act.put]) HLEN.out HR3.out HONE.out (by omega) ?_; intro p1 cp1 w6 own1 hrow1 hgrow1 hown1; simp only [Nat.zero_add, List.nil_append] at hrow1; have B6 : Hid (Below w4.heap.size w4 w6) := B3.out.grown hgrow1 (by first | (simp; done) | (simp; omega)) (fun k hk => by cases hk; omega); obtain ⟨x3, x4, x5⟩ := HK.out w6 B6.out; have z6 := B6.out.size; have HRI : Hid (Row w6 3 1 (.slice p1 K cp1) own1 K (encN (Q.pages.take K))) := hrow1; have HNI : Hid (Src w6 (some ⟨w4.heap.size, 0, none⟩) [.int .i64 (ff S)]) := HSB.out _ _ (I3.out.grown hgrow1 (by simp)); have BY := B6; have HO1 : Hid (∀ k, own1 = some k → w4.heap.size ≤ k) := (fun k hk => by rcases hown1 with e | e <;> rw [e] at hk <;> cases hk <;> (first | omega | (simp; done) | (simp; omega))); clear hrow1 hgrow1 hown1
              refine hK9.out _ _ (SX.out _ B6.out) (fun hHeld => ?_)
              clear hK9 K9
              (try simp only [Act.put, List.setIfInBounds_toArray, List.set_cons_zero, List.set_cons_succ])
              refine wpAnyH_ready (rs := [18]) (by kernel_rfl) (by simp) ?_
              refine AllReadyH.cons (o := _) rfl (fun K9 hK9 => ?_) ?_
              · refine step_row_append_any rfl (.tmp 96) (.tmp 100) 35 rfl 3 i0 _ 1 Try.underlying35 hi0 (by assumption) hz1 rfl (by decide) (by omega) (.slice p1 K cp1) own1 K (encN (Q.pages.take K)) (by simp [Act.eval, Act.put]) HRI.out (some ⟨w4.heap.size, 0, none⟩) 1 1 [.int .i64 (ff S)] (by simp [Act.eval, Act.put]) rfl HNI.out (by simp [Value.oneCell']) (by omega) ?_; intro p2 cp2 w9 own2 hrow2 hgrow2 hown2; have B9 : Hid (Below w4.heap.size w4 w9) := BY.out.grown hgrow2 (by have := BY.out.size; exact this) HO1.out; obtain ⟨y3, y4, y5⟩ := HK.out w9 B9.out; have HO2 : Hid (∀ k, own2 = some k → w4.heap.size ≤ k) := (fun k hk => by rcases hown2 with e | e; (exact HO1.out k (e.symm.trans hk)); (rw [e] at hk; cases hk; exact BY.out.size)); have HRF := Lib.hid hrow2; clear hrow2 hgrow2 hown2
                refine hK9.out _ _ (SX.out _ B9.out) (fun hHeld => ?_)
                clear hK9 K9
                (try simp only [Act.put, List.setIfInBounds_toArray, List.set_cons_zero, List.set_cons_succ])
                (refine wpAnyH_take (i := 19) (v := ?qv20) rfl (by kernel_rfl) (by kernel_rfl) (by kernel_rfl) (fun _ _ _ h => h) (Or.inl ⟨by rfl, ?qy20⟩) (by assumption) ?qr20; case qy20 => (intro wz hSw; (try dsimp only at hSw); go_simp; (try with_reducible rfl)); (try simp only [Act.put, List.setIfInBounds_toArray, List.set_cons_zero, List.set_cons_succ]))
                (refine wpAnyH_take (i := 20) (v := ?qv21) rfl (by kernel_rfl) (by kernel_rfl) (by kernel_rfl) (fun _ _ _ h => h) (Or.inl ⟨by rfl, ?qy21⟩) (by assumption) ?qr21; case qy21 => (intro wz hSw; (try dsimp only at hSw); go_simp; (try with_reducible rfl)); (try simp only [Act.put, List.setIfInBounds_toArray, List.set_cons_zero, List.set_cons_succ]))
                refine wpAnyH_done (by kernel_rfl) ?_ _
                refine QL_normal ?_
                refine wpOp_step (o := _) rfl (fun K9 hK9 => ?_)
                go_simp
                refine hK9 _ _ ?_
                clear hK9 K9
                (try simp only [Act.put, List.setIfInBounds_toArray, List.set_cons_zero, List.set_cons_succ])
                go_wp2_with fail
                go_meet
                have hh := FIN.out w9 p2 cp2 own2 B9.out HRF.out HO2.out
                rw [HLL.out] at hh
                exact hh
              exact AllReadyH.nil
            exact AllReadyH.nil
          exact AllReadyH.nil
        exact AllReadyH.nil
  case rest =>
    obtain ⟨c1, v1, own1, hM⟩ := hcut.out
    have HM := Lib.hid hM
    clear hM hcut
    have e1 : Q'.width = W := by rw [HQ.out, ← hW]
    have e2 : Q'.first = Q.first := by rw [HQ.out]
    have e3 : Q'.len = Q.len := by rw [HQ.out]
    have e4 : Q'.per = Q.per := by unfold Sq.per; rw [e1, ← hW]
    have hfl := H.out.fl
    have hpl : Q'.pages[(Q'.len - Q'.first) / Q'.per]? = some (Q'.page Q'.len) := by
      have hp := H.out.per_pos
      have hlt := HLT.out
      have : (Q'.len - Q'.first) / Q'.per < Q'.pages.length := by
        rw [e2, e3, e4]
        exact (Nat.div_lt_iff_lt_mul (by omega)).2 hlt
      unfold Sq.page
      rw [List.getElem?_eq_getElem this]; rfl
    obtain ⟨b3, off3, cc3, hv3, k3, kp, hb3, -, hl3⟩ := HM.out.seq.page hpl
    have hjl := (List.getElem?_eq_some_iff.1 hpl).1
    have hwd' : 1 ≤ Q'.width ∧ Q'.width ≤ 32 := by omega
    have hcell : ∀ k, k < W → Q'.cell Q'.len + k < 32 := fun k hk => Sq.cell_lt hwd' _ k (by omega)
    have HCE : Hid (Q'.cell Q'.len = (Q'.len - Q'.first) % Q'.per * Q'.width) := rfl
    have k0 := HM.out.seq.c0
    have k2 := HM.out.seq.c2
    have k4 := HM.out.seq.c4
    have k5 := HM.out.seq.c5
    have hpp := HM.out.seq.per_pos
    have hfew := HM.out.seq.few
    have hq1 := HM.out.seq.fl
    have hsl := HM.out.seq.head.lt
    have hrr : (Q'.len - Q'.first) % Q'.per < Q'.per := Nat.mod_lt _ (by omega)
    have hwm := wrap_mul ((Q'.len - Q'.first) % Q'.per) Q'.width (by omega) hwd'.2
    have PE : Hid (∀ n, Calls Try.prog 44 #[.pointer (some ⟨s, 0, none⟩)] (wc.drewN n) fun e w' => e = .returned (.int .i64 Q'.per) ∧ wc.drewN n = w') := fun n => rrows_c s r Q' v1 own1 _ (HM.out.seq.drewN n)
    have PE2 : Hid (∀ a n, Calls Try.prog 44 #[.pointer (some ⟨s, 0, none⟩)] ((wc.drewN a).drewN n) fun e w' => e = .returned (.int .i64 Q'.per) ∧ (wc.drewN a).drewN n = w') := fun a n => rrows_c s r Q' v1 own1 _ ((HM.out.seq.drewN a).drewN n)
    have hN : Q'.len ≤ 1000 := by omega
    have HPG : Hid (Q'.page Q'.len = Q'.page Q.len ∧ Q'.cell Q'.len = Q'.cell Q.len) := by rw [e3]; exact ⟨rfl, rfl⟩
    have E1 := Lib.hid e1
    have E2 := Lib.hid e2
    have E3 := Lib.hid e3
    have E4 := Lib.hid e4
    clear e1 e2 e3 e4 hpl hwd hwd' h2 ND HP
    obtain ⟨pg, hpg⟩ : ∃ pg, Q'.page Q'.len = pg := ⟨_, rfl⟩
    obtain ⟨ce, hce⟩ : ∃ ce, Q'.cell Q'.len = ce := ⟨_, rfl⟩
    have HPGE := Lib.hid hpg
    have HCEE := Lib.hid hce
    rw [hpg] at kp
    rw [hce] at hcell HCE
    clear hpg hce
    obtain ⟨P, hP⟩ : ∃ P, Q'.per = P := ⟨_, rfl⟩
    obtain ⟨L, hL⟩ : ∃ L, Q'.pages.length = L := ⟨_, rfl⟩
    obtain ⟨F, hFF⟩ : ∃ F, Q'.first = F := ⟨_, rfl⟩
    obtain ⟨N, hNN⟩ : ∃ N, Q'.len = N := ⟨_, rfl⟩
    obtain ⟨W2, hW2⟩ : ∃ W2, Q'.width = W2 := ⟨_, rfl⟩
    have hww : W2 = W := hW2.symm.trans E1.out
    subst hww
    rw [hL] at k3 hl3 hjl hfew
    rw [hFF] at k4 kp HCE hrr hwm hjl hq1
    rw [hNN] at k5 kp HCE hrr hwm hjl hq1 hN
    rw [hW2] at k2 HCE hwm
    rw [hP] at kp HCE hrr hwm hjl hpp PE PE2
    have HPE := Lib.hid hP
    have HLE := Lib.hid hL
    have HFE := Lib.hid hFF
    have HNE := Lib.hid hNN
    have HWE := Lib.hid hW2
    clear hP hL hFF hNN hW2
    obtain ⟨d, hd⟩ : ∃ d, N - F = d := ⟨_, rfl⟩
    have hd1 : (N : Int) - (F : Int) = (d : Int) := by omega
    rw [hd] at kp hjl hrr hwm HCE
    have hqq : (d : Int) / (P : Int) = ((d / P : Nat) : Int) := rfl
    have hmm : (d : Int) % (P : Int) = ((d % P : Nat) : Int) := rfl
    have hd2 : d ≤ 1000 := by omega
    clear hd
    generalize hQQ : d / P = q at *
    generalize hMM : d % P = rr at *
    have hwx : W2 ≤ 32 := by have := HM.out.seq.wd; have := HWE.out; omega
    have hw3 : (rr : Int) * (W2 : Int) = ((rr * W2 : Nat) : Int) := by simp
    have hz : ((P : Int) == 0) = false := by rw [beq_eq_false_iff_ne]; omega
    have hq0 : (0 : Int) ≤ (q : Int) := by omega
    have hqL : (q : Int) < (L : Int) := by omega
    have hb2 : rr * W2 ≤ 1000 * 32 := Nat.mul_le_mul (by omega) hwx
    rw [← HCE.out] at hw3 hb2 hwm
    clear HCE
    go_wp2
    go_quiet ((go_at_call 44; exact Calls.quiet_of_same ((PE.out _).mono (fun e w' h => ⟨h.1, h.2.symm⟩))))
    go_wp2
    have PE3 := Lib.hid (PE2.out nq)
    have HM2 := Lib.hid (HM.out.drewN nq)
    have K0 : Hid (wc.cell? ⟨s, 0, none⟩ = some (.pointer (some ⟨r, 0, none⟩))) := k0
    have j0 : (wc.drewN nq).cell? ⟨s, 0, none⟩ = some (.pointer (some ⟨r, 0, none⟩)) := k0
    have j2 : (wc.drewN nq).cell? ⟨s, 2, none⟩ = some (.int .i64 W2) := k2
    have j4 : (wc.drewN nq).cell? ⟨s, 4, none⟩ = some (.int .i64 F) := k4
    have j5 : (wc.drewN nq).cell? ⟨s, 5, none⟩ = some (.int .i64 N) := k5
    clear k0 k2 k3 k4 k5 kp PE PE2 HM K0
    generalize wc.drewN nq = w1 at *
    go_quiet ((go_at_call 44; exact Calls.quiet_of_same ((PE3.out _).mono (fun e w' h => ⟨h.1, h.2.symm⟩))))
    go_wp2
    have HM3 : Hid (∃ c2, QMid r rb S c s own w (w1.drewN nq) (putRow S' pg ce xs 0) Q' c2 v1 own1) := ⟨c1, HM2.out.drewN nq⟩
    clear HM2 j0 j2 j4 j5 PE3 hqq hmm hw3 hz hq0 hqL hb2 hwm hd1 hjl hrr hq1
    generalize w1.drewN nq = w2 at *
    go_loopw [13] (fun s13 wr => ∃ k : Nat, k ≤ W2 ∧ s13 = .int .i64 k ∧ Hid (∃ c2, QMid r rb S c s own w wr (putRow S' pg ce xs k) Q' c2 v1 own1)) (fun s13 _ => W2 - (intOf s13).toNat)
    case atStart => exact ⟨0, by omega, rfl, HM3⟩
    case round =>
      obtain ⟨k, hk, rfl, ⟨c2, hMk⟩⟩ := hrel
      have HMk := Lib.hid hMk
      have k0 := hMk.seq.c0
      have k2 := hMk.seq.c2
      rw [HWE.out] at k2
      clear hMk HM3
      by_cases hkW : k < W2
      · have hkz : (k : Int) < (W2 : Int) := by omega
        have hk0 : (0 : Int) ≤ (k : Int) := by omega
        have hcek := hcell k hkW
        have hxk : xs[k]? = some (xs.getD k 0) := by rw [List.getD_eq_getElem?_getD, List.getElem?_eq_getElem (by rw [HXL.out]; exact hkW)]; rfl
        have hrx := (HX.out.chg HMk.out.chg HF.out).cell k _ hxk
        have PU : Hid (Calls Try.prog 42 #[.pointer (some ⟨r, 0, none⟩), .int .i64 (pg : Int), .int .i64 ((ce : Int) + (k : Int)), .int .i64 (xs.getD k 0)] wr.drew fun e w' => ∃ er : Int, e = .returned (.int .i64 er) ∧ (∃ c3, QMid r rb S c s own w w' (putRow S' pg ce xs (k + 1)) Q' c3 v1 own1) ∧ w'.cell? ⟨s, 0, none⟩ = some (.pointer (some ⟨r, 0, none⟩)) ∧ w'.cell? ⟨bx, bo + k, none⟩ = some (.int .i64 (xs.getD k 0))) := by
          have h1 := rput_c r rb _ c2 _ (HMk.out.drewN 1).pool pg (ce + k) hcek (xs.getD k 0)
          rw [Int.natCast_add] at h1
          refine h1.mono fun e w' hp => ?_
          obtain ⟨c3, h3⟩ := (HMk.out.drewN 1).step hp
          exact ⟨_, hp.ret, ⟨c3, h3⟩, h3.seq.c0, (HX.out.chg h3.chg HF.out).cell k _ hxk⟩
        generalize hgv : xs.getD k 0 = gv at hrx PU
        have hwk : IntKind.i64.wrap ((ce : Int) + (k : Int)) = (ce : Int) + (k : Int) := by rw [IntKind.wrap_i64]; omega
        clear hgv hxk hcell
        go_wp2_with fail
        go_region_held3 (fun w' => w'.cell? ⟨s, 0, none⟩ = some (.pointer (some ⟨r, 0, none⟩)) ∧ w'.cell? ⟨bx, bo + k, none⟩ = some (.int .i64 gv)) (first | exact ⟨by assumption, by assumption⟩ | go_keep)
          ((go_at_call 42; (with_reducible refine PU.out.mono ?_); rintro e w' ⟨er, rfl, hq, j0, jx⟩; have HQ3 := Lib.hid hq; clear hq))
        go_wp2
        exact ⟨⟨k + 1, by omega, by go_num, HQ3⟩, by simp [intOf]; omega⟩
      · obtain rfl : k = W2 := by omega
        have hkz : ¬ (k : Int) < (k : Int) := by omega
        have h5 := HMk.out.seq.c5
        have hf5 := HMk.out.seq.head.free 5
        rw [HNE.out] at h5
        have hwN : IntKind.i64.wrap ((N : Int) + 1) = (N : Int) + 1 := by rw [IntKind.wrap_i64]; omega
        clear hcell
        go_wp2
        go_ret
        have hcd : Chg (fun k => k = s) wr (wr.setCell ⟨s, 5, none⟩ (.int .i64 ((N : Int) + 1))) := (Chg.refl _ _).setCell _ _ (.inl rfl)
        have hNQ : N = Q.len := HNE.out.symm.trans E3.out
        have hsq := HMk.out.seq
        have hfin : QPost r rb S c s own (putRow S' pg ce xs k) { Q' with len := Q.len + 1 } w (.int .i64 0) (.returned (.int .i64 0)) (wr.setCell ⟨s, 5, none⟩ (.int .i64 ((N : Int) + 1))) := by
          refine ⟨rfl, ⟨c2, v1, own1, HMk.out.pool.chg hcd (fun q hq e => HMk.out.apart.s (e ▸ hq)), ⟨?_, ?_, hsq.ne, hsq.wd, hsq.tg, ?_, ?_, hsq.few, ?_⟩, HMk.out.apart, HMk.out.foot, HMk.out.grow⟩, HMk.out.chg.trans hcd (fun q e => .inl (.inr (.inl e)))⟩
          · have := hsq.head.set 5 (.int .i64 ((N : Int) + 1))
            rw [hNQ] at this ⊢
            exact this
          · exact hsq.row.keep fun q hq => Below.heap_setCell _ _ _ _ (fun e => hsq.ne (by rw [hq]; exact congrArg some e))
          · show Q'.first ≤ Q.len + 1
            have := hsq.fl
            rw [E3.out] at this; omega
          · show Q.len + 1 ≤ 1000
            omega
          · show Q.len + 1 - Q'.first ≤ Q'.pages.length * Q'.per
            have := HLT.out
            rw [E2.out, E4.out]; omega
        rw [← HPGE.out, ← HCEE.out, HPG.out.1, HPG.out.2] at hfin
        exact hfin
end Go.Proofs.Ytfimadeokdlpnaa.kv
