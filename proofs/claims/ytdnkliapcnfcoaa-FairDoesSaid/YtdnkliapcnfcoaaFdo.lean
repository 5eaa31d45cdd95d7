/- FairDoes: the walk. -/
import Derived.Test.YtdnkliapcnfcoaaArg
namespace Go.Proofs.Ytdnkliapcnfcoaa.fair
open Go.ChangeShapes Go.WideShapes Go.ChangeAt Go.RowKit K
set_option linter.unusedVariables false
set_option linter.unusedSimpArgs false
theorem addR_n (S : FS) (n id cost : Int) : (S.addR n id cost).2.n = S.n := by unfold FS.addR; split <;> (try split) <;> (try split) <;> rfl
theorem cancelR_n (S : FS) (id : Int) : (S.cancelR id).2.n = S.n := by unfold FS.cancelR; split <;> rfl
theorem next_n (S : FS) : S.next.2.n = S.n := by unfold FS.next; split <;> (try split) <;> rfl
theorem Acts.below {w w' : World} {p : Option Addr} {l : List (Int × Int × Int × Int)} (h : Acts w p l) (hb : Below w.heap.size w w') : Acts w' p l := by
  intro j x hx
  obtain ⟨b, off, h1, h2, c0, c1, c2, c3⟩ := h j x hx
  exact ⟨b, off, h1, Nat.lt_of_lt_of_le h2 hb.size, (hb.cell (p := ⟨b, off + j * 4, none⟩) h2).trans c0, (hb.cell (p := ⟨b, off + j * 4 + 1, none⟩) h2).trans c1, (hb.cell (p := ⟨b, off + j * 4 + 2, none⟩) h2).trans c2, (hb.cell (p := ⟨b, off + j * 4 + 3, none⟩) h2).trans c3⟩
def DRel (W wr : World) (p q n k : Nat) : Prop :=
  ∃ S R, Inv S R k ∧ S.n = n ∧ Two W.heap.size (fun _ => False) wr p q S R ∧ Below W.heap.size W wr
/-- Both are made. -/
theorem two_new {W w1 w2 w1' : World} {p q : Nat} {S : FS} {R : RS} {L : FL} {M : RL} (hW : W.heap.size ≤ p) (h1 : FR w1 p S L (fun b => p ≤ b)) (hb : Below w1.heap.size w1 w2) (h2 : RR w2 q R M (fun b => w1.heap.size ≤ b)) (hz : W.heap.size ≤ w1.heap.size) :
    Two W.heap.size (fun _ => False) w2 p q S R := by
  refine ⟨L, M, (h1.below hb).tight, h2.tight, fun b hb hm => ?_, fun b hb => ?_, fun b hm => ?_, fun b hx => hx.elim⟩
  · have := h1.foot_lt b hb
    have := h2.foot_in b hm
    omega
  · have := h1.foot_in b hb; omega
  · have := h2.foot_in b hm; omega
set_option maxRecDepth 100000 in
theorem does_none (W : World) (p : Option Addr) (c : Nat) (lp : Option Addr) (m lc : Nat) :
    Calls Try.prog 6 #[.slice p 0 c, .slice lp m lc] W fun e w' => e = .returned (.bool true) ∧ Below W.heap.size W w' := by
  obtain ⟨i0, hi0, hz0, hz1, hz2⟩ := info_parts infoInt
  go_enter Try.func6, Try.ntmps6
  go_wp2_with (at_builtin; refine wpList_append_nothing rfl (.tmp 19) (.tmp 20) 22 rfl 3 i0 Try.underlying22 hi0 ⟨W.heap.size, 0, none⟩ 0 0 (Nat.le_refl _) rfl p c rfl ?_)
  refine (new_short _ _ 0 _ (.inl (by omega))).mono ?_
  rintro e w1 ⟨rfl, hb1⟩
  have HB1 := Lib.hid (((Below.refl _ W).alloc (Nat.le_refl _) (.cells #[] 3)).trans (hb1.mono (by simp)))
  clear hb1
  go_wp2_with fail
  refine (rnew_short _ _ 0 _ (.inl (by omega))).mono ?_
  rintro e w2 ⟨rfl, hb2⟩
  have HB2 := Lib.hid (HB1.out.trans (hb2.mono HB1.out.size))
  clear hb2
  go_wp2
  go_ret
  exact ⟨rfl, HB2.out⟩
set_option maxHeartbeats 8000000 in
set_option maxRecDepth 100000 in
theorem does_walk (W : World) (pb po n c : Nat) (ws : List Int) (hl : ws.length = n) (hn0 : 0 < n) (hn : n * 8 ≤ 140737488355328) (hw : Ints W (some ⟨pb, po, none⟩) ws) (lp : Option Addr) (m lc : Nat) (hm : m ≤ 9223372036854775807) (ops : List (Int × Int × Int × Int)) (hol : ops.length = m) (ho : Acts W lp ops) :
    Calls Try.prog 6 #[.slice (some ⟨pb, po, none⟩) n c, .slice lp m lc] W fun e w' => e = .returned (.bool true) ∧ Below W.heap.size W w' := by
  obtain ⟨i0, hi0, hz0, hz1, hz2⟩ := info_parts infoInt
  have HL := Lib.hid hl
  have HW := Lib.hid hw
  have HOL := Lib.hid hol
  have HOP := Lib.hid ho
  have SRC := Lib.hid (hw.below (((Below.refl _ W).alloc (Nat.le_refl _) (.cells #[] 3)))).src
  clear hl hw hol ho
  go_enter Try.func6, Try.ntmps6
  go_wp2_with (at_builtin; refine wpList_append_fresh rfl (.tmp 19) (.tmp 20) 22 rfl 3 i0 _ 1 Try.underlying22 hi0 hz0 hz1 rfl ⟨W.heap.size, 0, none⟩ rfl ⟨pb, po, none⟩ n c (encI ws) rfl (by unfold encI; rw [List.length_map, HL.out, Nat.mul_one]) SRC.out hn0 (by rw [hz2]; omega) (by unfold maxLen; omega) ?_; intro cp cs hcp1 hcp2 hsz hcs; have HCS := Lib.hid hcs; clear hcs)
  obtain ⟨w0, hw0⟩ : ∃ w0, w0 = ((W.alloc (.cells #[] 3)).alloc (.cells cs 3)).drew := ⟨_, rfl⟩
  rw [← hw0]
  have BK0 : Bk w0 (W.heap.size + 1) cs 3 := by rw [hw0]; exact (Bk.new' _ _ _ _ (by simp)).drew
  have BW0 : Below W.heap.size W w0 := by rw [hw0]; exact (((Below.refl _ W).alloc (Nat.le_refl _) _).alloc (by simp) _).drew
  have I0 : Ints w0 (some ⟨W.heap.size + 1, 0, none⟩) ws := by
    intro j x hx
    refine ⟨_, _, rfl, BK0.lt, BK0.cell _ _ ?_⟩
    rw [Nat.zero_add, HCS.out j (by have := (List.getElem?_eq_some_iff.1 hx).1; have := HL.out; omega)]
    simp [encI, hx]
  have NC := Lib.hid (new_c w0 _ cp n ws HL.out I0)
  have HB0 := Lib.hid BW0
  clear hw0 BK0 BW0 I0 HCS SRC
  go_wp2_with fail
  refine NC.out.mono ?_
  rintro e w1 ⟨hb1, hcase⟩
  have HB1 := Lib.hid (HB0.out.trans (hb1.mono HB0.out.size))
  have RC := Lib.hid (rnew_c w1 _ c n ws HL.out ((HW.out.below HB1.out)))
  rcases hcase with ⟨hbad, rfl⟩ | ⟨hok, rfl, L, hL⟩
  · have HBAD := Lib.hid hbad
    clear hb1 hbad
    go_wp2_with fail
    refine RC.out.mono ?_
    rintro e w2 ⟨hb2, hcase⟩
    have HB2 := Lib.hid (HB1.out.trans (hb2.mono HB1.out.size))
    clear hb2
    rcases hcase with ⟨hbad, rfl⟩ | ⟨hok, _⟩
    · clear hbad
      go_wp2
      go_ret
      exact ⟨rfl, HB2.out⟩
    · exact absurd (hok.symm.trans HBAD.out) (by simp)
  · have HOK := Lib.hid hok
    have HFR := Lib.hid hL
    have HZ1 := Lib.hid (show W.heap.size ≤ w1.heap.size from HB1.out.size)
    have HZ0 := Lib.hid (show W.heap.size ≤ w0.heap.size from HB0.out.size)
    clear hb1 hok hL
    generalize hp : w0.heap.size = p at *
    clear hp
    go_wp2_with fail
    refine RC.out.mono ?_
    rintro e w2 ⟨hb2, hcase⟩
    rcases hcase with ⟨hbad, _⟩ | ⟨hok, q, M, rfl, hM⟩
    · exact absurd (hbad.symm.trans HOK.out) (by simp)
    · have HB2 := Lib.hid (HB1.out.trans (hb2.mono HB1.out.size))
      have HTW := Lib.hid (two_new (w1' := w2) HZ0.out HFR.out hb2 hM HZ1.out)
      have HREL : Hid (DRel W w2 p q n 0) := ⟨_, _, Inv.new ws HOK.out, HL.out, HTW.out, HB2.out⟩
      clear hb2 hok hM
      go_wp2
      go_loopw [9] (fun i wr => ∃ k : Nat, k ≤ m ∧ k ≤ 200 ∧ i = .int .i64 k ∧ Hid (DRel W wr p q n k)) (fun i _ => m - (intOf i).toNat)
      case atStart => exact ⟨0, Nat.zero_le _, by omega, rfl, HREL⟩
      case round =>
        obtain ⟨k, hk, hk200, rfl, REL⟩ := hrel
        obtain ⟨wo, rfl⟩ : ∃ wo : World, wo = wr := ⟨_, rfl⟩
        by_cases hkm : k < m
        · have hkz : (k : Int) < (m : Int) := by omega
          have hkz0 : (0 : Int) ≤ (k : Int) := by omega
          by_cases hk2 : k < 200
          · have hkz2 : (k : Int) < 200 := by omega
            obtain ⟨S, R, hI, hN, hT, hB⟩ := REL.out
            obtain ⟨x, hx⟩ : ∃ x, ops[k]? = some x := ⟨_, List.getElem?_eq_getElem (by rw [HOL.out]; exact hkm)⟩
            obtain ⟨ob, oo, rfl, hob, c0, c1, c2, c3⟩ := HOP.out.below hB k x hx
            obtain ⟨kind, ten, id, cost⟩ := x
            simp only at c0 c1 c2 c3
            have HI0 := Lib.hid hI
            have HN0 := Lib.hid hN
            have HT0 := Lib.hid (hT.fresh (.cells #[.int .i64 kind, .int .i64 ten, .int .i64 id, .int .i64 cost] 40))
            have HBX := Lib.hid hB
            have hsz : W.heap.size ≤ wo.heap.size := hB.size
            clear hx hI hN hT hB
            by_cases h0 : kind = 0
            · subst h0
              go_wp2_with fail
              obtain ⟨O, hO⟩ : ∃ O, O = wo.heap.size := ⟨_, rfl⟩
              rw [← hO]
              rw [← hO] at HT0
              have hOz : W.heap.size ≤ O := by rw [hO]; exact hsz
              obtain ⟨wx, hwx⟩ : ∃ wx, wx = wo.alloc (.cells #[.int .i64 0, .int .i64 ten, .int .i64 id, .int .i64 cost] 40) := ⟨_, rfl⟩
              rw [← hwx]
              rw [← hwx] at HT0
              have BO : Bk wx O #[.int .i64 0, .int .i64 ten, .int .i64 id, .int .i64 cost] 40 := by rw [hwx, hO]; exact Bk.new _ _ _
              have HBX2 : Hid (Below W.heap.size W wx) := by rw [hwx]; exact HBX.out.alloc hsz _
              have hxz : W.heap.size ≤ wx.heap.size := HBX2.out.size
              obtain ⟨hcode, hI1⟩ := HI0.out.add ten id cost
              obtain ⟨code, hcd⟩ : ∃ code, code = (S.addR ten id cost).1 := ⟨_, rfl⟩
              have FA : Hid (∀ w R', Two W.heap.size (fun b => b = O) w p q S R' → W.heap.size ≤ w.heap.size → Calls Try.prog 10 #[.pointer (some ⟨p, 0, none⟩), .int .i64 ten, .int .i64 id, .int .i64 cost] w (TPost W.heap.size (fun b => b = O) w p q (S.addR ten id cost).2 R' (.int .i64 code))) := by
                intro w R' h hz
                rw [hcd]
                exact h.left hz fun L F hL => add_c p S L F w hL HI0.out.good.q ten id cost
              have RA : Hid (∀ w S', Two W.heap.size (fun b => b = O) w p q S' R → W.heap.size ≤ w.heap.size → Calls Try.prog 14 #[.pointer (some ⟨q, 0, none⟩), .int .i64 ten, .int .i64 id, .int .i64 cost] w (TPost W.heap.size (fun b => b = O) w p q S' (R.addR ten id cost).2 (.int .i64 code))) := by
                intro w S' h hz
                rw [hcd, hcode]
                exact h.right hz fun L F hL => radd_c q R L F w hL (by have := HI0.out.len; omega) ten id cost
              have HI := Lib.hid hI1
              have HN := Lib.hid ((addR_n S ten id cost).trans HN0.out)
              generalize (S.addR ten id cost).2 = S' at *
              generalize (R.addR ten id cost).2 = R' at *
              have k1 := BO.cell 1 _ rfl
              have k2 := BO.cell 2 _ rfl
              have k3 := BO.cell 3 _ rfl
              have HBO := Lib.hid BO
              clear c0 c1 c2 c3 hO hwx BO hcode hI1 hcd
              have HTd := Lib.hid HT0.out.drew
              have hxzd : W.heap.size ≤ wx.drew.heap.size := hxz
              have HBd := Lib.hid HBX2.out.drew
              go_region_held3 (fun w' => w'.cell? ⟨O, 1, none⟩ = some (.int .i64 ten) ∧ w'.cell? ⟨O, 2, none⟩ = some (.int .i64 id) ∧ w'.cell? ⟨O, 3, none⟩ = some (.int .i64 cost)) (first | exact ⟨by assumption, by assumption, by assumption⟩ | go_keep)
                (first
                  | (go_at_call 10; (with_reducible refine (FA.out _ R HTd.out hxzd).mono ?_); rintro e wa ⟨rfl, hTa, hBa, hXa⟩; have HTa := Lib.hid hTa; have HBa := Lib.hid (HBd.out.trans hBa); have HBKa : Hid (Bk wa O _ 40) := (hXa O rfl).trans HBO.out; have k1a := HBKa.out.cell 1 _ rfl; have k2a := HBKa.out.cell 2 _ rfl; have k3a := HBKa.out.cell 3 _ rfl; have hza : W.heap.size ≤ wa.heap.size := HBa.out.size; clear hTa hBa hXa)
                  | (go_at_call 14; (with_reducible refine (RA.out _ S' HTa.out hza).mono ?_); rintro e w3 ⟨rfl, hTc, hBc, hXc⟩; have HT := Lib.hid hTc; have HB := Lib.hid (HBa.out.trans hBc); have hBKc : Bk w3 O _ 40 := (hXc O rfl).trans HBKa.out; have k1c := hBKc.cell 1 _ rfl; have k2c := hBKc.cell 2 _ rfl; have k3c := hBKc.cell 3 _ rfl; clear hTc hBc hXc hBKc))
              clear k1 k2 k3 k1a k2a k3a k1c k2c k3c
              have hTn := HT.out
              obtain ⟨L, M, hL, hM, -⟩ := hTn
              have WA := Lib.hid (fun t => waiting_c p _ L _ _ hL t)
              have CK := Lib.hid (fun t => clock_c p _ L _ _ hL t)
              have RWA := Lib.hid (fun t => rwaiting_c q _ M _ _ hM t)
              have RCK := Lib.hid (fun t => rclock_c q _ M _ _ hM t)
              have EW : Hid (∀ t, (cntL R'.l t : Int) = S'.waiting t) := fun t => (HI.out.sim.waiting t).symm
              have EC : Hid (∀ t, R'.clock t = S'.clock t) := fun t => (HI.out.sim.clock t).symm
              clear hL hM
              go_wp2
              go_loop [17] (fun s => ∃ j : Nat, j ≤ n + 2 ∧ s = .int .i64 ((j : Int) - 1)) (fun s => ((n : Int) + 1 - intOf s).toNat)
              case atStart => exact ⟨0, by omega, rfl⟩
              case round =>
                obtain ⟨j, hj, rfl⟩ := hrel
                by_cases hjn : j ≤ n + 1
                · have hjz : (j : Int) - 1 ≤ (n : Int) := by omega
                  generalize hT : (j : Int) - 1 = T at *
                  have HTT := Lib.hid hT
                  clear hT
                  go_wp2_with fail
                  refine (WA.out _).mono ?_
                  rintro e w' ⟨rfl, rfl⟩
                  go_wp2_with fail
                  refine (RWA.out _).mono ?_
                  rintro e w' ⟨rfl, rfl⟩
                  rw [EW.out]
                  go_wp2_with fail
                  refine (CK.out _).mono ?_
                  rintro e w' ⟨rfl, rfl⟩
                  go_wp2_with fail
                  refine (RCK.out _).mono ?_
                  rintro e w' ⟨rfl, rfl⟩
                  rw [EC.out]
                  have hTl : -1 ≤ T := by have := HTT.out; omega
                  go_wp2
                  refine ⟨⟨j + 1, by omega, ?_⟩, ?_⟩
                  · rw [← HTT.out]; go_num
                  · simp only [intOf]; omega
                · have hjz : ¬ (j : Int) - 1 ≤ (n : Int) := by omega
                  generalize hT : (j : Int) - 1 = T at *
                  clear hT
                  go_wp2
                  exact ⟨⟨k + 1, by omega, by omega, by go_num, Lib.hid ⟨S', R', HI.out, HN.out, HT.out.forget, HB.out⟩⟩, by simp [intOf]; omega⟩
            · by_cases h1 : kind = 1
              · subst h1
                go_wp2_with fail
                obtain ⟨O, hO⟩ : ∃ O, O = wo.heap.size := ⟨_, rfl⟩
                rw [← hO]
                rw [← hO] at HT0
                have hOz : W.heap.size ≤ O := by rw [hO]; exact hsz
                obtain ⟨wx, hwx⟩ : ∃ wx, wx = wo.alloc (.cells #[.int .i64 1, .int .i64 ten, .int .i64 id, .int .i64 cost] 40) := ⟨_, rfl⟩
                rw [← hwx]
                rw [← hwx] at HT0
                have BO : Bk wx O #[.int .i64 1, .int .i64 ten, .int .i64 id, .int .i64 cost] 40 := by rw [hwx, hO]; exact Bk.new _ _ _
                have HBX2 : Hid (Below W.heap.size W wx) := by rw [hwx]; exact HBX.out.alloc hsz _
                have hxz : W.heap.size ≤ wx.heap.size := HBX2.out.size
                obtain ⟨hcode, hI1⟩ := HI0.out.next
                obtain ⟨x1, x2, x3, hcd⟩ : ∃ x1 x2 x3, S.next.1 = (x1, x2, x3) := ⟨_, _, _, rfl⟩
                rw [hcd] at hcode
                have FA : Hid (Calls Try.prog 11 #[.pointer (some ⟨p, 0, none⟩)] wx (TPost W.heap.size (fun b => b = O) wx p q S.next.2 R (.tuple #[.int .i64 x1, .int .i64 x2, .bool x3]))) := by
                  have h := HT0.out.left (S' := S.next.2) (f := 11) (args := #[.pointer (some ⟨p, 0, none⟩)]) (r := trip S.next.1) hxz fun L F hL => next_c p S L F wx hL _ HI0.out.good (by omega)
                  rw [hcd] at h
                  exact h
                have RA : Hid (∀ w, Two W.heap.size (fun b => b = O) w p q S.next.2 R → W.heap.size ≤ w.heap.size → Calls Try.prog 15 #[.pointer (some ⟨q, 0, none⟩)] w (TPost W.heap.size (fun b => b = O) w p q S.next.2 R.next.2 (.tuple #[.int .i64 x1, .int .i64 x2, .bool x3]))) := by
                  intro w hT hz
                  have h := hT.right (R' := R.next.2) (f := 15) (args := #[.pointer (some ⟨q, 0, none⟩)]) (r := trip R.next.1) hz fun L F hL => rnext_c q R L F w hL _ HI0.out.rgood (by omega)
                  rw [← hcode] at h
                  exact h
                have HI := Lib.hid hI1
                have HN := Lib.hid ((next_n S).trans HN0.out)
                generalize S.next.2 = S' at *
                generalize R.next.2 = R' at *
                clear c0 c1 c2 c3 hO hwx BO hcode hI1 hcd
                refine FA.out.mono ?_
                rintro e wa ⟨rfl, hTa, hBa, hXa⟩
                have HTa := Lib.hid hTa
                have HBa := Lib.hid (HBX2.out.trans hBa)
                have hza : W.heap.size ≤ wa.heap.size := HBa.out.size
                clear hTa hBa hXa
                go_wp2_with fail
                refine (RA.out _ HTa.out hza).mono ?_
                rintro e w3 ⟨rfl, hTc, hBc, hXc⟩
                have HT := Lib.hid hTc
                have HB := Lib.hid (HBa.out.trans hBc)
                clear hTc hBc hXc
                have hTn := HT.out
                obtain ⟨L, M, hL, hM, -⟩ := hTn
                have WA := Lib.hid (fun t => waiting_c p _ L _ _ hL t)
                have CK := Lib.hid (fun t => clock_c p _ L _ _ hL t)
                have RWA := Lib.hid (fun t => rwaiting_c q _ M _ _ hM t)
                have RCK := Lib.hid (fun t => rclock_c q _ M _ _ hM t)
                have EW : Hid (∀ t, (cntL R'.l t : Int) = S'.waiting t) := fun t => (HI.out.sim.waiting t).symm
                have EC : Hid (∀ t, R'.clock t = S'.clock t) := fun t => (HI.out.sim.clock t).symm
                clear hL hM
                go_wp2
                go_loop [17] (fun s => ∃ j : Nat, j ≤ n + 2 ∧ s = .int .i64 ((j : Int) - 1)) (fun s => ((n : Int) + 1 - intOf s).toNat)
                case atStart => exact ⟨0, by omega, rfl⟩
                case round =>
                  obtain ⟨j, hj, rfl⟩ := hrel
                  by_cases hjn : j ≤ n + 1
                  · have hjz : (j : Int) - 1 ≤ (n : Int) := by omega
                    generalize hT : (j : Int) - 1 = T at *
                    have HTT := Lib.hid hT
                    clear hT
                    go_wp2_with fail
                    refine (WA.out _).mono ?_
                    rintro e w' ⟨rfl, rfl⟩
                    go_wp2_with fail
                    refine (RWA.out _).mono ?_
                    rintro e w' ⟨rfl, rfl⟩
                    rw [EW.out]
                    go_wp2_with fail
                    refine (CK.out _).mono ?_
                    rintro e w' ⟨rfl, rfl⟩
                    go_wp2_with fail
                    refine (RCK.out _).mono ?_
                    rintro e w' ⟨rfl, rfl⟩
                    rw [EC.out]
                    have hTl : -1 ≤ T := by have := HTT.out; omega
                    go_wp2
                    refine ⟨⟨j + 1, by omega, ?_⟩, ?_⟩
                    · rw [← HTT.out]; go_num
                    · simp only [intOf]; omega
                  · have hjz : ¬ (j : Int) - 1 ≤ (n : Int) := by omega
                    generalize hT : (j : Int) - 1 = T at *
                    clear hT
                    go_wp2
                    exact ⟨⟨k + 1, by omega, by omega, by go_num, Lib.hid ⟨S', R', HI.out, HN.out, HT.out.forget, HB.out⟩⟩, by simp [intOf]; omega⟩
              · by_cases h2 : kind = 2
                · subst h2
                  go_wp2_with fail
                  obtain ⟨O, hO⟩ : ∃ O, O = wo.heap.size := ⟨_, rfl⟩
                  rw [← hO]
                  rw [← hO] at HT0
                  have hOz : W.heap.size ≤ O := by rw [hO]; exact hsz
                  obtain ⟨wx, hwx⟩ : ∃ wx, wx = wo.alloc (.cells #[.int .i64 2, .int .i64 ten, .int .i64 id, .int .i64 cost] 40) := ⟨_, rfl⟩
                  rw [← hwx]
                  rw [← hwx] at HT0
                  have BO : Bk wx O #[.int .i64 2, .int .i64 ten, .int .i64 id, .int .i64 cost] 40 := by rw [hwx, hO]; exact Bk.new _ _ _
                  have HBX2 : Hid (Below W.heap.size W wx) := by rw [hwx]; exact HBX.out.alloc hsz _
                  have hxz : W.heap.size ≤ wx.heap.size := HBX2.out.size
                  obtain ⟨hcode, hI1⟩ := HI0.out.cancel id
                  obtain ⟨code, hcd⟩ : ∃ code, code = (S.cancelR id).1 := ⟨_, rfl⟩
                  have FA : Hid (∀ w R', Two W.heap.size (fun b => b = O) w p q S R' → W.heap.size ≤ w.heap.size → Calls Try.prog 12 #[.pointer (some ⟨p, 0, none⟩), .int .i64 id] w (TPost W.heap.size (fun b => b = O) w p q (S.cancelR id).2 R' (.bool code))) := by
                    intro w R' h hz
                    rw [hcd]
                    exact h.left hz fun L F hL => cancel_c p S L F w hL HI0.out.good.q id
                  have RA : Hid (∀ w S', Two W.heap.size (fun b => b = O) w p q S' R → W.heap.size ≤ w.heap.size → Calls Try.prog 16 #[.pointer (some ⟨q, 0, none⟩), .int .i64 id] w (TPost W.heap.size (fun b => b = O) w p q S' (R.cancelR id).2 (.bool code))) := by
                    intro w S' h hz
                    rw [hcd, hcode]
                    exact h.right hz fun L F hL => rcancel_c q R L F w hL id
                  have HI := Lib.hid hI1
                  have HN := Lib.hid ((cancelR_n S id).trans HN0.out)
                  generalize (S.cancelR id).2 = S' at *
                  generalize (R.cancelR id).2 = R' at *
                  have k2 := BO.cell 2 _ rfl
                  have HBO := Lib.hid BO
                  clear c0 c1 c2 c3 hO hwx BO hcode hI1 hcd
                  have HTd := Lib.hid HT0.out.drew
                  have hxzd : W.heap.size ≤ wx.drew.heap.size := hxz
                  have HBd := Lib.hid HBX2.out.drew
                  go_region_held3 (fun w' => w'.cell? ⟨O, 2, none⟩ = some (.int .i64 id)) (first | assumption | go_keep)
                    (first
                      | (go_at_call 12; (with_reducible refine (FA.out _ R HTd.out hxzd).mono ?_); rintro e wa ⟨rfl, hTa, hBa, hXa⟩; have HTa := Lib.hid hTa; have HBa := Lib.hid (HBd.out.trans hBa); have HBKa : Hid (Bk wa O _ 40) := (hXa O rfl).trans HBO.out; have k2a := HBKa.out.cell 2 _ rfl; have hza : W.heap.size ≤ wa.heap.size := HBa.out.size; clear hTa hBa hXa)
                      | (go_at_call 16; (with_reducible refine (RA.out _ S' HTa.out hza).mono ?_); rintro e w3 ⟨rfl, hTc, hBc, hXc⟩; have HT := Lib.hid hTc; have HB := Lib.hid (HBa.out.trans hBc); have hBKc : Bk w3 O _ 40 := (hXc O rfl).trans HBKa.out; have k2c := hBKc.cell 2 _ rfl; clear hTc hBc hXc hBKc))
                  clear k2 k2a k2c
                  have hTn := HT.out
                  obtain ⟨L, M, hL, hM, -⟩ := hTn
                  have WA := Lib.hid (fun t => waiting_c p _ L _ _ hL t)
                  have CK := Lib.hid (fun t => clock_c p _ L _ _ hL t)
                  have RWA := Lib.hid (fun t => rwaiting_c q _ M _ _ hM t)
                  have RCK := Lib.hid (fun t => rclock_c q _ M _ _ hM t)
                  have EW : Hid (∀ t, (cntL R'.l t : Int) = S'.waiting t) := fun t => (HI.out.sim.waiting t).symm
                  have EC : Hid (∀ t, R'.clock t = S'.clock t) := fun t => (HI.out.sim.clock t).symm
                  clear hL hM
                  go_wp2
                  go_loop [17] (fun s => ∃ j : Nat, j ≤ n + 2 ∧ s = .int .i64 ((j : Int) - 1)) (fun s => ((n : Int) + 1 - intOf s).toNat)
                  case atStart => exact ⟨0, by omega, rfl⟩
                  case round =>
                    obtain ⟨j, hj, rfl⟩ := hrel
                    by_cases hjn : j ≤ n + 1
                    · have hjz : (j : Int) - 1 ≤ (n : Int) := by omega
                      generalize hT : (j : Int) - 1 = T at *
                      have HTT := Lib.hid hT
                      clear hT
                      go_wp2_with fail
                      refine (WA.out _).mono ?_
                      rintro e w' ⟨rfl, rfl⟩
                      go_wp2_with fail
                      refine (RWA.out _).mono ?_
                      rintro e w' ⟨rfl, rfl⟩
                      rw [EW.out]
                      go_wp2_with fail
                      refine (CK.out _).mono ?_
                      rintro e w' ⟨rfl, rfl⟩
                      go_wp2_with fail
                      refine (RCK.out _).mono ?_
                      rintro e w' ⟨rfl, rfl⟩
                      rw [EC.out]
                      have hTl : -1 ≤ T := by have := HTT.out; omega
                      go_wp2
                      refine ⟨⟨j + 1, by omega, ?_⟩, ?_⟩
                      · rw [← HTT.out]; go_num
                      · simp only [intOf]; omega
                    · have hjz : ¬ (j : Int) - 1 ≤ (n : Int) := by omega
                      generalize hT : (j : Int) - 1 = T at *
                      clear hT
                      go_wp2
                      exact ⟨⟨k + 1, by omega, by omega, by go_num, Lib.hid ⟨S', R', HI.out, HN.out, HT.out.forget, HB.out⟩⟩, by simp [intOf]; omega⟩
                · have e0 : (kind == 0) = false := by rw [beq_eq_false_iff_ne]; exact h0
                  have e1 : (kind == 1) = false := by rw [beq_eq_false_iff_ne]; exact h1
                  have e2 : (kind == 2) = false := by rw [beq_eq_false_iff_ne]; exact h2
                  clear h0 h1 h2
                  go_wp2_with fail
                  obtain ⟨O, hO⟩ : ∃ O, O = wo.heap.size := ⟨_, rfl⟩
                  rw [← hO]
                  rw [← hO] at HT0
                  have hOz : W.heap.size ≤ O := by rw [hO]; exact hsz
                  obtain ⟨wx, hwx⟩ : ∃ wx, wx = wo.alloc (.cells #[.int .i64 kind, .int .i64 ten, .int .i64 id, .int .i64 cost] 40) := ⟨_, rfl⟩
                  rw [← hwx]
                  rw [← hwx] at HT0
                  have BO : Bk wx O #[.int .i64 kind, .int .i64 ten, .int .i64 id, .int .i64 cost] 40 := by rw [hwx, hO]; exact Bk.new _ _ _
                  have HBX2 : Hid (Below W.heap.size W wx) := by rw [hwx]; exact HBX.out.alloc hsz _
                  have hxz : W.heap.size ≤ wx.heap.size := HBX2.out.size
                  have HI := Lib.hid HI0.out.mono
                  have HN := HN0
                  have HT := HT0
                  have HB := HBX2
                  obtain ⟨S', rfl⟩ : ∃ S', S' = S := ⟨_, rfl⟩
                  obtain ⟨R', rfl⟩ : ∃ R', R' = R := ⟨_, rfl⟩
                  clear c0 c1 c2 c3 hO hwx BO
                  have hTn := HT.out
                  obtain ⟨L, M, hL, hM, -⟩ := hTn
                  have WA := Lib.hid (fun t => waiting_c p _ L _ _ hL t)
                  have CK := Lib.hid (fun t => clock_c p _ L _ _ hL t)
                  have RWA := Lib.hid (fun t => rwaiting_c q _ M _ _ hM t)
                  have RCK := Lib.hid (fun t => rclock_c q _ M _ _ hM t)
                  have EW : Hid (∀ t, (cntL R'.l t : Int) = S'.waiting t) := fun t => (HI.out.sim.waiting t).symm
                  have EC : Hid (∀ t, R'.clock t = S'.clock t) := fun t => (HI.out.sim.clock t).symm
                  clear hL hM
                  go_wp2
                  go_loop [17] (fun s => ∃ j : Nat, j ≤ n + 2 ∧ s = .int .i64 ((j : Int) - 1)) (fun s => ((n : Int) + 1 - intOf s).toNat)
                  case atStart => exact ⟨0, by omega, rfl⟩
                  case round =>
                    obtain ⟨j, hj, rfl⟩ := hrel
                    by_cases hjn : j ≤ n + 1
                    · have hjz : (j : Int) - 1 ≤ (n : Int) := by omega
                      generalize hT : (j : Int) - 1 = T at *
                      have HTT := Lib.hid hT
                      clear hT
                      go_wp2_with fail
                      refine (WA.out _).mono ?_
                      rintro e w' ⟨rfl, rfl⟩
                      go_wp2_with fail
                      refine (RWA.out _).mono ?_
                      rintro e w' ⟨rfl, rfl⟩
                      rw [EW.out]
                      go_wp2_with fail
                      refine (CK.out _).mono ?_
                      rintro e w' ⟨rfl, rfl⟩
                      go_wp2_with fail
                      refine (RCK.out _).mono ?_
                      rintro e w' ⟨rfl, rfl⟩
                      rw [EC.out]
                      have hTl : -1 ≤ T := by have := HTT.out; omega
                      go_wp2
                      refine ⟨⟨j + 1, by omega, ?_⟩, ?_⟩
                      · rw [← HTT.out]; go_num
                      · simp only [intOf]; omega
                    · have hjz : ¬ (j : Int) - 1 ≤ (n : Int) := by omega
                      generalize hT : (j : Int) - 1 = T at *
                      clear hT
                      go_wp2
                      exact ⟨⟨k + 1, by omega, by omega, by go_num, Lib.hid ⟨S', R', HI.out, HN.out, HT.out.forget, HB.out⟩⟩, by simp [intOf]; omega⟩
          · obtain rfl : k = 200 := by omega
            obtain ⟨S, R, hI, hN, hT, hB⟩ := REL.out
            have HBX := Lib.hid hB
            clear hI hN hT hB
            go_wp2
            go_ret
            exact ⟨rfl, HBX.out⟩
        · have hkz : ¬ (k : Int) < (m : Int) := by omega
          obtain ⟨S, R, hI, hN, hT, hB⟩ := REL.out
          have HBX := Lib.hid hB
          clear hI hN hT hB
          go_wp2
          go_ret
          exact ⟨rfl, HBX.out⟩
end Go.Proofs.Ytdnkliapcnfcoaa.fair
