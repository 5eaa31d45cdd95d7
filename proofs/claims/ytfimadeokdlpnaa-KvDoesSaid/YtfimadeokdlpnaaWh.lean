/- The reference's sequences: Keep. -/
import Derived.Test.YtfimadeokdlpnaaWg
namespace Go.Proofs.Ytfimadeokdlpnaa.kv
open Go.ChangeShapes Go.WideShapes Go.ChangeAt Go.RowKit K
set_option linter.unusedVariables false
set_option linter.unusedSimpArgs false
/-- Where Keep stands. -/
structure RKAt (r rb : Nat) (S0 : List Pg) (c0 : Nat → Nat) (s : Nat) (own : Option Nat) (Q : Sq) (m : Int) (w wr : World) (S : List Pg) (c : Nat → Nat) (l : List Nat) (f : Nat) (v : Value) : Prop where
  pool : RP wr r rb S c
  foot : ∀ k, RF r rb S c k → RF r rb S0 c0 k ∨ w.heap.size ≤ k
  seq : RQ wr s r { Q with pages := l, first := f } v own
  apart : RApart r rb S c s own
  chg : Chg (GF r rb S0 c0 s own) w wr
  same : keepOf Q.per Q.len m S l f = keepOf Q.per Q.len m S0 Q.pages Q.first
  small : Small S
variable (s r rb : Nat) (S : List Pg) (c : Nat → Nat) (Q : Sq) (v : Value) (own : Option Nat) (w : World)
set_option maxHeartbeats 4000000 in
theorem rkeep_c (h : RQ w s r Q v own) (hp : RP w r rb S c) (ha : RApart r rb S c s own) (hS : Small S) (n m : Int) (hm : (0 ≤ n ∧ m = n) ∨ (n < 0 ∧ m = 0)) (hn : n ≤ 9223372036854775807) :
    Calls Try.prog 23 #[.pointer (some ⟨s, 0, none⟩), .int .i64 n] w
    (QPost r rb S c s own (keepOf Q.per Q.len m S Q.pages Q.first).1 { Q with pages := (keepOf Q.per Q.len m S Q.pages Q.first).2.1, first := (keepOf Q.per Q.len m S Q.pages Q.first).2.2 } w (.tuple #[])) := by
  have h5 := h.c5
  have hshort := h.short
  have hper := h.per_pos
  have K0 : Hid (RKAt r rb S c s own Q m w w S c Q.pages Q.first v) := ⟨hp, fun k hk => .inl hk, h, ha, Chg.refl _ _, rfl, hS⟩
  have hm0 : 0 ≤ m := by omega
  have hm1 : m ≤ 9223372036854775807 := by omega
  have hmx : (if n < 0 then 0 else n) = m := by split <;> omega
  have hmx' : (if 0 < n then n else 0) = m := by split <;> omega
  clear h hp ha hS
  go_enter Try.func23, Try.ntmps23
  go_wp2_with fail
  go_loopw [42] (fun _ wr => ∃ S' c' l f v', Hid (RKAt r rb S c s own Q m w wr S' c' l f v')) (fun _ wr => Q.len + 1 - cellInt wr ⟨s, 4, none⟩)
  case atStart => exact ⟨S, c, Q.pages, Q.first, v, K0⟩
  case round =>
    obtain ⟨S', c', l, f, v', HK⟩ := hrel
    have k0 := HK.out.seq.c0
    have k4 := HK.out.seq.c4
    have k5 := HK.out.seq.c5
    have k3 := HK.out.seq.head.cell 3 v' rfl
    have PE : Hid (∀ n, Calls Try.prog 44 #[.pointer (some ⟨s, 0, none⟩)] (wr.drewN n) fun e w' => e = .returned (.int .i64 Q.per) ∧ wr.drewN n = w') := fun n => rrows_c s r { Q with pages := l, first := f } v' own _ (HK.out.seq.drewN n)
    have hms : cellInt wr ⟨s, 4, none⟩ = f := by unfold cellInt; rw [k4]; simp [intOf]
    simp only at k4 k5
    have hrow := HK.out.seq.row
    simp only at hrow
    have hff := HK.out.seq.fl
    simp only at hff
    have wA : IntKind.i64.wrap ((f : Int) + (Q.per : Int)) = (f : Int) + (Q.per : Int) := by rw [IntKind.wrap_i64]; omega
    have wB : IntKind.i64.wrap ((f : Int) + (Q.per : Int) - 1) = (f : Int) + (Q.per : Int) - 1 := by rw [IntKind.wrap_i64]; omega
    have wC : IntKind.i64.wrap ((Q.len : Int) - m) = (Q.len : Int) - m := by rw [IntKind.wrap_i64]; omega
    have KEND : Hid (∀ j, keepOf Q.per Q.len m S' l f = (S', l, f) → QPost r rb S c s own (keepOf Q.per Q.len m S Q.pages Q.first).1 { Q with pages := (keepOf Q.per Q.len m S Q.pages Q.first).2.1, first := (keepOf Q.per Q.len m S Q.pages Q.first).2.2 } w (.tuple #[]) (.returned (.tuple #[])) (wr.drewN j)) := fun j e => by
      have e2 := HK.out.same
      rw [e] at e2
      rw [← e2]
      exact ⟨rfl, ⟨c', v', own, HK.out.pool.drewN _, HK.out.seq.drewN _, HK.out.apart, HK.out.foot, fun k hk => .inl hk⟩, Chg.drewR HK.out.chg _⟩
    cases l with
    | nil =>
      obtain ⟨a, cc, hv⟩ := hrow.form
      rw [hv] at k3
      simp only [List.length_nil] at k3
      have HV := Lib.hid hv
      clear hrow hv
      go_wp2
      go_quiet (fail)
      go_wp2
      go_end0
      exact KEND.out _ (by unfold keepOf; rfl)
    | cons g l =>
      obtain ⟨gb, off, cap, cs, e1, e2, e3, e4, e5, e6, e7⟩ := hrow.pos (by simp)
      rw [e1] at k3
      simp only [List.length_cons] at k3 e3
      have hlz : (0 : Int) < (l.length : Int) + 1 := by omega
      have hfew := HK.out.seq.few
      simp only [List.length_cons] at hfew
      by_cases hc1 : (f : Int) + Q.per ≤ Q.len
      · have hd1 : decide ((f : Int) + Q.per ≤ Q.len) = true := by simpa using hc1
        by_cases hc : (f : Int) + Q.per ≤ Q.len - m
        · have hd2 : decide ((f : Int) + Q.per - 1 < Q.len - m) = true := by simp; omega
          have hcell := e5.cell off (.int .i64 (g : Int)) (by have := e7 0 (by simp); simpa [encN] using this)
          have HE1 := Lib.hid e1
          have HE2 := Lib.hid e2
          have DR : Hid (∀ j, Calls Try.prog 43 #[.pointer (some ⟨r, 0, none⟩), .int .i64 (g : Int)] (wr.drewN j) (RPost r rb S' c' (drop1 S' g) (wr.drewN j) (.int .i64 (errOf S' g)))) := fun j => rdrop_c r rb S' c' _ (HK.out.pool.drewN j) HK.out.small g
          generalize errOf S' (g : Int) = er at DR
          have hsl := HK.out.seq.head.lt
          have HROW := Lib.hid hrow
          have hgb := e5.lt
          obtain ⟨f2, hA⟩ : ∃ f2, (if cap = 1 then some (⟨gb, off, none⟩ : Addr) else some ⟨gb, off + 1, none⟩) = some ⟨gb, f2, none⟩ := by
            split
            · exact ⟨_, rfl⟩
            · exact ⟨_, rfl⟩
          clear hrow e1 e2 e5 e6 e7 KEND
          go_wp2
          go_quiet ((go_at_call 44; exact Calls.quiet_of_same ((PE.out _).mono (fun e w' h => ⟨h.1, h.2.symm⟩))))
          go_wp2_with fail
          go_region_held3 (fun w' => w'.cell? ⟨s, 0, none⟩ = some (.pointer (some ⟨r, 0, none⟩)) ∧ w'.cell? ⟨s, 3, none⟩ = some (.slice (some ⟨gb, off, none⟩) (l.length + 1) cap) ∧ w'.cell? ⟨gb, off, none⟩ = some (.int .i64 (g : Int))) (first | exact ⟨by assumption, by assumption, by assumption⟩ | go_keep)
            ((go_at_call 43; (with_reducible refine (DR.out _).mono ?_); rintro e w1 ⟨rfl, ⟨c2, hR, hFt⟩, hC⟩; have HR := Lib.hid hR; have HFT : Hid (∀ k, RF r rb (drop1 S' g) c2 k → RF r rb S' c' k ∨ wr.heap.size ≤ k) := hFt; have HC := Lib.hid ((chg_drewN _ wr _).trans hC (fun k hk => .inl hk)); have HS := Lib.hid ((HK.out.seq.drewN _).chg hC HK.out.apart.s HK.out.apart.o); have j0 := HS.out.c0; have j3 : w1.cell? ⟨s, 3, none⟩ = some (.slice (some ⟨gb, off, none⟩) (l.length + 1) cap) := (HS.out.head.cell 3 v' rfl).trans (congrArg some HE1.out); have jc : w1.cell? ⟨gb, off, none⟩ = some (.int .i64 (g : Int)) := (World.cell?_of_block (HC.out.block gb hgb (HK.out.apart.o gb HE2.out))).trans hcell; clear hR hC hFt))
          have hwz := HK.out.chg.size
          have HAP : Hid (RApart r rb (drop1 S' g) c2 s own) := ⟨fun e => (HFT.out _ e).elim HK.out.apart.s (fun e => by omega), fun k hk e => (HFT.out _ e).elim (HK.out.apart.o k hk) (fun e => by have := HK.out.seq.row.lt k hk; omega)⟩
          have j4 := HS.out.c4
          have j2 := HS.out.c2
          simp only at j4 j2
          have jf3 := HS.out.head.free 3
          have jf4 := HS.out.head.free 4
          have hcz : (1 : Int) ≤ (cap : Int) := by omega
          have hwd := HS.out.wd
          simp only at hwd
          have PE2 : Hid (∀ wx, wx.cell? ⟨s, 2, none⟩ = some (.int .i64 Q.width) → Calls Try.prog 44 #[.pointer (some ⟨s, 0, none⟩)] wx fun e w' => e = .returned (.int .i64 Q.per) ∧ wx = w') := fun wx hx => rrows_w s wx Q.width hx hwd
          go_wp2
          have hss := HS.out.head
          have HB2 : Bk (w1.setCell ⟨s, 3, none⟩ (.slice (some ⟨gb, f2, none⟩) l.length (cap - 1))) s #[.pointer (some ⟨r, 0, none⟩), .string Q.tag, .int .i64 (Q.width : Int), .slice (some ⟨gb, f2, none⟩) l.length (cap - 1), .int .i64 (f : Int), .int .i64 (Q.len : Int)] 56 := hss.set 3 _
          have hcd : Chg (fun k => k = s) w1 (w1.setCell ⟨s, 3, none⟩ (.slice (some ⟨gb, f2, none⟩) l.length (cap - 1))) := (Chg.refl (fun k => k = s) w1).setCell _ _ (.inl rfl)
          have HR2 := Lib.hid (HR.out.chg hcd (fun k hk e => HAP.out.s (e ▸ hk)))
          have hrow2 : Row (w1.setCell ⟨s, 3, none⟩ (.slice (some ⟨gb, f2, none⟩) l.length (cap - 1))) 3 1 (.slice (some ⟨gb, f2, none⟩) l.length (cap - 1)) own l.length (encN l) := by
            have h1 : Row w1 3 1 v' own (l.length + 1) (.int .i64 (g : Int) :: encN l) := HS.out.row
            rw [HE1.out] at h1
            exact (row_tail h1 hA).keep fun k hk => hcd.block k (HS.out.row.lt k hk) (fun e => HS.out.ne (by rw [hk, e]))
          have HCW : Hid (Chg (GF r rb S c s own) w (w1.setCell ⟨s, 3, none⟩ (.slice (some ⟨gb, f2, none⟩) l.length (cap - 1)))) :=
            (HK.out.chg.trans HC.out (fun k e => (HK.out.foot k e).elim (fun e => .inl (.inl e)) .inr)).trans hcd (fun k e => .inl (.inr (.inl e)))
          have HRW2 := Lib.hid hrow2
          have HBB2 := Lib.hid HB2
          have HFT2 : Hid (∀ k, RF r rb (drop1 S' g) c2 k → RF r rb S c k ∨ w.heap.size ≤ k) := fun k hk => (HFT.out k hk).elim (fun e => HK.out.foot k e) (fun e => .inr (by omega))
          clear hrow2 hcd hss HB2 HR HC jf3 jf4 j0 j2 j3 j4 jc
          generalize w1.setCell ⟨s, 3, none⟩ (.slice (some ⟨gb, f2, none⟩) l.length (cap - 1)) = W2 at *
          have q4 := HBB2.out.cell 4 (.int .i64 (f : Int)) rfl
          have q2 := HBB2.out.cell 2 (.int .i64 (Q.width : Int)) rfl
          have qf := HBB2.out.free 4
          clear k0 k3 k4 k5 hcell
          have PE3 := Lib.hid (PE2.out W2.drew q2)
          have KN : Hid (RKAt r rb S c s own Q m w (W2.setCell ⟨s, 4, none⟩ (.int .i64 ((f : Int) + (Q.per : Int)))).drew (drop1 S' g) c2 l (f + Q.per) (.slice (some ⟨gb, f2, none⟩) l.length (cap - 1))) := by
            have hcd : Chg (fun k => k = s) W2 (W2.setCell ⟨s, 4, none⟩ (.int .i64 ((f : Int) + (Q.per : Int)))).drew := ((Chg.refl (fun k => k = s) W2).setCell _ _ (.inl rfl)).drew
            refine ⟨HR2.out.chg hcd (fun k hk e => HAP.out.s (e ▸ hk)), HFT2.out, ⟨(HBB2.out.set 4 _).drew, HRW2.out.chg hcd (fun k hk e => HK.out.seq.ne (by rw [hk, e])), HK.out.seq.ne, hwd, HK.out.seq.tg, ?_, hshort, ?_, ?_⟩, HAP.out, HCW.out.trans hcd (fun k e => .inl (.inr (.inl e))), ?_, HK.out.small.drop1 g⟩
            · show f + Q.per ≤ Q.len
              omega
            · show l.length ≤ 1000
              omega
            · show Q.len - (f + Q.per) ≤ l.length * Q.per
              have h1 : Q.len - f ≤ (l.length + 1) * Q.per := HK.out.seq.fit
              rw [Nat.add_mul] at h1
              omega
            · have e : (if (f : Int) + Q.per ≤ Q.len - m then keepOf Q.per Q.len m (drop1 S' g) l (f + Q.per) else (S', g :: l, f)) = keepOf Q.per Q.len m S Q.pages Q.first := HK.out.same
              rw [if_pos hc] at e
              exact e
          have HM : Hid (cellInt (W2.setCell ⟨s, 4, none⟩ (.int .i64 ((f : Int) + (Q.per : Int)))).drew ⟨s, 4, none⟩ = f + Q.per) := by
            show _ = _
            unfold cellInt
            rw [(HBB2.out.set 4 _).drew.cell 4 (.int .i64 ((f : Int) + (Q.per : Int))) rfl]
            simp only [intOf]
            omega
          go_region_with ((go_at_call 44; (with_reducible refine PE3.out.mono ?_); rintro e w' ⟨rfl, rfl⟩))
          all_goals
            go_wp2
            try rw [hwr]
            exact ⟨⟨_, _, _, _, _, KN⟩, by rw [HM.out, hms]; omega⟩
        · have hd2 : decide ((f : Int) + Q.per - 1 < Q.len - m) = false := by simp; omega
          clear hrow e1 e2 e5 e6 e7
          go_wp2
          go_quiet ((go_at_call 44; exact Calls.quiet_of_same ((PE.out _).mono (fun e w' h => ⟨h.1, h.2.symm⟩))))
          go_wp2
          go_end0
          exact KEND.out _ (by unfold keepOf; rw [if_neg (by omega)])
      · have hd1 : decide ((f : Int) + Q.per ≤ Q.len) = false := by simp; omega
        clear hrow e1 e2 e5 e6 e7
        go_wp2
        go_quiet ((go_at_call 44; exact Calls.quiet_of_same ((PE.out _).mono (fun e w' h => ⟨h.1, h.2.symm⟩))))
        go_wp2
        go_end0
        exact KEND.out _ (by unfold keepOf; rw [if_neg (by omega)])
end Go.Proofs.Ytfimadeokdlpnaa.kv
