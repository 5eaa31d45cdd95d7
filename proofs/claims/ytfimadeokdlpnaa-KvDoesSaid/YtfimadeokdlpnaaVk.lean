/- A sequence: Keep. -/
import Derived.Test.YtfimadeokdlpnaaVf
import Derived.Deep.RegionWith
namespace Go.Proofs.Ytfimadeokdlpnaa.kv
open Go.ChangeShapes Go.WideShapes Go.ChangeAt Go.RowKit K
set_option linter.unusedVariables false
set_option linter.unusedSimpArgs false
variable (s p b : Nat) (S : List Pg) (Q : Sq) (v : Value) (own : Option Nat) (w : World)
/-- What is let go of: pages, and the first row; m: how many of the last rows are held. -/
def keepOf (per len : Nat) (m : Int) : List Pg → List Nat → Nat → List Pg × List Nat × Nat
  | S, [], f => (S, [], f)
  | S, g :: l, f => if (f : Int) + per ≤ len - m then keepOf per len m (drop1 S g) l (f + per) else (S, g :: l, f)
theorem row_tail {w : World} {t : TypeId} {g off f n cap : Nat} {own : Option Nat} {x : Value} {xs : List Value} (h : Row w t 1 (.slice (some ⟨g, off, none⟩) (n + 1) cap) own (n + 1) (x :: xs))
    (hf : (if cap = 1 then some (⟨g, off, none⟩ : Addr) else some ⟨g, off + 1, none⟩) = some ⟨g, f, none⟩) : Row w t 1 (.slice (some ⟨g, f, none⟩) n (cap - 1)) own n xs := by
  obtain ⟨g', off', cap', cs, e1, e2, e3, e4, e5, e6, e7⟩ := h.pos (by omega)
  cases e1
  have hl := h.1
  simp only [List.length_cons] at hl
  refine ⟨by omega, .inr ⟨g, f, cap - 1, cs, rfl, e2, by omega, by omega, e5, ?_, fun j hj => ?_⟩⟩
  · split at hf <;> · cases hf; omega
  · split at hf
    · omega
    · cases hf
      rw [Nat.add_assoc, Nat.add_comm 1 j, e7 (j + 1) (by omega)]
      rfl
def cellInt (w : World) (a : Addr) : Nat := match w.cell? a with | some x => (intOf x).toNat | none => 0
/-- Where Keep stands. -/
structure KAt (p b s : Nat) (own : Option Nat) (S0 : List Pg) (Q : Sq) (m : Int) (w wr : World) (S : List Pg) (l : List Nat) (f : Nat) (v : Value) : Prop where
  pool : PR wr p b S
  seq : SR wr s p { Q with pages := l, first := f } v own
  chg : Chg (Foot p b s own) w wr
  same : keepOf Q.per Q.len m S l f = keepOf Q.per Q.len m S0 Q.pages Q.first
  small : Small S
theorem per_w (W : Nat) (h5 : w.cell? ⟨s, 2, none⟩ = some (.int .i64 W)) (h1 : 1 ≤ W ∧ W ≤ 32) : Calls Try.prog 47 #[.pointer (some ⟨s, 0, none⟩)] w fun e w' => e = .returned (.int .i64 ((32 / W : Nat) : Int)) ∧ w = w' := by
  have hz : ((W : Int) == 0) = false := by rw [beq_eq_false_iff_ne]; omega
  have hp : (32 : Int) / (W : Int) = ((32 / W : Nat) : Int) := rfl
  have h2 : 32 / W ≤ 32 := Nat.div_le_self _ _
  generalize 32 / W = P at *
  go_enter Try.func47, Try.ntmps47
  go_wp2
  go_ret
  exact ⟨ret_int hp, rfl⟩
set_option maxHeartbeats 2000000 in
theorem keep_c (h : SR w s p Q v own) (hp : PR w p b S) (ha : Apart p b s own) (hS : Small S) (n m : Int) (hm : (0 ≤ n ∧ m = n) ∨ (n < 0 ∧ m = 0)) (hn : n ≤ 9223372036854775807) :
    Calls Try.prog 22 #[.pointer (some ⟨s, 0, none⟩), .int .i64 n] w
    (KPost p b s own (keepOf Q.per Q.len m S Q.pages Q.first).1 { Q with pages := (keepOf Q.per Q.len m S Q.pages Q.first).2.1, first := (keepOf Q.per Q.len m S Q.pages Q.first).2.2 } w (.tuple #[])) := by
  have h5 := h.c5
  have hshort := h.short
  have hper := h.per_pos
  have HA := Lib.hid ha
  have K0 : Hid (KAt p b s own S Q m w w S Q.pages Q.first v) := ⟨hp, h, Chg.refl _ _, rfl, hS⟩
  have hm0 : 0 ≤ m := by omega
  have hm1 : m ≤ 9223372036854775807 := by omega
  have hmx : (if n < 0 then 0 else n) = m := by split <;> omega
  have hmx' : (if 0 < n then n else 0) = m := by split <;> omega
  clear h hp ha hS
  go_enter Try.func22, Try.ntmps22
  go_wp2_with fail
  go_loopw [12] (fun _ wr => ∃ S' l f v', Hid (KAt p b s own S Q m w wr S' l f v')) (fun _ wr => Q.len + 1 - cellInt wr ⟨s, 4, none⟩)
  case atStart => exact ⟨S, Q.pages, Q.first, v, K0⟩
  case round =>
    obtain ⟨S', l, f, v', HK⟩ := hrel
    have k0 := HK.out.seq.c0
    have k4 := HK.out.seq.c4
    have k5 := HK.out.seq.c5
    have k3 := HK.out.seq.head.cell 3 v' rfl
    have PE : Hid (∀ n, Calls Try.prog 47 #[.pointer (some ⟨s, 0, none⟩)] (wr.drewN n) fun e w' => e = .returned (.int .i64 Q.per) ∧ wr.drewN n = w') := fun n => per_c s p { Q with pages := l, first := f } v' own _ (HK.out.seq.drewN n)
    have hms : cellInt wr ⟨s, 4, none⟩ = f := by unfold cellInt; rw [k4]; simp [intOf]
    simp only at k4 k5
    have hrow := HK.out.seq.row
    simp only at hrow
    have hff := HK.out.seq.fl
    simp only at hff
    cases l with
    | nil =>
      obtain ⟨a, c, hv⟩ := hrow.form
      rw [hv] at k3
      simp only [List.length_nil] at k3
      have HV := Lib.hid hv
      clear hrow hv
      go_wp2
      go_quiet (fail)
      go_wp2
      go_end0
      have e : (S', [], f) = keepOf Q.per Q.len m S Q.pages Q.first := HK.out.same
      rw [← e]
      exact ⟨rfl, HK.out.pool.drewN _, ⟨v', own, HK.out.seq.drewN _, fun k hk => .inl hk⟩, Chg.drewN' HK.out.chg _⟩
    | cons g l =>
      obtain ⟨gb, off, cap, cs, e1, e2, e3, e4, e5, e6, e7⟩ := hrow.pos (by simp)
      rw [e1] at k3
      simp only [List.length_cons] at k3 e3
      have hlz : (0 : Int) < (l.length : Int) + 1 := by omega
      have hmin : (if (Q.len : Int) < (Q.len : Int) - m then (Q.len : Int) else (Q.len : Int) - m) = (Q.len : Int) - m := if_neg (by omega)
      have hfew := HK.out.seq.few
      simp only [List.length_cons] at hfew
      by_cases hc : (f : Int) + Q.per ≤ Q.len - m
      · have hcell := e5.cell off (.int .i64 (g : Int)) (by have := e7 0 (by simp); simpa [encN] using this)
        have hd : decide ((f : Int) + Q.per ≤ Q.len - m) = true := by simpa using hc
        have HE1 := Lib.hid e1
        have HE2 := Lib.hid e2
        have DR : Hid (∀ wx, PR wx p b S' → Calls Try.prog 48 #[.pointer (some ⟨p, 0, none⟩), .int .i64 (g : Int)] wx (PPost p b (drop1 S' g) wx (.int .i64 (errOf S' g)))) := fun wx hx => drop_c p b S' wx hx g HK.out.small
        generalize errOf S' (g : Int) = er at DR
        have hsl := HK.out.seq.head.lt
        have HROW := Lib.hid hrow
        have hgb := e5.lt
        obtain ⟨f2, hA⟩ : ∃ f2, (if cap = 1 then some (⟨gb, off, none⟩ : Addr) else some ⟨gb, off + 1, none⟩) = some ⟨gb, f2, none⟩ := by
          split
          · exact ⟨_, rfl⟩
          · exact ⟨_, rfl⟩
        clear hrow e1 e2 e5 e6 e7
        go_wp2
        go_quiet ((go_at_call 47; exact Calls.quiet_of_same ((PE.out _).mono (fun e w' h => ⟨h.1, h.2.symm⟩))))
        go_wp2_with fail
        go_region_held3 (fun w' => w'.cell? ⟨s, 0, none⟩ = some (.pointer (some ⟨p, 0, none⟩)) ∧ w'.cell? ⟨s, 3, none⟩ = some (.slice (some ⟨gb, off, none⟩) (l.length + 1) cap) ∧ w'.cell? ⟨gb, off, none⟩ = some (.int .i64 (g : Int))) (first | exact ⟨by assumption, by assumption, by assumption⟩ | go_keep) ((go_at_call 48; (with_reducible refine (DR.out _ (HK.out.pool.drewN _)).mono ?_); rintro e w1 ⟨rfl, hR, hC⟩; have HR := Lib.hid hR; have HC := Lib.hid ((chg_drewN _ wr _).trans hC (fun k hk => .inl hk)); have HS := Lib.hid ((HK.out.seq.drewN _).chg hC (fun e => e.elim HA.out.sp HA.out.sb) (fun k hk e => e.elim (fun e => HA.out.op (by rw [hk, e])) (fun e => HA.out.ob (by rw [hk, e])))); have j0 := HS.out.c0; have j3 : w1.cell? ⟨s, 3, none⟩ = some (.slice (some ⟨gb, off, none⟩) (l.length + 1) cap) := (HS.out.head.cell 3 v' rfl).trans (congrArg some HE1.out); have jc : w1.cell? ⟨gb, off, none⟩ = some (.int .i64 (g : Int)) := (World.cell?_of_block (HC.out.block gb hgb (fun e => e.elim (fun e => HA.out.op (by rw [HE2.out, e])) (fun e => HA.out.ob (by rw [HE2.out, e]))))).trans hcell; clear hR hC))
        have j4 := HS.out.c4
        have j2 := HS.out.c2
        simp only at j4 j2
        have jf3 := HS.out.head.free 3
        have jf4 := HS.out.head.free 4
        have hcz : (1 : Int) ≤ (cap : Int) := by omega
        have hwd := HS.out.wd
        simp only at hwd
        have PE2 : Hid (∀ wx, wx.cell? ⟨s, 2, none⟩ = some (.int .i64 Q.width) → Calls Try.prog 47 #[.pointer (some ⟨s, 0, none⟩)] wx fun e w' => e = .returned (.int .i64 Q.per) ∧ wx = w') := fun wx hx => per_w s wx Q.width hx hwd
        go_wp2
        have hss := HS.out.head
        have HB2 : Bk (w1.setCell ⟨s, 3, none⟩ (.slice (some ⟨gb, f2, none⟩) l.length (cap - 1))) s #[.pointer (some ⟨p, 0, none⟩), .string Q.tag, .int .i64 (Q.width : Int), .slice (some ⟨gb, f2, none⟩) l.length (cap - 1), .int .i64 (f : Int), .int .i64 (Q.len : Int)] 69 := hss.set 3 _
        have hcd : Chg (fun k => k = s) w1 (w1.setCell ⟨s, 3, none⟩ (.slice (some ⟨gb, f2, none⟩) l.length (cap - 1))) := (Chg.refl (fun k => k = s) w1).setCell _ _ (.inl rfl)
        have HR2 := Lib.hid (HR.out.chg hcd (fun e => HA.out.sp e.symm) (fun e => HA.out.sb e.symm))
        have hrow2 : Row (w1.setCell ⟨s, 3, none⟩ (.slice (some ⟨gb, f2, none⟩) l.length (cap - 1))) 3 1 (.slice (some ⟨gb, f2, none⟩) l.length (cap - 1)) own l.length (encN l) := by
          have h1 : Row w1 3 1 v' own (l.length + 1) (.int .i64 (g : Int) :: encN l) := HS.out.row
          rw [HE1.out] at h1
          exact (row_tail h1 hA).keep fun k hk => hcd.block k (HS.out.row.lt k hk) (fun e => HS.out.ne (by rw [hk, e]))
        have HCW : Hid (Chg (Foot p b s own) w (w1.setCell ⟨s, 3, none⟩ (.slice (some ⟨gb, f2, none⟩) l.length (cap - 1)))) :=
          (HK.out.chg.trans HC.out (fun k e => .inl (e.elim .inl (fun e => .inr (.inl e))))).trans hcd (fun k e => .inl (.inr (.inr (.inl e))))
        have HRW2 := Lib.hid hrow2
        have HBB2 := Lib.hid HB2
        clear hrow2 hcd hss HB2 HR HC jf3 jf4 j0 j2 j3 j4 jc
        generalize w1.setCell ⟨s, 3, none⟩ (.slice (some ⟨gb, f2, none⟩) l.length (cap - 1)) = W2 at *
        have q4 := HBB2.out.cell 4 (.int .i64 (f : Int)) rfl
        have q2 := HBB2.out.cell 2 (.int .i64 (Q.width : Int)) rfl
        have qf := HBB2.out.free 4
        clear k0 k3 k4 k5 hcell
        have PE3 := Lib.hid (PE2.out W2.drew q2)
        have hwr : IntKind.i64.wrap ((f : Int) + (Q.per : Int)) = (f : Int) + (Q.per : Int) := by rw [IntKind.wrap_i64]; omega
        have KN : Hid (KAt p b s own S Q m w (W2.setCell ⟨s, 4, none⟩ (.int .i64 ((f : Int) + (Q.per : Int)))).drew (drop1 S' g) l (f + Q.per) (.slice (some ⟨gb, f2, none⟩) l.length (cap - 1))) := by
          have hcd : Chg (fun k => k = s) W2 (W2.setCell ⟨s, 4, none⟩ (.int .i64 ((f : Int) + (Q.per : Int)))).drew := ((Chg.refl (fun k => k = s) W2).setCell _ _ (.inl rfl)).drew
          refine ⟨HR2.out.chg hcd (fun e => HA.out.sp e.symm) (fun e => HA.out.sb e.symm), ⟨(HBB2.out.set 4 _).drew, HRW2.out.chg hcd (fun k hk e => HK.out.seq.ne (by rw [hk, e])), HK.out.seq.ne, hwd, HK.out.seq.tg, ?_, hshort, ?_, ?_⟩, HCW.out.trans hcd (fun k e => .inl (.inr (.inr (.inl e)))), ?_, HK.out.small.drop1 g⟩
          · show f + Q.per ≤ Q.len
            omega
          · show l.length ≤ 1000
            omega
          · show Q.len - (f + Q.per) ≤ l.length * Q.per
            have h1 : Q.len - f ≤ (l.length + 1) * Q.per := HK.out.seq.fit
            rw [Nat.add_mul] at h1
            omega
          · have e : (if (f : Int) + Q.per ≤ Q.len - m then keepOf Q.per Q.len m (drop1 S' g) l (f + Q.per) else (S', g :: l, f)) = keepOf Q.per Q.len m S Q.pages Q.first := HK.out.same
            rw [if_pos hc] at e
            exact e
        have HM : Hid (cellInt (W2.setCell ⟨s, 4, none⟩ (.int .i64 ((f : Int) + (Q.per : Int)))).drew ⟨s, 4, none⟩ = f + Q.per) := by
          show _ = _
          unfold cellInt
          rw [(HBB2.out.set 4 _).drew.cell 4 (.int .i64 ((f : Int) + (Q.per : Int))) rfl]
          simp only [intOf]
          omega
        go_region_with ((go_at_call 47; (with_reducible refine PE3.out.mono ?_); rintro e w' ⟨rfl, rfl⟩))
        all_goals
          go_wp2
          try rw [hwr]
          exact ⟨⟨_, _, _, _, KN⟩, by rw [HM.out, hms]; omega⟩
      · have hd : decide ((f : Int) + Q.per ≤ Q.len - m) = false := by simpa using hc
        clear hrow e1 e2 e5 e6 e7
        go_wp2
        go_quiet ((go_at_call 47; exact Calls.quiet_of_same ((PE.out _).mono (fun e w' h => ⟨h.1, h.2.symm⟩))))
        go_wp2
        go_end0
        have e : (if (f : Int) + Q.per ≤ Q.len - m then keepOf Q.per Q.len m (drop1 S' g) l (f + Q.per) else (S', g :: l, f)) = keepOf Q.per Q.len m S Q.pages Q.first := HK.out.same
        rw [if_neg (by omega)] at e
        rw [← e]
        exact ⟨rfl, HK.out.pool.drewN _, ⟨v', own, HK.out.seq.drewN _, fun k hk => .inl hk⟩, Chg.drewN' HK.out.chg _⟩
end Go.Proofs.Ytfimadeokdlpnaa.kv
