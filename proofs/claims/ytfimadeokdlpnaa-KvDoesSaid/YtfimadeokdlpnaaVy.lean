/- A sequence: Append. -/
import Derived.Test.YtfimadeokdlpnaaVx
namespace Go.Proofs.Ytfimadeokdlpnaa.kv
open Go.ChangeShapes Go.WideShapes Go.ChangeAt Go.RowKit K
set_option linter.unusedVariables false
set_option linter.unusedSimpArgs false
variable (s p b : Nat) (S : List Pg) (Q : Sq) (v : Value) (own : Option Nat) (w : World)
def roomOf (S : List Pg) (Q : Sq) : Option (List Pg × Sq) :=
  if needOf S Q = 0 then some (S, Q) else if freeOf S = 0 then none
  else if Q.isOpen then some (drop1 (copyTo (take1 S Q.tag) Q.last (ff S) 32) Q.last, { Q with pages := Q.pages.set (Q.pages.length - 1) (ff S) })
  else some (take1 S Q.tag, { Q with pages := Q.pages ++ [ff S] })
theorem KPost.quiet {s p b : Nat} {S : List Pg} {Q : Sq} {v : Value} {own : Option Nat} {w : World} {r : Value} {e : Ending} (h : SR w s p Q v own) (hp : PR w p b S) (he : e = .returned r) (m : Nat) : KPost p b s own S Q w r e (w.drewN m) :=
  ⟨he, hp.drewN m, ⟨v, own, h.drewN m, fun k hk => .inl hk⟩, chg_drewN _ _ _⟩
theorem room_ok (h : SR w s p Q v own) (hp : PR w p b S) (ha : Apart p b s own) (hS : Small S) (hlen : Q.len < 1000) (S' : List Pg) (Q' : Sq) (hr : roomOf S Q = some (S', Q')) :
    Calls Try.prog 34 #[.pointer (some ⟨s, 0, none⟩)] w (KPost p b s own S' Q' w (.int .i64 0)) := by
  unfold roomOf at hr
  split at hr
  next hn =>
    cases hr
    refine (room_none s p b S Q v own w h hp hn).mono ?_
    rintro e w' ⟨he, m, rfl⟩
    exact KPost.quiet h hp he m
  next hn =>
    have hn1 : needOf S Q = 1 := (needOf_le S Q).resolve_left hn
    split at hr
    · cases hr
    next hf =>
      split at hr
      next ho => obtain ⟨rfl, rfl⟩ := Prod.mk.inj (Option.some.inj hr); exact room_copy s p b S Q v own w h hp ha ho hn1 (by omega) hS
      next ho => obtain ⟨rfl, rfl⟩ := Prod.mk.inj (Option.some.inj hr); exact room_new s p b S Q v own w h hp ha (by simpa using ho) (by omega) hlen
theorem room_no (h : SR w s p Q v own) (hp : PR w p b S) (hr : roomOf S Q = none) :
    Calls Try.prog 34 #[.pointer (some ⟨s, 0, none⟩)] w fun e w' => e = .returned (.int .i64 6) ∧ Below w.heap.size w w' := by
  unfold roomOf at hr
  split at hr
  · cases hr
  next hn =>
    have hn1 : needOf S Q = 1 := (needOf_le S Q).resolve_left hn
    split at hr
    next hf => exact room_full s p b S Q v own w h hp hn1 hf
    next hf => split at hr <;> cases hr
/-- What room leaves of a sequence. -/
theorem roomOf_seq {S : List Pg} {Q : Sq} {S' : List Pg} {Q' : Sq} (hr : roomOf S Q = some (S', Q')) (hfit : Q.len - Q.first ≤ Q.pages.length * Q.per) (hper : 1 ≤ Q.per) :
    (∃ l, Q' = { Q with pages := l }) ∧ Q.len - Q.first < Q'.pages.length * Q.per := by
  unfold roomOf at hr
  split at hr
  next hn =>
    cases hr
    refine ⟨⟨_, rfl⟩, ?_⟩
    have ho : Q.isOpen = true := by
      unfold needOf at hn
      split at hn
      next e => simp only [Bool.and_eq_true] at e; exact e.1
      next => cases hn
    unfold Sq.isOpen at ho
    simpa using ho
  next hn =>
    split at hr
    · cases hr
    next hf =>
      split at hr
      next ho =>
        obtain ⟨rfl, rfl⟩ := Prod.mk.inj (Option.some.inj hr)
        unfold Sq.isOpen at ho
        exact ⟨⟨_, rfl⟩, by simpa using ho⟩
      next ho =>
        obtain ⟨rfl, rfl⟩ := Prod.mk.inj (Option.some.inj hr)
        refine ⟨⟨_, rfl⟩, ?_⟩
        show _ < (Q.pages ++ [ff S]).length * Q.per
        rw [List.length_append, List.length_singleton, Nat.add_mul]
        omega
def putRow (S : List Pg) (pg c : Nat) (xs : List Int) : Nat → List Pg
  | 0 => S
  | k + 1 => put1 (putRow S pg c xs k) pg (c + k) (xs.getD k 0)
def appendOf (S : List Pg) (Q : Sq) (xs : List Int) : Option (List Pg × Sq) :=
  match roomOf S Q with
  | none => none
  | some (S', Q') => some (putRow S' (Q'.page Q.len) (Q'.cell Q.len) xs Q.width, { Q' with len := Q.len + 1 })
theorem append_shape (h : SR w s p Q v own) (a : Option Addr) (n c : Nat) (hn : n ≠ Q.width) : Calls Try.prog 11 #[.pointer (some ⟨s, 0, none⟩), .slice a n c] w fun e w' => e = .returned (.int .i64 21) ∧ w = w' := by
  have h2 := h.c2
  have hz : ((n : Int) == (Q.width : Int)) = false := by rw [beq_eq_false_iff_ne]; omega
  have hz2 : ¬ (n = Q.width) := hn
  clear h
  generalize Q.width = W at *
  go_enter Try.func11, Try.ntmps11
  go_wp2
  go_ret
  exact ⟨rfl, rfl⟩
theorem append_no (h : SR w s p Q v own) (hp : PR w p b S) (hr : roomOf S Q = none) (a : Option Addr) (c : Nat) : Calls Try.prog 11 #[.pointer (some ⟨s, 0, none⟩), .slice a Q.width c] w fun e w' => e = .returned (.int .i64 6) ∧ Below w.heap.size w w' := by
  have RM := Lib.hid (room_no s p b S Q v own w h hp hr)
  have h2 := h.c2
  clear h hp hr
  generalize Q.width = W at *
  go_enter Try.func11, Try.ntmps11
  go_wp2_with fail
  refine RM.out.mono ?_
  rintro e w' ⟨rfl, hb⟩
  have HB := Lib.hid hb
  clear hb
  go_wp2
  go_ret
  exact ⟨rfl, HB.out⟩
/-- A row's numbers, as an argument. -/
structure Args (w : World) (rb ro : Nat) (xs : List Int) : Prop where
  lt : rb < w.heap.size
  cell : ∀ k x, xs[k]? = some x → w.cell? ⟨rb, ro + k, none⟩ = some (.int .i64 x)
theorem Args.chg {F : Nat → Prop} {w w' : World} {rb ro : Nat} {xs : List Int} (h : Args w rb ro xs) (hc : Chg F w w') (hF : ¬ F rb) : Args w' rb ro xs :=
  ⟨Nat.lt_of_lt_of_le h.lt hc.size, fun k x hx => (World.cell?_of_block (hc.block rb h.lt hF)).trans (h.cell k x hx)⟩
set_option maxHeartbeats 1000000 in
theorem append_ok (h : SR w s p Q v own) (hp : PR w p b S) (ha : Apart p b s own) (hS : Small S) (hlen : Q.len < 1000) (S' : List Pg) (Q' : Sq) (hr : roomOf S Q = some (S', Q')) (rb ro c : Nat) (xs : List Int) (hx : Args w rb ro xs) (hxl : xs.length = Q.width) (hF : ¬ Foot p b s own rb) :
    Calls Try.prog 11 #[.pointer (some ⟨s, 0, none⟩), .slice (some ⟨rb, ro, none⟩) Q.width c] w (KPost p b s own (putRow S' (Q'.page Q.len) (Q'.cell Q.len) xs Q.width) { Q' with len := Q.len + 1 } w (.int .i64 0)) := by
  have RM := Lib.hid (room_ok s p b S Q v own w h hp ha hS hlen S' Q' hr)
  obtain ⟨⟨l, hq⟩, hlt⟩ := roomOf_seq hr h.fit h.per_pos.1
  have h2 := h.c2
  have hwd := h.wd
  have H := Lib.hid h
  have HX := Lib.hid hx
  have HA := Lib.hid ha
  have HF := Lib.hid hF
  have HLT := Lib.hid hlt
  have HQ := Lib.hid hq
  have HXL := Lib.hid hxl
  have hplt := hp.head.lt
  have hblt := hp.lt
  clear h hp hr hx ha hF hlt hq hxl
  go_enter Try.func11, Try.ntmps11
  go_wp2_with fail
  refine RM.out.mono ?_
  rintro e w1 ⟨rfl, hR, ⟨v', own', hSR, hown⟩, hC⟩
  have HR := Lib.hid hR
  have HS := Lib.hid hSR
  have HO := Lib.hid hown
  have HC := Lib.hid hC
  clear hR hSR hown hC
  have e1 : Q'.width = Q.width := by rw [HQ.out]
  have e2 : Q'.first = Q.first := by rw [HQ.out]
  have e3 : Q'.len = Q.len := by rw [HQ.out]
  have e4 : Q'.per = Q.per := by unfold Sq.per; rw [e1]
  have hfl := H.out.fl
  have hpl : Q'.pages[(Q'.len - Q'.first) / Q'.per]? = some (Q'.page Q'.len) := by
    have hp := H.out.per_pos
    have hlt := HLT.out
    have : (Q'.len - Q'.first) / Q'.per < Q'.pages.length := by
      rw [e2, e3, e4]
      exact (Nat.div_lt_iff_lt_mul (by omega)).2 hlt
    unfold Sq.page
    rw [List.getElem?_eq_getElem this]; rfl
  have AT := Lib.hid (at_c s p Q' v' own' w1 HS.out Q'.len (Q'.page Q'.len) (by omega) (by omega) hpl)
  rw [show ((Q'.len - Q'.first) % Q'.per * Q'.width : Nat) = Q'.cell Q'.len from rfl] at AT
  have hwd' : 1 ≤ Q'.width ∧ Q'.width ≤ 32 := by omega
  have hcell : ∀ k, k < Q.width → Q'.cell Q'.len + k < 32 := fun k hk => Sq.cell_lt hwd' _ k (by omega)
  have h5 := HS.out.c5
  have E3 := Lib.hid e3
  clear hpl
  generalize hpg : Q'.page Q'.len = pg at *
  generalize hce : Q'.cell Q'.len = ce at *
  have HPG := Lib.hid hpg
  have HCE := Lib.hid hce
  clear hpg hce
  rw [e3] at h5 AT
  go_wp2_with fail
  refine AT.out.mono ?_
  rintro e w2 ⟨rfl, m, rfl⟩
  have HR2 := Lib.hid (HR.out.drewN m)
  have HS2 := Lib.hid (HS.out.drewN m)
  have HC2 := Lib.hid (Chg.drewN' HC.out m)
  clear HR HS HC h5
  generalize w1.drewN m = w2 at *
  have hA' : s ≠ p ∧ s ≠ b ∧ own' ≠ some p ∧ own' ≠ some b := by
    refine ⟨HA.out.sp, HA.out.sb, fun e => ?_, fun e => ?_⟩
    · rcases HO.out _ e with h | h
      · exact HA.out.op h
      · omega
    · rcases HO.out _ e with h | h
      · exact HA.out.ob h
      · omega
  have HA2 := Lib.hid hA'
  clear hA'
  go_wp2_with fail
  go_loopw [33] (fun s33 wr => ∃ k : Nat, k ≤ Q.width ∧ s33 = .int .i64 k ∧ Hid (PR wr p b (putRow S' pg ce xs k)) ∧ Hid (Chg (fun k => k = p ∨ k = b) w2 wr)) (fun s33 _ => Q.width - (intOf s33).toNat)
  case atStart => exact ⟨0, by omega, rfl, HR2, Lib.hid (Chg.refl _ _)⟩
  case round =>
    obtain ⟨k, hk, rfl, PRK, CHK⟩ := hrel
    have HSk := Lib.hid (HS2.out.chg CHK.out (fun e => e.elim HA2.out.1 HA2.out.2.1) (fun k hk e => e.elim (fun e => HA2.out.2.2.1 (by rw [hk, e])) (fun e => HA2.out.2.2.2 (by rw [hk, e]))))
    have hs0 := HSk.out.c0
    by_cases hkW : k < Q.width
    · have hkz : (k : Int) < (Q.width : Int) := by omega
      have hk0 : (0 : Int) ≤ (k : Int) := by omega
      have hcek := hcell k hkW
      have hxk : xs[k]? = some (xs.getD k 0) := by rw [List.getD_eq_getElem?_getD, List.getElem?_eq_getElem (by rw [HXL.out]; exact hkW)]; rfl
      have hrx := ((HX.out.chg HC2.out HF.out).chg CHK.out (fun e => e.elim (fun e => HF.out (.inl e)) (fun e => HF.out (.inr (.inl e))))).cell k _ hxk
      have PU := Lib.hid (put_c p b _ wr PRK.out pg (ce + k) hcek (xs.getD k 0))
      rw [Int.natCast_add] at PU
      generalize errOf (putRow S' pg ce xs k) pg = er1 at PU
      generalize hgv : xs.getD k 0 = gv at hrx PU
      have HGV := Lib.hid hgv
      clear hgv hxk
      go_wp2_with fail
      refine PU.out.mono ?_
      rintro e w' ⟨rfl, hR, hC⟩
      have HR3 : Hid (PR w' p b (putRow S' pg ce xs (k + 1))) := by
        show PR w' p b (put1 _ _ _ (xs.getD k 0))
        rw [HGV.out]; exact hR
      have HC3 := Lib.hid (CHK.out.trans hC (fun k hk => .inl hk))
      clear hR hC
      go_wp2
      exact ⟨⟨k + 1, by omega, by go_num, HR3, HC3⟩, by simp [intOf]; omega⟩
    · obtain rfl : k = Q.width := by omega
      have hkz : ¬ (Q.width : Int) < (Q.width : Int) := by omega
      have h5 := HSk.out.c5
      have hf5 := HSk.out.head.free 5
      rw [e3] at h5
      go_wp2
      go_ret
      have hcd : Chg (fun k => k = s) wr (wr.setCell ⟨s, 5, none⟩ (.int .i64 ((Q.len : Int) + 1))) := (Chg.refl _ _).setCell _ _ (.inl rfl)
      have hfin : KPost p b s own (putRow S' pg ce xs Q.width) { Q' with len := Q.len + 1 } w (.int .i64 0) (.returned (.int .i64 0)) (wr.setCell ⟨s, 5, none⟩ (.int .i64 ((Q.len : Int) + 1))) := by
        refine ⟨rfl, PRK.out.chg hcd (fun e => HA.out.sp e.symm) (fun e => HA.out.sb e.symm), ⟨v', own', ⟨HSk.out.head.set 5 _, ?_, HSk.out.ne, HSk.out.wd, HSk.out.tg, ?_, ?_, HSk.out.few, ?_⟩, HO.out⟩, ?_⟩
        · exact HSk.out.row.keep fun k hk => Below.heap_setCell _ _ _ _ (fun e => HSk.out.ne (by rw [hk]; exact congrArg some e))
        · show Q'.first ≤ Q.len + 1
          omega
        · show Q.len + 1 ≤ 1000
          omega
        · show Q.len + 1 - Q'.first ≤ Q'.pages.length * Q'.per
          have := HLT.out
          rw [e2, e4]; omega
        · exact (HC2.out.trans CHK.out (fun k e => .inl (e.elim .inl (fun e => .inr (.inl e))))).trans hcd (fun k e => .inl (.inr (.inr (.inl e))))
      rw [← HPG.out, ← HCE.out, E3.out, e1, e2] at hfin
      exact hfin
end Go.Proofs.Ytfimadeokdlpnaa.kv
