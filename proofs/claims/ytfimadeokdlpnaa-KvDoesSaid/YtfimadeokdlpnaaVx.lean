/- A sequence: room, where a shared page is copied. -/
import Derived.Test.YtfimadeokdlpnaaVw
namespace Go.Proofs.Ytfimadeokdlpnaa.kv
open Go.ChangeShapes Go.WideShapes Go.ChangeAt Go.RowKit K
set_option linter.unusedVariables false
set_option linter.unusedSimpArgs false
variable (s p b : Nat) (S : List Pg) (Q : Sq) (v : Value) (own : Option Nat) (w : World)
def Small (S : List Pg) : Prop := ∀ x ∈ S, x.own ≤ 1000000000
theorem Small.set {S : List Pg} (h : Small S) (i : Nat) (y : Pg) (hy : y.own ≤ 1000000000) : Small (S.set i y) := fun x hx => by
  rcases List.mem_or_eq_of_mem_set hx with e | e
  · exact h x e
  · subst e; exact hy
theorem Small.put1 {S : List Pg} (h : Small S) (n : Int) (k : Nat) (v : Int) : Small (put1 S n k v) := by
  unfold kv.put1
  split
  next x hx =>
    obtain ⟨i, rfl, h1, h2⟩ := look_some hx
    exact h.set _ _ (h x (List.mem_of_getElem? h1))
  next => exact h
theorem Small.take1 {S : List Pg} (h : Small S) (tag : ByteArray) : Small (take1 S tag) := h.set _ _ (by simp [Pg.of])
theorem Small.drop1 {S : List Pg} (h : Small S) (n : Int) : Small (drop1 S n) := by
  unfold kv.drop1
  split
  next x hx =>
    obtain ⟨i, rfl, h1, h2⟩ := look_some hx
    have := h x (List.mem_of_getElem? h1)
    refine h.set _ _ ?_
    split
    · simp [Pg.no]
    · show x.own - 1 ≤ _; omega
  next => exact h
/-- The first so many numbers of a page laid in another. -/
def copyTo (S : List Pg) (old j : Nat) : Nat → List Pg
  | 0 => S
  | k + 1 => put1 (copyTo S old j k) j k (getOf (copyTo S old j k) old k)
theorem Small.copyTo {S : List Pg} (h : Small S) (old j : Nat) : ∀ k, Small (copyTo S old j k)
  | 0 => h
  | k + 1 => (Small.copyTo h old j k).put1 _ _ _
theorem row_put {w : World} {t : TypeId} {g off n cap : Nat} {own : Option Nat} {xs : List Value} (h : Row w t 1 (.slice (some ⟨g, off, none⟩) n cap) own n xs) (j : Nat) (hj : j < n) (u : Value) :
    Row (w.setCell ⟨g, off + j, none⟩ u) t 1 (.slice (some ⟨g, off, none⟩) n cap) own n (xs.set j u) := by
  obtain ⟨g', off', cap', cs, e1, e2, e3, e4, e5, e6, e7⟩ := h.pos (by omega)
  cases e1
  have hl := h.1
  refine ⟨by rw [List.length_set]; exact hl, .inr ⟨g, off, cap, _, rfl, e2, e3, e4, e5.set _ u, by simpa using e6, fun i hi => ?_⟩⟩
  rw [List.getElem?_set]
  by_cases e : j = i
  · subst e
    rw [Array.getElem?_setIfInBounds_self_of_lt (by omega), if_pos rfl, if_pos (by omega)]
  · rw [Array.getElem?_setIfInBounds_ne (by omega), if_neg e]; exact e7 i hi
theorem encN_set (l : List Nat) (i j : Nat) : encN (l.set i j) = (encN l).set i (.int .i64 (j : Int)) := by simp [encN, List.map_set]
set_option maxHeartbeats 1000000 in
theorem room_copy (h : SR w s p Q v own) (hp : PR w p b S) (ha : Apart p b s own) (ho : Q.isOpen = true) (hn : needOf S Q = 1) (hf : 0 < freeOf S) (hS : Small S) : Calls Try.prog 34 #[.pointer (some ⟨s, 0, none⟩)] w
    (KPost p b s own (drop1 (copyTo (take1 S Q.tag) Q.last (ff S) 32) Q.last) { Q with pages := Q.pages.set (Q.pages.length - 1) (ff S) } w (.int .i64 0)) := by
  have ND := Lib.hid (need_c s p Q v own w b S h hp)
  rw [hn] at ND
  have TK : Hid (∀ wr, PR wr p b S → Calls Try.prog 57 #[.pointer (some ⟨p, 0, none⟩), .string Q.tag, .int .i64 1] wr fun e w' =>
      ∃ g f cp, e = .returned (.tuple #[.slice (some ⟨g, f, none⟩) 1 cp, .int .i64 0]) ∧ PR w' p b (take1 S Q.tag) ∧ Chg (fun k => k = p ∨ k = b) wr w' ∧ w'.cell? ⟨g, f, none⟩ = some (.int .i64 (ff S)) ∧ g < w'.heap.size) := fun wr hr => Take_ok p b S wr hr Q.tag h.tg hf
  have OP : Hid (∀ wr, SR wr s p Q v own → Calls Try.prog 31 #[.pointer (some ⟨s, 0, none⟩)] wr fun e w' => e = .returned (.bool true) ∧ ∃ m, w' = wr.drewN m) := fun wr hr => by have := open_c s p Q v own wr hr; rw [ho] at this; exact this
  have LA : Hid (∀ wr, SR wr s p Q v own → Calls Try.prog 33 #[.pointer (some ⟨s, 0, none⟩)] wr fun e w' => e = .returned (.int .i64 Q.last) ∧ ∃ m, w' = wr.drewN m) := fun wr hr => last_c s p Q v own wr hr _ (Sq.last_at (open_pos ho))
  have h0 := h.c0
  have h1 := h.c1
  have hs := h.head.lt
  have HP := Lib.hid hp
  have H := Lib.hid h
  have HA := Lib.hid ha
  have hpos := open_pos ho
  have HSm := Lib.hid hS
  clear h hp ha hf ho hn hS
  generalize hLl : Q.last = old at *
  go_enter Try.func34, Try.ntmps34
  go_wp2_with fail
  refine ND.out.mono ?_
  rintro e w0 ⟨rfl, m, rfl⟩
  go_wp2_with fail
  go_region_held3 (fun w' => w'.cell? ⟨s, 0, none⟩ = some (.pointer (some ⟨p, 0, none⟩)) ∧ w'.cell? ⟨s, 1, none⟩ = some (.string Q.tag)) (first | exact ⟨by assumption, by assumption⟩ | go_keep) ((go_at_call 57; (with_reducible refine (TK.out _ (HP.out.drewN _)).mono ?_); rintro e w1 ⟨g, f, cp, rfl, hR, hC, hcell, hg⟩; have HR := Lib.hid hR; have HC := Lib.hid hC; have HL := Lib.hid hcell; have HG := Lib.hid hg; have HS := Lib.hid ((H.out.drewN _).chg hC (fun e => e.elim HA.out.sp HA.out.sb) (fun k hk e => e.elim (fun e => HA.out.op (by rw [hk, e])) (fun e => HA.out.ob (by rw [hk, e])))); have k0 := HS.out.c0; have k1 := HS.out.c1; clear hR hC hcell hg))
  have hc := HL.out
  have hC1 : Chg (fun k => k = p ∨ k = b) w w1 := (chg_drewN _ w _).trans HC.out (fun k hk => .inl hk)
  have HC1 := Lib.hid hC1
  clear hC1 HC k0 k1
  go_wp2_with fail
  refine (OP.out _ HS.out).mono ?_
  rintro e w2 ⟨rfl, m2, rfl⟩
  have HS2 := Lib.hid (HS.out.drewN m2)
  go_wp2_with fail
  refine (LA.out _ HS2.out).mono ?_
  rintro e w3 ⟨rfl, m3, rfl⟩
  have HS3 := Lib.hid (HS2.out.drewN m3)
  have HR3 := Lib.hid ((HR.out.drewN m2).drewN m3)
  have HC3 := Lib.hid (Chg.drewN' (Chg.drewN' HC1.out m2) m3)
  clear HS HS2 HR HC1 HL HG
  generalize (w1.drewN m2).drewN m3 = w3 at *
  go_wp2_with fail
  go_loopw [46] (fun s46 wr => ∃ k : Nat, k ≤ 32 ∧ s46 = .int .i64 k ∧ Hid (PR wr p b (copyTo (take1 S Q.tag) old (ff S) k)) ∧ Hid (Chg (fun k => k = p ∨ k = b) w3 wr)) (fun s46 _ => 32 - (intOf s46).toNat)
  case atStart => exact ⟨0, by omega, rfl, HR3, Lib.hid (Chg.refl _ _)⟩
  case round =>
    obtain ⟨k, hk, rfl, PRK, CHK⟩ := hrel
    have HSk := Lib.hid (HS3.out.chg CHK.out (fun e => e.elim HA.out.sp HA.out.sb) (fun k hk e => e.elim (fun e => HA.out.op (by rw [hk, e])) (fun e => HA.out.ob (by rw [hk, e]))))
    have hs0 := HSk.out.c0
    by_cases hk32 : k < 32
    · have hkz : (k : Int) < 32 := by omega
      have GE := Lib.hid (get_c p b _ wr PRK.out old k hk32)
      have PU := Lib.hid (put_c p b _ wr PRK.out (ff S) k hk32 (getOf (copyTo (take1 S Q.tag) old (ff S) k) old k))
      generalize errOf (copyTo (take1 S Q.tag) old (ff S) k) (ff S) = er1 at PU
      generalize errOf (copyTo (take1 S Q.tag) old (ff S) k) old = er2 at GE
      generalize hgv : getOf (copyTo (take1 S Q.tag) old (ff S) k) old k = gv at GE PU
      have HGV := Lib.hid hgv
      clear hgv
      go_wp2_with fail
      refine GE.out.mono ?_
      rintro e w' ⟨rfl, rfl⟩
      go_wp2_with fail
      refine PU.out.mono ?_
      rintro e w' ⟨rfl, hR, hC⟩
      have HR2 : Hid (PR w' p b (copyTo (take1 S Q.tag) old (ff S) (k + 1))) := by
        show PR w' p b (put1 _ _ _ (getOf (copyTo (take1 S Q.tag) old (ff S) k) old k))
        rw [HGV.out]; exact hR
      have HC2 := Lib.hid (CHK.out.trans hC (fun k hk => .inl hk))
      clear hR hC
      go_wp2
      exact ⟨⟨k + 1, by omega, by go_num, HR2, HC2⟩, by simp [intOf]; omega⟩
    · obtain rfl : k = 32 := by omega
      have DR := Lib.hid (drop_c p b _ wr PRK.out old ((HSm.out.take1 Q.tag).copyTo old (ff S) 32))
      generalize errOf (copyTo (take1 S Q.tag) old (ff S) 32) old = er1 at DR
      generalize hT : drop1 (copyTo (take1 S Q.tag) old (ff S) 32) old = T at DR ⊢
      go_wp2_with fail
      refine DR.out.mono ?_
      rintro e w4 ⟨rfl, hR, hC⟩
      have HR4 := Lib.hid hR
      have HC4 := Lib.hid (CHK.out.trans hC (fun k hk => .inl hk))
      have HS4 := Lib.hid (HSk.out.chg hC (fun e => e.elim HA.out.sp HA.out.sb) (fun k hk e => e.elim (fun e => HA.out.op (by rw [hk, e])) (fun e => HA.out.ob (by rw [hk, e]))))
      clear hR hC hs0
      obtain ⟨g, off, cap, cs, e1, e2, e3, e4, e5, e6, e7⟩ := HS4.out.row.pos hpos
      have hc3 := HS4.out.head.cell 3 v rfl
      rw [e1] at hc3
      have hfew := HS4.out.few
      have hrow := HS4.out.row
      rw [e1] at hrow
      have HROW := Lib.hid hrow
      have HE1 := Lib.hid e1
      have HE2 := Lib.hid e2
      obtain ⟨K, hK⟩ : ∃ K, Q.pages.length = K + 1 := ⟨Q.pages.length - 1, by omega⟩
      have hgc := e5.cell (off + K) (cs[off + K]'(by omega)) (Array.getElem?_eq_getElem _)
      have hgf := e5.free (off + K)
      have HKK := Lib.hid hK
      generalize cs[off + K]'(by omega) = u at hgc
      rw [hK] at hc3 hfew
      have hL1 : (1 : Int) ≤ (K : Int) + 1 := by omega
      have hL2 : ((K + 1 : Nat) : Int) - 1 = (K : Int) := by omega
      clear e1 e5 e6 e7 hrow hK e2 hpos
      go_wp2_with fail
      go_region
      go_wp2
      go_ret
      have hsg : s ≠ g := fun e => H.out.ne (by rw [e]; exact HE2.out)
      have hcd : Chg (fun k => k = s ∨ own = some k) w4 (w4.setCell ⟨g, off + K, none⟩ (.int .i64 (ff S))).drew := ((Chg.refl _ _).setCell _ _ (.inl (.inr HE2.out))).drew
      subst hT
      refine ⟨rfl, HR4.out.chg hcd ?_ ?_, ⟨v, own, ⟨(HS4.out.head.other _ _ hsg).drew, ?_, H.out.ne, H.out.wd, H.out.tg, H.out.fl, H.out.short, ?_, ?_⟩, fun k hk => .inl hk⟩, ?_⟩
      · rintro (e | e)
        · exact HA.out.sp e.symm
        · exact HA.out.op e
      · rintro (e | e)
        · exact HA.out.sb e.symm
        · exact HA.out.ob e
      · show Row _ _ 1 v own (Q.pages.set (Q.pages.length - 1) (ff S)).length (encN (Q.pages.set (Q.pages.length - 1) (ff S)))
        rw [List.length_set, encN_set, HE1.out, HKK.out]
        have := row_put HROW.out K (by rw [HKK.out]; omega) (.int .i64 (ff S))
        rw [HKK.out] at this
        exact this.keep fun k hk => rfl
      · show (Q.pages.set (Q.pages.length - 1) (ff S)).length ≤ 1000
        rw [List.length_set]; exact H.out.few
      · show Q.len - Q.first ≤ (Q.pages.set (Q.pages.length - 1) (ff S)).length * Q.per
        rw [List.length_set]; exact H.out.fit
      · have h34 : Chg (fun k => k = p ∨ k = b) w w4 := HC3.out.trans HC4.out (fun k hk => .inl hk)
        exact (h34.mono (G := Foot p b s own) (fun k e => e.elim .inl (fun e => .inr (.inl e)))).trans hcd (fun k e => .inl (e.elim (fun e => .inr (.inr (.inl e))) (fun e => .inr (.inr (.inr e)))))
end Go.Proofs.Ytfimadeokdlpnaa.kv
