/- A sequence: room, with a fresh page behind. -/
import Derived.Test.YtfimadeokdlpnaaVm
namespace Go.Proofs.Ytfimadeokdlpnaa.kv
open Go.ChangeShapes Go.WideShapes Go.ChangeAt Go.RowKit K
set_option linter.unusedVariables false
set_option linter.unusedSimpArgs false
variable (s p b : Nat) (S : List Pg) (Q : Sq) (v : Value) (own : Option Nat) (w : World)
theorem needOf_closed (h : Q.isOpen = false) : needOf S Q = 1 := by unfold needOf; rw [h]; rfl
theorem encN_snoc (l : List Nat) (j : Nat) : encN (l ++ [j]) = encN l ++ [.int .i64 (j : Int)] := by simp [encN]
theorem take1_length (tag : ByteArray) : (take1 S tag).length = S.length := by simp [take1]
set_option maxHeartbeats 1000000 in
theorem room_new (h : SR w s p Q v own) (hp : PR w p b S) (ha : Apart p b s own) (ho : Q.isOpen = false) (hf : 0 < freeOf S) (hlen : Q.len < 1000) : Calls Try.prog 34 #[.pointer (some ⟨s, 0, none⟩)] w (KPost p b s own (take1 S Q.tag) { Q with pages := Q.pages ++ [ff S] } w (.int .i64 0)) := by
  obtain ⟨i0, hi0, hz0, hz1, hz2⟩ := info_parts infoI
  have ND := Lib.hid (need_c s p Q v own w b S h hp)
  rw [needOf_closed S Q ho] at ND
  have TK : Hid (∀ wr, PR wr p b S → Calls Try.prog 57 #[.pointer (some ⟨p, 0, none⟩), .string Q.tag, .int .i64 1] wr fun e w' =>
      ∃ g f cp, e = .returned (.tuple #[.slice (some ⟨g, f, none⟩) 1 cp, .int .i64 0]) ∧ PR w' p b (take1 S Q.tag) ∧ Chg (fun k => k = p ∨ k = b) wr w' ∧ w'.cell? ⟨g, f, none⟩ = some (.int .i64 (ff S)) ∧ g < w'.heap.size) := fun wr hr => Take_ok p b S wr hr Q.tag h.tg hf
  have OP : Hid (∀ wr, SR wr s p Q v own → Calls Try.prog 31 #[.pointer (some ⟨s, 0, none⟩)] wr fun e w' => e = .returned (.bool false) ∧ ∃ m, w' = wr.drewN m) := fun wr hr => by have := open_c s p Q v own wr hr; rw [ho] at this; exact this
  have h0 := h.c0
  have h1 := h.c1
  have hs := h.head.lt
  have HP := Lib.hid hp
  have H := Lib.hid h
  have HA := Lib.hid ha
  have HOP := Lib.hid ho
  clear h hp ha hf ho
  go_enter Try.func34, Try.ntmps34
  go_wp2_with fail
  refine ND.out.mono ?_
  rintro e w0 ⟨rfl, m, rfl⟩
  go_wp2_with fail
  go_region_held3 (fun w' => w'.cell? ⟨s, 0, none⟩ = some (.pointer (some ⟨p, 0, none⟩)) ∧ w'.cell? ⟨s, 1, none⟩ = some (.string Q.tag)) (first | exact ⟨by assumption, by assumption⟩ | go_keep) ((go_at_call 57; (with_reducible refine (TK.out _ (HP.out.drewN _)).mono ?_); rintro e w1 ⟨g, f, cp, rfl, hR, hC, hcell, hg⟩; have HR := Lib.hid hR; have HC := Lib.hid hC; have HL := Lib.hid hcell; have HG := Lib.hid hg; have HS := Lib.hid ((H.out.drewN _).chg hC (fun e => e.elim HA.out.sp HA.out.sb) (fun k hk e => e.elim (fun e => HA.out.op (by rw [hk, e])) (fun e => HA.out.ob (by rw [hk, e])))); have k0 := HS.out.c0; have k1 := HS.out.c1; clear hR hC hcell hg))
  have hc := HL.out
  have hC1 : Chg (fun k => k = p ∨ k = b) w w1 := (chg_drewN _ w _).trans HC.out (fun k hk => .inl hk)
  have HC1 := Lib.hid hC1
  clear hC1 HC k0 k1
  go_wp2_with fail
  refine (OP.out _ HS.out).mono ?_
  rintro e w2 ⟨rfl, m2, rfl⟩
  obtain ⟨a, c, hv, h3⟩ := HS.out.c3
  have hw1s := HS.out.head.lt
  have hLf := HS.out.few
  have HROW : Hid (Row ((w1.drewN m2).alloc (.cells #[.int .i64 (ff S)] 3)) 3 1 (.slice a Q.pages.length c) own Q.pages.length (encN Q.pages)) := by
    have := HS.out.row
    rw [hv] at this
    exact this.chg ((chg_drewN (fun _ => False) w1 m2).alloc _) (fun _ _ => id)
  have HN : Hid (∀ j u, [Value.int .i64 (ff S)][j]? = some u → ((w1.drewN m2).alloc (.cells #[.int .i64 (ff S)] 3)).cell? ((⟨w1.heap.size, 0, none⟩ : Addr).add j) = some u) := by
    intro j u hu
    rcases j with _ | j
    · simp at hu; subst hu
      rw [Addr.add_lit]
      exact (Bk.new (w1.drewN m2) #[.int .i64 (ff S)] 3).cell 0 _ rfl
    · simp at hu
  have HHD : Hid (Bk ((w1.drewN m2).alloc (.cells #[.int .i64 (ff S)] 3)) s #[.pointer (some ⟨p, 0, none⟩), .string Q.tag, .int .i64 Q.width, .slice a Q.pages.length c, .int .i64 Q.first, .int .i64 Q.len] 69) := by
    have := HS.out.head
    rw [hv] at this
    exact (this.drewN m2).alloc _
  have hne := H.out.ne
  have HV := Lib.hid hv
  clear hv
  generalize hL : Q.pages.length = L at *
  have HQL := Lib.hid hL
  clear hL
  go_wp2_with (at_builtin; refine wpList_row_append rfl (.tmp 38) (.tmp 40) 35 rfl 3 i0 _ 1 Try.underlying35 hi0 hz0 hz1 rfl (by decide) (by omega) (.slice a L c) own L (encN Q.pages) rfl HROW.out ⟨w1.heap.size, 0, none⟩ 1 1 [.int .i64 (ff S)] rfl rfl HN.out (by simp [Value.oneCell']) (by omega) (by omega) ?_; intro g2 f2 cp2 w3 hrow hgrow hown; have HRW := Lib.hid hrow; have HGW := Lib.hid hgrow; have HOW := Lib.hid hown; have hk3 : w3.cell? ⟨s, 3, none⟩ = some (.slice a L c) := (HHD.out.grown hgrow (Ne.symm hne)).cell 3 _ rfl; have hf3 : w3.frozen? ⟨s, 3, none⟩ = false := (HHD.out.grown hgrow (Ne.symm hne)).free 3; clear hrow hgrow hown)
  go_ret
  have hsz : (w1.drewN m2).heap.size = w1.heap.size := rfl
  have hsz1 := HC1.out.size
  have hgr := HGW.out
  have hg2 : own = some g2 ∨ w.heap.size ≤ g2 := by
    rcases HOW.out with e | e
    · exact .inl e
    · right; rw [e]; simp; omega
  have hs2 : g2 ≠ s := by
    rintro rfl
    rcases hg2 with e | e
    · exact hne e
    · omega
  have hpl := HR.out.head.lt
  have hbl := HR.out.lt
  have hpd : Chg (fun k => k = s ∨ own = some k) w1 (w3.setCell ⟨s, 3, none⟩ (.slice (some ⟨g2, f2, none⟩) (L + 1) cp2)) :=
    ((((chg_drewN (fun k => own = some k) w1 m2).alloc (.cells #[.int .i64 (ff S)] 3)).trans (Chg.of_grown (F := fun k => own = some k) hgr (fun k e => e.symm)) (fun k e => .inl e)).mono (G := fun k => k = s ∨ own = some k) (fun k e => .inr e)).setCell _ _ (.inl (.inl rfl))
  have hfit := H.out.fit
  have hper := H.out.per_pos
  have hop := HOP.out
  unfold Sq.isOpen at hop
  simp only [decide_eq_false_iff_not] at hop
  rw [HQL.out] at hfit hop
  have hm1 : L * 1 ≤ L * Q.per := Nat.mul_le_mul_left _ hper.1
  have hll : (Q.pages ++ [ff S]).length = L + 1 := by simp [HQL.out]
  refine ⟨rfl, HR.out.chg hpd ?_ ?_, ⟨.slice (some ⟨g2, f2, none⟩) (L + 1) cp2, some g2, ⟨?_, ?_, ?_, H.out.wd, H.out.tg, H.out.fl, H.out.short, ?_, ?_⟩, ?_⟩, ?_⟩
  · rintro (e | e)
    · exact HA.out.sp e.symm
    · exact HA.out.op e
  · rintro (e | e)
    · exact HA.out.sb e.symm
    · exact HA.out.ob e
  · exact (HHD.out.grown hgr (Ne.symm hne)).set 3 _
  · show Row _ _ 1 _ _ (Q.pages ++ [ff S]).length (encN (Q.pages ++ [ff S]))
    rw [hll, encN_snoc]
    exact HRW.out.keep fun k hk => Below.heap_setCell _ _ _ _ (by cases hk; exact hs2)
  · intro e; exact hs2 (Option.some.inj e)
  · show (Q.pages ++ [ff S]).length ≤ 1000
    omega
  · show Q.len - Q.first ≤ (Q.pages ++ [ff S]).length * Q.per
    rw [hll, Nat.add_mul]; omega
  · intro k hk; cases hk; exact hg2
  · exact (HC1.out.mono (G := Foot p b s own) (fun k e => e.elim .inl (fun e => .inr (.inl e)))).trans hpd (fun k e => .inl (e.elim (fun e => .inr (.inr (.inl e))) (fun e => .inr (.inr (.inr e)))))
end Go.Proofs.Ytfimadeokdlpnaa.kv
