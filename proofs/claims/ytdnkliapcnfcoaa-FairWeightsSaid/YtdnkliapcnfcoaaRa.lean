/- aviaryref21.Fair: Add, Cancel. -/
import Derived.Test.YtdnkliapcnfcoaaRn
namespace Go.Proofs.Ytdnkliapcnfcoaa.fair
open Go.ChangeShapes Go.WideShapes Go.ChangeAt Go.RowKit K
set_option linter.unusedVariables false
set_option linter.unusedSimpArgs false
theorem RPost.same {S : RS} {w : World} {p : Nat} {L : RL} {F : Nat → Prop} {r : Value} (h : RR w p S L F) : RPost S w p F r (.returned r) w :=
  ⟨rfl, ⟨L, h.mono fun b hf => .inl hf⟩, Chg.refl _ _⟩
def hasL (l : List (Int × Int × Int)) (id : Int) : Bool := decide (atL l id < l.length)
theorem atI_no {l : List (Int × Int × Int)} {id : Int} (h : hasL l id = false) : atI l id = -1 := by
  unfold hasL at h; unfold atI; rw [if_neg (by simpa using h)]
theorem atI_yes {l : List (Int × Int × Int)} {id : Int} (h : hasL l id = true) : atI l id = atL l id := by
  unfold hasL at h; unfold atI; rw [if_pos (by simpa using h)]
theorem hasL_lt {l : List (Int × Int × Int)} {id : Int} (h : hasL l id = true) : atL l id < l.length := by simpa [hasL] using h
theorem rcancel_no (p : Nat) (S : RS) (L : RL) (F : Nat → Prop) (w : World) (h : RR w p S L F) (id : Int) (hn : hasL S.l id = false) :
    Calls Try.prog 16 #[.pointer (some ⟨p, 0, none⟩), .int .i64 id] w (RPost S w p F (.bool false)) := by
  have AT := Lib.hid (at_c p S L F w h id)
  rw [atI_no hn] at AT
  have H := Lib.hid h
  clear h hn
  go_enter Try.func16, Try.ntmps16
  go_wp2_with fail
  refine AT.out.mono ?_
  rintro e w' ⟨rfl, rfl⟩
  go_wp2
  go_ret
  exact RPost.same H.out
theorem rcancel_yes (p : Nat) (S : RS) (L : RL) (F : Nat → Prop) (w : World) (h : RR w p S L F) (id : Int) (hn : hasL S.l id = true) :
    Calls Try.prog 16 #[.pointer (some ⟨p, 0, none⟩), .int .i64 id] w (RPost { S with l := S.l.eraseIdx (atL S.l id) } w p F (.bool true)) := by
  have AT := Lib.hid (at_c p S L F w h id)
  rw [atI_yes hn] at AT
  have OU := Lib.hid (out_c p S L F w h _ (hasL_lt hn))
  clear h hn
  have hz : (0 : Int) ≤ (atL S.l id : Int) := by omega
  go_enter Try.func16, Try.ntmps16
  go_wp2_with fail
  refine AT.out.mono ?_
  rintro e w' ⟨rfl, rfl⟩
  go_wp2_with fail
  refine OU.out.mono ?_
  rintro e w1 ⟨rfl, h1, h2⟩
  have H1 := Lib.hid h1
  have H2 := Lib.hid h2
  clear h1 h2
  go_wp2
  go_ret
  exact ⟨rfl, H1.out, H2.out⟩
theorem radd_range (p : Nat) (S : RS) (L : RL) (F : Nat → Prop) (w : World) (h : RR w p S L F) (n id cost : Int) (hn : S.isB n = false ∨ cost < 1 ∨ 10000 < cost) :
    Calls Try.prog 14 #[.pointer (some ⟨p, 0, none⟩), .int .i64 n, .int .i64 id, .int .i64 cost] w (RPost S w p F (.int .i64 20)) := by
  have IS := Lib.hid (is_c p S L F w h n)
  have H := Lib.hid h
  clear h
  cases hb : S.isB n
  · rw [hb] at IS
    clear hn hb
    go_enter Try.func14, Try.ntmps14
    go_wp2_with fail
    refine IS.out.mono ?_
    rintro e w' ⟨rfl, rfl⟩
    go_wp2
    go_ret
    exact RPost.same H.out
  · rw [hb] at IS
    have hn : cost < 1 ∨ 10000 < cost := by
      rcases hn with h | h
      · rw [hb] at h; cases h
      · exact h
    clear hb
    by_cases h1 : cost < 1
    · clear hn
      go_enter Try.func14, Try.ntmps14
      go_wp2_with fail
      refine IS.out.mono ?_
      rintro e w' ⟨rfl, rfl⟩
      go_wp2
      go_ret
      exact RPost.same H.out
    · have h2 : 10000 < cost := by omega
      have h3 : 1 ≤ cost := by omega
      clear hn h1
      go_enter Try.func14, Try.ntmps14
      go_wp2_with fail
      refine IS.out.mono ?_
      rintro e w' ⟨rfl, rfl⟩
      go_wp2
      go_ret
      exact RPost.same H.out
theorem radd_twice (p : Nat) (S : RS) (L : RL) (F : Nat → Prop) (w : World) (h : RR w p S L F) (n id cost : Int) (hn : S.isB n = true) (h1 : 1 ≤ cost) (h2 : cost ≤ 10000) (hh : hasL S.l id = true) :
    Calls Try.prog 14 #[.pointer (some ⟨p, 0, none⟩), .int .i64 n, .int .i64 id, .int .i64 cost] w (RPost S w p F (.int .i64 26)) := by
  have IS := Lib.hid (is_c p S L F w h n)
  rw [hn] at IS
  have AT := Lib.hid (at_c p S L F w h id)
  rw [atI_yes hh] at AT
  have H := Lib.hid h
  have hz : (0 : Int) ≤ (atL S.l id : Int) := by omega
  clear h hn hh
  go_enter Try.func14, Try.ntmps14
  go_wp2_with fail
  refine IS.out.mono ?_
  rintro e w' ⟨rfl, rfl⟩
  go_wp2_with fail
  refine AT.out.mono ?_
  rintro e w' ⟨rfl, rfl⟩
  go_wp2
  go_ret
  exact RPost.same H.out
theorem radd_full (p : Nat) (S : RS) (L : RL) (F : Nat → Prop) (w : World) (h : RR w p S L F) (n id cost : Int) (hn : S.isB n = true) (h1 : 1 ≤ cost) (h2 : cost ≤ 10000) (hh : hasL S.l id = false) (hc : 16 ≤ cntL S.l n) :
    Calls Try.prog 14 #[.pointer (some ⟨p, 0, none⟩), .int .i64 n, .int .i64 id, .int .i64 cost] w (RPost S w p F (.int .i64 5)) := by
  have IS := Lib.hid (is_c p S L F w h n)
  rw [hn] at IS
  have AT := Lib.hid (at_c p S L F w h id)
  rw [atI_no hh] at AT
  have WA := Lib.hid (rwaiting_c p S L F w h n)
  have H := Lib.hid h
  have hz : (16 : Int) ≤ (cntL S.l n : Int) := by omega
  clear h hn hh
  go_enter Try.func14, Try.ntmps14
  go_wp2_with fail
  refine IS.out.mono ?_
  rintro e w' ⟨rfl, rfl⟩
  go_wp2_with fail
  refine AT.out.mono ?_
  rintro e w' ⟨rfl, rfl⟩
  go_wp2_with fail
  refine WA.out.mono ?_
  rintro e w' ⟨rfl, rfl⟩
  go_wp2
  go_ret
  exact RPost.same H.out
/-- What Add has done when the new list is stored. -/
theorem radd_done {w W w2 : World} {p : Nat} {S : RS} {L : RL} {F : Nat → Prop} (h : RR w p S L F) (hs : S.l.length < 1000) (i : Nat) (hi : i < S.n) (c id cost : Int) (csc : Array Value) (o : Obj) (g f cp : Nat) (ck' : Nat → Int)
    (hW : Chg (fun b => b = L.bc) w W) (hbk : Bk W L.bc csc 3) (hcs : ∀ k, k < S.n → csc[k]? = some (.int .i64 (ck' k)))
    (hgrow : (W.alloc o).grownBy w2 L.own) (hown : L.own = some g ∨ g = (W.alloc o).heap.size)
    (hrow : Row w2 43 3 (.slice (some ⟨g, f, none⟩) (S.l.length + 1) cp) (some g) (S.l.length + 1) (encL S.l ++ [.int .i64 i, .int .i64 id, .int .i64 cost])) :
    RPost { S with l := S.l ++ [((i : Int), id, cost)], ck := ck' } w p F (.int .i64 0) (.returned (.int .i64 0)) (w2.setCell ⟨p, 2, none⟩ (.slice (some ⟨g, f, none⟩) (S.l.length + 1) cp)) := by
  have hp := h.head.lt
  have hw := h.wts.lt
  have hc := h.cks.lt
  have hWs := hW.size
  have hng : p ≠ g ∧ L.bw ≠ g ∧ L.bc ≠ g := by
    rcases hown with h1 | h1
    · exact ⟨fun e => h.ne4.1 (e ▸ h1), fun e => h.ne4.2.1 (e ▸ h1), fun e => h.ne4.2.2 (e ▸ h1)⟩
    · simp at h1; exact ⟨by omega, by omega, by omega⟩
  have hch : Chg (fun b => b = p ∨ b = L.bc ∨ L.own = some b) w (w2.setCell ⟨p, 2, none⟩ (.slice (some ⟨g, f, none⟩) (S.l.length + 1) cp)) :=
    (((hW.mono (G := fun b => b = p ∨ b = L.bc ∨ L.own = some b) (fun b hb => .inr (.inl hb))).alloc o).trans (Chg.of_grown (F := fun b => L.own = some b) hgrow (fun b hb => hb.symm)) (fun b hb => .inl (.inr (.inr hb)))).setCell _ _ (.inl (.inl rfl))
  have e2 : encL (S.l ++ [((i : Int), id, cost)]) = encL S.l ++ [.int .i64 i, .int .i64 id, .int .i64 cost] := by rw [encL_append]; rfl
  have b1 : Bk w2 p _ 63 := ((hW.bk h.head (fun e => h.ne2 e)).alloc o).grown hgrow (Ne.symm h.ne4.1)
  have b2 : Bk w2 L.bw _ 3 := ((hW.bk h.wts (fun e => h.ne3 e)).alloc o).grown hgrow (Ne.symm h.ne4.2.1)
  have b3 : Bk w2 L.bc _ 3 := (hbk.alloc o).grown hgrow (Ne.symm h.ne4.2.2)
  refine ⟨rfl, ⟨{ L with v := .slice (some ⟨g, f, none⟩) (S.l.length + 1) cp, own := some g, csc := csc }, ⟨b1.set 2 _, h.few, h.pos, ?_, b2.other _ _ (fun e => h.ne1 e.symm), b3.other _ _ (fun e => h.ne2 e.symm), h.c0, hcs, ?_, h.ne1, h.ne2, h.ne3, ⟨fun e => hng.1 (Option.some.inj e).symm, fun e => hng.2.1 (Option.some.inj e).symm, fun e => hng.2.2 (Option.some.inj e).symm⟩, .inl h.fp, .inl h.fw, .inl h.fc, fun b hb => ?_⟩⟩, hch.mono fun b hb => ?_⟩
  · show (S.l ++ [_]).length ≤ 1000
    rw [List.length_append]; simp; omega
  · show Row _ _ 3 (.slice (some ⟨g, f, none⟩) (S.l.length + 1) cp) (some g) (S.l ++ [((i : Int), id, cost)]).length (encL (S.l ++ [((i : Int), id, cost)]))
    rw [e2, List.length_append]
    exact hrow.keep fun b hb => Below.heap_setCell _ _ _ _ (by cases hb; exact fun e => hng.1 e.symm)
  · have hb : some g = some b := hb
    cases hb
    rcases hown with h1 | h1
    · exact .inl (h.fo _ h1)
    · right; simp at h1; omega
  · rcases hb with rfl | rfl | hb
    · exact h.fp
    · exact h.fc
    · exact h.fo _ hb
set_option maxHeartbeats 1000000 in
theorem radd_more (p : Nat) (S : RS) (L : RL) (F : Nat → Prop) (w : World) (h : RR w p S L F) (hs : S.l.length < 1000) (i : Nat) (hi : i < S.n) (id cost : Int) (h1 : 1 ≤ cost) (h2 : cost ≤ 10000) (hh : hasL S.l id = false) (m : Nat) (hm : cntL S.l i = m) (hm0 : 0 < m) (hc : m < 16) :
    Calls Try.prog 14 #[.pointer (some ⟨p, 0, none⟩), .int .i64 i, .int .i64 id, .int .i64 cost] w (RPost { S with l := S.l ++ [((i : Int), id, cost)] } w p F (.int .i64 0)) := by
  obtain ⟨i0, hi0, hz0, hz1, hz2⟩ := info_parts infoItm
  have IS := Lib.hid (is_c p S L F w h i)
  rw [show S.isB i = true by simp [RS.isB]; omega] at IS
  have AT := Lib.hid (at_c p S L F w h id)
  rw [atI_no hh] at AT
  have WA := Lib.hid (rwaiting_c p S L F w h i)
  rw [hm] at WA
  obtain ⟨a, c, hv⟩ := h.form
  have hc2 := h.h2
  have hrow := h.row
  rw [hv] at hc2 hrow
  have H := Lib.hid h
  have HR1 := Lib.hid (hrow.chg ((Chg.refl (fun _ => False) w).alloc (.cells #[.int .i64 i, .int .i64 id, .int .i64 cost] 43)) (fun _ _ hf => hf))
  have HV := Lib.hid hv
  have HP := Lib.hid h.head
  have t1 : ((m : Int) == 0) = false := by rw [beq_eq_false_iff_ne]; omega
  have t2 : (m : Int) < 16 := by omega
  clear h hh hm hrow hv
  go_enter Try.func14, Try.ntmps14
  go_wp2_with fail
  refine IS.out.mono ?_
  rintro e w' ⟨rfl, rfl⟩
  go_wp2_with fail
  refine AT.out.mono ?_
  rintro e w' ⟨rfl, rfl⟩
  go_wp2_with fail
  refine WA.out.mono ?_
  rintro e w' ⟨rfl, rfl⟩
  go_wp2_with fail
  refine WA.out.mono ?_
  rintro e w' ⟨rfl, rfl⟩
  go_wp2_with (at_builtin; refine wpList_row_append rfl (.tmp 58) (.tmp 63) 38 rfl 43 i0 _ 3 Try.underlying38 hi0 hz0 hz1 rfl (by decide) (by omega) (.slice a S.l.length c) L.own S.l.length (encL S.l) rfl HR1.out ⟨w.heap.size, 0, none⟩ 1 1 [.int .i64 i, .int .i64 id, .int .i64 cost] rfl rfl (World.news_of_block (cs := #[.int .i64 i, .int .i64 id, .int .i64 cost]) (heap_alloc_new w _)) (by simp [Value.oneCell']) (by omega) (by omega) ?_; intro g f cp w2 hrow2 hgrow hown; have HR2 := Lib.hid hrow2; have B2 := ((HP.out.alloc (.cells #[.int .i64 i, .int .i64 id, .int .i64 cost] 43)).grown hgrow (Ne.symm H.out.ne4.1)); have hk2 : w2.cell? ⟨p, 2, none⟩ = some (.slice a S.l.length c) := (B2.cell 2 _ rfl).trans (congrArg some HV.out); have hf2 := B2.free 2; have HG := Lib.hid hgrow; have HO := Lib.hid hown; clear hrow2 B2 hgrow hown)
  go_ret
  exact radd_done H.out hs i hi 0 id cost L.csc _ g f cp S.ck (Chg.refl _ _) H.out.cks H.out.c1 HG.out HO.out HR2.out
set_option maxHeartbeats 1000000 in
theorem radd_first (p : Nat) (S : RS) (L : RL) (F : Nat → Prop) (w : World) (h : RR w p S L F) (hs : S.l.length < 1000) (i : Nat) (hi : i < S.n) (id cost : Int) (h1 : 1 ≤ cost) (h2 : cost ≤ 10000) (hh : hasL S.l id = false) (hm : cntL S.l i = 0) (m : Int) (hmx : (S.ck i < S.now ∧ m = S.now) ∨ (S.now ≤ S.ck i ∧ m = S.ck i)) :
    Calls Try.prog 14 #[.pointer (some ⟨p, 0, none⟩), .int .i64 i, .int .i64 id, .int .i64 cost] w (RPost { S with l := S.l ++ [((i : Int), id, cost)], ck := upd S.ck i m } w p F (.int .i64 0)) := by
  obtain ⟨i0, hi0, hz0, hz1, hz2⟩ := info_parts infoItm
  have IS := Lib.hid (is_c p S L F w h i)
  rw [show S.isB i = true by simp [RS.isB]; omega] at IS
  have AT := Lib.hid (at_c p S L F w h id)
  rw [atI_no hh] at AT
  have WA := Lib.hid (rwaiting_c p S L F w h i)
  rw [hm] at WA
  obtain ⟨a, c, hv⟩ := h.form
  have hc2 := h.h2
  have hrow := h.row
  rw [hv] at hc2 hrow
  have H := Lib.hid h
  have HR0 := Lib.hid hrow
  have HV := Lib.hid hv
  have k1 := h.h1
  have k3 := h.h3
  have ki := h.k0 i hi
  have kf := h.cks.free i
  have hiz : (0 : Int) ≤ (i : Int) := by omega
  have hiz2 : (i : Int) < (S.n : Int) := by omega
  clear h hh hm hrow hv
  rcases hmx with ⟨hlt, rfl⟩ | ⟨hge, rfl⟩
  · go_enter Try.func14, Try.ntmps14
    go_wp2_with fail
    refine IS.out.mono ?_
    rintro e w' ⟨rfl, rfl⟩
    go_wp2_with fail
    refine AT.out.mono ?_
    rintro e w' ⟨rfl, rfl⟩
    go_wp2_with fail
    refine WA.out.mono ?_
    rintro e w' ⟨rfl, rfl⟩
    go_wp2_with fail
    refine WA.out.mono ?_
    rintro e w' ⟨rfl, rfl⟩
    go_wp2
    go_region
    have BW : Bk (w.setCell ⟨L.bc, i, none⟩ (.int .i64 S.now)).drew L.bc (L.csc.setIfInBounds i (.int .i64 S.now)) 3 := (H.out.cks.set _ _).drew
    have CW : Chg (fun b => b = L.bc) w (w.setCell ⟨L.bc, i, none⟩ (.int .i64 S.now)).drew := (Chg.setCell (F := fun b => b = L.bc) (Chg.refl _ _) _ _ (.inl rfl)).drew
    generalize (w.setCell ⟨L.bc, i, none⟩ (.int .i64 S.now)).drew = W at BW CW ⊢
    have HBW := Lib.hid BW
    have HCW := Lib.hid CW
    have HP := Lib.hid (CW.bk H.out.head (fun e => H.out.ne2 e))
    have hcW : W.cell? ⟨p, 2, none⟩ = some (.slice a S.l.length c) := (HP.out.cell 2 _ rfl).trans (congrArg some HV.out)
    have HR1 := Lib.hid ((HR0.out.chg CW (fun b hb e => H.out.ne4.2.2 (e ▸ hb))).chg ((Chg.refl (fun _ => False) W).alloc (.cells #[.int .i64 i, .int .i64 id, .int .i64 cost] 43)) (fun _ _ hf => hf))
    clear hc2 k1 k3 ki kf BW CW
    go_wp2_with (at_builtin; refine wpList_row_append rfl (.tmp 58) (.tmp 63) 38 rfl 43 i0 _ 3 Try.underlying38 hi0 hz0 hz1 rfl (by decide) (by omega) (.slice a S.l.length c) L.own S.l.length (encL S.l) rfl HR1.out ⟨W.heap.size, 0, none⟩ 1 1 [.int .i64 i, .int .i64 id, .int .i64 cost] rfl rfl (World.news_of_block (cs := #[.int .i64 i, .int .i64 id, .int .i64 cost]) (heap_alloc_new W _)) (by simp [Value.oneCell']) (by omega) (by omega) ?_; intro g f cp w2 hrow2 hgrow hown; have HR2 := Lib.hid hrow2; have B2 := ((HP.out.alloc (.cells #[.int .i64 i, .int .i64 id, .int .i64 cost] 43)).grown hgrow (Ne.symm H.out.ne4.1)); have hk2 : w2.cell? ⟨p, 2, none⟩ = some (.slice a S.l.length c) := (B2.cell 2 _ rfl).trans (congrArg some HV.out); have hf2 := B2.free 2; have HG := Lib.hid hgrow; have HO := Lib.hid hown; clear hrow2 B2 hgrow hown)
    go_ret
    exact radd_done H.out hs i hi 0 id cost _ _ g f cp _ HCW.out HBW.out (fun k hk => by
      have hil : i < L.csc.size := (Array.getElem?_eq_some_iff.1 (H.out.c1 i hi)).1
      by_cases e : k = i
      · subst e; rw [upd_at, Array.getElem?_setIfInBounds_self_of_lt hil]
      · rw [upd_ne _ _ _ _ e, Array.getElem?_setIfInBounds_ne (Ne.symm e)]; exact H.out.c1 k hk) HG.out HO.out HR2.out
  · go_enter Try.func14, Try.ntmps14
    go_wp2_with fail
    refine IS.out.mono ?_
    rintro e w' ⟨rfl, rfl⟩
    go_wp2_with fail
    refine AT.out.mono ?_
    rintro e w' ⟨rfl, rfl⟩
    go_wp2_with fail
    refine WA.out.mono ?_
    rintro e w' ⟨rfl, rfl⟩
    go_wp2_with fail
    refine WA.out.mono ?_
    rintro e w' ⟨rfl, rfl⟩
    go_wp2
    go_region
    have BW : Bk (w.setCell ⟨L.bc, i, none⟩ (.int .i64 (S.ck i))).drew L.bc (L.csc.setIfInBounds i (.int .i64 (S.ck i))) 3 := (H.out.cks.set _ _).drew
    have CW : Chg (fun b => b = L.bc) w (w.setCell ⟨L.bc, i, none⟩ (.int .i64 (S.ck i))).drew := (Chg.setCell (F := fun b => b = L.bc) (Chg.refl _ _) _ _ (.inl rfl)).drew
    generalize (w.setCell ⟨L.bc, i, none⟩ (.int .i64 (S.ck i))).drew = W at BW CW ⊢
    have HBW := Lib.hid BW
    have HCW := Lib.hid CW
    have HP := Lib.hid (CW.bk H.out.head (fun e => H.out.ne2 e))
    have hcW : W.cell? ⟨p, 2, none⟩ = some (.slice a S.l.length c) := (HP.out.cell 2 _ rfl).trans (congrArg some HV.out)
    have HR1 := Lib.hid ((HR0.out.chg CW (fun b hb e => H.out.ne4.2.2 (e ▸ hb))).chg ((Chg.refl (fun _ => False) W).alloc (.cells #[.int .i64 i, .int .i64 id, .int .i64 cost] 43)) (fun _ _ hf => hf))
    clear hc2 k1 k3 ki kf BW CW
    go_wp2_with (at_builtin; refine wpList_row_append rfl (.tmp 58) (.tmp 63) 38 rfl 43 i0 _ 3 Try.underlying38 hi0 hz0 hz1 rfl (by decide) (by omega) (.slice a S.l.length c) L.own S.l.length (encL S.l) rfl HR1.out ⟨W.heap.size, 0, none⟩ 1 1 [.int .i64 i, .int .i64 id, .int .i64 cost] rfl rfl (World.news_of_block (cs := #[.int .i64 i, .int .i64 id, .int .i64 cost]) (heap_alloc_new W _)) (by simp [Value.oneCell']) (by omega) (by omega) ?_; intro g f cp w2 hrow2 hgrow hown; have HR2 := Lib.hid hrow2; have B2 := ((HP.out.alloc (.cells #[.int .i64 i, .int .i64 id, .int .i64 cost] 43)).grown hgrow (Ne.symm H.out.ne4.1)); have hk2 : w2.cell? ⟨p, 2, none⟩ = some (.slice a S.l.length c) := (B2.cell 2 _ rfl).trans (congrArg some HV.out); have hf2 := B2.free 2; have HG := Lib.hid hgrow; have HO := Lib.hid hown; clear hrow2 B2 hgrow hown)
    go_ret
    exact radd_done H.out hs i hi 0 id cost _ _ g f cp _ HCW.out HBW.out (fun k hk => by
      have hil : i < L.csc.size := (Array.getElem?_eq_some_iff.1 (H.out.c1 i hi)).1
      by_cases e : k = i
      · subst e; rw [upd_at, Array.getElem?_setIfInBounds_self_of_lt hil]
      · rw [upd_ne _ _ _ _ e, Array.getElem?_setIfInBounds_ne (Ne.symm e)]; exact H.out.c1 k hk) HG.out HO.out HR2.out
end Go.Proofs.Ytdnkliapcnfcoaa.fair
