/- The reference's Append: a fresh page. -/
import Derived.Test.YtfimadeokdlpnaaWi
namespace Go.Proofs.Ytfimadeokdlpnaa.kv
open Go.ChangeShapes Go.WideShapes Go.ChangeAt Go.RowKit K
set_option linter.unusedVariables false
set_option linter.unusedSimpArgs false
variable (s r rb : Nat) (S : List Pg) (c : Nat → Nat) (Q : Sq) (v : Value) (own : Option Nat) (w : World)
set_option maxHeartbeats 8000000 in
set_option maxRecDepth 100000 in
theorem rappend_ok1 (h : RQ w s r Q v own) (hp : RP w r rb S c) (ha : RApart r rb S c s own) (hS : Small S) (hu : Q.isOpen = true → ownersOf S Q.last ≠ 0) (hlen : Q.len < 1000) (hn : ¬ needOf S Q = 0) (ho : Q.isOpen = false) (S' : List Pg) (Q' : Sq) (hr : roomOf S Q = some (S', Q')) (bx bo cc : Nat) (xs : List Int) (hx : Args w bx bo xs) (hxl : xs.length = Q.width) (hF : ¬ GF r rb S c s own bx) :
    Calls Try.prog 19 #[.pointer (some ⟨s, 0, none⟩), .slice (some ⟨bx, bo, none⟩) Q.width cc] w (QPost r rb S c s own (putRow S' (Q'.page Q.len) (Q'.cell Q.len) xs Q.width) { Q' with len := Q.len + 1 } w (.int .i64 0)) := by
  obtain ⟨i0, hi0, hz0, hz1, hz2⟩ := info_parts infoI
  have HN0 := Lib.hid hn
  have HO0 := Lib.hid ho
  clear hn ho
  have hfewQ := h.few
  have ND := Lib.hid (rneed_c s r Q v own w rb S c h hp hu)
  obtain ⟨⟨l, hq⟩, hlt⟩ := roomOf_seq hr h.fit h.per_pos.1
  have h2 := h.c2
  have hwd := h.wd
  have H := Lib.hid h
  have HP := Lib.hid hp
  have HX := Lib.hid hx
  have HA := Lib.hid ha
  have HF := Lib.hid hF
  have HLT := Lib.hid hlt
  have HQ := Lib.hid hq
  have HXL := Lib.hid hxl
  have HR := Lib.hid hr
  clear h hp hr hx ha hF hlt hq hxl
  generalize hW : Q.width = W at *
  go_enter Try.func19, Try.ntmps19
  go_wp2_with fail
  refine ND.out.mono ?_
  rintro e w0 ⟨rfl, mn, rfl⟩
  go_upto_if 23 with fail
  go_cut [] from 22 to 117 (fun wc => Hid (∃ c1 v1 own1, QMid r rb S c s own w wc S' Q' c1 v1 own1))
  case first =>
    have hn := HN0.out
    have HRS := HR.out
    unfold roomOf at HRS
    have hn1 : needOf S Q = 1 := (needOf_le S Q).resolve_left hn
    rw [if_neg hn] at HRS
    rw [hn1]
    by_cases hf : freeOf S = 0
    · rw [if_pos hf] at HRS; cases HRS
    rw [if_neg hf] at HRS
    have hf1 : 0 < freeOf S := by omega
    have HF1 := Lib.hid hf1
    have TK : Hid (∀ n, Calls Try.prog 39 #[.pointer (some ⟨r, 0, none⟩), .string Q.tag, .int .i64 1] (w.drewN n) fun e w' => ∃ g f cp, e = .returned (.tuple #[.slice (some ⟨g, f, none⟩) 1 cp, .int .i64 0]) ∧ Took1 r rb S c Q.tag w w' g f) := fun n => (rTake_ok r rb S c _ (HP.out.drewN n) Q.tag H.out.tg hf1).mono fun e w' ⟨g, f, cp, h1, h2⟩ => ⟨g, f, cp, h1, ⟨h2.pool, ⟨h2.chg.os, h2.chg.tape, h2.chg.output, h2.chg.size, h2.chg.block⟩, h2.num, h2.lt, h2.ge⟩⟩
    have TK2 : Hid (Calls Try.prog 39 #[.pointer (some ⟨r, 0, none⟩), .string Q.tag, .int .i64 1] (w.drewN mn).drew fun e w' => ∃ g f cp, e = .returned (.tuple #[.slice (some ⟨g, f, none⟩) 1 cp, .int .i64 0]) ∧ Took1 r rb S c Q.tag w w' g f) := TK.out (mn + 1)
    have k0 : (w.drewN mn).cell? ⟨s, 0, none⟩ = some (.pointer (some ⟨r, 0, none⟩)) := H.out.c0
    have k1 : (w.drewN mn).cell? ⟨s, 1, none⟩ = some (.string Q.tag) := H.out.c1
    clear hf hf1 h2 hn ND TK
    generalize w.drewN mn = w0 at *
    go_wp2_with fail
    go_region_held3 (fun w' => w'.cell? ⟨s, 0, none⟩ = some (.pointer (some ⟨r, 0, none⟩)) ∧ w'.cell? ⟨s, 1, none⟩ = some (.string Q.tag)) (first | exact ⟨by assumption, by assumption⟩ | go_keep)
      ((go_at_call 39; (with_reducible refine TK2.out.mono ?_); rintro e w1 ⟨g, f, cp, rfl, hT⟩; have HT := Lib.hid hT; have HS1 := Lib.hid (H.out.chg hT.chg HA.out.s HA.out.o); have j0 := HS1.out.c0; have j1 := HS1.out.c1; clear hT))
    clear k0 k1 TK2
    have FI := Lib.hid (rfits_c s r Q v own w1 HS1.out)
    have j3 := HS1.out.c3
    have ho := HO0.out
    rw [ho] at FI HRS
    obtain ⟨rfl, rfl⟩ := Prod.mk.inj (Option.some.inj HRS)
    go_wp2_with fail
    refine FI.out.mono ?_
    rintro e w2 ⟨rfl, m2, rfl⟩
    obtain ⟨a, c3, hv, h3⟩ := j3
    have HV := Lib.hid hv
    have hj3 : (w1.drewN m2).cell? ⟨s, 3, none⟩ = some (.slice a Q.pages.length c3) := h3
    have hfr3 : (w1.drewN m2).frozen? ⟨s, 3, none⟩ = false := HS1.out.head.free 3
    have hgc : (w1.drewN m2).cell? ⟨g, f, none⟩ = some (.int .i64 (ff S)) := HT.out.num
    have hgl : g < (w1.drewN m2).heap.size := HT.out.lt
    have hsl : s < (w1.drewN m2).heap.size := HS1.out.head.lt
    have hrow : Row (w1.drewN m2) 3 1 (.slice a Q.pages.length c3) own Q.pages.length (encN Q.pages) := by
      have := HS1.out.row
      rw [hv] at this
      exact this
    have HS2 : Hid (RQ (w1.drewN m2) s r Q v own) := HS1.out.drewN m2
    have HT2 : Hid (Took1 r rb S c Q.tag w (w1.drewN m2) g f) := by
      obtain ⟨⟨c', t1, t2, t3⟩, t4, t5, t6, t7⟩ := HT.out
      exact ⟨⟨c', t1.drewN m2, t2, t3⟩, Chg.drewR t4 m2, t5, t6, t7⟩
    clear HT HS1 j0 j1 hv h3 FI
    generalize w1.drewN m2 = w2 at *
    generalize hLL : Q.pages.length = L at *
    have HLL := Lib.hid hLL
    have gE : ∀ o : Obj, Chg (fun _ => False) w2 (w2.alloc o).drew := fun o => ((Chg.refl _ w2).alloc o).drew
    have gEE : ∀ o1 o2 : Obj, Chg (fun _ => False) w2 ((w2.alloc o1).alloc o2).drew := fun o1 o2 => (((Chg.refl _ w2).alloc o1).alloc o2).drew
    have HE1 : Hid (Row (w2.alloc (.cells #[] 3)).drew 3 1 (.slice (some ⟨w2.heap.size, 0, none⟩) 0 0) (some w2.heap.size) 0 []) := (Row.empty (w := w2)).keep (fun _ _ => rfl)
    have HE2 : Hid (Row ((w2.alloc (.cells #[] 3)).alloc (.cells #[.int .i64 (ff S)] 3)).drew 3 1 (.slice (some ⟨w2.heap.size, 0, none⟩) 0 0) (some w2.heap.size) 0 []) := (Row.empty (w := w2)).keep (fun b hb => by cases hb; exact Below.heap_alloc _ _ _ (by simp))
    have HE3 : Hid (Row ((w2.alloc (.cells #[.int .i64 (ff S)] 3)).alloc (.cells #[] 3)).drew 3 1 (.slice (some ⟨w2.heap.size + 1, 0, none⟩) 0 0) (some (w2.heap.size + 1)) 0 []) := by
      have := (Row.empty (w := w2.alloc (.cells #[.int .i64 (ff S)] 3)) (t := 3))
      rw [show (w2.alloc (.cells #[.int .i64 (ff S)] 3)).heap.size = w2.heap.size + 1 by simp] at this
      exact this.keep (fun _ _ => rfl)
    have HR1 : Hid (Src (w2.alloc (.cells #[] 3)).drew a (encN Q.pages)) := kv.Row.src (hrow.chg (gE _) (fun _ _ => id))
    have HR2 : Hid (Src ((w2.alloc (.cells #[] 3)).alloc (.cells #[.int .i64 (ff S)] 3)).drew a (encN Q.pages)) := kv.Row.src (hrow.chg (gEE _ _) (fun _ _ => id))
    have HR3 : Hid (Src ((w2.alloc (.cells #[.int .i64 (ff S)] 3)).alloc (.cells #[] 3)).drew a (encN Q.pages)) := kv.Row.src (hrow.chg (gEE _ _) (fun _ _ => id))
    have HLEN : Hid ((encN Q.pages).length = L * 1) := by show _ = _; rw [encN_length, HLL.out, Nat.mul_one]
    have HONE := Lib.hid (encN_one Q.pages)
    have HK : Hid (∀ w6, Below w2.heap.size w2 w6 → w6.cell? ⟨s, 3, none⟩ = some (.slice a L c3) ∧ w6.frozen? ⟨s, 3, none⟩ = false ∧ w6.cell? ⟨g, f, none⟩ = some (.int .i64 (ff S))) := fun w6 hb => ⟨(hb.cell (p := ⟨s, 3, none⟩) hsl).trans hj3, (hb.frozen (p := ⟨s, 3, none⟩) hsl).trans hfr3, (hb.cell (p := ⟨g, f, none⟩) hgl).trans hgc⟩
    have B1 : Hid (Below w2.heap.size w2 (w2.alloc (.cells #[] 3)).drew) := ((Below.refl _ w2).alloc (Nat.le_refl _) _).drew
    have B2 : Hid (Below w2.heap.size w2 ((w2.alloc (.cells #[] 3)).alloc (.cells #[.int .i64 (ff S)] 3)).drew) := (((Below.refl _ w2).alloc (Nat.le_refl _) _).alloc (by simp) _).drew
    have B3 : Hid (Below w2.heap.size w2 ((w2.alloc (.cells #[.int .i64 (ff S)] 3)).alloc (.cells #[] 3)).drew) := (((Below.refl _ w2).alloc (Nat.le_refl _) _).alloc (by simp) _).drew
    have I2 : Hid (Bk ((w2.alloc (.cells #[] 3)).alloc (.cells #[.int .i64 (ff S)] 3)).drew (w2.heap.size + 1) #[.int .i64 (ff S)] 3) := by
      have := Bk.new (w2.alloc (.cells #[] 3)) #[.int .i64 (ff S)] 3
      rw [show (w2.alloc (.cells #[] 3)).heap.size = w2.heap.size + 1 by simp] at this
      exact this
    have I3 : Hid (Bk ((w2.alloc (.cells #[.int .i64 (ff S)] 3)).alloc (.cells #[] 3)).drew w2.heap.size #[.int .i64 (ff S)] 3) := (Bk.new w2 _ _).alloc _
    have SB : ∀ (w6 : World) (b : Nat), Bk w6 b #[.int .i64 (ff S)] 3 → Src w6 (some ⟨b, 0, none⟩) [.int .i64 (ff S)] := fun w6 b hb => src_one hb
    have HSB := Lib.hid SB
    have FIN : Hid (∀ (w9 : World) (p2 : Option Addr) (cp2 : Nat) (own2 : Option Nat), Below w2.heap.size w2 w9 → Row w9 3 1 (.slice p2 (L + 1) cp2) own2 (L + 1) (encN Q.pages ++ [.int .i64 (ff S)]) → (∀ k, own2 = some k → w2.heap.size ≤ k) →
        ∃ c1 v1 own1, QMid r rb S c s own w (w9.setCell ⟨s, 3, none⟩ (.slice p2 (L + 1) cp2)) (kv.take1 S Q.tag) { Q with pages := Q.pages ++ [ff S] } c1 v1 own1) := by
      intro w9 p2 cp2 own2 hb hrw ho2
      obtain ⟨⟨c', t1, t2, t3⟩, t4, t5, t6, t7⟩ := HT2.out
      have hws : w.heap.size ≤ w2.heap.size := t4.size
      have hsw := H.out.head.lt
      have hns : ¬ RF r rb (kv.take1 S Q.tag) c' s := fun e => (t2 _ e).elim HA.out.s (fun e => by omega)
      have hcd : Chg (fun k => k = s) w9 (w9.setCell ⟨s, 3, none⟩ (.slice p2 (L + 1) cp2)) := (Chg.refl _ w9).setCell _ _ (.inl rfl)
      have hsq := HS2.out.below hb
      have hopen : ¬ (Q.len - Q.first < Q.pages.length * Q.per) := by
        have h1 := ho
        unfold Sq.isOpen at h1
        simpa using h1
      have hpp := H.out.per_pos
      have hLm : Q.pages.length ≤ Q.pages.length * Q.per := Nat.le_mul_of_pos_right _ (by omega)
      have hfit := H.out.fit
      rw [HLL.out] at hopen hLm hfit
      refine ⟨c', .slice p2 (L + 1) cp2, own2, (t1.below hb).chg hcd (fun k hk e => hns (e ▸ hk)), ⟨hsq.head.set 3 _, ?_, ?_, hsq.wd, hsq.tg, hsq.fl, hsq.short, ?_, ?_⟩, ⟨hns, fun k hk e => ?_⟩, t2, fun k hk => .inr (by have := ho2 k hk; omega), ?_⟩
      · show Row _ _ _ _ _ (Q.pages ++ [ff S]).length (encN (Q.pages ++ [ff S]))
        rw [List.length_append, List.length_singleton, HLL.out, show encN (Q.pages ++ [ff S]) = encN Q.pages ++ [.int .i64 (ff S : Int)] by simp [encN]]
        exact hrw.chg hcd (fun k hk e => by have := ho2 k hk; omega)
      · intro e
        have := ho2 s e; omega
      · show (Q.pages ++ [ff S]).length ≤ 1000
        rw [List.length_append, List.length_singleton, HLL.out]; omega
      · show Q.len - Q.first ≤ (Q.pages ++ [ff S]).length * Q.per
        rw [List.length_append, List.length_singleton, HLL.out, Nat.add_mul]; omega
      · have := t1.lt k e
        have := ho2 k hk; omega
      · exact ((t4.mono (G := GF r rb S c s own) (fun k e => .inl e)).trans (Chg.of_below (F := fun _ => False) hb rfl) (fun k e => e.elim)).trans hcd (fun k e => .inl (.inr (.inl e)))
    clear gE gEE SB hrow hgc hgl hfr3 hj3
    have hj3 : w2.cell? ⟨s, 3, none⟩ = some (.slice a L c3) := (HK.out w2 (Below.refl _ _)).1
    have hfr3 := (HK.out w2 (Below.refl _ _)).2.1
    have hgc := (HK.out w2 (Below.refl _ _)).2.2
    have hgl : g < w2.heap.size := HT2.out.lt
    have hL1 : L ≤ 1000 := hfewQ
    go_wp2_with fail
    go_region_law (first
      | (refine step_row_append_any rfl (.tmp 105) (.tmp 109) 35 rfl 3 i0 _ 1 Try.underlying35 hi0 (by assumption) hz1 rfl (by decide) (by omega) (.slice (some ⟨w2.heap.size, 0, none⟩) 0 0) (some (w2.heap.size)) 0 [] (by simp [Act.eval, Act.put]) HE1.out a L c3 (encN Q.pages) (by simp [Act.eval, Act.put]) HLEN.out HR1.out HONE.out (by omega) ?_; intro p1 cp1 w6 own1 hrow1 hgrow1 hown1; simp only [Nat.zero_add, List.nil_append] at hrow1; have B6 : Hid (Below w2.heap.size w2 w6) := B1.out.grown hgrow1 (by first | (simp; done) | (simp; omega)) (fun k hk => by cases hk; omega); obtain ⟨x3, x4, x5⟩ := HK.out w6 B6.out; have z6 := B6.out.size; have HRI : Hid (Row (w6.alloc (.cells #[.int .i64 (ff S)] 3)) 3 1 (.slice p1 L cp1) own1 L (encN Q.pages)) := hrow1.chg ((Chg.refl (fun _ => False) w6).alloc _) (fun _ _ => id); have HNI : Hid (Src (w6.alloc (.cells #[.int .i64 (ff S)] 3)) (some ⟨w6.heap.size, 0, none⟩) [.int .i64 (ff S)]) := HSB.out _ _ (Bk.new w6 _ _); have BY : Hid (Below w2.heap.size w2 (w6.alloc (.cells #[.int .i64 (ff S)] 3))) := B6.out.alloc z6 _; have HO1 : Hid (∀ k, own1 = some k → w2.heap.size ≤ k) := (fun k hk => by rcases hown1 with e | e <;> rw [e] at hk <;> cases hk <;> (first | omega | (simp; done) | (simp; omega))); clear hrow1 hgrow1 hown1)
      | (refine step_row_append_any rfl (.tmp 105) (.tmp 109) 35 rfl 3 i0 _ 1 Try.underlying35 hi0 (by assumption) hz1 rfl (by decide) (by omega) (.slice (some ⟨w2.heap.size, 0, none⟩) 0 0) (some (w2.heap.size)) 0 [] (by simp [Act.eval, Act.put]) HE2.out a L c3 (encN Q.pages) (by simp [Act.eval, Act.put]) HLEN.out HR2.out HONE.out (by omega) ?_; intro p1 cp1 w6 own1 hrow1 hgrow1 hown1; simp only [Nat.zero_add, List.nil_append] at hrow1; have B6 : Hid (Below w2.heap.size w2 w6) := B2.out.grown hgrow1 (by first | (simp; done) | (simp; omega)) (fun k hk => by cases hk; omega); obtain ⟨x3, x4, x5⟩ := HK.out w6 B6.out; have z6 := B6.out.size; have HRI : Hid (Row w6 3 1 (.slice p1 L cp1) own1 L (encN Q.pages)) := hrow1; have HNI : Hid (Src w6 (some ⟨w2.heap.size + 1, 0, none⟩) [.int .i64 (ff S)]) := HSB.out _ _ (I2.out.grown hgrow1 (by simp)); have BY := B6; have HO1 : Hid (∀ k, own1 = some k → w2.heap.size ≤ k) := (fun k hk => by rcases hown1 with e | e <;> rw [e] at hk <;> cases hk <;> (first | omega | (simp; done) | (simp; omega))); clear hrow1 hgrow1 hown1)
      | (refine step_row_append_any rfl (.tmp 105) (.tmp 109) 35 rfl 3 i0 _ 1 Try.underlying35 hi0 (by assumption) hz1 rfl (by decide) (by omega) (.slice (some ⟨w2.heap.size + 1, 0, none⟩) 0 0) (some (w2.heap.size + 1)) 0 [] (by simp [Act.eval, Act.put]) HE3.out a L c3 (encN Q.pages) (by simp [Act.eval, Act.put]) HLEN.out HR3.out HONE.out (by omega) ?_; intro p1 cp1 w6 own1 hrow1 hgrow1 hown1; simp only [Nat.zero_add, List.nil_append] at hrow1; have B6 : Hid (Below w2.heap.size w2 w6) := B3.out.grown hgrow1 (by first | (simp; done) | (simp; omega)) (fun k hk => by cases hk; omega); obtain ⟨x3, x4, x5⟩ := HK.out w6 B6.out; have z6 := B6.out.size; have HRI : Hid (Row w6 3 1 (.slice p1 L cp1) own1 L (encN Q.pages)) := hrow1; have HNI : Hid (Src w6 (some ⟨w2.heap.size, 0, none⟩) [.int .i64 (ff S)]) := HSB.out _ _ (I3.out.grown hgrow1 (by simp)); have BY := B6; have HO1 : Hid (∀ k, own1 = some k → w2.heap.size ≤ k) := (fun k hk => by rcases hown1 with e | e <;> rw [e] at hk <;> cases hk <;> (first | omega | (simp; done) | (simp; omega))); clear hrow1 hgrow1 hown1)
      | (refine step_row_append_any rfl (.tmp 110) (.tmp 114) 35 rfl 3 i0 _ 1 Try.underlying35 hi0 (by assumption) hz1 rfl (by decide) (by omega) (.slice p1 L cp1) own1 L (encN Q.pages) (by simp [Act.eval, Act.put]) HRI.out (some ⟨w6.heap.size, 0, none⟩) 1 1 [.int .i64 (ff S)] (by simp [Act.eval, Act.put]) rfl HNI.out (by simp [Value.oneCell']) (by omega) ?_; intro p2 cp2 w9 own2 hrow2 hgrow2 hown2; have B9 : Hid (Below w2.heap.size w2 w9) := BY.out.grown hgrow2 (by have := BY.out.size; exact this) HO1.out; obtain ⟨y3, y4, y5⟩ := HK.out w9 B9.out; have HO2 : Hid (∀ k, own2 = some k → w2.heap.size ≤ k) := (fun k hk => by rcases hown2 with e | e; (exact HO1.out k (e.symm.trans hk)); (rw [e] at hk; cases hk; exact BY.out.size)); have HRF := Lib.hid hrow2; clear hrow2 hgrow2 hown2)
      | (refine step_row_append_any rfl (.tmp 110) (.tmp 114) 35 rfl 3 i0 _ 1 Try.underlying35 hi0 (by assumption) hz1 rfl (by decide) (by omega) (.slice p1 L cp1) own1 L (encN Q.pages) (by simp [Act.eval, Act.put]) HRI.out (some ⟨w2.heap.size + 1, 0, none⟩) 1 1 [.int .i64 (ff S)] (by simp [Act.eval, Act.put]) rfl HNI.out (by simp [Value.oneCell']) (by omega) ?_; intro p2 cp2 w9 own2 hrow2 hgrow2 hown2; have B9 : Hid (Below w2.heap.size w2 w9) := BY.out.grown hgrow2 (by have := BY.out.size; exact this) HO1.out; obtain ⟨y3, y4, y5⟩ := HK.out w9 B9.out; have HO2 : Hid (∀ k, own2 = some k → w2.heap.size ≤ k) := (fun k hk => by rcases hown2 with e | e; (exact HO1.out k (e.symm.trans hk)); (rw [e] at hk; cases hk; exact BY.out.size)); have HRF := Lib.hid hrow2; clear hrow2 hgrow2 hown2)
      | (refine step_row_append_any rfl (.tmp 110) (.tmp 114) 35 rfl 3 i0 _ 1 Try.underlying35 hi0 (by assumption) hz1 rfl (by decide) (by omega) (.slice p1 L cp1) own1 L (encN Q.pages) (by simp [Act.eval, Act.put]) HRI.out (some ⟨w2.heap.size, 0, none⟩) 1 1 [.int .i64 (ff S)] (by simp [Act.eval, Act.put]) rfl HNI.out (by simp [Value.oneCell']) (by omega) ?_; intro p2 cp2 w9 own2 hrow2 hgrow2 hown2; have B9 : Hid (Below w2.heap.size w2 w9) := BY.out.grown hgrow2 (by have := BY.out.size; exact this) HO1.out; obtain ⟨y3, y4, y5⟩ := HK.out w9 B9.out; have HO2 : Hid (∀ k, own2 = some k → w2.heap.size ≤ k) := (fun k hk => by rcases hown2 with e | e; (exact HO1.out k (e.symm.trans hk)); (rw [e] at hk; cases hk; exact BY.out.size)); have HRF := Lib.hid hrow2; clear hrow2 hgrow2 hown2))
    all_goals
      go_wp2_with fail
      go_meet
      exact FIN.out w9 p2 cp2 own2 B9.out HRF.out HO2.out
  case rest =>
    obtain ⟨c1, v1, own1, hM⟩ := hcut.out
    have HM := Lib.hid hM
    clear hM hcut
    have e1 : Q'.width = W := by rw [HQ.out, ← hW]
    have e2 : Q'.first = Q.first := by rw [HQ.out]
    have e3 : Q'.len = Q.len := by rw [HQ.out]
    have e4 : Q'.per = Q.per := by unfold Sq.per; rw [e1, ← hW]
    have hfl := H.out.fl
    have hpl : Q'.pages[(Q'.len - Q'.first) / Q'.per]? = some (Q'.page Q'.len) := by
      have hp := H.out.per_pos
      have hlt := HLT.out
      have : (Q'.len - Q'.first) / Q'.per < Q'.pages.length := by
        rw [e2, e3, e4]
        exact (Nat.div_lt_iff_lt_mul (by omega)).2 hlt
      unfold Sq.page
      rw [List.getElem?_eq_getElem this]; rfl
    obtain ⟨b3, off3, cc3, hv3, k3, kp, hb3, -, hl3⟩ := HM.out.seq.page hpl
    have hjl := (List.getElem?_eq_some_iff.1 hpl).1
    have hwd' : 1 ≤ Q'.width ∧ Q'.width ≤ 32 := by omega
    have hcell : ∀ k, k < W → Q'.cell Q'.len + k < 32 := fun k hk => Sq.cell_lt hwd' _ k (by omega)
    have HCE : Hid (Q'.cell Q'.len = (Q'.len - Q'.first) % Q'.per * Q'.width) := rfl
    have k0 := HM.out.seq.c0
    have k2 := HM.out.seq.c2
    have k4 := HM.out.seq.c4
    have k5 := HM.out.seq.c5
    have hpp := HM.out.seq.per_pos
    have hfew := HM.out.seq.few
    have hq1 := HM.out.seq.fl
    have hsl := HM.out.seq.head.lt
    have hrr : (Q'.len - Q'.first) % Q'.per < Q'.per := Nat.mod_lt _ (by omega)
    have hwm := wrap_mul ((Q'.len - Q'.first) % Q'.per) Q'.width (by omega) hwd'.2
    have PE : Hid (∀ n, Calls Try.prog 44 #[.pointer (some ⟨s, 0, none⟩)] (wc.drewN n) fun e w' => e = .returned (.int .i64 Q'.per) ∧ wc.drewN n = w') := fun n => rrows_c s r Q' v1 own1 _ (HM.out.seq.drewN n)
    have PE2 : Hid (∀ a n, Calls Try.prog 44 #[.pointer (some ⟨s, 0, none⟩)] ((wc.drewN a).drewN n) fun e w' => e = .returned (.int .i64 Q'.per) ∧ (wc.drewN a).drewN n = w') := fun a n => rrows_c s r Q' v1 own1 _ ((HM.out.seq.drewN a).drewN n)
    have hN : Q'.len ≤ 1000 := by omega
    have HPG : Hid (Q'.page Q'.len = Q'.page Q.len ∧ Q'.cell Q'.len = Q'.cell Q.len) := by rw [e3]; exact ⟨rfl, rfl⟩
    have E1 := Lib.hid e1
    have E2 := Lib.hid e2
    have E3 := Lib.hid e3
    have E4 := Lib.hid e4
    clear e1 e2 e3 e4 hpl hwd hwd' h2 ND HP
    obtain ⟨pg, hpg⟩ : ∃ pg, Q'.page Q'.len = pg := ⟨_, rfl⟩
    obtain ⟨ce, hce⟩ : ∃ ce, Q'.cell Q'.len = ce := ⟨_, rfl⟩
    have HPGE := Lib.hid hpg
    have HCEE := Lib.hid hce
    rw [hpg] at kp
    rw [hce] at hcell HCE
    clear hpg hce
    obtain ⟨P, hP⟩ : ∃ P, Q'.per = P := ⟨_, rfl⟩
    obtain ⟨L, hL⟩ : ∃ L, Q'.pages.length = L := ⟨_, rfl⟩
    obtain ⟨F, hFF⟩ : ∃ F, Q'.first = F := ⟨_, rfl⟩
    obtain ⟨N, hNN⟩ : ∃ N, Q'.len = N := ⟨_, rfl⟩
    obtain ⟨W2, hW2⟩ : ∃ W2, Q'.width = W2 := ⟨_, rfl⟩
    have hww : W2 = W := hW2.symm.trans E1.out
    subst hww
    rw [hL] at k3 hl3 hjl hfew
    rw [hFF] at k4 kp HCE hrr hwm hjl hq1
    rw [hNN] at k5 kp HCE hrr hwm hjl hq1 hN
    rw [hW2] at k2 HCE hwm
    rw [hP] at kp HCE hrr hwm hjl hpp PE PE2
    have HPE := Lib.hid hP
    have HLE := Lib.hid hL
    have HFE := Lib.hid hFF
    have HNE := Lib.hid hNN
    have HWE := Lib.hid hW2
    clear hP hL hFF hNN hW2
    obtain ⟨d, hd⟩ : ∃ d, N - F = d := ⟨_, rfl⟩
    have hd1 : (N : Int) - (F : Int) = (d : Int) := by omega
    rw [hd] at kp hjl hrr hwm HCE
    have hqq : (d : Int) / (P : Int) = ((d / P : Nat) : Int) := rfl
    have hmm : (d : Int) % (P : Int) = ((d % P : Nat) : Int) := rfl
    have hd2 : d ≤ 1000 := by omega
    clear hd
    generalize hQQ : d / P = q at *
    generalize hMM : d % P = rr at *
    have hwx : W2 ≤ 32 := by have := HM.out.seq.wd; have := HWE.out; omega
    have hw3 : (rr : Int) * (W2 : Int) = ((rr * W2 : Nat) : Int) := by simp
    have hz : ((P : Int) == 0) = false := by rw [beq_eq_false_iff_ne]; omega
    have hq0 : (0 : Int) ≤ (q : Int) := by omega
    have hqL : (q : Int) < (L : Int) := by omega
    have hb2 : rr * W2 ≤ 1000 * 32 := Nat.mul_le_mul (by omega) hwx
    rw [← HCE.out] at hw3 hb2 hwm
    clear HCE
    go_wp2
    go_quiet ((go_at_call 44; exact Calls.quiet_of_same ((PE.out _).mono (fun e w' h => ⟨h.1, h.2.symm⟩))))
    go_wp2
    have PE3 := Lib.hid (PE2.out nq)
    have HM2 := Lib.hid (HM.out.drewN nq)
    have K0 : Hid (wc.cell? ⟨s, 0, none⟩ = some (.pointer (some ⟨r, 0, none⟩))) := k0
    have j0 : (wc.drewN nq).cell? ⟨s, 0, none⟩ = some (.pointer (some ⟨r, 0, none⟩)) := k0
    have j2 : (wc.drewN nq).cell? ⟨s, 2, none⟩ = some (.int .i64 W2) := k2
    have j4 : (wc.drewN nq).cell? ⟨s, 4, none⟩ = some (.int .i64 F) := k4
    have j5 : (wc.drewN nq).cell? ⟨s, 5, none⟩ = some (.int .i64 N) := k5
    clear k0 k2 k3 k4 k5 kp PE PE2 HM K0
    generalize wc.drewN nq = w1 at *
    go_quiet ((go_at_call 44; exact Calls.quiet_of_same ((PE3.out _).mono (fun e w' h => ⟨h.1, h.2.symm⟩))))
    go_wp2
    have HM3 : Hid (∃ c2, QMid r rb S c s own w (w1.drewN nq) (putRow S' pg ce xs 0) Q' c2 v1 own1) := ⟨c1, HM2.out.drewN nq⟩
    clear HM2 j0 j2 j4 j5 PE3 hqq hmm hw3 hz hq0 hqL hb2 hwm hd1 hjl hrr hq1
    generalize w1.drewN nq = w2 at *
    go_loopw [13] (fun s13 wr => ∃ k : Nat, k ≤ W2 ∧ s13 = .int .i64 k ∧ Hid (∃ c2, QMid r rb S c s own w wr (putRow S' pg ce xs k) Q' c2 v1 own1)) (fun s13 _ => W2 - (intOf s13).toNat)
    case atStart => exact ⟨0, by omega, rfl, HM3⟩
    case round =>
      obtain ⟨k, hk, rfl, ⟨c2, hMk⟩⟩ := hrel
      have HMk := Lib.hid hMk
      have k0 := hMk.seq.c0
      have k2 := hMk.seq.c2
      rw [HWE.out] at k2
      clear hMk HM3
      by_cases hkW : k < W2
      · have hkz : (k : Int) < (W2 : Int) := by omega
        have hk0 : (0 : Int) ≤ (k : Int) := by omega
        have hcek := hcell k hkW
        have hxk : xs[k]? = some (xs.getD k 0) := by rw [List.getD_eq_getElem?_getD, List.getElem?_eq_getElem (by rw [HXL.out]; exact hkW)]; rfl
        have hrx := (HX.out.chg HMk.out.chg HF.out).cell k _ hxk
        have PU : Hid (Calls Try.prog 42 #[.pointer (some ⟨r, 0, none⟩), .int .i64 (pg : Int), .int .i64 ((ce : Int) + (k : Int)), .int .i64 (xs.getD k 0)] wr.drew fun e w' => ∃ er : Int, e = .returned (.int .i64 er) ∧ (∃ c3, QMid r rb S c s own w w' (putRow S' pg ce xs (k + 1)) Q' c3 v1 own1) ∧ w'.cell? ⟨s, 0, none⟩ = some (.pointer (some ⟨r, 0, none⟩)) ∧ w'.cell? ⟨bx, bo + k, none⟩ = some (.int .i64 (xs.getD k 0))) := by
          have h1 := rput_c r rb _ c2 _ (HMk.out.drewN 1).pool pg (ce + k) hcek (xs.getD k 0)
          rw [Int.natCast_add] at h1
          refine h1.mono fun e w' hp => ?_
          obtain ⟨c3, h3⟩ := (HMk.out.drewN 1).step hp
          exact ⟨_, hp.ret, ⟨c3, h3⟩, h3.seq.c0, (HX.out.chg h3.chg HF.out).cell k _ hxk⟩
        generalize hgv : xs.getD k 0 = gv at hrx PU
        have hwk : IntKind.i64.wrap ((ce : Int) + (k : Int)) = (ce : Int) + (k : Int) := by rw [IntKind.wrap_i64]; omega
        clear hgv hxk hcell
        go_wp2_with fail
        go_region_held3 (fun w' => w'.cell? ⟨s, 0, none⟩ = some (.pointer (some ⟨r, 0, none⟩)) ∧ w'.cell? ⟨bx, bo + k, none⟩ = some (.int .i64 gv)) (first | exact ⟨by assumption, by assumption⟩ | go_keep)
          ((go_at_call 42; (with_reducible refine PU.out.mono ?_); rintro e w' ⟨er, rfl, hq, j0, jx⟩; have HQ3 := Lib.hid hq; clear hq))
        go_wp2
        exact ⟨⟨k + 1, by omega, by go_num, HQ3⟩, by simp [intOf]; omega⟩
      · obtain rfl : k = W2 := by omega
        have hkz : ¬ (k : Int) < (k : Int) := by omega
        have h5 := HMk.out.seq.c5
        have hf5 := HMk.out.seq.head.free 5
        rw [HNE.out] at h5
        have hwN : IntKind.i64.wrap ((N : Int) + 1) = (N : Int) + 1 := by rw [IntKind.wrap_i64]; omega
        clear hcell
        go_wp2
        go_ret
        have hcd : Chg (fun k => k = s) wr (wr.setCell ⟨s, 5, none⟩ (.int .i64 ((N : Int) + 1))) := (Chg.refl _ _).setCell _ _ (.inl rfl)
        have hNQ : N = Q.len := HNE.out.symm.trans E3.out
        have hsq := HMk.out.seq
        have hfin : QPost r rb S c s own (putRow S' pg ce xs k) { Q' with len := Q.len + 1 } w (.int .i64 0) (.returned (.int .i64 0)) (wr.setCell ⟨s, 5, none⟩ (.int .i64 ((N : Int) + 1))) := by
          refine ⟨rfl, ⟨c2, v1, own1, HMk.out.pool.chg hcd (fun q hq e => HMk.out.apart.s (e ▸ hq)), ⟨?_, ?_, hsq.ne, hsq.wd, hsq.tg, ?_, ?_, hsq.few, ?_⟩, HMk.out.apart, HMk.out.foot, HMk.out.grow⟩, HMk.out.chg.trans hcd (fun q e => .inl (.inr (.inl e)))⟩
          · have := hsq.head.set 5 (.int .i64 ((N : Int) + 1))
            rw [hNQ] at this ⊢
            exact this
          · exact hsq.row.keep fun q hq => Below.heap_setCell _ _ _ _ (fun e => hsq.ne (by rw [hq]; exact congrArg some e))
          · show Q'.first ≤ Q.len + 1
            have := hsq.fl
            rw [E3.out] at this; omega
          · show Q.len + 1 ≤ 1000
            omega
          · show Q.len + 1 - Q'.first ≤ Q'.pages.length * Q'.per
            have := HLT.out
            rw [E2.out, E4.out]; omega
        rw [← HPGE.out, ← HCEE.out, HPG.out.1, HPG.out.2] at hfin
        exact hfin
end Go.Proofs.Ytfimadeokdlpnaa.kv
