/- FairOrder: the walk. -/
import Derived.Test.YtdnkliapcnfcoaaPo
import Derived.Test.YtdnkliapcnfcoaaFk
import Derived.Deep.RegionHeld3
namespace Go.Proofs.Ytdnkliapcnfcoaa.fair
open Go.ChangeShapes Go.WideShapes Go.ChangeAt Go.RowKit K
set_option linter.unusedVariables false
set_option linter.unusedSimpArgs false
theorem Acts.below {w w' : World} {p : Option Addr} {l : List (Int × Int × Int × Int)} (h : Acts w p l) (hb : Below w.heap.size w w') : Acts w' p l := by
  intro j x hx
  obtain ⟨b, off, h1, h2, c0, c1, c2, c3⟩ := h j x hx
  exact ⟨b, off, h1, Nat.lt_of_lt_of_le h2 hb.size, (hb.cell (p := ⟨b, off + j * 4, none⟩) h2).trans c0, (hb.cell (p := ⟨b, off + j * 4 + 1, none⟩) h2).trans c1, (hb.cell (p := ⟨b, off + j * 4 + 2, none⟩) h2).trans c2, (hb.cell (p := ⟨b, off + j * 4 + 3, none⟩) h2).trans c3⟩
/-- Behind the two appends that leave an item out. -/
theorem ord_cut {W w5 w0 w6 w7 : World} {p : Nat} {S : FS} {l : List (Int × Int × Int)} {X : Nat → Prop} {i j : Nat} {own1 own2 : Option Nat} {p2 : Option Addr} {cp2 n : Nat} (hi : i < n) (hn : l.length = n)
    (hO : Ord S (l.eraseIdx i) j) (hF : OneF W.heap.size X w5 p S) (hB : Below W.heap.size W w5)
    (hz : w0.heap.size = w5.heap.size + 1) (g0 : Below w5.heap.size w5 w0) (g1 : w0.grownBy w6 (some w5.heap.size)) (o1 : own1 = some w5.heap.size ∨ own1 = some w0.heap.size) (l1 : ∀ b, own1 = some b → b < w6.heap.size)
    (g2 : w6.grownBy w7 own1) (o2 : own2 = own1 ∨ own2 = some w6.heap.size)
    (hr : Row w7 43 3 (.slice p2 (i + (n - (i + 1))) cp2) own2 (i + (n - (i + 1))) (encL (l.take i) ++ encL (l.drop (i + 1)))) :
    ∃ S own, Ord S (l.eraseIdx i) j ∧ OneF W.heap.size (fun b => own = some b) w7 p S ∧ Row w7 43 3 (.slice p2 (i + (n - (i + 1))) cp2) own (l.eraseIdx i).length (encL (l.eraseIdx i)) ∧ (∀ b, own = some b → W.heap.size ≤ b) ∧ Below W.heap.size W w7 := by
  have hs := hB.size
  have z1 := g1.size
  have z2 := g2.size
  have e1 : (l.eraseIdx i).length = i + (n - (i + 1)) := by rw [List.length_eraseIdx_of_lt (by omega)]; omega
  have e2 : encL (l.eraseIdx i) = encL (l.take i) ++ encL (l.drop (i + 1)) := by rw [List.eraseIdx_eq_take_drop_succ, encL_append]
  have f0 : OneF W.heap.size (fun b => b = w5.heap.size) w0 p S := hF.wider g0 (fun b hb => .inr (by omega))
  have c1 : Chg (fun b => b = w5.heap.size) w0 w6 := Chg.of_grown g1 (fun b hb => (Option.some.inj hb))
  have f1 : OneF W.heap.size (fun b => own1 = some b) w6 p S := by
    have h := f0.chg c1
    obtain ⟨L, h1, h2, h3⟩ := f0
    refine ⟨L, h1.chg c1 (fun b hf hx => (h3 b hx).2 hf), h2, fun b hb => ⟨l1 b hb, fun hf => ?_⟩⟩
    have := h1.foot_lt b hf
    rcases o1 with ho | ho
    · rw [ho] at hb; cases hb; exact (h3 _ rfl).2 hf
    · rw [ho] at hb; cases hb; omega
  have c2 : Chg (fun b => own1 = some b) w6 w7 := Chg.of_grown g2 (fun b hb => hb.symm)
  have f2 : OneF W.heap.size (fun b => own2 = some b) w7 p S := by
    obtain ⟨L, h1, h2, h3⟩ := f1
    refine ⟨L, h1.chg c2 (fun b hf hx => (h3 b hx).2 hf), h2, fun b hb => ⟨hr.lt b hb, fun hf => ?_⟩⟩
    have := h1.foot_lt b hf
    rcases o2 with ho | ho
    · rw [ho] at hb; exact (h3 _ hb).2 hf
    · rw [ho] at hb; cases hb; omega
  have q1 : ∀ b, own1 = some b → W.heap.size ≤ b := fun b hb => by
    rcases o1 with ho | ho <;> · rw [ho] at hb; cases hb; omega
  refine ⟨S, own2, hO, f2, by rw [e1, e2]; exact hr, fun b hb => ?_, ((hB.trans (g0.mono hs)).grown g1 (by omega) (fun b hb => by cases hb; omega)).grown g2 (by omega) q1⟩
  rcases o2 with ho | ho
  · rw [ho] at hb; exact q1 b hb
  · rw [ho] at hb; cases hb; omega
theorem OneF.grown {B0 : Nat} {X Y : Nat → Prop} {w w' : World} {p : Nat} {S : FS} {own : Option Nat} (h : OneF B0 X w p S) (hg : w.grownBy w' own) (ho : ∀ b, own = some b → X b) (hY : ∀ b, Y b → X b ∨ (w.heap.size ≤ b ∧ b < w'.heap.size)) : OneF B0 Y w' p S := by
  obtain ⟨L, h1, h2, h3⟩ := h
  have hc : Chg X w w' := Chg.of_grown hg (fun b hb => ho b hb.symm)
  refine ⟨L, h1.chg hc (fun b hf hx => (h3 b hx).2 hf), h2, fun b hy => ?_⟩
  rcases hY b hy with hx | ⟨h4, h5⟩
  · exact ⟨Nat.lt_of_lt_of_le (h3 b hx).1 hc.size, (h3 b hx).2⟩
  · exact ⟨h5, fun hf => by have := h1.foot_lt b hf; omega⟩
/-- What holds between two acts. -/
def OrdRel (W wr : World) (p : Nat) (l : List (Int × Int × Int)) (v : Value) (k : Nat) : Prop :=
  ∃ S own, Ord S l k ∧ OneF W.heap.size (fun b => own = some b) wr p S ∧ Row wr 43 3 v own l.length (encL l) ∧ (∀ b, own = some b → W.heap.size ≤ b) ∧ Below W.heap.size W wr
set_option maxRecDepth 100000 in
theorem order_none (W : World) (p : Option Addr) (c : Nat) (lp : Option Addr) (m lc : Nat) :
    Calls Try.prog 5 #[.slice p 0 c, .slice lp m lc] W fun e w' => e = .returned (.bool true) ∧ Below W.heap.size W w' := by
  obtain ⟨i0, hi0, hz0, hz1, hz2⟩ := info_parts infoInt
  go_enter Try.func5, Try.ntmps5
  go_wp2_with fail
  refine (works_true _).mono ?_
  rintro e W0 ⟨rfl, hbW⟩
  have HBW := Lib.hid hbW
  clear hbW
  go_wp2_with (at_builtin; refine wpList_append_nothing rfl (.tmp 25) (.tmp 26) 22 rfl 3 i0 Try.underlying22 hi0 ⟨W0.heap.size, 0, none⟩ 0 0 (Nat.le_refl _) rfl p c rfl ?_)
  refine (new_short _ _ 0 _ (.inl (by omega))).mono ?_
  rintro e w1 ⟨rfl, hb1⟩
  have HB1 := Lib.hid ((HBW.out.alloc HBW.out.size (.cells #[] 3)).trans (hb1.mono (by have := HBW.out.size; simp; omega)))
  clear hb1
  go_wp2
  go_ret
  exact ⟨rfl, HB1.out⟩
set_option maxHeartbeats 8000000 in
set_option maxRecDepth 100000 in
theorem order_walk (W : World) (pb po n c : Nat) (ws : List Int) (hl : ws.length = n) (hn0 : 0 < n) (hn : n * 8 ≤ 140737488355328) (hw : Ints W (some ⟨pb, po, none⟩) ws) (lp : Option Addr) (m lc : Nat) (hm : m ≤ 9223372036854775807) (ops : List (Int × Int × Int × Int)) (hol : ops.length = m) (ho : Acts W lp ops) :
    Calls Try.prog 5 #[.slice (some ⟨pb, po, none⟩) n c, .slice lp m lc] W fun e w' => e = .returned (.bool true) ∧ Below W.heap.size W w' := by
  obtain ⟨i0, hi0, hz0, hz1, hz2⟩ := info_parts infoInt
  obtain ⟨j0, hj0, hy0, hy1, hy2⟩ := info_parts infoItm
  have HL := Lib.hid hl
  have HW := Lib.hid hw
  have HOL := Lib.hid hol
  have HOP := Lib.hid ho
  clear hl hw hol ho
  go_enter Try.func5, Try.ntmps5
  go_wp2_with fail
  refine (works_true _).mono ?_
  rintro e W0 ⟨rfl, hbW⟩
  have HBW := Lib.hid hbW
  have SRC := Lib.hid ((HW.out.below hbW).below ((Below.refl _ W0).alloc (Nat.le_refl _) (.cells #[] 3))).src
  have hsW := hbW.size
  clear hbW
  go_wp2_with (at_builtin; refine wpList_append_fresh rfl (.tmp 25) (.tmp 26) 22 rfl 3 i0 _ 1 Try.underlying22 hi0 hz0 hz1 rfl ⟨W0.heap.size, 0, none⟩ rfl ⟨pb, po, none⟩ n c (encI ws) rfl (by unfold encI; rw [List.length_map, HL.out, Nat.mul_one]) SRC.out hn0 (by rw [hz2]; omega) (by unfold maxLen; omega) ?_; intro cp cs hcp1 hcp2 hsz hcs; have HCS := Lib.hid hcs; clear hcs)
  obtain ⟨w0, hw0⟩ : ∃ w0, w0 = ((W0.alloc (.cells #[] 3)).alloc (.cells cs 3)).drew := ⟨_, rfl⟩
  rw [← hw0]
  have BK0 : Bk w0 (W0.heap.size + 1) cs 3 := by rw [hw0]; exact (Bk.new' _ _ _ _ (by simp)).drew
  have BW0 : Below W.heap.size W w0 := by rw [hw0]; exact ((HBW.out.alloc hsW _).alloc (by simp; omega) _).drew
  have I0 : Ints w0 (some ⟨W0.heap.size + 1, 0, none⟩) ws := by
    intro j x hx
    refine ⟨_, _, rfl, BK0.lt, BK0.cell _ _ ?_⟩
    rw [Nat.zero_add, HCS.out j (by have := (List.getElem?_eq_some_iff.1 hx).1; have := HL.out; omega)]
    simp [encI, hx]
  have NC := Lib.hid (new_c w0 _ cp n ws HL.out I0)
  have HB0 := Lib.hid BW0
  clear hw0 BK0 BW0 I0 HCS SRC
  go_wp2_with fail
  refine NC.out.mono ?_
  rintro e w1 ⟨hb1, hcase⟩
  have HB1 := Lib.hid (HB0.out.trans (hb1.mono HB0.out.size))
  have hz1' : W.heap.size ≤ w0.heap.size := HB0.out.size
  rcases hcase with ⟨hbad, rfl⟩ | ⟨hok, rfl, L, hL⟩
  · clear hb1 hbad
    go_wp2
    go_ret
    exact ⟨rfl, HB1.out⟩
  · generalize hp : w0.heap.size = p at *
    have HREL : Hid (OrdRel W w1 p [] (.slice none 0 0) 0) := ⟨_, none, Ord.new ws hok, OneF.made hz1' hL (fun b hb => by simp at hb), Row.nil _ _ _, by simp, HB1.out⟩
    clear hb1 hok hL hp
    go_wp2
    go_loopw [7, 8] (fun v i wr => ∃ (k : Nat) (l : List (Int × Int × Int)), k ≤ m ∧ k ≤ 100 ∧ i = .int .i64 k ∧ Hid (OrdRel W wr p l v k)) (fun _ i _ => m - (intOf i).toNat)
    case atStart => exact ⟨0, [], Nat.zero_le _, by omega, rfl, HREL⟩
    case round =>
      obtain ⟨k, l, hk, hk100, rfl, REL⟩ := hrel
      obtain ⟨wo, rfl⟩ : ∃ wo : World, wo = wr := ⟨_, rfl⟩
      by_cases hkm : k < m ∧ k < 100
      · obtain ⟨hkm, hk2⟩ := hkm
        have hkz : (k : Int) < (m : Int) := by omega
        have hkz0 : (0 : Int) ≤ (k : Int) := by omega
        have hkz2 : (k : Int) < 100 := by omega
        obtain ⟨S, own, hO, hF, hR, hown, hB⟩ := REL.out
        obtain ⟨v0, vc, rfl⟩ := hR.form
        obtain ⟨x, hx⟩ : ∃ x, ops[k]? = some x := ⟨_, List.getElem?_eq_getElem (by rw [HOL.out]; exact hkm)⟩
        obtain ⟨ob, oo, rfl, hob, c0, c1, c2, c3⟩ := HOP.out.below (show Below W.heap.size W wo from hB) k x hx
        obtain ⟨kind, ten, id, cost⟩ := x
        simp only at c0 c1 c2 c3
        have hlen := hO.len
        have hsz : W.heap.size ≤ wo.heap.size := hB.size
        obtain ⟨O, hOO⟩ : ∃ O, O = wo.heap.size := ⟨_, rfl⟩
        have hBal : Below wo.heap.size wo (wo.alloc (.cells #[.int .i64 kind, .int .i64 ten, .int .i64 id, .int .i64 cost] 40)) := (Below.refl _ wo).alloc (Nat.le_refl _) _
        have HF0 := Lib.hid (hF.wider (Y := fun b => own = some b ∨ b = O) hBal (fun b hb => by
          rcases hb with hb | hb
          · exact .inl hb
          · right; simp; omega))
        have HR0 := Lib.hid (hR.chg (Chg.of_below (F := fun _ => False) hBal rfl) (fun _ _ hf => hf))
        have HB0' := Lib.hid (hB.trans (hBal.mono hsz))
        have HBO : Hid (Bk (wo.alloc (.cells #[.int .i64 kind, .int .i64 ten, .int .i64 id, .int .i64 cost] 40)) O #[.int .i64 kind, .int .i64 ten, .int .i64 id, .int .i64 cost] 40) := by rw [hOO]; exact Bk.new _ _ _
        have HORD := Lib.hid hO
        have HOWN := Lib.hid hown
        have HONE : Hid (∀ b, own = some b → b < O) := by rw [hOO]; exact hR.lt
        have hOz : W.heap.size ≤ O := by rw [hOO]; exact hsz
        clear hx hO hF hR hown hB hBal
        generalize hLL : l.length = ll at *
        have HLL := Lib.hid hLL
        clear hLL
        by_cases h2 : kind = 2
        · subst h2
          have hfin := HORD.out.cancel id
          obtain ⟨r, S', hr⟩ : ∃ r S', S.cancelR id = (r, S') := ⟨_, _, rfl⟩
          rw [hr] at hfin
          have A1 := Lib.hid (HF0.out.cancel HB0'.out.size HORD.out.good id hr)
          have HFIN := Lib.hid hfin
          have cO := HBO.out.cell 2 _ rfl
          clear hfin hr
          go_wp2_with fail
          rw [← hOO]
          clear hOO
          generalize wo.alloc (.cells #[.int .i64 2, .int .i64 ten, .int .i64 id, .int .i64 cost] 40) = wx at *
          refine A1.out.mono ?_
          rintro e w3 ⟨rfl, h1, h3, h4⟩
          have hB3 := HB0'.out.trans h3
          have HBO3 : Hid (Bk w3 O _ 40) := (h4 O (.inr rfl)).trans HBO.out
          have hR3 := HR0.out.keep (fun b hb => h4 b (.inl hb))
          have HIT := Lib.hid (Itm.of_row (HLL.out ▸ hR3))
          have HF3 := Lib.hid h1
          have HB3 := Lib.hid hB3
          have HR3 := Lib.hid hR3
          clear h1 h3 h4 hB3 hR3 c0 c1 c2 c3 cO
          have HREL3 : Hid (∃ own2, OneF W.heap.size (fun b => own = some b ∨ own2 = some b ∨ b = O) w3 p S' ∧ Row w3 43 3 (.slice none 0 0) own2 (without (l.take 0) id).length (encL (without (l.take 0) id)) ∧ (∀ b, own2 = some b → W.heap.size ≤ b ∧ own ≠ some b ∧ b ≠ O) ∧ Row w3 43 3 (.slice v0 ll vc) own ll (encL l) ∧ Bk w3 O #[.int .i64 2, .int .i64 ten, .int .i64 id, .int .i64 cost] 40 ∧ Below W.heap.size W w3) :=
            ⟨none, HF3.out.sub (fun b hb => by rcases hb with hb | hb | hb; exact .inl hb; simp at hb; exact .inr hb), Row.nil _ _ _, by simp, HR3.out, HBO3.out, HB3.out⟩
          go_wp2
          go_loopw [12, 13] (fun v2 j wr => ∃ k2 : Nat, k2 ≤ ll ∧ j = .int .i64 k2 ∧ Hid (∃ own2, OneF W.heap.size (fun b => own = some b ∨ own2 = some b ∨ b = O) wr p S' ∧ Row wr 43 3 v2 own2 (without (l.take k2) id).length (encL (without (l.take k2) id)) ∧ (∀ b, own2 = some b → W.heap.size ≤ b ∧ own ≠ some b ∧ b ≠ O) ∧ Row wr 43 3 (.slice v0 ll vc) own ll (encL l) ∧ Bk wr O #[.int .i64 2, .int .i64 ten, .int .i64 id, .int .i64 cost] 40 ∧ Below W.heap.size W wr)) (fun _ j _ => ll - (intOf j).toNat)
          case atStart => exact ⟨0, Nat.zero_le _, rfl, HREL3⟩
          case round =>
            obtain ⟨k2, hk2, rfl, REL2⟩ := hrel
            obtain ⟨wq, rfl⟩ : ∃ wq : World, wq = wr := ⟨_, rfl⟩
            obtain ⟨own2, gF, gR2, gO2, gR, gB, gBel⟩ := REL2.out
            obtain ⟨v3, vc3, rfl⟩ := gR2.form
            by_cases hlt : k2 < ll
            · have hltz : (k2 : Int) < (ll : Int) := by omega
              have hk2z : (0 : Int) ≤ (k2 : Int) := by omega
              obtain ⟨y, hy⟩ : ∃ y, l[k2]? = some y := ⟨_, List.getElem?_eq_getElem (by rw [HLL.out]; exact hlt)⟩
              obtain ⟨yb, yo, hv0, hyb, d0, d1, d2⟩ := Itm.of_row (HLL.out ▸ gR) k2 y hy
              subst hv0
              obtain ⟨y0, y1, y2⟩ := y
              simp only at d0 d1 d2
              have dO := gB.cell 2 _ rfl
              have hsn := without_snoc (l.take k2) (y0, y1, y2) id
              rw [← take_succ_of hy] at hsn
              have hwl : (without (l.take k2) id).length ≤ 100 := by
                have := List.length_filter_le (fun x : Int × Int × Int => x.2.1 != id) (l.take k2)
                rw [List.length_take] at this
                unfold without; omega
              have GF := Lib.hid gF
              have GR2 := Lib.hid gR2
              have GO2 := Lib.hid gO2
              have GR := Lib.hid gR
              have GB := Lib.hid gB
              have GL := Lib.hid gBel
              have gz := gBel.size
              have HY := Lib.hid hy
              clear gF gR2 gO2 gR gB gBel hy
              generalize hM : (without (l.take k2) id).length = mm at *
              have HM := Lib.hid hM
              clear hM
              cases hne : y1 != id
              · rw [hne] at hsn
                have HS := Lib.hid hsn
                clear hsn
                go_wp2
                go_quiet (fail)
                go_wp2
                refine ⟨⟨k2 + 1, by omega, by go_num, Lib.hid ⟨own2, GF.out.below (belowDrewN (Below.refl _ _) _), ?_, GO2.out, GR.out.chg (Chg.of_below (F := fun _ => False) (belowDrewN (Below.refl _ _) _) rfl) (fun _ _ hf => hf), GB.out.drewN _, belowDrewN GL.out _⟩⟩, by simp [intOf]; omega⟩
                have hs := HS.out
                simp only [Bool.false_eq_true, if_false, List.append_nil] at hs
                rw [hs, HM.out]
                exact GR2.out.chg (Chg.of_below (F := fun _ => False) (belowDrewN (Below.refl _ _) _) rfl) (fun _ _ hf => hf)
              · rw [hne] at hsn
                have HS := Lib.hid hsn
                clear hsn
                go_wp2
                go_quiet (fail)
                rename_i nq
                have hbd : Below wq.heap.size wq (wq.drewN nq) := belowDrewN (Below.refl _ _) _
                have GF1 := Lib.hid (GF.out.below hbd)
                have GR21 := Lib.hid (GR2.out.chg (Chg.of_below (F := fun _ => False) hbd rfl) (fun _ _ hf => hf))
                have GR1 := Lib.hid (GR.out.chg (Chg.of_below (F := fun _ => False) hbd rfl) (fun _ _ hf => hf))
                have GB1 := Lib.hid (GB.out.drewN nq)
                have GL1 := Lib.hid (belowDrewN GL.out nq)
                obtain ⟨yb', yo', hv0', hyb', d0', d1', d2'⟩ := Itm.of_row (HLL.out ▸ GR1.out) k2 (y0, y1, y2) (by have := HY.out; exact this)
                simp only [Option.some.injEq, Addr.mk.injEq, and_true] at hv0'
                obtain ⟨rfl, rfl⟩ := hv0'
                simp only at d0' d1' d2'
                clear hbd d0 d1 d2 dO
                generalize wq.drewN nq = wd at *
                have gz2 := GL1.out.size
                have GR3 := Lib.hid (GR21.out.chg ((Chg.refl (fun _ => False) wd).alloc (.cells #[.int .i64 y0, .int .i64 y1, .int .i64 y2] 43)) (fun _ _ hf => hf))
                go_wp2_with (at_builtin; refine wpList_row_append rfl (.tmp 76) (.tmp 81) 38 rfl 43 j0 _ 3 Try.underlying38 hj0 hy0 hy1 rfl (by decide) (by omega) (.slice v3 mm vc3) own2 mm (encL (without (l.take k2) id)) rfl GR3.out ⟨wd.heap.size, 0, none⟩ 1 1 [.int .i64 y0, .int .i64 y1, .int .i64 y2] rfl rfl (World.news_of_block (cs := #[.int .i64 y0, .int .i64 y1, .int .i64 y2]) (heap_alloc_new wd _)) (by simp [Value.oneCell']) (by omega) (by omega) ?_; intro g f cp4 w4 hrow4 hgrow4 hown4; have HR5 := Lib.hid hrow4; have HG5 := Lib.hid hgrow4; have HO5 := Lib.hid hown4; clear hrow4 hgrow4 hown4)
                have hgz := HR5.out.lt g rfl
                have hBal : Below wd.heap.size wd (wd.alloc (.cells #[.int .i64 y0, .int .i64 y1, .int .i64 y2] 43)) := (Below.refl _ wd).alloc (Nat.le_refl _) _
                have hOlt := GB1.out.lt
                have hown1 : ∀ b, own = some b → b < wd.heap.size := GR1.out.lt
                have hg6 : W.heap.size ≤ g ∧ own ≠ some g ∧ g ≠ O := by
                  rcases HO5.out with h | h
                  · exact GO2.out g h
                  · simp at h
                    refine ⟨by omega, fun e => by have := hown1 g e; omega, by omega⟩
                have hs := HS.out
                simp only [if_true] at hs
                refine ⟨⟨k2 + 1, by omega, by go_num, Lib.hid ⟨some g, ?_, ?_, ?_, ?_, ?_, ?_⟩⟩, by simp [intOf]; omega⟩
                · refine (GF1.out.wider (Y := fun b => own = some b ∨ own2 = some b ∨ b = O) hBal (fun b hb => .inl hb)).grown HG5.out (fun b hb => .inr (.inl hb)) (fun b hb => ?_)
                  rcases hb with hb | hb | hb
                  · exact .inl (.inl hb)
                  · cases hb
                    rcases HO5.out with h | h
                    · exact .inl (.inr (.inl h))
                    · right; simp at h; simp; omega
                  · exact .inl (.inr (.inr hb))
                · rw [hs, List.length_append, HM.out, encL_append]; exact HR5.out
                · intro b hb; cases hb; exact hg6
                · exact (GR1.out.chg (Chg.of_below (F := fun _ => False) hBal rfl) (fun _ _ hf => hf)).keep (fun b hb => HG5.out.block b (Nat.lt_of_lt_of_le (hown1 b hb) hBal.size) (fun e => (GO2.out b e.symm).2.1 hb))
                · exact (GB1.out.below hBal hOlt).grown HG5.out (fun e => (GO2.out O e.symm).2.2 rfl)
                · exact (GL1.out.trans (hBal.mono gz2)).grown HG5.out (by simp; omega) (fun b hb => (GO2.out b hb).1)
            · have hltz : ¬ (k2 : Int) < (ll : Int) := by omega
              obtain rfl : k2 = ll := by omega
              have ht : l.take k2 = l := by rw [← HLL.out, List.take_length]
              have hwl := HFIN.out.1
              rw [HLL.out] at hwl
              have GF := Lib.hid gF
              have GR2 := Lib.hid gR2
              have GO2 := Lib.hid gO2
              have GL := Lib.hid gBel
              have HT := Lib.hid ht
              clear gF gR2 gO2 gR gB gBel ht
              generalize hM : (without (l.take k2) id).length = mm at *
              rw [HT.out] at hM
              rw [hM] at hwl
              have HM := Lib.hid hM
              clear hM
              by_cases hmk : mm < k2
              · have hmkz : (mm : Int) < (k2 : Int) := by omega
                obtain rfl : r = true := by rw [hwl]; simpa using hmk
                have hdd : decide (mm < k2) = true := by simpa using hmk
                clear hwl
                go_wp2
                refine ⟨⟨k + 1, without l id, by omega, by omega, by go_num, Lib.hid ⟨S', own2, HFIN.out.2, GF.out.sub (fun b hb => .inr (.inl hb)), by rw [HM.out, ← HT.out]; exact GR2.out, fun b hb => (GO2.out b hb).1, GL.out⟩⟩, by simp [intOf]; omega⟩
              · have hmkz : ¬ (mm : Int) < (k2 : Int) := by omega
                obtain rfl : r = false := by rw [hwl]; simpa using hmk
                have hdd : decide (mm < k2) = false := by simpa using hmk
                clear hwl
                go_wp2
                refine ⟨⟨k + 1, without l id, by omega, by omega, by go_num, Lib.hid ⟨S', own2, HFIN.out.2, GF.out.sub (fun b hb => .inr (.inl hb)), by rw [HM.out, ← HT.out]; exact GR2.out, fun b hb => (GO2.out b hb).1, GL.out⟩⟩, by simp [intOf]; omega⟩
        · have e2 : (kind == 2) = false := by rw [beq_eq_false_iff_ne]; exact h2
          clear h2
          have hfin := HORD.out.add ten id cost
          obtain ⟨r, S', hr⟩ : ∃ r S', S.addR ten id cost = (r, S') := ⟨_, _, rfl⟩
          rw [hr] at hfin
          have A1 := Lib.hid (HF0.out.add HB0'.out.size HORD.out.good ten id cost hr)
          have HFIN := Lib.hid hfin
          clear hfin hr
          go_wp2_with fail
          rw [← hOO]
          clear hOO
          generalize wo.alloc (.cells #[.int .i64 kind, .int .i64 ten, .int .i64 id, .int .i64 cost] 40) = wx at *
          refine A1.out.mono ?_
          rintro e w3 ⟨rfl, h1, h3, h4⟩
          have hB3 := HB0'.out.trans h3
          have BO3 : Bk w3 O _ 40 := (h4 O (.inr rfl)).trans HBO.out
          have hR3 := HR0.out.keep (fun b hb => h4 b (.inl hb))
          have g1 := BO3.cell 1 _ rfl
          have g2 := BO3.cell 2 _ rfl
          have g3 := BO3.cell 3 _ rfl
          have HF3 := Lib.hid h1
          have HB3 := Lib.hid hB3
          have HR3 := Lib.hid hR3
          have hz3 := hB3.size
          clear h1 h3 h4 hB3 BO3 hR3 c0 c1 c2 c3
          by_cases hr0 : r = 0
          · subst hr0
            have HR4 := Lib.hid (HR3.out.chg ((Chg.refl (fun _ => False) w3).alloc (.cells #[.int .i64 ten, .int .i64 id, .int .i64 cost] 43)) (fun _ _ hf => hf))
            go_wp2_with (at_builtin; refine wpList_row_append rfl (.tmp 99) (.tmp 107) 38 rfl 43 j0 _ 3 Try.underlying38 hj0 hy0 hy1 rfl (by decide) (by omega) (.slice v0 ll vc) own ll (encL l) rfl HR4.out ⟨w3.heap.size, 0, none⟩ 1 1 [.int .i64 ten, .int .i64 id, .int .i64 cost] rfl rfl (World.news_of_block (cs := #[.int .i64 ten, .int .i64 id, .int .i64 cost]) (heap_alloc_new w3 _)) (by simp [Value.oneCell']) (by omega) (by omega) ?_; intro g f cp4 w4 hrow4 hgrow4 hown4; have HR5 := Lib.hid hrow4; have HG5 := Lib.hid hgrow4; have HO5 := Lib.hid hown4; clear hrow4 hgrow4 hown4)
            have e1 : encL (l ++ [(ten, id, cost)]) = encL l ++ [.int .i64 ten, .int .i64 id, .int .i64 cost] := by rw [encL_append]; rfl
            have hgz := HR5.out.lt g rfl
            refine ⟨⟨k + 1, l ++ [(ten, id, cost)], by omega, by omega, by go_num, Lib.hid ⟨S', some g, HFIN.out.1 (by simp), ?_, ?_, ?_, ?_⟩⟩, by simp [intOf]; omega⟩
            · refine (HF3.out.wider (Y := fun b => own = some b) ((Below.refl _ w3).alloc (Nat.le_refl _) _) (fun b hb => .inl (.inl hb))).grown HG5.out (fun b hb => hb) (fun b hb => ?_)
              cases hb
              rcases HO5.out with h | h
              · exact .inl h
              · right; simp at h; simp; omega
            · rw [e1, List.length_append, HLL.out]; exact HR5.out
            · intro b hb
              cases hb
              rcases HO5.out with h | h
              · exact HOWN.out g h
              · simp at h; omega
            · exact (HB3.out.alloc hz3 _).grown HG5.out (by simp; omega) (fun b hb => HOWN.out b hb)
          · have e0 : (r == 0) = false := by rw [beq_eq_false_iff_ne]; exact hr0
            have HR0' := Lib.hid hr0
            clear hr0
            go_wp2
            refine ⟨⟨k + 1, l, by omega, by omega, by go_num, Lib.hid ⟨S', own, HFIN.out.2 HR0'.out, HF3.out.sub (fun b hb => .inl hb), by rw [HLL.out]; exact HR3.out, HOWN.out, HB3.out⟩⟩, by simp [intOf]; omega⟩
      · obtain ⟨S, own, hO, hF, hR, hown, hB⟩ := REL.out
        obtain ⟨v0, vc, rfl⟩ := hR.form
        have HBX := Lib.hid hB
        have HR2 : Hid (OrdRel W wo p l (.slice v0 l.length vc) k) := REL
        clear hO hF hR hown hB REL
        have hex : (k < m ∧ ¬ (k : Int) < 100) ∨ ¬ (k : Int) < (m : Int) := by omega
        have HK := Lib.hid hk100
        have key : True := trivial
        rcases hex with ⟨ha, hb⟩ | ha
        all_goals
          have hmz : (k : Int) < (m : Int) ∨ ¬ (k : Int) < (m : Int) := by omega
          go_wp2
          go_loopw [7] (fun v wr => ∃ (l : List (Int × Int × Int)) (j : Nat), j + l.length ≤ 200 ∧ Hid (OrdRel W wr p l v j)) (fun v _ => match v with | .slice _ n _ => n | _ => 0)
          case atStart =>
            obtain ⟨S, own, hO, -⟩ := HR2.out
            exact ⟨l, k, by have := hO.len; have := HK.out; omega, HR2⟩
          case round =>
            obtain ⟨l, j, hjl, REL⟩ := hrel
            obtain ⟨wq, rfl⟩ : ∃ wq : World, wq = wr := ⟨_, rfl⟩
            obtain ⟨S, own, hO, hF, hR, hown, hB⟩ := REL.out
            by_cases hl0 : l = []
            · subst hl0
              obtain ⟨v3, vc3, rfl⟩ := hR.form
              have A1 := Lib.hid (hF.next hB.size hO.good (by omega) hO.ends)
              have HBX := Lib.hid hB
              clear hO hF hR hown hB REL
              go_wp2_with fail
              refine A1.out.mono ?_
              rintro e w3 ⟨rfl, -, h3, -⟩
              have HB3 := Lib.hid (HBX.out.trans h3)
              clear h3
              go_wp2
              go_ret
              exact ⟨rfl, HB3.out⟩
            · have hlp : 0 < l.length := List.length_pos_iff.2 hl0
              obtain ⟨i, t, id, cc, hx, hbef, hnx, hO2⟩ := hO.next hl0
              have hil : i < l.length := (List.getElem?_eq_some_iff.1 hx).1
              have A1 := Lib.hid (hF.next hB.size hO.good (by omega) (a := id) (b := cc) (c := true) (S' := S.next.2) (Prod.ext hnx rfl))
              obtain ⟨b, off, cap, cs2, rfl, hob, hnc, hcap, -⟩ := hR.pos hlp
              have hm2 : cap ≤ 9223372036854775807 := hcap
              have hlen := hO.len
              have HBX := Lib.hid hB
              have HR3 := Lib.hid hR
              have HX := Lib.hid hx
              have HBEF := Lib.hid hbef
              have HO2 := Lib.hid hO2
              have HOB := Lib.hid hob
              have HOWN := Lib.hid hown
              have HER : Hid ((l.eraseIdx i).length = l.length - 1) := List.length_eraseIdx_of_lt hil
              have hlz : (0 : Int) < (l.length : Int) := by omega
              clear hO hF hR hown hB REL hx hbef hnx hO2 hob hl0
              generalize hLL : l.length = ll at *
              have HLL := Lib.hid hLL
              clear hLL
              go_wp2_with fail
              refine A1.out.mono ?_
              rintro e w3 ⟨rfl, h1, h3, h4⟩
              have HF3 := Lib.hid h1
              have HB3 := Lib.hid (HBX.out.trans h3)
              have HR4 := Lib.hid (HR3.out.keep (fun b hb => h4 b hb))
              have HIT := Lib.hid (Itm.of_row (HLL.out ▸ HR4.out))
              clear h1 h3 h4
              go_wp2
              go_loop [17] (fun s => ∃ k4 : Nat, k4 ≤ i ∧ s = .int .i64 k4) (fun s => i - (intOf s).toNat)
              case atStart => exact ⟨0, Nat.zero_le _, rfl⟩
              case round =>
                obtain ⟨k4, hk4, rfl⟩ := hrel
                have hk4z : (k4 : Int) < (ll : Int) := by omega
                have hk4z0 : (0 : Int) ≤ (k4 : Int) := by omega
                by_cases hlt4 : k4 < i
                · obtain ⟨y, hy⟩ : ∃ y, l[k4]? = some y := ⟨_, List.getElem?_eq_getElem (by rw [HLL.out]; omega)⟩
                  obtain ⟨yb, yo, hv0, hyb, d0, d1, d2⟩ := HIT.out k4 y hy
                  cases hv0
                  obtain ⟨hb1, hb2⟩ := HBEF.out k4 y hlt4 hy
                  obtain ⟨y0, y1, y2⟩ := y
                  simp only at d0 d1 d2 hb1 hb2
                  have hb3 : (y1 != id) = true := by simpa [bne] using hb2
                  clear hy hb1 hb2
                  go_wp2
                  exact ⟨⟨k4 + 1, by omega, by go_num⟩, by simp [intOf]; omega⟩
                · obtain rfl : k4 = i := by omega
                  obtain ⟨yb, yo, hv0, hyb, d0, d1, d2⟩ := HIT.out k4 _ HX.out
                  cases hv0
                  simp only at d0 d1 d2
                  have hke : ((k4 : Int) == (ll : Int)) = false := by rw [beq_eq_false_iff_ne]; omega
                  have hke2 : (k4 == ll) = false := by rw [beq_eq_false_iff_ne]; omega
                  go_wp2
                  go_loopw [18] (fun s wr => ∃ k5 : Nat, k5 ≤ k4 ∧ s = .int .i64 k5 ∧ Hid (Below w3.heap.size w3 wr)) (fun s _ => k4 - (intOf s).toNat)
                  case atStart => exact ⟨0, Nat.zero_le _, rfl, Lib.hid (Below.refl _ _)⟩
                  case round =>
                    obtain ⟨k5, hk5, rfl, BL⟩ := hrel
                    have hk5z0 : (0 : Int) ≤ (k5 : Int) := by omega
                    have hR5 := HR4.out.chg (Chg.of_below (F := fun _ => False) BL.out rfl) (fun _ _ hf => hf)
                    have HR5 := Lib.hid hR5
                    have hIT := Itm.of_row (HLL.out ▸ hR5)
                    obtain ⟨yb, yo, hv0, hyb, f0, f1, f2⟩ := hIT k4 _ HX.out
                    cases hv0
                    simp only at f0
                    by_cases hlt5 : k5 < k4
                    · have hk5z : (k5 : Int) < (k4 : Int) := by omega
                      have hk5l : (k5 : Int) < (ll : Int) := by omega
                      obtain ⟨y, hy⟩ : ∃ y, l[k5]? = some y := ⟨_, List.getElem?_eq_getElem (by rw [HLL.out]; omega)⟩
                      obtain ⟨yb, yo, hv0, hyb, e0, e1, e2⟩ := hIT k5 y hy
                      cases hv0
                      obtain ⟨hb1, hb2⟩ := HBEF.out k5 y hlt5 hy
                      obtain ⟨y0, y1, y2⟩ := y
                      simp only at e0 e1 e2 hb1 hb2
                      clear hy hb2 hIT hR5 e1 e2 f1 f2 d0 d1 d2
                      go_wp2
                      go_quiet (fail)
                      go_wp2
                      exact ⟨⟨k5 + 1, by omega, by go_num, Lib.hid (belowDrewN BL.out _)⟩, by simp [intOf]; omega⟩
                    · have hk5z : ¬ (k5 : Int) < (k4 : Int) := by omega
                      have HF5 := Lib.hid (HF3.out.below BL.out)
                      have HB5 := Lib.hid (HB3.out.trans (BL.out.mono HB3.out.size))
                      obtain ⟨b9, off9, cap9, cs9, hv9, hob9, hn9, hcap9, hbk9, hfit9, hcs9⟩ := hR5.pos (by omega)
                      cases hv9
                      rw [HOB.out] at hob9
                      cases hob9
                      obtain ⟨A, hA, hAf⟩ : ∃ A, (if cap = k4 + 1 then some (⟨b, off, none⟩ : Addr) else some ⟨b, off + (k4 + 1) * 3, none⟩) = some A ∧ Src wr (some A) (encL (l.drop (k4 + 1))) := by
                        by_cases hc : cap = k4 + 1
                        · refine ⟨⟨b, off, none⟩, by simp [hc], fun j u hu => ?_⟩
                          have : (encL (l.drop (k4 + 1))).length = 0 := by rw [encL_length, List.length_drop, HLL.out]; omega
                          rw [List.eq_nil_of_length_eq_zero this] at hu
                          simp at hu
                        · refine ⟨⟨b, off + (k4 + 1) * 3, none⟩, by simp [hc], fun j u hu => ⟨_, rfl, ?_⟩⟩
                          have hj : j < (ll - (k4 + 1)) * 3 := by
                            have := (List.getElem?_eq_some_iff.1 hu).1
                            rwa [encL_length, List.length_drop, HLL.out] at this
                          rw [Addr.add_lit]
                          refine hbk9.cell _ _ ?_
                          rw [Nat.add_assoc, hcs9 _ (by omega)]
                          rw [encL_drop, List.getElem?_drop] at hu
                          exact hu
                      have hBf : Src wr (some ⟨b, off, none⟩) (encL (l.take k4)) := by
                        intro j u hu
                        refine ⟨_, rfl, ?_⟩
                        have hj : j < k4 * 3 := by
                          have := (List.getElem?_eq_some_iff.1 hu).1
                          rw [encL_length, List.length_take] at this; omega
                        rw [Addr.add_lit]
                        refine hbk9.cell _ _ ?_
                        rw [hcs9 _ (by omega)]
                        rw [encL_take, List.getElem?_take, if_pos hj] at hu
                        exact hu
                      have hblt : b < wr.heap.size := hbk9.lt
                      have hgE : wr.grownBy (wr.alloc (.cells #[] 43)).drew none := ⟨rfl, rfl, rfl, by simp, fun k hk _ => Below.heap_alloc wr _ k hk⟩
                      have hAb : A.block = b := by
                        split at hA <;> · cases hA; rfl
                      have HE : Hid (Row (wr.alloc (.cells #[] 43)).drew 43 3 (.slice (some ⟨wr.heap.size, 0, none⟩) 0 0) (some wr.heap.size) 0 []) :=
                        ⟨by simp, .inr ⟨wr.heap.size, 0, 0, #[], rfl, rfl, Nat.le_refl _, Nat.zero_le _, Bk.new _ _ _, by simp, fun j hj => by omega⟩⟩
                      have hB1 := Lib.hid (hBf.grown hgE (fun ad h => by cases h; exact ⟨hblt, by simp⟩))
                      have hA1 := Lib.hid (hAf.grown hgE (fun ad h => by cases h; exact ⟨by rw [hAb]; exact hblt, by simp⟩))
                      have HAb := Lib.hid hAb
                      have l1 : Hid ((encL (l.take k4)).length = k4 * 3) := by show _ = _; rw [encL_length, List.length_take, HLL.out]; omega
                      have l2 : Hid ((encL (l.drop (k4 + 1))).length = (ll - (k4 + 1)) * 3) := by show _ = _; rw [encL_length, List.length_drop, HLL.out]
                      have o1 := Lib.hid (encL_one (l.take k4))
                      have o2 := Lib.hid (encL_one (l.drop (k4 + 1)))
                      have hbz : b ≠ wr.heap.size := by omega
                      have hic : k4 ≤ cap := by omega
                      have hwr : IntKind.i64.wrap ((k4 : Int) + 1) = (k4 : Int) + 1 := by rw [IntKind.wrap_i64]; omega
                      have hp0 : (0 : Int) ≤ (k4 : Int) + 1 := by omega
                      have hp1 : (k4 : Int) + 1 ≤ (ll : Int) := by omega
                      have hp2 : ((k4 : Int) + 1).toNat = k4 + 1 := by omega
                      have hi0z : (0 : Int) ≤ (k4 : Int) := by omega
                      have hi1z : (k4 : Int) ≤ (cap : Int) := by omega
                      have hnz : (ll : Int) ≤ (cap : Int) := by omega
                      clear hIT hR5 f0 f1 f2 d0 d1 d2 hbk9 hfit9 hcs9 hgE hAb hAf hBf
                      go_wp2_with fail
                      go_region_held3 (fun _ => True) (trivial)
                        (first
                          | (refine step_row_append_any rfl (.tmp 164) (.tmp 167) 38 rfl 43 j0 _ 3 Try.underlying38 hj0 hy0 hy1 rfl (by decide) (by omega) (.slice (some ⟨wr.heap.size, 0, none⟩) 0 0) (some wr.heap.size) 0 [] (by simp [Act.eval, Act.put]) HE.out (some ⟨b, off, none⟩) k4 cap (encL (l.take k4)) (by simp [Act.eval, Act.put]) l1.out hB1.out o1.out (by omega) ?_; intro p1 cp1 w6 own1 hrow1 hgrow1 hown1; simp only [Nat.zero_add, List.nil_append] at hrow1; have HR1 := Lib.hid hrow1; have HA2 := Lib.hid (hA1.out.grown hgrow1 (fun ad h => by cases h; rw [HAb.out]; exact ⟨by simp; omega, fun e => hbz (Option.some.inj e)⟩)); have HG1 := Lib.hid hgrow1; have HO1 := Lib.hid hown1; clear hrow1 hgrow1 hown1)
                          | (refine step_row_append_any rfl (.tmp 168) (.tmp 172) 38 rfl 43 j0 _ 3 Try.underlying38 hj0 hy0 hy1 rfl (by decide) (by omega) (.slice p1 k4 cp1) own1 k4 (encL (l.take k4)) (by simp [Act.eval, Act.put]) HR1.out (some A) (ll - (k4 + 1)) (cap - (k4 + 1)) (encL (l.drop (k4 + 1))) (by simp [Act.eval, Act.put]) l2.out HA2.out o2.out (by omega) ?_; intro p2 cp2 w7 own2 hrow2 hgrow2 hown2; have HR2 := Lib.hid hrow2; have HG2 := Lib.hid hgrow2; have HO2' := Lib.hid hown2; clear hrow2 hgrow2 hown2))
                      go_wp2
                      refine ⟨⟨l.eraseIdx k4, j + 1, by have := HER.out; omega, Lib.hid (ord_cut (by omega) HLL.out HO2.out HF5.out HB5.out (by simp) (((Below.refl _ wr).alloc (Nat.le_refl _) _).drew) HG1.out HO1.out HR1.out.lt HG2.out HO2'.out HR2.out)⟩, ?_⟩
                      show k4 + (ll - (k4 + 1)) < ll
                      omega
end Go.Proofs.Ytdnkliapcnfcoaa.fair
