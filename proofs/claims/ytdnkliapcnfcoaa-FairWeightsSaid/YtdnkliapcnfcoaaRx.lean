/- aviaryref21.Fair: Next. -/
import Derived.Test.YtdnkliapcnfcoaaRa
namespace Go.Proofs.Ytdnkliapcnfcoaa.fair
open Go.ChangeShapes Go.WideShapes Go.ChangeAt Go.RowKit K
set_option linter.unusedVariables false
set_option linter.unusedSimpArgs false
def RS.busy (S : RS) (t : Nat) : Bool := decide (0 < cntL S.l t)
def RS.best (S : RS) (j : Nat) : Option Nat := bestTo S.ck S.busy j
def optI : Option Nat → Value | none => .int .i64 (-1) | some b => .int .i64 b
theorem bestTo_none {ck : Nat → Int} {sm : Nat → Bool} : ∀ {j : Nat}, bestTo ck sm j = none → ∀ k, k < j → sm k = false
  | 0, _, k, hk => by omega
  | j + 1, h, k, hk => by
    unfold bestTo at h
    split at h
    next hs => split at h <;> (try split at h) <;> cases h
    next hs =>
      by_cases e : k = j
      · subst e; simpa using hs
      · exact bestTo_none h k (by omega)
structure RGood (S : RS) (B : Int) : Prop where
  wt : ∀ i, i < S.n → 1 ≤ S.wt i ∧ S.wt i ≤ 16
  ck : ∀ i, i < S.n → 0 ≤ S.ck i ∧ S.ck i ≤ B
  ten : ∀ x, x ∈ S.l → 0 ≤ x.1 ∧ x.1 < S.n
  cost : ∀ x, x ∈ S.l → 1 ≤ x.2.2 ∧ x.2.2 ≤ 10000
def firstOf (l : List (Int × Int × Int)) (t : Int) : Nat := l.findIdx fun x => x.1 == t
theorem firstOf_lt {l : List (Int × Int × Int)} {t : Int} (h : 0 < cntL l t) : firstOf l t < l.length := by
  unfold firstOf
  rw [List.findIdx_lt_length]
  obtain ⟨x, hx⟩ := List.exists_mem_of_length_pos h
  rw [List.mem_filter] at hx
  exact ⟨x, hx.1, hx.2⟩
/-- The blocks of a reference, and no others. -/
def RL.foot (p : Nat) (L : RL) (b : Nat) : Prop := b = p ∨ b = L.bw ∨ b = L.bc ∨ L.own = some b
theorem RR.tight {w : World} {p : Nat} {S : RS} {L : RL} {F : Nat → Prop} (h : RR w p S L F) : RR w p S L (L.foot p) :=
  ⟨h.head, h.few, h.pos, h.short, h.wts, h.cks, h.c0, h.c1, h.row, h.ne1, h.ne2, h.ne3, h.ne4, .inl rfl, .inr (.inl rfl), .inr (.inr (.inl rfl)), fun b hb => .inr (.inr (.inr hb))⟩
theorem RR.foot_in {w : World} {p : Nat} {S : RS} {L : RL} {F : Nat → Prop} (h : RR w p S L F) : ∀ b, L.foot p b → F b := by
  rintro b (rfl | rfl | rfl | hb)
  · exact h.fp
  · exact h.fw
  · exact h.fc
  · exact h.fo b hb
theorem RR.foot_lt {w : World} {p : Nat} {S : RS} {L : RL} {F : Nat → Prop} (h : RR w p S L F) : ∀ b, L.foot p b → b < w.heap.size := by
  rintro b (rfl | rfl | rfl | hb)
  · exact h.head.lt
  · exact h.wts.lt
  · exact h.cks.lt
  · exact h.row.lt b hb
/-- The time, and a clock, laid anew. -/
theorem RR.now {w w' : World} {p : Nat} {S : RS} {L : RL} {F : Nat → Prop} (h : RR w p S L F) (t : Int) (hc : Chg (fun b => b = p) w w') (hh : Bk w' p #[.slice (some ⟨L.bw, 0, none⟩) S.n L.capw, .slice (some ⟨L.bc, 0, none⟩) S.n L.capc, L.v, .int .i64 t] 63) : RR w' p { S with now := t } L F :=
  ⟨hh, h.few, h.pos, h.short, hc.bk h.wts (fun e => h.ne1 e.symm), hc.bk h.cks (fun e => h.ne2 e.symm), h.c0, h.c1, h.row.chg hc (fun b hb e => h.ne4.1 (e ▸ hb)), h.ne1, h.ne2, h.ne3, h.ne4, h.fp, h.fw, h.fc, h.fo⟩
theorem RR.clk {w w' : World} {p : Nat} {S : RS} {L : RL} {F : Nat → Prop} (h : RR w p S L F) (i : Nat) (v : Int) (hc : Chg (fun b => b = L.bc) w w') (hh : Bk w' L.bc (L.csc.setIfInBounds i (.int .i64 v)) 3) : RR w' p { S with ck := upd S.ck i v } { L with csc := L.csc.setIfInBounds i (.int .i64 v) } F :=
  ⟨hc.bk h.head h.ne2, h.few, h.pos, h.short, hc.bk h.wts h.ne3, hh, h.c0, fun k hk => by
    have := h.c1 k hk
    show (L.csc.setIfInBounds i (.int .i64 v))[k]? = some (.int .i64 (upd S.ck i v k))
    by_cases e : k = i
    · subst e; rw [upd_at, Array.getElem?_setIfInBounds_self_of_lt (Array.getElem?_eq_some_iff.1 this).1]
    · rw [upd_ne _ _ _ _ e, Array.getElem?_setIfInBounds_ne (Ne.symm e)]; exact this, h.row.chg hc (fun b hb e => h.ne4.2.2 (e ▸ hb)), h.ne1, h.ne2, h.ne3, h.ne4, h.fp, h.fw, h.fc, h.fo⟩
def RS.next (S : RS) : (Int × Int × Bool) × RS :=
  match S.best S.n with
  | none => ((0, 0, false), S)
  | some b => match S.l[firstOf S.l b]? with
    | none => ((0, 0, false), S)
    | some x => ((x.2.1, x.2.2, true), { S with l := S.l.eraseIdx (firstOf S.l b), ck := upd S.ck b (S.ck b + x.2.2 * (720720 / S.wt b)), now := S.ck b })
set_option maxHeartbeats 4000000 in
set_option maxRecDepth 100000 in
theorem rnext_c (p : Nat) (S : RS) (L : RL) (F : Nat → Prop) (w : World) (h : RR w p S L F) (B : Int) (hg : RGood S B) (hB : B ≤ 1000000000000000) :
    Calls Try.prog 15 #[.pointer (some ⟨p, 0, none⟩)] w (RPost S.next.2 w p F (trip S.next.1)) := by
  have H := Lib.hid h
  have HG := Lib.hid hg
  have hp := h.head.lt
  have h4 := h.few
  have hh := h.h0
  clear h hg
  generalize hn : S.n = n at *
  have HE := Lib.hid hn
  clear hn
  go_enter Try.func15, Try.ntmps15
  go_wp2
  go_loopw [5, 6] (fun b s wr => ∃ j : Nat, j ≤ n ∧ s = .int .i64 j ∧ b = optI (S.best j) ∧ Hid (Below w.heap.size w wr)) (fun _ s _ => n - (intOf s).toNat)
  case atStart => exact ⟨0, Nat.zero_le _, rfl, rfl, Lib.hid (Below.refl _ _)⟩
  case round =>
    obtain ⟨j, hj, rfl, rfl, BW⟩ := hrel
    have h0' : wr.cell? ⟨p, 0, none⟩ = some (.slice (some ⟨L.bw, 0, none⟩) n L.capw) := (BW.out.cell (p := ⟨p, 0, none⟩) hp).trans hh
    by_cases hlt : j < n
    · have hltz : (j : Int) < (n : Int) := by omega
      have h1 : (0 : Int) ≤ (j : Int) := by omega
      have FRW := H.out.below BW.out
      have hjn : j < S.n := by rw [HE.out]; exact hlt
      have WA : Hid (∀ nq, Calls Try.prog 18 #[.pointer (some ⟨p, 0, none⟩), .int .i64 j] (wr.drewN nq) fun e w' => e = .returned (.int .i64 (cntL S.l j)) ∧ (wr.drewN nq) = w') := fun nq => rwaiting_c p S L F _ (FRW.below (belowDrewN (Below.refl _ _) nq)) j
      by_cases hb : 0 < cntL S.l j
      · have hbz : (0 : Int) < (cntL S.l j : Int) := by omega
        have hk := FRW.k0 j hjn
        have hc1 := FRW.h1
        rw [HE.out] at hc1
        have he : S.best (j + 1) = (match S.best j with | none => some j | some b => if S.ck j < S.ck b then some j else some b) := by
          show (if S.busy j then _ else _) = _
          rw [if_pos (by simp [RS.busy, hb])]; rfl
        cases hbest : S.best j with
        | none =>
          rw [hbest] at he
          have HX := Lib.hid he
          have hp0 : optI none = .int .i64 (-1) := rfl
          clear he hbest FRW
          generalize cntL S.l j = m at *
          go_wp2_with fail
          go_quiet ((go_at_call 18; exact Calls.quiet_of_same ((WA.out _).mono (fun e w' h => ⟨h.1, h.2.symm⟩))))
          go_wp2
          exact ⟨⟨j + 1, by omega, by go_num, by rw [HX.out]; rfl, Lib.hid (belowDrewN BW.out _)⟩, by simp [intOf]; omega⟩
        | some b =>
          obtain ⟨hbj, hbb⟩ := bestTo_lt hbest
          have hkb := FRW.k0 b (by omega)
          have hp0 : optI (some b) = .int .i64 b := rfl
          have hbz0 : (0 : Int) ≤ (b : Int) := by omega
          have hbz1 : (b : Int) < (n : Int) := by omega
          have hbneg : decide ((b : Int) < 0) = false := by simp
          by_cases hck : S.ck j < S.ck b
          · rw [hbest, show (match some b with | none => some j | some b => if S.ck j < S.ck b then some j else some b) = some j from if_pos hck] at he
            have HX := Lib.hid he
            have hd : decide (S.ck j < S.ck b) = true := by simpa using hck
            clear he hbest FRW hbb
            generalize cntL S.l j = m at *
            go_wp2_with fail
            go_quiet ((go_at_call 18; exact Calls.quiet_of_same ((WA.out _).mono (fun e w' h => ⟨h.1, h.2.symm⟩))))
            go_wp2
            exact ⟨⟨j + 1, by omega, by go_num, by rw [HX.out]; rfl, Lib.hid (belowDrewN BW.out _)⟩, by simp [intOf]; omega⟩
          · rw [hbest, show (match some b with | none => some j | some b => if S.ck j < S.ck b then some j else some b) = some b from if_neg hck] at he
            have HX := Lib.hid he
            have hd : decide (S.ck j < S.ck b) = false := by simpa using hck
            clear he hbest FRW hbb
            generalize cntL S.l j = m at *
            go_wp2_with fail
            go_quiet ((go_at_call 18; exact Calls.quiet_of_same ((WA.out _).mono (fun e w' h => ⟨h.1, h.2.symm⟩))))
            go_wp2
            exact ⟨⟨j + 1, by omega, by go_num, by rw [HX.out]; rfl, Lib.hid (belowDrewN BW.out _)⟩, by simp [intOf]; omega⟩
      · have hz : cntL S.l j = 0 := by omega
        have he : S.best (j + 1) = S.best j := by
          show (if S.busy j then _ else _) = _
          rw [if_neg (by simp [RS.busy, hz])]; rfl
        rw [hz] at WA
        have HX := Lib.hid he
        clear he FRW hz hb
        cases hbest : S.best j with
        | none =>
          have hp0 : optI none = .int .i64 (-1) := rfl
          have HY := Lib.hid hbest
          clear hbest
          go_wp2_with fail
          go_quiet ((go_at_call 18; exact Calls.quiet_of_same ((WA.out _).mono (fun e w' h => ⟨h.1, h.2.symm⟩))))
          go_wp2
          exact ⟨⟨j + 1, by omega, by go_num, by rw [HX.out, HY.out], Lib.hid (belowDrewN BW.out _)⟩, by simp [intOf]; omega⟩
        | some b =>
          have hp0 : optI (some b) = .int .i64 b := rfl
          have HY := Lib.hid hbest
          clear hbest
          go_wp2_with fail
          go_quiet ((go_at_call 18; exact Calls.quiet_of_same ((WA.out _).mono (fun e w' h => ⟨h.1, h.2.symm⟩))))
          go_wp2
          exact ⟨⟨j + 1, by omega, by go_num, by rw [HX.out, HY.out], Lib.hid (belowDrewN BW.out _)⟩, by simp [intOf]; omega⟩
    · have hltz : ¬ (j : Int) < (n : Int) := by omega
      obtain rfl : j = n := by omega
      have FRW := H.out.below BW.out
      obtain ⟨a, c, hv, h2, hit⟩ := FRW.itm
      cases hbest : S.best j with
      | none =>
        have HY := Lib.hid hbest
        have hp0 : optI none = .int .i64 (-1) := rfl
        have hl0 : S.l = [] := by
          cases hl : S.l with
          | nil => rfl
          | cons x l =>
            exfalso
            have hx := HG.out.ten x (by rw [hl]; simp)
            have := bestTo_none hbest x.1.toNat (by have := HE.out; omega)
            simp only [RS.busy, decide_eq_false_iff_not, cntL, hl] at this
            rw [show ((x.1.toNat : Nat) : Int) = x.1 by omega] at this
            simp at this
        rw [hl0] at h2
        have e : S.next = ((0, 0, false), S) := by unfold RS.next; rw [HE.out, HY.out]
        have HX := Lib.hid e
        clear hbest FRW hl0 hit hv e
        have HFR := Lib.hid (H.out.below BW.out)
        go_wp2
        go_loop [7] (fun s => s = .int .i64 0) (fun _ => 0)
        case atStart => rfl
        case round =>
          subst hrel
          go_wp2
          go_ret3
          rw [HX.out]
          exact ⟨rfl, ⟨L, HFR.out.mono fun b hb => .inl hb⟩, Chg.of_below BW.out rfl⟩
      | some b =>
        obtain ⟨hbj, hbb⟩ := bestTo_lt hbest
        have hbn : b < S.n := by rw [HE.out]; exact hbj
        have hp0 : optI (some b) = .int .i64 b := rfl
        have hcnt : 0 < cntL S.l b := by simpa [RS.busy] using hbb
        have hfl := firstOf_lt hcnt
        obtain ⟨i0, hi0⟩ : ∃ i0, i0 = firstOf S.l b := ⟨_, rfl⟩
        rw [← hi0] at hfl
        obtain ⟨x, hx⟩ : ∃ x, S.l[i0]? = some x := ⟨_, List.getElem?_eq_getElem hfl⟩
        have e : S.next = ((x.2.1, x.2.2, true), { S with l := S.l.eraseIdx i0, ck := upd S.ck b (S.ck b + x.2.2 * (720720 / S.wt b)), now := S.ck b }) := by
          unfold RS.next; rw [HE.out, hbest]; simp only [← hi0, hx]
        have hbef : Hid (∀ k y, k < i0 → S.l[k]? = some y → (y.1 == (b : Int)) = false) := by
          intro k y hk hy
          have hkl : k < S.l.length := by omega
          have := List.not_of_lt_findIdx (p := fun x : Int × Int × Int => x.1 == (b : Int)) (xs := S.l) (by rw [hi0] at hk; exact hk)
          rw [(List.getElem?_eq_some_iff.1 hy).2] at this
          simpa using this
        have hthis : Hid ((x.1 == (b : Int)) = true) := by
          have := List.findIdx_getElem (p := fun x : Int × Int × Int => x.1 == (b : Int)) (xs := S.l) (w := by have := hfl; rw [hi0] at this; exact this)
          have e2 : S.l[firstOf S.l b]? = some x := by rw [← hi0]; exact hx
          show (x.1 == (b : Int)) = true
          rw [← (List.getElem?_eq_some_iff.1 e2).2]; exact this
        have HX := Lib.hid e
        have HI := Lib.hid hit
        have HXX := Lib.hid hx
        have HV := Lib.hid hv
        have HFR := Lib.hid FRW
        have hw := HG.out.wt b hbn
        have hk := HG.out.ck b hbn
        have hcost := HG.out.cost x (List.mem_of_getElem? hx)
        have hshort := FRW.short
        obtain ⟨len, hlen⟩ : ∃ len, len = S.l.length := ⟨_, rfl⟩
        rw [← hlen] at h2 hfl hshort
        have HLEN := Lib.hid hlen
        clear e hbest hbb hcnt hi0 hx hit hv FRW hlen
        go_wp2
        go_loop [7] (fun s => ∃ k : Nat, k ≤ i0 ∧ s = .int .i64 k) (fun s => i0 - (intOf s).toNat)
        case atStart => exact ⟨0, Nat.zero_le _, rfl⟩
        case round =>
          obtain ⟨k, hki, rfl⟩ := hrel
          have hkl : (k : Int) < (len : Int) := by omega
          have hkz : (0 : Int) ≤ (k : Int) := by omega
          by_cases hlt2 : k < i0
          · obtain ⟨y, hy⟩ : ∃ y, S.l[k]? = some y := ⟨_, List.getElem?_eq_getElem (by have := HLEN.out; omega)⟩
            obtain ⟨bl, off, rfl, hbl, c0, c1, c2⟩ := HI.out k y hy
            have hne := hbef.out k y hlt2 hy
            obtain ⟨y0, y1, y2⟩ := y
            clear hy c1 c2
            go_wp2
            exact ⟨⟨k + 1, by omega, by go_num⟩, by simp [intOf]; omega⟩
          · obtain rfl : k = i0 := by omega
            obtain ⟨bl, off, rfl, hbl, c0, c1, c2⟩ := HI.out k x HXX.out
            have heq := hthis.out
            obtain ⟨x0, x1, x2⟩ := x
            simp only at c0 c1 c2 heq hcost
            have hc1 := HFR.out.h1
            have hcb := HFR.out.k0 b hbn
            have hf3 := HFR.out.head.free 3
            have hc3 := HFR.out.h3
            have hz1 := HFR.out.head.lt
            have hz2 := HFR.out.cks.lt
            have hz3 := HFR.out.wts.lt
            have hz1' : p ≠ wr.heap.size := by omega
            have hz2' : L.bc ≠ wr.heap.size := by omega
            have hz3' : L.bw ≠ wr.heap.size := by omega
            have hz4' : bl ≠ wr.heap.size := by omega
            have hbz : (0 : Int) ≤ (b : Int) := by omega
            have hbz2 : (b : Int) < (S.n : Int) := by omega
            go_wp2_with fail
            obtain ⟨W, hW⟩ : ∃ W, W = (wr.setCell ⟨p, 3, none⟩ (.int .i64 (S.ck b))).alloc (.cells #[.int .i64 x0, .int .i64 x1, .int .i64 x2] 43) := ⟨_, rfl⟩
            rw [← hW]
            have hWc : Chg (fun k => k = p) wr W := by rw [hW]; exact (Chg.setCell (F := fun k => k = p) (Chg.refl _ _) _ _ (.inl rfl)).alloc _
            have BX : Bk W wr.heap.size #[.int .i64 x0, .int .i64 x1, .int .i64 x2] 43 := by rw [hW]; exact Bk.new' _ _ _ _ (by simp)
            have RW := HFR.out.now (S.ck b) hWc (by rw [hW]; exact (HFR.out.head.set 3 _).alloc _)
            have g1 := RW.h1
            have gb := RW.k0 b hbn
            have gw := RW.w0 b hbn
            have g0 := RW.h0
            have gf := RW.cks.free b
            have gx := BX.cell 2 _ rfl
            simp only at g1 gb gw g0
            have HRW := Lib.hid RW
            have HBX := Lib.hid BX
            have HWC := Lib.hid hWc
            have q1 : (0 : Int) ≤ 720720 / S.wt b := Int.ediv_nonneg (by omega) (by omega)
            have q2 : 720720 / S.wt b ≤ 720720 := Int.ediv_le_self _ (by omega)
            have q3 : 0 ≤ x2 * (720720 / S.wt b) := Int.mul_nonneg (by omega) q1
            have q4 : x2 * (720720 / S.wt b) ≤ 10000 * 720720 := Int.mul_le_mul hcost.2 q2 q1 (by omega)
            have hw0 : (S.wt b == 0) = false := by rw [beq_eq_false_iff_ne]; omega
            clear RW BX hWc hW c0 c1 c2 hc1 hcb hf3 hc3 h2 h0' hh
            go_region
            obtain ⟨v, hv2⟩ : ∃ v : Int, v = S.ck b + x2 * (720720 / S.wt b) := ⟨_, rfl⟩
            rw [← hv2]
            obtain ⟨W2, hW2⟩ : ∃ W2, W2 = (W.setCell ⟨L.bc, b, none⟩ (.int .i64 v)).drew := ⟨_, rfl⟩
            rw [← hW2]
            have hW2c : Chg (fun k => k = L.bc) W W2 := by rw [hW2]; exact (Chg.setCell (F := fun k => k = L.bc) (Chg.refl _ _) _ _ (.inl rfl)).drew
            have BX2 : Bk W2 wr.heap.size #[.int .i64 x0, .int .i64 x1, .int .i64 x2] 43 := hW2c.bk HBX.out (Ne.symm hz2')
            have RW2 := HRW.out.clk b v hW2c (by rw [hW2]; exact (HRW.out.cks.set b _).drew)
            have hTC : Chg (L.foot p) wr W2 := (HWC.out.mono (G := L.foot p) (fun k hk => .inl hk)).trans (hW2c.mono (G := L.foot p) (fun k hk => .inr (.inr (.inl hk)))) (fun k hk => .inl hk)
            have OUT := Lib.hid (out_c p _ _ _ W2 RW2.tight k (by have := HLEN.out; exact this ▸ hfl))
            have hxn : ¬ L.foot p wr.heap.size := fun hf => Nat.lt_irrefl _ (HFR.out.foot_lt _ hf)
            have HXN := Lib.hid hxn
            have HTC := Lib.hid hTC
            have HBX2 := Lib.hid BX2
            have HVV := Lib.hid hv2
            have hsz2 : wr.heap.size < W2.heap.size := BX2.lt
            clear hW2 hW2c BX2 RW2 hTC hxn hv2 g1 gb gw g0 gf gx
            go_wp2_with fail
            refine OUT.out.mono ?_
            rintro e W3 ⟨rfl, ⟨L3, h3⟩, hch3⟩
            have BX3 : Bk W3 wr.heap.size #[.int .i64 x0, .int .i64 x1, .int .i64 x2] 43 := hch3.bk HBX2.out HXN.out
            have gx1 := BX3.cell 1 _ rfl
            have gx2 := BX3.cell 2 _ rfl
            have H3 := Lib.hid h3
            have HC3 := Lib.hid hch3
            clear h3 hch3 BX3
            go_wp2
            go_quiet (fail)
            go_wp2
            go_ret3
            rw [HX.out, ← HVV.out]
            have hzw := BW.out.size
            have c1 : Chg F w wr := Chg.of_below BW.out rfl
            have c2 : Chg F w W2 := c1.trans (HTC.out.mono (G := F) HFR.out.foot_in) (fun k hk => .inl hk)
            have c3 : Chg F w W3 := c2.trans (HC3.out.mono (G := F) HFR.out.foot_in) (fun k hk => .inl hk)
            refine ⟨rfl, ⟨L3, (H3.out.below (belowDrewN (Below.refl _ _) _)).mono fun k hk => ?_⟩, ⟨c3.os, c3.tape, c3.output, c3.size, c3.block⟩⟩
            rcases hk with hk | hk
            · exact .inl (HFR.out.foot_in k hk)
            · right; omega
end Go.Proofs.Ytdnkliapcnfcoaa.fair
