/- fair.Fair: Next. -/
import Derived.Test.YtdnkliapcnfcoaaFb
namespace Go.Proofs.Ytdnkliapcnfcoaa.fair
open Go.ChangeShapes Go.WideShapes Go.ChangeAt Go.RowKit K
set_option linter.unusedVariables false
set_option linter.unusedSimpArgs false
/-- Of the first so many the one whose turn it is. -/
def bestTo (ck : Nat → Int) (some_ : Nat → Bool) : Nat → Option Nat
  | 0 => none
  | j + 1 => if some_ j then (match bestTo ck some_ j with | none => some j | some b => if ck j < ck b then some j else some b) else bestTo ck some_ j
def FS.busy (S : FS) (i : Nat) : Bool := decide (0 < (S.q i).length)
def FS.best (S : FS) (j : Nat) : Option Nat := bestTo S.ck S.busy j
def ptrOf (bt : Nat) : Option Nat → Value | none => .pointer none | some b => .pointer (some ⟨bt, b * 3, none⟩)
theorem bestTo_lt {ck : Nat → Int} {sm : Nat → Bool} : ∀ {j b : Nat}, bestTo ck sm j = some b → b < j ∧ sm b = true
  | 0, b, h => by simp [bestTo] at h
  | j + 1, b, h => by
    unfold bestTo at h
    split at h
    next hs =>
      split at h
      next hb => cases h; exact ⟨by omega, hs⟩
      next b' hb =>
        have := bestTo_lt hb
        split at h
        · cases h; exact ⟨by omega, hs⟩
        · cases h; exact ⟨by omega, this.2⟩
    next hs => have := bestTo_lt h; exact ⟨by omega, this.2⟩
theorem belowDrewN {B : Nat} {a w : World} (h : Below B a w) (n : Nat) : Below B a (w.drewN n) := ⟨h.os, h.tape, h.output, h.size, h.block⟩
/-- All numbers are small. -/
structure Good (S : FS) (B : Int) : Prop where
  few : S.n ≤ 4
  q : ∀ i, i < S.n → (S.q i).length ≤ 16
  wt : ∀ i, i < S.n → 1 ≤ S.wt i ∧ S.wt i ≤ 16
  ck : ∀ i, i < S.n → 0 ≤ S.ck i ∧ S.ck i ≤ B
  now : 0 ≤ S.now ∧ S.now ≤ B
  cost : ∀ i, i < S.n → ∀ x, x ∈ S.q i → 1 ≤ x.2 ∧ x.2 ≤ 10000
def FS.next (S : FS) : (Int × Int × Bool) × FS :=
  match S.best S.n with
  | none => ((0, 0, false), S)
  | some i => match S.q i with
    | [] => ((0, 0, false), S)
    | (x, c) :: r => ((x, c, true), S.put i (S.ck i + c * (720720 / S.wt i)) r (S.ck i))
def trip (r : Int × Int × Bool) : Value := .tuple #[.int .i64 r.1, .int .i64 r.2.1, .bool r.2.2]
set_option maxHeartbeats 1000000 in
theorem next_c (p : Nat) (S : FS) (L : FL) (F : Nat → Prop) (w : World) (h : FR w p S L F) (B : Int) (hg : Good S B) (hB : B ≤ 1000000000000000) :
    Calls Try.prog 11 #[.pointer (some ⟨p, 0, none⟩)] w (Post S.next.2 w p F (trip S.next.1)) := by
  have H := Lib.hid h
  have HG := Lib.hid hg
  have hp := h.head.lt
  have hbt := h.rows.lt
  have h4 := h.few
  have hh := h.h0
  clear h hg
  generalize hn : S.n = n at *
  have HE := Lib.hid hn
  clear hn
  go_enter Try.func11, Try.ntmps11
  go_wp2
  go_loopw [5, 14] (fun b s wr => ∃ j : Nat, j ≤ n ∧ s = .int .i64 j ∧ b = ptrOf L.bt (S.best j) ∧ Hid (Below w.heap.size w wr)) (fun _ s _ => n - (intOf s).toNat)
  case atStart => exact ⟨0, Nat.zero_le _, rfl, rfl, Lib.hid (Below.refl _ _)⟩
  case round =>
    obtain ⟨j, hj, rfl, rfl, BW⟩ := hrel
    have h0' : wr.cell? ⟨p, 0, none⟩ = some (.slice (some ⟨L.bt, 0, none⟩) n L.cap) := (BW.out.cell (p := ⟨p, 0, none⟩) hp).trans hh
    by_cases hlt : j < n
    · have hltz : (j : Int) < (n : Int) := by omega
      have h1 : (0 : Int) ≤ (j : Int) := by omega
      have FRW := H.out.below BW.out
      have hjn : j < S.n := by rw [HE.out]; exact hlt
      obtain ⟨a, c, hc⟩ := FRW.r2' j hjn
      by_cases hb : 0 < (S.q j).length
      · have hbz : (0 : Int) < ((S.q j).length : Int) := by omega
        have hk := FRW.r1 j hjn
        have he : S.best (j + 1) = (match S.best j with | none => some j | some b => if S.ck j < S.ck b then some j else some b) := by
          show (if S.busy j then _ else _) = _
          rw [if_pos (by simp [FS.busy, hb])]; rfl
        cases hbest : S.best j with
        | none =>
          rw [hbest] at he
          have HX := Lib.hid he
          have HF := Lib.hid FRW
          have hp0 : ptrOf L.bt none = .pointer none := rfl
          clear he hbest FRW
          generalize (S.q j).length = m at *
          go_wp2
          go_quiet (fail)
          go_wp2
          exact ⟨⟨j + 1, by omega, by go_num, by rw [HX.out]; rfl, Lib.hid (belowDrewN BW.out _)⟩, by simp [intOf]; omega⟩
        | some b =>
          obtain ⟨hbj, hbb⟩ := bestTo_lt hbest
          have hkb := FRW.r1 b (by omega)
          have hp0 : ptrOf L.bt (some b) = .pointer (some ⟨L.bt, b * 3, none⟩) := rfl
          by_cases hck : S.ck j < S.ck b
          · rw [hbest, show (match some b with | none => some j | some b => if S.ck j < S.ck b then some j else some b) = some j from if_pos hck] at he
            have HX := Lib.hid he
            have HF := Lib.hid FRW
            have hd : decide (S.ck j < S.ck b) = true := by simpa using hck
            clear he hbest FRW hbb
            generalize (S.q j).length = m at *
            go_wp2
            go_quiet (fail)
            go_wp2
            exact ⟨⟨j + 1, by omega, by go_num, by rw [HX.out]; rfl, Lib.hid (belowDrewN BW.out _)⟩, by simp [intOf]; omega⟩
          · rw [hbest, show (match some b with | none => some j | some b => if S.ck j < S.ck b then some j else some b) = some b from if_neg hck] at he
            have HX := Lib.hid he
            have HF := Lib.hid FRW
            have hd : decide (S.ck j < S.ck b) = false := by simpa using hck
            clear he hbest FRW hbb
            generalize (S.q j).length = m at *
            go_wp2
            go_quiet (fail)
            go_wp2
            exact ⟨⟨j + 1, by omega, by go_num, by rw [HX.out]; rfl, Lib.hid (belowDrewN BW.out _)⟩, by simp [intOf]; omega⟩
      · have hz : (S.q j).length = 0 := by omega
        have he : S.best (j + 1) = S.best j := by
          show (if S.busy j then _ else _) = _
          rw [if_neg (by simp [FS.busy, hz])]; rfl
        rw [hz] at hc
        have HX := Lib.hid he
        have HF := Lib.hid FRW
        clear he FRW hz hb
        cases hbest : S.best j with
        | none =>
          have hp0 : ptrOf L.bt none = .pointer none := rfl
          have HY := Lib.hid hbest
          clear hbest
          go_wp2
          go_quiet (fail)
          go_wp2
          exact ⟨⟨j + 1, by omega, by go_num, by rw [HX.out, HY.out], Lib.hid (belowDrewN BW.out _)⟩, by simp [intOf]; omega⟩
        | some b =>
          have hp0 : ptrOf L.bt (some b) = .pointer (some ⟨L.bt, b * 3, none⟩) := rfl
          have HY := Lib.hid hbest
          clear hbest
          go_wp2
          go_quiet (fail)
          go_wp2
          exact ⟨⟨j + 1, by omega, by go_num, by rw [HX.out, HY.out], Lib.hid (belowDrewN BW.out _)⟩, by simp [intOf]; omega⟩
    · have hltz : ¬ (j : Int) < (n : Int) := by omega
      obtain rfl : j = n := by omega
      have FRW := H.out.below BW.out
      cases hbest : S.best j with
      | none =>
        have HY := Lib.hid hbest
        have hp0 : ptrOf L.bt none = .pointer none := rfl
        clear hbest FRW
        go_wp2
        go_ret3
        have e : S.next = ((0, 0, false), S) := by unfold FS.next; rw [HE.out, HY.out]
        rw [e]
        exact Post.same H.out BW.out
      | some b =>
        obtain ⟨hbj, hbb⟩ := bestTo_lt hbest
        have hbn : b < S.n := by rw [HE.out]; exact hbj
        have hp0 : ptrOf L.bt (some b) = .pointer (some ⟨L.bt, b * 3, none⟩) := rfl
        cases hq : S.q b with
        | nil => simp [FS.busy, hq] at hbb
        | cons xc r =>
        obtain ⟨x, c⟩ := xc
        have e : S.next = ((x, c, true), S.put b (S.ck b + c * (720720 / S.wt b)) r (S.ck b)) := by unfold FS.next; rw [HE.out, hbest]; simp only [hq]
        have HX := Lib.hid e
        have hrow := FRW.row b hbn
        rw [hq, show encQ ((x, c) :: r) = .int .i64 x :: .int .i64 c :: encQ r from rfl] at hrow
        obtain ⟨g, off, cap, cs, hv, hown, hnc, hcap, hbk, hfit, hcs⟩ := hrow.pos (by simp)
        simp only [List.length_cons] at hv hnc hcs
        have hc0 := hbk.cell off _ ((hcs 0 (by omega)).trans rfl)
        have hc1 := hbk.cell (off + 1) _ ((hcs 1 (by omega)).trans rfl)
        have hc2 := hv ▸ FRW.r2 b hbn
        have hc3 := FRW.r1 b hbn
        have hc4 := FRW.r0 b hbn
        have hc5 := FRW.h1
        have hm : cap ≤ 9223372036854775807 := hcap
        obtain ⟨f, hA, hff, hfc⟩ : ∃ f, (if cap = 1 then some (⟨g, off, none⟩ : Addr) else some ⟨g, off + 2, none⟩) = some ⟨g, f, none⟩ ∧ f + (cap - 1) * 2 ≤ cs.size ∧ Hid (∀ j, j < r.length * 2 → cs[f + j]? = (encQ r)[j]?) := by
          by_cases h1 : cap = 1
          · refine ⟨off, by simp [h1], by omega, fun j hj => ?_⟩
            omega
          · refine ⟨off + 2, by simp [h1], by omega, fun j hj => ?_⟩
            rw [Nat.add_assoc, hcs (2 + j) (by omega), Nat.add_comm 2 j]
            rfl
        have hw := HG.out.wt b hbn
        have hk := HG.out.ck b hbn
        have hcost := HG.out.cost b hbn (x, c) (by rw [hq]; simp)
        have hne := H.out.ne
        have hne' : L.bt ≠ p := fun e => hne e.symm
        have hz1 := FRW.rows.lt
        have hz2 := FRW.head.lt
        have hz3 := hbk.lt
        have hz1' : L.bt ≠ wr.heap.size := by omega
        have hz2' : p ≠ wr.heap.size := by omega
        have hz3' : g ≠ wr.heap.size := by omega
        have hf1 := FRW.rows.free (b * 3 + 2)
        have hf2 := FRW.head.free 1
        have hf3 := FRW.rows.free (b * 3 + 1)
        have HV := Lib.hid hv
        have HO := Lib.hid hown
        have HBK := Lib.hid hbk
        have HQ := Lib.hid hq
        have HF := Lib.hid FRW
        have HFF := Lib.hid hff
        have HNC := Lib.hid hnc
        have hcz : (1 : Int) ≤ (cap : Int) := by omega
        have hrz : (1 : Int) ≤ (r.length : Int) + 1 := by omega
        clear hrow hbk hfit hcs hq FRW hv hown e hbb hbest hff
        go_wp2
        obtain ⟨W, hW⟩ : ∃ W, W = ((wr.setCell ⟨L.bt, b * 3 + 2, none⟩ (.slice (some ⟨g, f, none⟩) r.length (cap - 1))).setCell ⟨p, 1, none⟩ (.int .i64 (S.ck b))).alloc (.cells #[.int .i64 x, .int .i64 c] 60) := ⟨_, rfl⟩
        rw [← hW]
        have BT : Bk W L.bt (L.cs.setIfInBounds (b * 3 + 2) (.slice (some ⟨g, f, none⟩) r.length (cap - 1))) 54 := by rw [hW]; exact ((HF.out.rows.set _ _).other _ _ hne').alloc _
        have BP : Bk W p #[.slice (some ⟨L.bt, 0, none⟩) S.n L.cap, .int .i64 (S.ck b)] 51 := by rw [hW]; exact ((HF.out.head.other _ _ hne).set 1 _).alloc _
        have BX : Bk W wr.heap.size #[.int .i64 x, .int .i64 c] 60 := by rw [hW]; exact Bk.new' _ _ _ _ (by simp)
        have BG : Bk W g cs 60 := by
          rw [hW]
          refine ((HBK.out.other _ _ ?_).other _ _ ?_).alloc _
          · intro e; exact (H.out.ne0 b hbn).2 (by rw [HO.out]; exact congrArg some e)
          · intro e; exact (H.out.ne0 b hbn).1 (by rw [HO.out]; exact congrArg some e)
        have CW : Chg (fun k => k = p ∨ k = L.bt ∨ L.own b = some k) w W := by
          rw [hW]
          exact (((Chg.of_below BW.out rfl).setCell _ _ (.inl (.inr (.inl rfl)))).setCell _ _ (.inl (.inl rfl))).alloc _
        have k1 := BT.cell (b * 3 + 1) _ ((Array.getElem?_setIfInBounds_ne (by omega)).trans (H.out.c1 b hbn))
        have k2 := BT.cell (b * 3) _ ((Array.getElem?_setIfInBounds_ne (by omega)).trans (H.out.c0 b hbn))
        have k3 := BX.cell 1 _ rfl
        have k5 := BT.free (b * 3 + 1)
        have HBT := Lib.hid BT
        have HBP := Lib.hid BP
        have HBX := Lib.hid BX
        have HBG := Lib.hid BG
        have HCW := Lib.hid CW
        have q1 : (0 : Int) ≤ 720720 / S.wt b := Int.ediv_nonneg (by omega) (by omega)
        have q2 : 720720 / S.wt b ≤ 720720 := Int.ediv_le_self _ (by omega)
        have q3 : 0 ≤ c * (720720 / S.wt b) := Int.mul_nonneg (by omega) q1
        have q4 : c * (720720 / S.wt b) ≤ 10000 * 720720 := Int.mul_le_mul hcost.2 q2 q1 (by omega)
        clear BT BP BX BG CW hW hc0 hc1 hc2 hc3 hc4 hc5 hf1 hf2 hf3 h0'
        have hw0 : (S.wt b == 0) = false := by rw [beq_eq_false_iff_ne]; omega
        go_region
        obtain ⟨v, hv⟩ : ∃ v : Int, v = S.ck b + c * (720720 / S.wt b) := ⟨_, rfl⟩
        rw [← hv]
        have HVV := Lib.hid hv
        have BT2 : Bk (W.setCell ⟨L.bt, b * 3 + 1, none⟩ (.int .i64 v)).drew L.bt ((L.cs.setIfInBounds (b * 3 + 2) (.slice (some ⟨g, f, none⟩) r.length (cap - 1))).setIfInBounds (b * 3 + 1) (.int .i64 v)) 54 := (HBT.out.set _ _).drew
        have BP2 : Bk (W.setCell ⟨L.bt, b * 3 + 1, none⟩ (.int .i64 v)).drew p #[.slice (some ⟨L.bt, 0, none⟩) S.n L.cap, .int .i64 (S.ck b)] 51 := (HBP.out.other _ _ hne).drew
        have BX2 : Bk (W.setCell ⟨L.bt, b * 3 + 1, none⟩ (.int .i64 v)).drew wr.heap.size #[.int .i64 x, .int .i64 c] 60 := (HBX.out.other _ _ (Ne.symm hz1')).drew
        have BG2 : Bk (W.setCell ⟨L.bt, b * 3 + 1, none⟩ (.int .i64 v)).drew g cs 60 := (HBG.out.other _ _ (fun e => (H.out.ne0 b hbn).2 (by rw [HO.out]; exact congrArg some e))).drew
        have CW2 : Chg (fun k => k = p ∨ k = L.bt ∨ L.own b = some k) w (W.setCell ⟨L.bt, b * 3 + 1, none⟩ (.int .i64 v)).drew := (HCW.out.setCell _ _ (.inl (.inr (.inl rfl)))).drew
        clear k1 k2 k3 k5 hv
        generalize (W.setCell ⟨L.bt, b * 3 + 1, none⟩ (.int .i64 v)).drew = W2 at BT2 BP2 BX2 BG2 CW2 ⊢
        have k1 := BX2.cell 0 _ rfl
        have k2 := BX2.cell 1 _ rfl
        have HBT2 := Lib.hid BT2
        have HBP2 := Lib.hid BP2
        have HBG2 := Lib.hid BG2
        have HCW2 := Lib.hid CW2
        clear BT2 BP2 BX2 BG2 CW2
        go_wp2
        go_quiet (fail)
        go_wp2
        go_ret3
        have h3 := H.out.size
        have hrow2 : ∀ nq, Row (W2.drewN nq) 60 2 (.slice (some ⟨g, f, none⟩) r.length (cap - 1)) (some g) r.length (encQ r) := fun nq => ⟨encQ_length r, .inr ⟨g, f, cap - 1, cs, rfl, rfl, by have := HNC.out; omega, Nat.le_trans (Nat.sub_le _ _) hcap, HBG2.out.drewN _, HFF.out, hfc.out⟩⟩
        have hch : ∀ nq, Chg (fun k => k = p ∨ k = L.bt ∨ L.own b = some k) w (W2.drewN nq) := fun nq => ⟨HCW2.out.os, HCW2.out.tape, HCW2.out.output, HCW2.out.size, HCW2.out.block⟩
        rw [HX.out]
        refine ⟨rfl, ⟨_, FR.put H.out hbn _ _ (.slice (some ⟨g, f, none⟩) r.length (cap - 1)) (some g) r _ (hch _) (HBP2.out.drewN _) (HBT2.out.drewN _) (fun k k1 k2 => ?_) (by simp) ?_ ?_ (hrow2 _) (fun k hk => .inl (by rw [HO.out]; exact hk))⟩, H.out.chgF hbn (hch _)⟩
        · rw [Array.getElem?_setIfInBounds_ne (by omega), Array.getElem?_setIfInBounds_ne (by omega)]
        · rw [HVV.out, Array.getElem?_setIfInBounds_self_of_lt (by simp; omega)]
        · rw [Array.getElem?_setIfInBounds_ne (by omega), Array.getElem?_setIfInBounds_self_of_lt (by omega)]
end Go.Proofs.Ytdnkliapcnfcoaa.fair
