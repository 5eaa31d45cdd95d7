/- A sequence: Fork. -/
import Derived.Test.YtfimadeokdlpnaaVz
namespace Go.Proofs.Ytfimadeokdlpnaa.kv
open Go.ChangeShapes Go.WideShapes Go.ChangeAt Go.RowKit K
set_option linter.unusedVariables false
set_option linter.unusedSimpArgs false
variable (s p b : Nat) (S : List Pg) (Q : Sq) (v : Value) (own : Option Nat) (w : World)
def shareAll (S : List Pg) (l : List Nat) : List Pg := l.foldl (fun S (n : Nat) => share1 S (n : Int)) S
theorem shareAll_take (S : List Pg) (l : List Nat) (k n : Nat) (h : l[k]? = some n) : shareAll S (l.take (k + 1)) = share1 (shareAll S (l.take k)) n := by
  obtain ⟨hk, rfl⟩ := List.getElem?_eq_some_iff.1 h
  unfold shareAll
  rw [List.take_succ_eq_append_getElem hk, List.foldl_append]
  rfl
/-- No page has more owners than so many. -/
def Most (M : Nat) (S : List Pg) : Prop := ∀ x ∈ S, x.own ≤ M
theorem Most.share {M : Nat} {S : List Pg} (h : Most M S) (n : Int) : Most (M + 1) (share1 S n) := by
  unfold share1
  split
  next x hx =>
    obtain ⟨i, rfl, h1, h2⟩ := look_some hx
    have := h x (List.mem_of_getElem? h1)
    intro y hy
    rcases List.mem_or_eq_of_mem_set hy with e | e
    · exact Nat.le_succ_of_le (h y e)
    · subst e; show x.own + 1 ≤ _; omega
  next => exact fun y hy => Nat.le_succ_of_le (h y hy)
theorem Most.shareAll {M : Nat} {S : List Pg} (h : Most M S) (l : List Nat) : Most (M + l.length) (shareAll S l) := by
  unfold kv.shareAll
  induction l generalizing S M with
  | nil => exact h
  | cons n l ih =>
    have := ih (h.share n)
    rw [List.length_cons, show M + (l.length + 1) = M + 1 + l.length by omega]
    exact this
structure FPost (p b s : Nat) (S' : List Pg) (Q : Sq) (v : Value) (own : Option Nat) (w : World) (e : Ending) (w' : World) (f : Nat) : Prop where
  ret : e = .returned (.pointer (some ⟨f, 0, none⟩))
  pool : PR w' p b S'
  seq : SR w' s p Q v own
  new : ∃ v' g, SR w' f p Q v' (some g) ∧ w.heap.size ≤ g
  chg : Chg (fun k => k = p ∨ k = b) w w'
  lt : w.heap.size ≤ f
set_option maxHeartbeats 1000000 in
theorem fork_c (h : SR w s p Q v own) (hp : PR w p b S) (ha : Apart p b s own) (hS : Most 900000000 S) : Calls Try.prog 20 #[.pointer (some ⟨s, 0, none⟩)] w fun e w' => ∃ f, FPost p b s (shareAll S Q.pages) Q v own w e w' f := by
  obtain ⟨a, c, hv, h3⟩ := h.c3
  have H := Lib.hid h
  have HP := Lib.hid hp
  have HA := Lib.hid ha
  have HSm := Lib.hid hS
  have hfew := h.few
  have HV := Lib.hid hv
  clear h hp ha hS hv
  generalize hL : Q.pages.length = L at *
  have HL := Lib.hid hL
  clear hL
  go_enter Try.func20, Try.ntmps20
  go_wp2_with fail
  go_loopw [11] (fun s9 wr => ∃ k : Nat, k ≤ L ∧ s9 = .int .i64 k ∧ Hid (PR wr p b (shareAll S (Q.pages.take k))) ∧ Hid (Chg (fun k => k = p ∨ k = b) w wr)) (fun s9 _ => L - (intOf s9).toNat)
  case atStart => exact ⟨0, by omega, rfl, HP, Lib.hid (Chg.refl _ _)⟩
  case round =>
    obtain ⟨k, hk, rfl, PRK, CHK⟩ := hrel
    have HSk := Lib.hid (H.out.chg CHK.out (fun e => e.elim HA.out.sp HA.out.sb) (fun k hk e => e.elim (fun e => HA.out.op (by rw [hk, e])) (fun e => HA.out.ob (by rw [hk, e]))))
    have hs0 := HSk.out.c0
    by_cases hkL : k < L
    · have hkz : (k : Int) < (L : Int) := by omega
      have hk0 : (0 : Int) ≤ (k : Int) := by omega
      have hn : Q.pages[k]? = some (Q.pages[k]'(by rw [HL.out]; exact hkL)) := List.getElem?_eq_getElem _
      generalize Q.pages[k]'(by rw [HL.out]; exact hkL) = n at hn
      obtain ⟨g, off, c', e1, e2, e3, e4, e5, e6⟩ := HSk.out.page hn
      rw [HL.out] at e1
      have := HV.out.symm.trans e1
      cases this
      have hbd : ∀ x ∈ shareAll S (Q.pages.take k), x.own ≤ 1000000000 := by
        intro x hx
        have h1 := (HSm.out.shareAll (Q.pages.take k)) x hx
        have h2 : (Q.pages.take k).length ≤ k := by simp [Nat.min_le_left]
        omega
      have DR := Lib.hid (share_c p b _ wr PRK.out n hbd)
      have HST := Lib.hid (shareAll_take S Q.pages k n hn)
      generalize errOf (shareAll S (Q.pages.take k)) n = er at DR
      clear e1 e2 hn hbd
      go_wp2_with fail
      refine DR.out.mono ?_
      rintro e w' ⟨rfl, hR, hC⟩
      have HR3 : Hid (PR w' p b (shareAll S (Q.pages.take (k + 1)))) := by
        show PR w' p b _
        rw [HST.out]; exact hR
      have HC3 := Lib.hid (CHK.out.trans hC (fun k hk => .inl hk))
      clear hR hC
      go_wp2
      exact ⟨⟨k + 1, by omega, by go_num, HR3, HC3⟩, by simp [intOf]; omega⟩
    · obtain rfl : k = L := by omega
      have hkz : ¬ (k : Int) < (k : Int) := by omega
      have k1 := HSk.out.c1
      have k2 := HSk.out.c2
      have hk3 : wr.cell? ⟨s, 3, none⟩ = some (.slice a k c) := (HSk.out.head.cell 3 _ rfl).trans (congrArg some HV.out)
      have k4 := HSk.out.c4
      have k5 := HSk.out.c5
      have HPF : Hid (PR wr p b (shareAll S Q.pages)) := by
        have := PRK.out
        rw [← HL.out, List.take_length] at this
        exact this
      go_wp2_with fail
      obtain ⟨W1, hW1⟩ : ∃ W1, W1 = wr.alloc (.cells #[.pointer (some ⟨p, 0, none⟩), .string Q.tag, .int .i64 (Q.width : Int), .slice a k c, .int .i64 (Q.first : Int), .int .i64 (Q.len : Int)] 69) := ⟨_, rfl⟩
      have hbe : Below wr.heap.size wr W1 := by rw [hW1]; exact (Below.refl _ _).alloc (Nat.le_refl _) _
      have hsz : W1.heap.size = wr.heap.size + 1 := by rw [hW1]; simp
      have HBN : Hid (Bk W1 wr.heap.size #[.pointer (some ⟨p, 0, none⟩), .string Q.tag, .int .i64 (Q.width : Int), .slice a k c, .int .i64 (Q.first : Int), .int .i64 (Q.len : Int)] 69) := by rw [hW1]; exact Bk.new _ _ _
      rw [← hW1]
      have HS1 := Lib.hid (HSk.out.below hbe)
      have HP1 := Lib.hid (HPF.out.below hbe)
      have HC1 := Lib.hid (CHK.out.trans (Chg.of_below (F := fun _ => False) hbe rfl) (fun _ h => h.elim))
      have OW := Lib.hid (own_c s p Q v own W1 HS1.out)
      rw [HL.out] at OW
      clear hbe hW1
      refine OW.out.mono ?_
      rintro e w2 ⟨rfl, hrow, hb2⟩
      have HRW := Lib.hid hrow
      have HB2 := Lib.hid hb2
      have HBN2 := Lib.hid (HBN.out.below hb2 (by omega))
      have n3 := HBN2.out.cell 3 (.slice a k c) rfl
      have nf := HBN2.out.free 3
      have HSZ := Lib.hid hsz
      clear hrow hb2 hsz
      go_wp2
      go_ret
      have hsz := HSZ.out
      have hcs := CHK.out.size
      have hcd : Chg (fun k => k = wr.heap.size) w2 (w2.setCell ⟨wr.heap.size, 3, none⟩ (.slice (some ⟨W1.heap.size, 0, none⟩) k k)) := (Chg.refl (fun k => k = wr.heap.size) w2).setCell _ _ (.inl rfl)
      have hsl := HSk.out.head.lt
      have hpl := PRK.out.head.lt
      have hbl := PRK.out.lt
      refine ⟨wr.heap.size, rfl, (HP1.out.below HB2.out).chg (G := fun k => k = wr.heap.size) hcd (show ¬ (p = wr.heap.size) by omega) (show ¬ (b = wr.heap.size) by omega), (HS1.out.below HB2.out).chg (G := fun k => k = wr.heap.size) hcd (show ¬ (s = wr.heap.size) by omega) (fun b hb => ?_), ⟨_, W1.heap.size, ⟨HBN2.out.set 3 _, ?_, ?_, HSk.out.wd, HSk.out.tg, HSk.out.fl, HSk.out.short, HSk.out.few, HSk.out.fit⟩, by omega⟩, ?_, hcs⟩
      · have := HSk.out.row.lt b hb
        show ¬ (b = wr.heap.size)
        omega
      · show Row _ _ 1 _ _ Q.pages.length (encN Q.pages)
        rw [HL.out]
        exact HRW.out.keep fun b hb => Below.heap_setCell w2 ⟨wr.heap.size, 3, none⟩ _ b (by cases hb; show W1.heap.size ≠ wr.heap.size; omega)
      · intro e; have := Option.some.inj e; omega
      · exact (HC1.out.trans (Chg.of_below (F := fun _ => False) HB2.out rfl) (fun _ h => h.elim)).trans (G := fun k => k = wr.heap.size) hcd (fun k e => .inr (by omega))
end Go.Proofs.Ytfimadeokdlpnaa.kv
