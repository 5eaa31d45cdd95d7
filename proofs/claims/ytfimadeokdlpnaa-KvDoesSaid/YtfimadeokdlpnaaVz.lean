/- A sequence: New, Release. -/
import Derived.Test.YtfimadeokdlpnaaVy
namespace Go.Proofs.Ytfimadeokdlpnaa.kv
open Go.ChangeShapes Go.WideShapes Go.ChangeAt Go.RowKit K
set_option linter.unusedVariables false
set_option linter.unusedSimpArgs false
variable (s p b : Nat) (S : List Pg) (Q : Sq) (v : Value) (own : Option Nat) (w : World)
theorem knew_c (tag : ByteArray) (ht : tag.toList ≠ []) (W : Nat) (h1 : 1 ≤ W) (h2 : W ≤ 32) : Calls Try.prog 9 #[.pointer (some ⟨p, 0, none⟩), .string tag, .int .i64 W] w fun e w' =>
    e = .returned (.tuple #[.pointer (some ⟨w.heap.size, 0, none⟩), .int .i64 0]) ∧ SR w' w.heap.size p ⟨tag, W, [], 0, 0⟩ (.slice none 0 0) none ∧ Below w.heap.size w w' := by
  have hte : tag.toList.isEmpty = false := by simpa using ht
  have hz1 : (1 : Int) ≤ (W : Int) := by omega
  have hz2 : (W : Int) ≤ 32 := by omega
  have HT := Lib.hid ht
  go_enter Try.func9, Try.ntmps9
  go_wp2
  go_ret2
  exact ⟨rfl, ⟨Bk.new _ _ _, Row.nil _ _ _, by simp, ⟨h1, h2⟩, HT.out, Nat.le_refl _, by simp, by simp, by simp⟩, (Below.refl _ _).alloc (Nat.le_refl _) _⟩
def dropAll (S : List Pg) (l : List Nat) : List Pg := l.foldl (fun S (n : Nat) => drop1 S (n : Int)) S
theorem dropAll_take (S : List Pg) (l : List Nat) (k n : Nat) (h : l[k]? = some n) : dropAll S (l.take (k + 1)) = drop1 (dropAll S (l.take k)) n := by
  obtain ⟨hk, rfl⟩ := List.getElem?_eq_some_iff.1 h
  unfold dropAll
  rw [List.take_succ_eq_append_getElem hk, List.foldl_append]
  rfl
theorem Small.dropAll {S : List Pg} (h : Small S) (l : List Nat) : Small (dropAll S l) := by
  unfold kv.dropAll
  induction l generalizing S with
  | nil => exact h
  | cons n l ih => exact ih (h.drop1 n)
set_option maxHeartbeats 1000000 in
theorem release_c (h : SR w s p Q v own) (hp : PR w p b S) (ha : Apart p b s own) (hS : Small S) : Calls Try.prog 24 #[.pointer (some ⟨s, 0, none⟩)] w
    (KPost p b s own (dropAll S Q.pages) { Q with pages := [], first := Q.len } w (.tuple #[])) := by
  obtain ⟨a, c, hv, h3⟩ := h.c3
  have H := Lib.hid h
  have HP := Lib.hid hp
  have HA := Lib.hid ha
  have HSm := Lib.hid hS
  have hfew := h.few
  have HV := Lib.hid hv
  clear h hp ha hS hv
  generalize hL : Q.pages.length = L at *
  have HL := Lib.hid hL
  clear hL
  go_enter Try.func24, Try.ntmps24
  go_wp2_with fail
  go_loopw [9] (fun s9 wr => ∃ k : Nat, k ≤ L ∧ s9 = .int .i64 k ∧ Hid (PR wr p b (dropAll S (Q.pages.take k))) ∧ Hid (Chg (fun k => k = p ∨ k = b) w wr)) (fun s9 _ => L - (intOf s9).toNat)
  case atStart => exact ⟨0, by omega, rfl, HP, Lib.hid (Chg.refl _ _)⟩
  case round =>
    obtain ⟨k, hk, rfl, PRK, CHK⟩ := hrel
    have HSk := Lib.hid (H.out.chg CHK.out (fun e => e.elim HA.out.sp HA.out.sb) (fun k hk e => e.elim (fun e => HA.out.op (by rw [hk, e])) (fun e => HA.out.ob (by rw [hk, e]))))
    have hs0 := HSk.out.c0
    by_cases hkL : k < L
    · have hkz : (k : Int) < (L : Int) := by omega
      have hk0 : (0 : Int) ≤ (k : Int) := by omega
      have hn : Q.pages[k]? = some (Q.pages[k]'(by rw [HL.out]; exact hkL)) := List.getElem?_eq_getElem _
      generalize Q.pages[k]'(by rw [HL.out]; exact hkL) = n at hn
      obtain ⟨g, off, c', e1, e2, e3, e4, e5, e6⟩ := HSk.out.page hn
      rw [HL.out] at e1
      have := HV.out.symm.trans e1
      cases this
      have DR := Lib.hid (drop_c p b _ wr PRK.out n (HSm.out.dropAll _))
      have HST := Lib.hid (dropAll_take S Q.pages k n hn)
      generalize errOf (dropAll S (Q.pages.take k)) n = er at DR
      clear e1 e2 hn
      go_wp2_with fail
      refine DR.out.mono ?_
      rintro e w' ⟨rfl, hR, hC⟩
      have HR3 : Hid (PR w' p b (dropAll S (Q.pages.take (k + 1)))) := by
        show PR w' p b _
        rw [HST.out]; exact hR
      have HC3 := Lib.hid (CHK.out.trans hC (fun k hk => .inl hk))
      clear hR hC
      go_wp2
      exact ⟨⟨k + 1, by omega, by go_num, HR3, HC3⟩, by simp [intOf]; omega⟩
    · obtain rfl : k = L := by omega
      have hkz : ¬ (k : Int) < (k : Int) := by omega
      have h5 := HSk.out.c5
      have hk3 : wr.cell? ⟨s, 3, none⟩ = some v := HSk.out.head.cell 3 _ rfl
      have hk4 := HSk.out.c4
      have hf3 := HSk.out.head.free 3
      have hf4 := HSk.out.head.free 4
      have HPF : Hid (PR wr p b (dropAll S Q.pages)) := by
        have := PRK.out
        rw [← HL.out, List.take_length] at this
        exact this
      go_wp2
      go_end0
      have hcd : Chg (fun k => k = s) wr ((wr.setCell ⟨s, 3, none⟩ (.slice none 0 0)).setCell ⟨s, 4, none⟩ (.int .i64 Q.len)) := ((Chg.refl (fun k => k = s) wr).setCell _ _ (.inl rfl)).setCell _ _ (.inl rfl)
      refine ⟨rfl, HPF.out.chg hcd (fun e => HA.out.sp e.symm) (fun e => HA.out.sb e.symm), ⟨.slice none 0 0, none, ⟨(HSk.out.head.set 3 _).set 4 _, Row.nil _ _ _, by simp, HSk.out.wd, HSk.out.tg, Nat.le_refl _, HSk.out.short, by simp, by simp⟩, fun k hk => by cases hk⟩, ?_⟩
      exact (CHK.out.mono (G := Foot p b s own) (fun k e => e.elim .inl (fun e => .inr (.inl e)))).trans hcd (fun k e => .inl (.inr (.inr (.inl e))))
end Go.Proofs.Ytfimadeokdlpnaa.kv
