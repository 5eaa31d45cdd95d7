/- A sequence: room, where no page is copied. -/
import Derived.Test.YtfimadeokdlpnaaVr
namespace Go.Proofs.Ytfimadeokdlpnaa.kv
open Go.ChangeShapes Go.WideShapes Go.ChangeAt Go.RowKit K
set_option linter.unusedVariables false
set_option linter.unusedSimpArgs false
/-- Blocks apart. -/
structure Apart (p b s : Nat) (own : Option Nat) : Prop where
  sp : s ≠ p
  sb : s ≠ b
  op : own ≠ some p
  ob : own ≠ some b
def Foot (p b s : Nat) (own : Option Nat) (k : Nat) : Prop := k = p ∨ k = b ∨ k = s ∨ own = some k
/-- Behind a call that changes the pool and a sequence. -/
structure KPost (p b s : Nat) (own : Option Nat) (S' : List Pg) (Q' : Sq) (w : World) (r : Value) (e : Ending) (w' : World) : Prop where
  ret : e = .returned r
  pool : PR w' p b S'
  seq : ∃ v' own', SR w' s p Q' v' own' ∧ ∀ k, own' = some k → own = some k ∨ w.heap.size ≤ k
  chg : Chg (Foot p b s own) w w'
theorem PR.drew {w : World} {p b : Nat} {S : List Pg} (h : PR w p b S) : PR w.drew p b S := ⟨h.head, h.rows, h.few, h.ne⟩
theorem SR.drew {w : World} {s p : Nat} {Q : Sq} {v : Value} {own : Option Nat} (h : SR w s p Q v own) : SR w.drew s p Q v own :=
  ⟨h.head, h.row, h.ne, h.wd, h.tg, h.fl, h.short, h.few, h.fit⟩
theorem Chg.drewN' {F : Nat → Prop} {w w' : World} (h : Chg F w w') (n : Nat) : Chg F w (w'.drewN n) := ⟨h.os, h.tape, h.output, h.size, h.block⟩
theorem chg_drewN (F : Nat → Prop) (w : World) (n : Nat) : Chg F w (w.drewN n) := ⟨rfl, rfl, rfl, Nat.le_refl _, fun _ _ _ => rfl⟩
variable (s p b : Nat) (S : List Pg) (Q : Sq) (v : Value) (own : Option Nat) (w : World)
theorem room_none (h : SR w s p Q v own) (hp : PR w p b S) (hn : needOf S Q = 0) : Calls Try.prog 34 #[.pointer (some ⟨s, 0, none⟩)] w fun e w' => e = .returned (.int .i64 0) ∧ ∃ m, w' = w.drewN m := by
  have ND := Lib.hid (need_c s p Q v own w b S h hp)
  rw [hn] at ND
  clear h hp hn
  go_enter Try.func34, Try.ntmps34
  go_wp2_with fail
  refine ND.out.mono ?_
  rintro e w0 ⟨rfl, m, rfl⟩
  go_wp2
  go_ret
  exact ⟨rfl, _, rfl⟩
theorem needOf_le : needOf S Q = 0 ∨ needOf S Q = 1 := by unfold needOf; split <;> simp
theorem room_full (h : SR w s p Q v own) (hp : PR w p b S) (hn : needOf S Q = 1) (hf : freeOf S = 0) : Calls Try.prog 34 #[.pointer (some ⟨s, 0, none⟩)] w fun e w' => e = .returned (.int .i64 6) ∧ Below w.heap.size w w' := by
  have ND := Lib.hid (need_c s p Q v own w b S h hp)
  rw [hn] at ND
  have TK : Hid (∀ wr, PR wr p b S → Calls Try.prog 57 #[.pointer (some ⟨p, 0, none⟩), .string Q.tag, .int .i64 1] wr fun e w' => e = .returned (.tuple #[.slice none 0 0, .int .i64 6]) ∧ Below wr.heap.size wr w') := fun wr hr => Take_full p b S wr hr Q.tag h.tg hf
  have h0 := h.c0
  have h1 := h.c1
  have hs := h.head.lt
  have HP := Lib.hid hp
  clear h hp hn hf
  go_enter Try.func34, Try.ntmps34
  go_wp2_with fail
  refine ND.out.mono ?_
  rintro e w0 ⟨rfl, m, rfl⟩
  go_wp2_with fail
  go_region_held3 (fun w' => w'.cell? ⟨s, 0, none⟩ = some (.pointer (some ⟨p, 0, none⟩)) ∧ w'.cell? ⟨s, 1, none⟩ = some (.string Q.tag)) (first | exact ⟨by assumption, by assumption⟩ | go_keep) ((go_at_call 57; (with_reducible refine (TK.out _ (HP.out.drewN _)).mono ?_); rintro e w1 ⟨rfl, hb⟩; have HB := Lib.hid hb; have k0 : w1.cell? ⟨s, 0, none⟩ = some (.pointer (some ⟨p, 0, none⟩)) := (hb.cell (p := ⟨s, 0, none⟩) hs).trans h0; have k1 : w1.cell? ⟨s, 1, none⟩ = some (.string Q.tag) := (hb.cell (p := ⟨s, 1, none⟩) hs).trans h1; clear hb))
  go_wp2
  go_ret
  exact ⟨rfl, ⟨HB.out.os, HB.out.tape, HB.out.output, HB.out.size, HB.out.block⟩⟩
end Go.Proofs.Ytfimadeokdlpnaa.kv
