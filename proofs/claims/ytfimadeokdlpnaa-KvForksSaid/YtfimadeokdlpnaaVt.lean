/- A sequence: how it lies in the heap; Len, First, per, last. -/
import Derived.Test.YtfimadeokdlpnaaVn
import Derived.Deep.RegionHeld3
import Derived.BigQuiet
import Derived.Deep.QuietTactic
namespace Go.Proofs.Ytfimadeokdlpnaa.kv
open Go.ChangeShapes Go.WideShapes Go.ChangeAt Go.RowKit K
set_option linter.unusedVariables false
set_option linter.unusedSimpArgs false
structure Sq where
  tag : ByteArray
  width : Nat
  pages : List Nat
  first : Nat
  len : Nat
def Sq.per (Q : Sq) : Nat := 32 / Q.width
def encN (l : List Nat) : List Value := l.map fun (n : Nat) => .int .i64 (n : Int)
theorem encN_length (l : List Nat) : (encN l).length = l.length := by simp [encN]
structure SR (w : World) (s p : Nat) (Q : Sq) (v : Value) (own : Option Nat) : Prop where
  head : Bk w s #[.pointer (some ⟨p, 0, none⟩), .string Q.tag, .int .i64 Q.width, v, .int .i64 Q.first, .int .i64 Q.len] 69
  row : Row w 3 1 v own Q.pages.length (encN Q.pages)
  ne : own ≠ some s
  wd : 1 ≤ Q.width ∧ Q.width ≤ 32
  tg : Q.tag.toList ≠ []
  fl : Q.first ≤ Q.len
  short : Q.len ≤ 1000
  few : Q.pages.length ≤ 1000
  fit : Q.len - Q.first ≤ Q.pages.length * Q.per
namespace SR
variable {w w' : World} {s p : Nat} {Q : Sq} {v : Value} {own : Option Nat} {G : Nat → Prop}
theorem chg (h : SR w s p Q v own) (hc : Chg G w w') (h1 : ¬ G s) (h2 : ∀ b, own = some b → ¬ G b) : SR w' s p Q v own :=
  ⟨hc.bk h.head h1, h.row.chg hc h2, h.ne, h.wd, h.tg, h.fl, h.short, h.few, h.fit⟩
theorem below (h : SR w s p Q v own) (hb : Below w.heap.size w w') : SR w' s p Q v own := h.chg (G := fun _ => False) (Chg.of_below hb rfl) id (fun _ _ => id)
theorem c0 (h : SR w s p Q v own) : w.cell? ⟨s, 0, none⟩ = some (.pointer (some ⟨p, 0, none⟩)) := h.head.cell 0 _ rfl
theorem c1 (h : SR w s p Q v own) : w.cell? ⟨s, 1, none⟩ = some (.string Q.tag) := h.head.cell 1 _ rfl
theorem c2 (h : SR w s p Q v own) : w.cell? ⟨s, 2, none⟩ = some (.int .i64 Q.width) := h.head.cell 2 _ rfl
theorem c3 (h : SR w s p Q v own) : ∃ a c, v = .slice a Q.pages.length c ∧ w.cell? ⟨s, 3, none⟩ = some (.slice a Q.pages.length c) := by
  obtain ⟨a, c, rfl⟩ := h.row.form
  exact ⟨a, c, rfl, h.head.cell 3 _ rfl⟩
theorem c4 (h : SR w s p Q v own) : w.cell? ⟨s, 4, none⟩ = some (.int .i64 Q.first) := h.head.cell 4 _ rfl
theorem c5 (h : SR w s p Q v own) : w.cell? ⟨s, 5, none⟩ = some (.int .i64 Q.len) := h.head.cell 5 _ rfl
theorem per_pos (h : SR w s p Q v own) : 1 ≤ Q.per ∧ Q.per ≤ 32 := by
  have := h.wd
  unfold Sq.per
  exact ⟨(Nat.le_div_iff_mul_le (by omega)).2 (by omega), Nat.div_le_self _ _⟩
/-- A page's number in the list: where it lies. -/
theorem page (h : SR w s p Q v own) {j n : Nat} (hj : Q.pages[j]? = some n) : ∃ b off c, v = .slice (some ⟨b, off, none⟩) Q.pages.length c ∧ w.cell? ⟨s, 3, none⟩ = some (.slice (some ⟨b, off, none⟩) Q.pages.length c) ∧ w.cell? ⟨b, off + j, none⟩ = some (.int .i64 (n : Int)) ∧ b < w.heap.size ∧ own = some b ∧ Q.pages.length ≤ c := by
  have hlt := (List.getElem?_eq_some_iff.1 hj).1
  obtain ⟨b, off, cap, cs, e1, e2, e3, e4, e5, e6, e7⟩ := h.row.pos (by omega)
  subst e1
  refine ⟨b, off, cap, rfl, h.head.cell 3 _ rfl, e5.cell _ _ ?_, e5.lt, e2, e3⟩
  rw [e7 j (by omega)]
  simp [encN, hj]
end SR
variable (s p : Nat) (Q : Sq) (v : Value) (own : Option Nat) (w : World)
theorem len_c (h : SR w s p Q v own) : Calls Try.prog 13 #[.pointer (some ⟨s, 0, none⟩)] w fun e w' => e = .returned (.int .i64 Q.len) ∧ w = w' := by
  have h5 := h.c5
  clear h
  go_enter Try.func13, Try.ntmps13
  go_wp2
  go_ret
  exact ⟨rfl, rfl⟩
theorem first_c (h : SR w s p Q v own) : Calls Try.prog 16 #[.pointer (some ⟨s, 0, none⟩)] w fun e w' => e = .returned (.int .i64 Q.first) ∧ w = w' := by
  have h5 := h.c4
  clear h
  go_enter Try.func16, Try.ntmps16
  go_wp2
  go_ret
  exact ⟨rfl, rfl⟩
theorem per_c (h : SR w s p Q v own) : Calls Try.prog 47 #[.pointer (some ⟨s, 0, none⟩)] w fun e w' => e = .returned (.int .i64 Q.per) ∧ w = w' := by
  have h5 := h.c2
  have h1 := h.wd
  have h2 := h.per_pos
  have hz : ((Q.width : Int) == 0) = false := by rw [beq_eq_false_iff_ne]; omega
  have hp : (32 : Int) / (Q.width : Int) = (Q.per : Int) := rfl
  generalize Q.per = P at *
  generalize Q.width = W at *
  clear h
  go_enter Try.func47, Try.ntmps47
  go_wp2
  go_ret
  exact ⟨ret_int hp, rfl⟩
theorem last_c (h : SR w s p Q v own) (n : Nat) (hn : Q.pages[Q.pages.length - 1]? = some n) : Calls Try.prog 33 #[.pointer (some ⟨s, 0, none⟩)] w fun e w' => e = .returned (.int .i64 n) ∧ ∃ m, w' = w.drewN m := by
  obtain ⟨b, off, c, rfl, h3, hc, hb, ho, hl⟩ := h.page hn
  have hlt := (List.getElem?_eq_some_iff.1 hn).1
  have hf := h.few
  generalize Q.pages.length = L at *
  have hL : (1 : Int) ≤ (L : Int) := by omega
  obtain ⟨k, rfl⟩ : ∃ k, L = k + 1 := ⟨L - 1, by omega⟩
  simp only [Nat.add_sub_cancel] at hc hn
  have e1 : ((k + 1 : Nat) : Int) - 1 = (k : Int) := by omega
  clear h
  go_enter Try.func33, Try.ntmps33
  go_wp2
  go_quiet (fail)
  go_wp2
  go_ret
  exact ⟨rfl, _, rfl⟩
end Go.Proofs.Ytfimadeokdlpnaa.kv
