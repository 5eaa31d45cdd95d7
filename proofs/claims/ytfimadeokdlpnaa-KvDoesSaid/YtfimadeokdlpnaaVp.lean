/- The pool: its pages as a list; how it lies in the heap; find. -/
import Derived.Test.YtfimadeokdlpnaaRow
namespace Go.Proofs.Ytfimadeokdlpnaa.kv
open Go.ChangeShapes Go.WideShapes Go.ChangeAt Go.RowKit K
set_option linter.unusedVariables false
set_option linter.unusedSimpArgs false
/-- A page: free without owners. -/
structure Pg where
  tag : ByteArray
  own : Nat
  cells : List Int
def Pg.no : Pg := ⟨⟨#[]⟩, 0, List.replicate 32 0⟩
def encG (x : Pg) : List Value := .string x.tag :: .int .i64 x.own :: x.cells.map (.int .i64)
def freeOf (S : List Pg) : Nat := S.countP (fun x => x.own == 0)
/-- The pages' cells. -/
structure Cells (S : List Pg) (cs : Array Value) : Prop where
  size : cs.size = S.length * 34
  pg : ∀ i x, S[i]? = some x → x.cells.length = 32 ∧ ∀ j, j < 34 → cs[i * 34 + j]? = (encG x)[j]?
/-- The pages' block. -/
def Rows (w : World) (b : Nat) (S : List Pg) : Prop := ∃ cs, Bk w b cs 77 ∧ Cells S cs
structure PR (w : World) (p b : Nat) (S : List Pg) : Prop where
  head : Bk w p #[.slice (some ⟨b, 0, none⟩) S.length S.length, .int .i64 (freeOf S), .int .i64 0] 67
  rows : Rows w b S
  few : S.length ≤ 256
  ne : p ≠ b
namespace PR
variable {w w' : World} {p b : Nat} {S : List Pg} {G : Nat → Prop}
theorem chg (h : PR w p b S) (hc : Chg G w w') (h1 : ¬ G p) (h2 : ¬ G b) : PR w' p b S :=
  ⟨hc.bk h.head h1, (by obtain ⟨cs, k1, k2⟩ := h.rows; exact ⟨cs, hc.bk k1 h2, k2⟩), h.few, h.ne⟩
theorem below (h : PR w p b S) (hb : Below w.heap.size w w') : PR w' p b S := h.chg (G := fun _ => False) (Chg.of_below hb rfl) id id
theorem h0 (h : PR w p b S) : w.cell? ⟨p, 0, none⟩ = some (.slice (some ⟨b, 0, none⟩) S.length S.length) := h.head.cell 0 _ rfl
theorem h1 (h : PR w p b S) : w.cell? ⟨p, 1, none⟩ = some (.int .i64 (freeOf S)) := h.head.cell 1 _ rfl
theorem h2 (h : PR w p b S) : w.cell? ⟨p, 2, none⟩ = some (.int .i64 0) := h.head.cell 2 _ rfl
theorem lt (h : PR w p b S) : b < w.heap.size := by obtain ⟨cs, k, _⟩ := h.rows; exact k.lt
theorem free (h : PR w p b S) (i : Nat) : w.frozen? ⟨b, i, none⟩ = false := by obtain ⟨cs, k, _⟩ := h.rows; exact k.free i
theorem at_ (h : PR w p b S) {i : Nat} {x : Pg} (hx : S[i]? = some x) (j : Nat) (v : Value) (hv : (encG x)[j]? = some v) : w.cell? ⟨b, i * 34 + j, none⟩ = some v := by
  obtain ⟨cs, k, hc⟩ := h.rows
  obtain ⟨hl, hj⟩ := hc.pg i x hx
  have : j < 34 := by have := (List.getElem?_eq_some_iff.1 hv).1; simp [encG, hl] at this; omega
  exact k.cell _ _ ((hj j this).trans hv)
theorem r0 (h : PR w p b S) {i : Nat} {x : Pg} (hx : S[i]? = some x) : w.cell? ⟨b, i * 34, none⟩ = some (.string x.tag) := h.at_ hx 0 _ rfl
theorem r1 (h : PR w p b S) {i : Nat} {x : Pg} (hx : S[i]? = some x) : w.cell? ⟨b, i * 34 + 1, none⟩ = some (.int .i64 x.own) := h.at_ hx 1 _ rfl
theorem r2 (h : PR w p b S) {i : Nat} {x : Pg} (hx : S[i]? = some x) (k : Nat) (v : Int) (hv : x.cells[k]? = some v) : w.cell? ⟨b, i * 34 + 2 + k, none⟩ = some (.int .i64 v) := by
  have := h.at_ hx (k + 2) (.int .i64 v) (by simp [encG, hv])
  rwa [show i * 34 + 2 + k = i * 34 + (k + 2) by omega]
theorem len (h : PR w p b S) {i : Nat} {x : Pg} (hx : S[i]? = some x) : x.cells.length = 32 := by
  obtain ⟨cs, k, hc⟩ := h.rows
  exact (hc.pg i x hx).1
end PR
theorem find_in (p b : Nat) (S : List Pg) (w : World) (h : PR w p b S) (i : Nat) (x : Pg) (hx : S[i]? = some x) (ho : x.own ≠ 0) :
    Calls Try.prog 56 #[.pointer (some ⟨p, 0, none⟩), .int .i64 i] w fun e w' => e = .returned (.pointer (some ⟨b, i * 34, none⟩)) ∧ w = w' := by
  have h0 := h.h0
  have hr := h.r1 hx
  have hi := (List.getElem?_eq_some_iff.1 hx).1
  have h1 : (0 : Int) ≤ (i : Int) := by omega
  have h2 : (i : Int) < (S.length : Int) := by omega
  have h3 : ((x.own : Int) == 0) = false := by rw [beq_eq_false_iff_ne]; omega
  clear h hx
  generalize S.length = k at *
  go_enter Try.func56, Try.ntmps56
  go_wp2
  go_ret
  exact ⟨rfl, rfl⟩
theorem find_free (p b : Nat) (S : List Pg) (w : World) (h : PR w p b S) (i : Nat) (x : Pg) (hx : S[i]? = some x) (ho : x.own = 0) :
    Calls Try.prog 56 #[.pointer (some ⟨p, 0, none⟩), .int .i64 i] w fun e w' => e = .returned (.pointer none) ∧ w = w' := by
  have h0 := h.h0
  have hr := h.r1 hx
  rw [ho] at hr
  have hi := (List.getElem?_eq_some_iff.1 hx).1
  have h1 : (0 : Int) ≤ (i : Int) := by omega
  have h2 : (i : Int) < (S.length : Int) := by omega
  clear h hx
  generalize S.length = k at *
  go_enter Try.func56, Try.ntmps56
  go_wp2
  go_ret
  exact ⟨rfl, rfl⟩
theorem find_out (p b : Nat) (S : List Pg) (w : World) (h : PR w p b S) (n : Int) (hn : n < 0 ∨ (S.length : Int) ≤ n) :
    Calls Try.prog 56 #[.pointer (some ⟨p, 0, none⟩), .int .i64 n] w fun e w' => e = .returned (.pointer none) ∧ w = w' := by
  have h0 := h.h0
  clear h
  generalize S.length = k at *
  rcases hn with hn | hn
  · go_enter Try.func56, Try.ntmps56
    go_wp2
    go_ret
    exact ⟨rfl, rfl⟩
  · have h1 : (0 : Int) ≤ n := by omega
    go_enter Try.func56, Try.ntmps56
    go_wp2
    go_ret
    exact ⟨rfl, rfl⟩
end Go.Proofs.Ytfimadeokdlpnaa.kv
