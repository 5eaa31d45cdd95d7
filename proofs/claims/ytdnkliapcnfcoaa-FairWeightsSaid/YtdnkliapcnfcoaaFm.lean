/- fair.Fair: its tenants as functions of a number; how it lies in the heap. -/
import Derived.Test.YtdnkliapcnfcoaaRow
namespace Go.Proofs.Ytdnkliapcnfcoaa.fair
open Go.ChangeShapes Go.WideShapes Go.ChangeAt Go.RowKit K
set_option linter.unusedVariables false
set_option linter.unusedSimpArgs false
/-- So many tenants: weights, clocks, what waits (id, cost); the time. -/
structure FS where
  n : Nat
  wt : Nat → Int
  ck : Nat → Int
  q : Nat → List (Int × Int)
  now : Int
def encQ (l : List (Int × Int)) : List Value := l.flatMap fun x => [.int .i64 x.1, .int .i64 x.2]
theorem encQ_length (l : List (Int × Int)) : (encQ l).length = l.length * 2 := by
  induction l with
  | nil => rfl
  | cons x l ih => simp only [encQ, List.flatMap_cons, List.length_append, List.length_cons, List.length_nil] at ih ⊢; omega
theorem encQ_get (l : List (Int × Int)) (j : Nat) (x : Int × Int) (h : l[j]? = some x) : (encQ l)[2 * j]? = some (.int .i64 x.1) ∧ (encQ l)[2 * j + 1]? = some (.int .i64 x.2) := by
  induction l generalizing j with
  | nil => simp at h
  | cons y l ih =>
    cases j with
    | zero => simp at h; subst h; exact ⟨rfl, rfl⟩
    | succ j =>
      have := ih j (by simpa using h)
      have e : encQ (y :: l) = .int .i64 y.1 :: .int .i64 y.2 :: encQ l := rfl
      rw [e, show 2 * (j + 1) = (2 * j) + 1 + 1 by omega]
      simpa using this
theorem encQ_append (a b : List (Int × Int)) : encQ (a ++ b) = encQ a ++ encQ b := by simp [encQ]
/-- The blocks of a Fair: its tenants' block and capacity, their cells, each one's slice and block. -/
structure FL where
  bt : Nat
  cap : Nat
  cs : Array Value
  vs : Nat → Value
  own : Nat → Option Nat
structure FR (w : World) (p : Nat) (S : FS) (L : FL) (F : Nat → Prop) : Prop where
  head : Bk w p #[.slice (some ⟨L.bt, 0, none⟩) S.n L.cap, .int .i64 S.now] 51
  rows : Bk w L.bt L.cs 54
  size : S.n * 3 ≤ L.cs.size
  few : S.n ≤ 4
  c0 : ∀ i, i < S.n → L.cs[i * 3]? = some (.int .i64 (S.wt i))
  c1 : ∀ i, i < S.n → L.cs[i * 3 + 1]? = some (.int .i64 (S.ck i))
  c2 : ∀ i, i < S.n → L.cs[i * 3 + 2]? = some (L.vs i)
  row : ∀ i, i < S.n → Row w 60 2 (L.vs i) (L.own i) (S.q i).length (encQ (S.q i))
  ne : p ≠ L.bt
  ne0 : ∀ i, i < S.n → L.own i ≠ some p ∧ L.own i ≠ some L.bt
  ne1 : ∀ i j, i < S.n → j < S.n → i ≠ j → ∀ b, L.own i = some b → L.own j ≠ some b
  fp : F p
  ft : F L.bt
  fo : ∀ i b, i < S.n → L.own i = some b → F b
namespace FR
variable {w w' : World} {p : Nat} {S : FS} {L : FL} {F G : Nat → Prop}
theorem mono (h : FR w p S L F) (hG : ∀ b, F b → G b) : FR w p S L G :=
  ⟨h.head, h.rows, h.size, h.few, h.c0, h.c1, h.c2, h.row, h.ne, h.ne0, h.ne1, hG _ h.fp, hG _ h.ft, fun i b hi hb => hG _ (h.fo i b hi hb)⟩
/-- What leaves its footprint alone leaves it as it is. -/
theorem chg (h : FR w p S L F) (hc : Chg G w w') (hd : ∀ b, F b → ¬ G b) : FR w' p S L F :=
  ⟨hc.bk h.head (hd _ h.fp), hc.bk h.rows (hd _ h.ft), h.size, h.few, h.c0, h.c1, h.c2, fun i hi => (h.row i hi).chg hc (fun b hb => hd b (h.fo i b hi hb)), h.ne, h.ne0, h.ne1, h.fp, h.ft, h.fo⟩
theorem below (h : FR w p S L F) (hb : Below w.heap.size w w') : FR w' p S L F := h.chg (G := fun _ => False) (Chg.of_below hb rfl) (fun _ _ hf => hf)
end FR
namespace FR
variable {w w' : World} {p : Nat} {S : FS} {L : FL} {F G : Nat → Prop}
theorem h0 (h : FR w p S L F) : w.cell? ⟨p, 0, none⟩ = some (.slice (some ⟨L.bt, 0, none⟩) S.n L.cap) := h.head.cell 0 _ rfl
theorem h1 (h : FR w p S L F) : w.cell? ⟨p, 1, none⟩ = some (.int .i64 S.now) := h.head.cell 1 _ rfl
theorem r0 (h : FR w p S L F) (i : Nat) (hi : i < S.n) : w.cell? ⟨L.bt, i * 3, none⟩ = some (.int .i64 (S.wt i)) := h.rows.cell _ _ (h.c0 i hi)
theorem r1 (h : FR w p S L F) (i : Nat) (hi : i < S.n) : w.cell? ⟨L.bt, i * 3 + 1, none⟩ = some (.int .i64 (S.ck i)) := h.rows.cell _ _ (h.c1 i hi)
theorem r2 (h : FR w p S L F) (i : Nat) (hi : i < S.n) : w.cell? ⟨L.bt, i * 3 + 2, none⟩ = some (L.vs i) := h.rows.cell _ _ (h.c2 i hi)
end FR
theorem find_out (p : Nat) (S : FS) (L : FL) (F : Nat → Prop) (w : World) (h : FR w p S L F) (n : Int) (hn : n < 0 ∨ (S.n : Int) ≤ n) :
    Calls Try.prog 21 #[.pointer (some ⟨p, 0, none⟩), .int .i64 n] w fun e w' => e = .returned (.pointer none) ∧ w = w' := by
  have h0 := h.h0
  clear h
  generalize S.n = k at *
  rcases hn with hn | hn
  · go_enter Try.func21, Try.ntmps21
    go_wp2
    go_ret
    exact ⟨rfl, rfl⟩
  · have h1 : (0 : Int) ≤ n := by omega
    go_enter Try.func21, Try.ntmps21
    go_wp2
    go_ret
    exact ⟨rfl, rfl⟩
theorem find_in (p : Nat) (S : FS) (L : FL) (F : Nat → Prop) (w : World) (h : FR w p S L F) (i : Nat) (hi : i < S.n) :
    Calls Try.prog 21 #[.pointer (some ⟨p, 0, none⟩), .int .i64 i] w fun e w' => e = .returned (.pointer (some ⟨L.bt, i * 3, none⟩)) ∧ w = w' := by
  have h0 := h.h0
  clear h
  generalize S.n = k at *
  have h1 : (0 : Int) ≤ (i : Int) := by omega
  have h2 : (i : Int) < (k : Int) := by omega
  go_enter Try.func21, Try.ntmps21
  go_wp2
  go_ret
  exact ⟨rfl, rfl⟩
end Go.Proofs.Ytdnkliapcnfcoaa.fair
