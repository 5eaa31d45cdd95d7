/- A block of cells known whole: what it reads, and how it goes through allocs, draws, stores and calls. Plain lemmas on worlds. A slice at any offset of a block that is known whole: what append makes of it; a frame with a footprint. -/
import Derived.Test.YtfimadeokdlpnaaK
import Derived.Deep.AppendLies
import Derived.Laws.CopyRow
namespace Go.Proofs.Ytfimadeokdlpnaa.K
open Go.RowKit
set_option linter.unusedVariables false
/-- Block b holds just these cells, of that element type; none is frozen. -/
def Bk (w : World) (b : Nat) (cs : Array Value) (t : TypeId) : Prop := w.heap[b]? = some (.cells cs t (0, 0))
namespace Bk
variable {w w' : World} {b : Nat} {cs : Array Value} {t : TypeId}
theorem lt (h : Bk w b cs t) : b < w.heap.size := (Array.getElem?_eq_some_iff.1 h).1
theorem cell (h : Bk w b cs t) (i : Nat) (v : Value) (hv : cs[i]? = some v) : w.cell? ⟨b, i, none⟩ = some v := by
  unfold Bk at h
  simp [World.cell?, h, hv]
theorem free (h : Bk w b cs t) (i : Nat) : w.frozen? ⟨b, i, none⟩ = false := by
  unfold Bk at h
  simp [World.frozen?, h]
theorem new (w : World) (cs : Array Value) (t : TypeId) : Bk (w.alloc (.cells cs t)) w.heap.size cs t := by
  unfold Bk World.alloc
  simp
theorem new' (w : World) (cs : Array Value) (t : TypeId) (n : Nat) (hn : w.heap.size = n) : Bk (w.alloc (.cells cs t)) n cs t := hn ▸ new w cs t
theorem alloc (h : Bk w b cs t) (o : Obj) : Bk (w.alloc o) b cs t := by
  have := h.lt
  unfold Bk at h ⊢
  rw [Below.heap_alloc w o b this]; exact h
theorem drew (h : Bk w b cs t) : Bk w.drew b cs t := h
theorem drewN (h : Bk w b cs t) (n : Nat) : Bk (w.drewN n) b cs t := h
theorem set (h : Bk w b cs t) (i : Nat) (v : Value) : Bk (w.setCell ⟨b, i, none⟩ v) b (cs.setIfInBounds i v) t := by
  have := h.lt
  unfold Bk at h ⊢
  unfold World.setCell
  simp [Array.getElem?_modify, h]
theorem other (h : Bk w b cs t) (p : Addr) (v : Value) (hp : b ≠ p.block) : Bk (w.setCell p v) b cs t := by
  unfold Bk at h ⊢
  rw [Below.heap_setCell w p v b hp]; exact h
theorem below (h : Bk w b cs t) {B : Nat} (hb : Below B w w') (hlt : b < B) : Bk w' b cs t := by
  unfold Bk at h ⊢
  rw [hb.block b hlt]; exact h
theorem grown (h : Bk w b cs t) {row : Option Nat} (hg : w.grownBy w' row) (hr : some b ≠ row) : Bk w' b cs t := by
  have := h.lt
  unfold Bk at h ⊢
  rw [hg.block b this hr]; exact h
theorem eq {cs' : Array Value} {t' : TypeId} (h : Bk w b cs t) (h' : Bk w b cs' t') : cs = cs' ∧ t = t' := by
  unfold Bk at h h'
  rw [h] at h'
  simp only [Option.some.injEq, Obj.cells.injEq] at h'
  exact ⟨h'.1, h'.2.1⟩
end Bk
end Go.Proofs.Ytfimadeokdlpnaa.K
namespace Go.Proofs.Ytfimadeokdlpnaa.K
open Go.RowKit
set_option linter.unusedVariables false
/-- All but a footprint is as it was. -/
structure Chg (F : Nat → Prop) (w w' : World) : Prop where
  os : w'.os = w.os
  tape : w'.tape = w.tape
  output : w'.output = w.output
  size : w.heap.size ≤ w'.heap.size
  block : ∀ k, k < w.heap.size → ¬ F k → w'.heap[k]? = w.heap[k]?
namespace Chg
variable {F G : Nat → Prop} {w w' w'' : World}
theorem refl (F : Nat → Prop) (w : World) : Chg F w w := ⟨rfl, rfl, rfl, Nat.le_refl _, fun _ _ _ => rfl⟩
theorem trans (h : Chg F w w') (k : Chg G w' w'') (hG : ∀ b, G b → F b ∨ w.heap.size ≤ b) : Chg F w w'' :=
  ⟨k.os.trans h.os, k.tape.trans h.tape, k.output.trans h.output, Nat.le_trans h.size k.size, fun b hb hF =>
    (k.block b (Nat.lt_of_lt_of_le hb h.size) (fun hg => by rcases hG b hg with h1 | h1; exact hF h1; omega)).trans (h.block b hb hF)⟩
theorem mono (h : Chg F w w') (hG : ∀ b, F b → G b) : Chg G w w' := ⟨h.os, h.tape, h.output, h.size, fun b hb hF => h.block b hb (fun hf => hF (hG b hf))⟩
theorem of_below {B : Nat} (h : Below B w w') (hB : B = w.heap.size) : Chg F w w' := ⟨h.os, h.tape, h.output, h.size, fun b hb _ => h.block b (by omega)⟩
theorem of_grown {row : Option Nat} (h : w.grownBy w' row) (hr : ∀ b, some b = row → F b) : Chg F w w' := ⟨h.os, h.tape, h.output, h.size, fun b hb hF => h.block b hb (fun e => hF (hr b e))⟩
theorem below (h : Chg F w w') {B : Nat} (hB : ∀ b, F b → B ≤ b) (hw : B ≤ w.heap.size) : Below B w w' := ⟨h.os, h.tape, h.output, h.size, fun b hb => h.block b (by omega) (fun hf => by have := hB b hf; omega)⟩
theorem drew (h : Chg F w w') : Chg F w w'.drew := ⟨h.os, h.tape, h.output, h.size, h.block⟩
theorem alloc (h : Chg F w w') (o : Obj) : Chg F w (w'.alloc o) :=
  ⟨h.os, h.tape, h.output, by simp; exact Nat.le_succ_of_le h.size, fun b hb hF => (Below.heap_alloc w' o b (Nat.lt_of_lt_of_le hb h.size)).trans (h.block b hb hF)⟩
theorem setCell (h : Chg F w w') (p : Addr) (v : Value) (hp : F p.block ∨ w.heap.size ≤ p.block) : Chg F w (w'.setCell p v) :=
  ⟨h.os, h.tape, h.output, by simpa [World.setCell] using h.size, fun b hb hF => (Below.heap_setCell w' p v b (by rintro rfl; rcases hp with h1 | h1; exact hF h1; omega)).trans (h.block b hb hF)⟩
theorem bk {b : Nat} {cs : Array Value} {t : TypeId} (h : Chg F w w') (hb : Bk w b cs t) (hF : ¬ F b) : Bk w' b cs t := by
  have := hb.lt
  unfold Bk at hb ⊢
  rw [h.block b this hF]; exact hb
end Chg
/-- v is a slice of n elements, of so many cells each, that hold xs; its block is own. -/
def Row (w : World) (t : TypeId) (size : Nat) (v : Value) (own : Option Nat) (n : Nat) (xs : List Value) : Prop :=
  xs.length = n * size ∧
  ((v = .slice none 0 0 ∧ n = 0 ∧ own = none) ∨
   ∃ b off cap cs, v = .slice (some ⟨b, off, none⟩) n cap ∧ own = some b ∧ n ≤ cap ∧ cap ≤ maxLen ∧ Bk w b cs t ∧ off + cap * size ≤ cs.size ∧ ∀ j, j < n * size → cs[off + j]? = xs[j]?)
namespace Row
variable {w w' : World} {t : TypeId} {size : Nat} {v : Value} {own : Option Nat} {n : Nat} {xs : List Value}
theorem keep (h : Row w t size v own n xs) (hb : ∀ b, own = some b → w'.heap[b]? = w.heap[b]?) : Row w' t size v own n xs := by
  refine ⟨h.1, ?_⟩
  rcases h.2 with h0 | ⟨b, off, cap, cs, h1, h2, h3, h4, h5, h6⟩
  · exact .inl h0
  · exact .inr ⟨b, off, cap, cs, h1, h2, h3, h4, by unfold Bk at h5 ⊢; rw [hb b h2]; exact h5, h6⟩
theorem lt (h : Row w t size v own n xs) : ∀ b, own = some b → b < w.heap.size := by
  rcases h.2 with ⟨_, _, h0⟩ | ⟨b, off, cap, cs, h1, h2, h3, h4, h5, h6⟩
  · intro b hb; rw [h0] at hb; cases hb
  · intro b' hb; rw [h2] at hb; cases hb; exact h5.lt
theorem chg (h : Row w t size v own n xs) {F : Nat → Prop} (hc : Chg F w w') (hF : ∀ b, own = some b → ¬ F b) : Row w' t size v own n xs :=
  h.keep fun b hb => hc.block b (h.lt b hb) (hF b hb)
theorem nil (w : World) (t : TypeId) (size : Nat) : Row w t size (.slice none 0 0) none 0 [] := ⟨by simp, .inl ⟨rfl, rfl, rfl⟩⟩
theorem form (h : Row w t size v own n xs) : ∃ p cap, v = .slice p n cap := by
  rcases h.2 with ⟨h0, h1, _⟩ | ⟨b, off, cap, cs, h1, _⟩
  · exact ⟨none, 0, by rw [h0, h1]⟩
  · exact ⟨_, cap, h1⟩
/-- A slice of at least one element: where it lies. -/
theorem pos (h : Row w t size v own n xs) (hn : 0 < n) : ∃ b off cap cs, v = .slice (some ⟨b, off, none⟩) n cap ∧ own = some b ∧ n ≤ cap ∧ cap ≤ maxLen ∧ Bk w b cs t ∧ off + cap * size ≤ cs.size ∧ ∀ j, j < n * size → cs[off + j]? = xs[j]? := by
  rcases h.2 with ⟨_, h0, _⟩ | h1
  · omega
  · exact h1
end Row
section
variable {P : Program} (w : World)
theorem grown_alloc (w : World) (o : Obj) (row : Option Nat) : w.grownBy (w.drew.alloc o) row := by
  have h := World.grownBy_alloc w.drew o row
  exact ⟨h.os, h.tape, h.output, h.size, h.block⟩
theorem heap_setRow (w : World) (g : Nat) (cs : Array Value) (k : Nat) (h : k ≠ g) : (w.setRow g cs).heap[k]? = w.heap[k]? := by
  simp [World.setRow, Array.getElem?_modify, Ne.symm h]
theorem bk_setRow (w : World) (g : Nat) (cs old : Array Value) (t : TypeId) (h : Bk w g old t) : Bk (w.setRow g cs) g cs t := by
  unfold Bk at h ⊢
  simp [World.setRow, Array.getElem?_modify, h]
/-- append, onto a slice at whatever offset, or nil. -/
theorem run_row_append (t ty e : TypeId) (i : TypeInfo) (z : Value) (ht : P.underlying t = some (.slice e)) (hi : P.info? e = some i) (hz : i.zero = some z) (hzs : z.cells.size = i.size) (hsz : 0 < i.size) (hby : i.bytes ≤ 1000)
    (v : Value) (own : Option Nat) (n : Nat) (xs : List Value) (h : Row w e i.size v own n xs)
    (ad : Addr) (m c : Nat) (news : List Value) (hl : news.length = m * i.size) (hnews : ∀ j u, news[j]? = some u → w.cell? (ad.add j) = some u) (h1 : ∀ u ∈ news, u.oneCell' = true)
    (hm : 0 < m) (hsmall : n + m ≤ 1000000000) :
    ∃ v' w' own', (Builtin.append_ #[t, t] ty #[v, .slice (some ad) m c]).run P w = .ok v' w' ∧ Row w' e i.size v' own' (n + m) (xs ++ news) ∧ w.grownBy w' own ∧ (own' = own ∨ own' = some w.heap.size) ∧ own' ≠ none := by
  have hlen : (xs ++ news).length = (n + m) * i.size := by rw [List.length_append, h.1, hl, Nat.add_mul]
  have hml : maxLen = 9223372036854775807 := rfl
  rcases h.2 with ⟨rfl, rfl, rfl⟩ | ⟨b, off, cap, cs, rfl, rfl, hn, hcap, hbk, hfit, hcs⟩
  · have hx : xs = [] := List.eq_nil_of_length_eq_zero (by have := h.1; omega)
    subst hx
    refine ⟨_, _, some w.heap.size, run_append_nil w t ty e i z ht hi hz ad m c news hl hnews hm (by omega) (by have := Nat.mul_le_mul (show m ≤ 1000000000 by omega) hby; omega), ⟨hlen, .inr ⟨_, 0, grownCap w m 0 e, _, by rw [Nat.zero_add], rfl, by rw [Nat.zero_add]; exact grownCap_ge _ _ _ _, grownCap_le_maxLen _ _ _ _ (by omega), Bk.new _ _ _, ?_, ?_⟩⟩, ?_, .inr rfl, by simp⟩
    · have := grownCap_ge w m 0 e
      simp only [Array.size_append, List.size_toArray, size_zeroCells, hl, hzs]
      rw [← Nat.add_mul, Nat.zero_add]
      exact Nat.mul_le_mul_right _ (by omega)
    · intro j hj
      rw [Nat.zero_add] at hj ⊢
      rw [Array.getElem?_append_left (by rw [List.size_toArray, hl]; exact hj)]
      simp
    · exact grown_alloc w _ _
  · have hrd : ∀ j u, xs[j]? = some u → w.cell? ((⟨b, off, none⟩ : Addr).add j) = some u := by
      intro j u hu
      have hj : j < n * i.size := by rw [← h.1]; exact (List.getElem?_eq_some_iff.1 hu).1
      have := hbk.cell (off + j) u ((hcs j hj).trans hu)
      unfold Addr.add; split <;> simp_all
    by_cases hroom : n + m ≤ cap
    · have hf := run_firstCells_some (P := P) w i.size m ad m c news hl hnews
      have hfit2 : off + n * i.size + news.length ≤ cs.size := by
        rw [hl, Nat.add_assoc, ← Nat.add_mul]
        exact Nat.le_trans (Nat.add_le_add_left (Nat.mul_le_mul_right _ hroom) _) hfit
      have hst := run_storeCells_at P b (off + n * i.size) e news 0 cs w hbk (by simpa using hfit2) h1
      simp only [Nat.add_zero] at hst
      have hadd : (⟨b, off, none⟩ : Addr).add (n * i.size) = ⟨b, off + n * i.size, none⟩ := by unfold Addr.add; split <;> simp_all
      refine ⟨.slice (some ⟨b, off, none⟩) (n + m) cap, w.setRow b (cs.toList.take (off + n * i.size) ++ news ++ cs.toList.drop (off + n * i.size + news.length)).toArray, some b, ?_, ⟨hlen, .inr ⟨b, off, cap, _, rfl, rfl, hroom, hcap, bk_setRow _ _ _ _ _ hbk, ?_, ?_⟩⟩, ?_, .inl rfl, by simp⟩
      · simp [Builtin.append_, run_underlying ht, sizeOf, typeInfo, hi, Builtin.lenOf, hroom, hf, hadd, hst]
      · simp only [List.size_toArray, List.length_append, List.length_take, List.length_drop, Array.length_toList]
        omega
      · intro j hj
        have hlt : (cs.toList.take (off + n * i.size)).length = off + n * i.size := by rw [List.length_take, Array.length_toList]; omega
        rw [List.getElem?_toArray, List.append_assoc]
        by_cases hjn : j < n * i.size
        · rw [List.getElem?_append_left (by rw [hlt]; omega), List.getElem?_take, if_pos (by omega), Array.getElem?_toList, hcs j hjn, List.getElem?_append_left (by rw [h.1]; exact hjn)]
        · have hj2 : j - n * i.size < news.length := by rw [hl]; rw [Nat.add_mul] at hj; omega
          rw [List.getElem?_append_right (by rw [hlt]; omega), hlt, List.getElem?_append_left (by omega), List.getElem?_append_right (by rw [h.1]; omega), h.1]
          congr 1
          omega
      · exact ⟨rfl, rfl, rfl, by simp [World.setRow], fun k hk hne => heap_setRow w b _ k (by rintro rfl; exact hne rfl)⟩
    · have hcap' : Builtin.nextslicecap (n + m) cap ≤ 8000000000 := by
        unfold Builtin.nextslicecap
        split
        · omega
        · split
          · omega
          · simp only [Builtin.growBy]
            (repeat' split) <;> omega
      refine ⟨_, _, some w.heap.size, run_append_grow w t ty e i z ht hi hz ⟨b, off, none⟩ n cap xs h.1 hrd ad m c news hl hnews (by omega) (by omega) (by have := Nat.mul_le_mul hcap' hby; omega), ⟨hlen, .inr ⟨_, 0, grownCap w (n + m) cap e, _, rfl, rfl, grownCap_ge _ _ _ _, grownCap_le_maxLen _ _ _ _ (by omega), Bk.new _ _ _, ?_, ?_⟩⟩, ?_, .inr rfl, by simp⟩
      · have := grownCap_ge w (n + m) cap e
        simp only [Array.size_append, List.size_toArray, size_zeroCells, hl, hzs, h.1]
        rw [← Nat.add_mul, ← Nat.add_mul, Nat.zero_add]
        exact Nat.mul_le_mul_right _ (by omega)
      · intro j hj
        rw [Nat.zero_add, Array.getElem?_append_left (by rw [Array.size_append, List.size_toArray, List.size_toArray, ← List.length_append, hlen]; exact hj)]
        simp
      · exact grown_alloc w _ _
end
end Go.Proofs.Ytfimadeokdlpnaa.K
