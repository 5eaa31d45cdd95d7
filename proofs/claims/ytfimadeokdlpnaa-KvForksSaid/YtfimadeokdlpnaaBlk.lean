/- A block of cells known whole: what it reads, and how it goes through allocs, draws, stores and calls. Plain lemmas on worlds. -/
import Derived.Test.YtfimadeokdlpnaaK
import Derived.Deep.AppendLies
namespace Go.Proofs.Ytfimadeokdlpnaa.K
open Go.RowKit
set_option linter.unusedVariables false
/-- Block b holds just these cells, of that element type; none is frozen. -/
def Bk (w : World) (b : Nat) (cs : Array Value) (t : TypeId) : Prop := w.heap[b]? = some (.cells cs t (0, 0))
namespace Bk
variable {w w' : World} {b : Nat} {cs : Array Value} {t : TypeId}
theorem lt (h : Bk w b cs t) : b < w.heap.size := (Array.getElem?_eq_some_iff.1 h).1
theorem cell (h : Bk w b cs t) (i : Nat) (v : Value) (hv : cs[i]? = some v) : w.cell? ⟨b, i, none⟩ = some v := by
  unfold Bk at h
  simp [World.cell?, h, hv]
theorem free (h : Bk w b cs t) (i : Nat) : w.frozen? ⟨b, i, none⟩ = false := by
  unfold Bk at h
  simp [World.frozen?, h]
theorem new (w : World) (cs : Array Value) (t : TypeId) : Bk (w.alloc (.cells cs t)) w.heap.size cs t := by
  unfold Bk World.alloc
  simp
theorem new' (w : World) (cs : Array Value) (t : TypeId) (n : Nat) (hn : w.heap.size = n) : Bk (w.alloc (.cells cs t)) n cs t := hn ▸ new w cs t
theorem alloc (h : Bk w b cs t) (o : Obj) : Bk (w.alloc o) b cs t := by
  have := h.lt
  unfold Bk at h ⊢
  rw [Below.heap_alloc w o b this]; exact h
theorem drew (h : Bk w b cs t) : Bk w.drew b cs t := h
theorem drewN (h : Bk w b cs t) (n : Nat) : Bk (w.drewN n) b cs t := h
theorem set (h : Bk w b cs t) (i : Nat) (v : Value) : Bk (w.setCell ⟨b, i, none⟩ v) b (cs.setIfInBounds i v) t := by
  have := h.lt
  unfold Bk at h ⊢
  unfold World.setCell
  simp [Array.getElem?_modify, h]
theorem other (h : Bk w b cs t) (p : Addr) (v : Value) (hp : b ≠ p.block) : Bk (w.setCell p v) b cs t := by
  unfold Bk at h ⊢
  rw [Below.heap_setCell w p v b hp]; exact h
theorem below (h : Bk w b cs t) {B : Nat} (hb : Below B w w') (hlt : b < B) : Bk w' b cs t := by
  unfold Bk at h ⊢
  rw [hb.block b hlt]; exact h
theorem grown (h : Bk w b cs t) {row : Option Nat} (hg : w.grownBy w' row) (hr : some b ≠ row) : Bk w' b cs t := by
  have := h.lt
  unfold Bk at h ⊢
  rw [hg.block b this hr]; exact h
theorem eq {cs' : Array Value} {t' : TypeId} (h : Bk w b cs t) (h' : Bk w b cs' t') : cs = cs' ∧ t = t' := by
  unfold Bk at h h'
  rw [h] at h'
  simp only [Option.some.injEq, Obj.cells.injEq] at h'
  exact ⟨h'.1, h'.2.1⟩
end Bk
end Go.Proofs.Ytfimadeokdlpnaa.K
