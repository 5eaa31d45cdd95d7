/- Small lemmas of pointers. -/
import Derived.Test.YtfimadeokdlpnaaVfe
import Derived.Deep.CutRange
import Derived.Deep.CutBlock
import Derived.Deep.RegionHeld3
import Derived.Deep.QuietTactic
import Derived.BigQuiet
namespace Go.Proofs.Ytfimadeokdlpnaa.kv
open Go.ChangeShapes Go.WideShapes Go.ChangeAt Go.RowKit K
set_option linter.unusedVariables false
set_option linter.unusedSimpArgs false
theorem infoSq : (Try.prog.info? 28).map (fun i => (i.zero, i.size, i.bytes)) = some (some (.pointer none), 1, 8) := by kernel_rfl
theorem infoSl : (Try.prog.info? 33).map (fun i => (i.zero, i.size, i.bytes)) = some (some (.slice none 0 0), 1, 24) := by kernel_rfl
theorem Bk.over {w : World} {b : Nat} {cs : Array Value} {t : TypeId} (h : Bk w b cs t) (o : Obj) : Bk (w.alloc o) b cs t := ((Chg.refl (fun _ => False) w).alloc o).bk h id
theorem map_ptr_set {L : List Ent} {k : Nat} {x y : Ent} (hx : L[k]? = some x) (hs : y.s = x.s) : (L.set k y).map ptrOf = L.map ptrOf := by
  refine List.ext_getElem? fun j => ?_
  rw [List.getElem?_map, List.getElem?_map, List.getElem?_set]
  by_cases e : k = j
  · subst e
    rw [if_pos rfl, hx, if_pos (List.getElem?_eq_some_iff.1 hx).1]
    unfold ptrOf
    simp only [Option.map_some, hs]
  · rw [if_neg e]
theorem Row.src {w : World} {t : TypeId} {q : Option Addr} {n c : Nat} {o : Option Nat} {xs : List Value} (h : Row w t 1 (.slice q n c) o n xs) : Src w q xs := by
  intro j u hu
  have hj := (List.getElem?_eq_some_iff.1 hu).1
  have hl := h.1
  obtain ⟨g, off, cap, cs, e1, e2, e3, e4, e5, e6, e7⟩ := h.pos (by omega)
  cases e1
  refine ⟨_, rfl, ?_⟩
  have hadd : (⟨g, off, none⟩ : Addr).add j = ⟨g, off + j, none⟩ := by unfold Addr.add; split <;> simp_all
  rw [hadd]
  exact e5.cell _ _ (by rw [e7 j (by omega), hu])
theorem Row.empty {w : World} {t : TypeId} : Row (w.alloc (.cells #[] t)) t 1 (.slice (some ⟨w.heap.size, 0, none⟩) 0 0) (some w.heap.size) 0 [] :=
  ⟨rfl, .inr ⟨_, 0, 0, _, rfl, rfl, Nat.le_refl _, Nat.zero_le _, Bk.new _ _ _, by simp, fun j hj => by omega⟩⟩
end Go.Proofs.Ytfimadeokdlpnaa.kv
