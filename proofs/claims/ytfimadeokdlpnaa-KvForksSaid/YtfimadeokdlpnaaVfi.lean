/- The law's state among forks: what the law itself stores. -/
import Derived.Test.YtfimadeokdlpnaaVfg
namespace Go.Proofs.Ytfimadeokdlpnaa.kv
open Go.ChangeShapes Go.WideShapes Go.ChangeAt Go.RowKit K
set_option linter.unusedVariables false
set_option linter.unusedSimpArgs false
theorem encL_snoc (l : List Nat) (s : Nat) : encL (l ++ [s]) = encL l ++ [.int .i64 (s : Int)] := by simp [encL]
theorem encL_length (l : List Nat) : (encL l).length = l.length := by simp [encL]
theorem encL_one (l : List Nat) : ∀ u ∈ encL l, u.oneCell' = true := by
  intro u hu
  obtain ⟨n, -, rfl⟩ := List.mem_map.1 hu
  rfl
theorem Row.src {w : World} {t : TypeId} {q : Option Addr} {n c : Nat} {o : Option Nat} {xs : List Value} (h : Row w t 1 (.slice q n c) o n xs) : Src w q xs := by
  intro j u hu
  have hj := (List.getElem?_eq_some_iff.1 hu).1
  have hl := h.1
  obtain ⟨g, off, cap, cs, e1, e2, e3, e4, e5, e6, e7⟩ := h.pos (by omega)
  cases e1
  refine ⟨_, rfl, ?_⟩
  have hadd : (⟨g, off, none⟩ : Addr).add j = ⟨g, off + j, none⟩ := by unfold Addr.add; split <;> simp_all
  rw [hadd]
  exact e5.cell _ _ (by rw [e7 j (by omega), hu])
theorem Row.empty {w : World} {t : TypeId} : Row (w.alloc (.cells #[] t)) t 1 (.slice (some ⟨w.heap.size, 0, none⟩) 0 0) (some w.heap.size) 0 [] :=
  ⟨rfl, .inr ⟨_, 0, 0, _, rfl, rfl, Nat.le_refl _, Nat.zero_le _, Bk.new _ _ _, by simp, fun j hj => by omega⟩⟩
namespace Mid
variable {B : Nat} {w0 w w' : World} {p b W i : Nat} {L : List Ent} {S : List Pg} {I : List (List Nat)} {ps : List Value} {I0 : List (List Nat)} {vs : Value} {ks : Nat} {vi : Value} {ki : Nat} {rv : List (Value × Option Nat)}
theorem putRow {k s f c g : Nat} {l : List Nat} {q : Option Addr} {o : Option Nat} (h : Mid B w0 w p b W i L S (I.set k (l ++ [s])) ps I vs ks (.slice (some ⟨ki, f, none⟩) I.length c) ki rv) (hk : k < I.length) (hb : Below w.heap.size w w') (hr : Row w' 2 1 (.slice q (l.length + 1) g) o (l.length + 1) (encL l ++ [.int .i64 (s : Int)])) (ho : ∀ m, o = some m → w.heap.size ≤ m) :
    Mid B w0 (w'.setCell ⟨ki, f + k, none⟩ (.slice q (l.length + 1) g)) p b W i L S (I.set k (l ++ [s])) ps (I.set k (l ++ [s])) vs ks (.slice (some ⟨ki, f, none⟩) I.length c) ki (rv.set k (.slice q (l.length + 1) g, o)) := by
  have h1 := h.below hb
  have hll : (l ++ [s]).length = l.length + 1 := by simp
  have hc : Chg (fun m => m = ki) w' (w'.setCell ⟨ki, f + k, none⟩ (.slice q (l.length + 1) g)) := (Chg.refl _ w').setCell _ _ (.inl rfl)
  have hs1 := h.side.sS.lt
  have hs2 := h.side.sI.lt
  refine ⟨h1.many.chg hc (fun m e => by rw [e]; exact h1.side.sI), h.fam, ?_, h1.bel.setCell h1.side.bI _, h.cnt, h.lens, h.hi⟩
  have := h1.side.put (l := l ++ [s]) (q := q) (g := g) (o := o) rfl hk (by rw [hll, encL_snoc]; exact hr) (fun m hm => ⟨h.many.safe (ho m hm) (hr.lt m hm), by have := ho m hm; omega, by have := ho m hm; omega⟩)
  rw [hll] at this
  exact this
theorem appS (h : Mid B w0 w p b W i L S I ps I0 vs ks vi ki rv) {vs' u : Value} {g : Nat} (hr : Row w' 28 1 vs' (some g) (ps.length + 1) (ps ++ [u])) (hg : w.grownBy w' (some ks)) (ho : some ks = some g ∨ g = w.heap.size) :
    Mid B w0 w' p b W i L S I (ps ++ [u]) I0 vs' g vi ki rv := by
  have hc : Chg (fun k => k = ks) w w' := Chg.of_grown hg (fun k e => Option.some.inj e)
  exact ⟨h.many.chg hc (fun m e => by rw [e]; exact h.side.sS), h.fam, h.side.appS h.many hr hg ho, h.bel.trans (hc.below (fun k e => by rw [e]; exact h.side.bS) h.many.size), h.cnt, h.lens, h.hi⟩
theorem appI (h : Mid B w0 w p b W i L S I ps I0 vs ks vi ki rv) {vi' : Value} {g k : Nat} {l : List Nat} {r : Value × Option Nat} (hl : I0[k]? = some l) (hrk : rv[k]? = some r) (hr : Row w' 33 1 vi' (some g) (I0.length + 1) (rv.map (·.1) ++ [r.1])) (hg : w.grownBy w' (some ki)) (ho : some ki = some g ∨ g = w.heap.size) :
    Mid B w0 w' p b W i L S I ps (I0 ++ [l]) vs ks vi' g (rv ++ [r]) := by
  have hc : Chg (fun k => k = ki) w w' := Chg.of_grown hg (fun k e => Option.some.inj e)
  exact ⟨h.many.chg hc (fun m e => by rw [e]; exact h.side.sI), h.fam, h.side.appI h.many hl hrk hr hg ho, h.bel.trans (hc.below (fun k e => by rw [e]; exact h.side.bI) h.many.size), h.cnt, h.lens, h.hi⟩
end Mid
end Go.Proofs.Ytfimadeokdlpnaa.kv
