/- Arguments: the acts of sequences, opened. Plain lemmas. -/
import Derived.Test.YtfimadeokdlpnaaVfe
import Derived.Deep.Slices
import Derived.Deep.Fields
import Derived.ChangeSame
namespace Go.Proofs.Ytfimadeokdlpnaa.kv
open Go.ChangeShapes Go.WideShapes Go.ChangeAt Go.RowKit Go.Deep K
set_option linter.unusedVariables false
set_option linter.unusedSimpArgs false
section
variable {H : Type} {enc : TypeId × Value → H} {P : Program} {w : World} {base : Nat} {spare : Nat → Bool} {held : Bool}
theorem open_slice_fields {t e : TypeId} {fs : Array Field} {fuel : Nat} {cs : List Value} {x : DataW H × List MemPlace} (ht : P.underlying t = some (.slice e)) (he : P.underlying e = some (.struct fs))
    (hone : oneCellFields P fs = true) (hC : P.cellsOf e = fs.size) (h : DataW.trod enc P w base spare held fuel t cs = some x) :
    (cs = [.slice none 0 0] ∧ x = (.nil, [])) ∨
    ∃ (a : Addr) (len cap m : Nat) (D : Nat → DataW H) (Pl : Nat → List MemPlace), cs = [.slice (some a) len cap] ∧ base ≤ a.block ∧ len ≤ cap ∧ cap ≤ maxLen ∧ m = (if spare a.block then cap else len) ∧
      x = (.slice ((List.range len).map D) ((List.range (m - len)).map fun j => D (len + j)), MemPlace.row a (m * fs.size) ++ (List.range m).flatMap Pl) ∧
      ∀ i, i < m → ∃ (ys : List (DataW H × List MemPlace)) (n : Nat), D i = .agg (ys.map (·.1)) ∧ Pl i = ys.flatMap (·.2) ∧ ys.length = fs.size ∧
        ∀ (j : Nat) (f : Field), fs[j]? = some f → ∃ (v : Value) (y : DataW H × List MemPlace), w.cell? (a.add (i * fs.size + j)) = some v ∧ ys[j]? = some y ∧ DataW.trod enc P w base spare held n f.type [v] = some y := by
  rcases open_slice ht h with h0 | ⟨a, len, cap, m, n, D, Pl, hcs, hb, hl, hm, hmm, hx, hi⟩
  · exact .inl h0
  · refine .inr ⟨a, len, cap, m, D, Pl, hcs, hb, hl, hm, hmm, by rw [hC] at hx; exact hx, fun i him => ?_⟩
    obtain ⟨cs', hc, ht'⟩ := hi i him
    rw [hC] at hc
    obtain ⟨ys, n', hn', hy, hlen, hyl, hf⟩ := DataW.trod_struct he ht'
    obtain ⟨_, hcl, hat⟩ := World.cells?_some hc
    simp only [Prod.mk.injEq] at hy
    refine ⟨ys, n', hy.1, hy.2, hyl, fun j f hj => ?_⟩
    obtain ⟨ho, hk⟩ := hone_of hone j f hj
    have hjl : j < fs.size := (Array.getElem?_eq_some_iff.1 hj).1
    have hcell := hat j hjl
    have hv : cs'[j]? = some (cs'[j]'(by omega)) := List.getElem?_eq_getElem (by omega)
    have h1 := hf j f hj
    rw [ho, hk] at h1
    have hone' : (cs'.drop j).take 1 = [cs'[j]'(by omega)] := by
      rw [List.drop_eq_getElem_cons (by omega)]
      rfl
    rw [hone'] at h1
    have hys : ys[j]? = some (ys[j]'(by omega)) := List.getElem?_eq_getElem (by omega)
    refine ⟨_, _, ?_, hys, h1.trans hys⟩
    rw [← Go.Deep.add_add, hcell, hv]
end
/-- An act. -/
structure KOp where
  kind : Int
  seq : Int
  q : Option Addr
  n : Nat
  c : Nat
  xs : List Int
  num : Int
/-- The acts' cells. -/
def KActs (w : World) (p : Option Addr) (l : List KOp) : Prop :=
  ∀ j x, l[j]? = some x → ∃ b off, p = some ⟨b, off, none⟩ ∧ b < w.heap.size ∧ w.cell? ⟨b, off + j * 4, none⟩ = some (.int .i64 x.kind) ∧ w.cell? ⟨b, off + j * 4 + 1, none⟩ = some (.int .i64 x.seq) ∧ w.cell? ⟨b, off + j * 4 + 2, none⟩ = some (.slice x.q x.n x.c) ∧ w.cell? ⟨b, off + j * 4 + 3, none⟩ = some (.int .i64 x.num) ∧
    Vals w x.q x.xs ∧ x.xs.length = x.n ∧ okI x.num ∧ okI x.seq ∧ x.n ≤ maxLen
theorem KActs.below {w w' : World} {p : Option Addr} {l : List KOp} (h : KActs w p l) (hb : Below w.heap.size w w') : KActs w' p l := by
  intro j x hx
  obtain ⟨b, off, h1, h2, c0, c1, c2, c3, hv, hr⟩ := h j x hx
  exact ⟨b, off, h1, Nat.lt_of_lt_of_le h2 hb.size, (hb.cell (p := ⟨b, off + j * 4, none⟩) h2).trans c0, (hb.cell (p := ⟨b, off + j * 4 + 1, none⟩) h2).trans c1, (hb.cell (p := ⟨b, off + j * 4 + 2, none⟩) h2).trans c2, (hb.cell (p := ⟨b, off + j * 4 + 3, none⟩) h2).trans c3, hv.below (B := 0) hb, hr⟩
section
variable {H : Type} {enc : TypeId × Value → H} {P : Program} {w : World} {base : Nat} {held : Bool}
theorem slice_kacts {r : Reach} {b0 : Nat} {t e et : TypeId} {v : Value} {d : DataW H} {p : List MemPlace} {f0 f1 f2 f3 : Field} (ht : P.underlying t = some (.slice e)) (he : P.underlying e = some (.struct #[f0, f1, f2, f3])) (hone : oneCellFields P #[f0, f1, f2, f3] = true) (hC : P.cellsOf e = 4)
    (u0 : P.underlying f0.type = some (.int .i64)) (u1 : P.underlying f1.type = some (.int .i64)) (u2 : P.underlying f2.type = some (.slice et)) (u2e : P.underlying et = some (.int .i64)) (u2c : P.cellsOf et = 1) (u3 : P.underlying f3.type = some (.int .i64))
    (hv : Value.okWide P w r b0 t v) (h : DataW.Trod enc P w base (fun _ => true) held t v d p) :
    ∃ (q : Option Addr) (n c : Nat) (xs : List KOp), v = .slice q n c ∧ KActs w q xs ∧ xs.length = n ∧ n ≤ maxLen := by
  obtain ⟨a, len, cap, rfl⟩ := okWide_slice ht hv
  obtain ⟨fuel, hf⟩ := h
  rcases open_slice_fields ht he hone (by rw [hC]; rfl) hf with ⟨hcs, hxx⟩ | ⟨a', len', cap', m, D, Pl, hcs, _, hl, hm, hmm, hxx, hi⟩
  · simp [Value.cells] at hcs
    obtain ⟨rfl, rfl, rfl⟩ := hcs
    exact ⟨none, 0, 0, [], rfl, fun j x hx => by simp at hx, rfl, Nat.zero_le _⟩
  · simp [Value.cells] at hcs
    obtain ⟨rfl, rfl, rfl⟩ := hcs
    simp only [if_true] at hmm
    have ok : ∀ z : Int, (Lit.int .i64 z).wf = true → okI z := fun z hz => by
      simp [Lit.wf, IntKind.min, IntKind.max, IntKind.signed, IntKind.bits] at hz
      unfold okI; omega
    have key : ∀ i, i < len → ∃ x : KOp, w.cell? (a'.add (i * 4)) = some (.int .i64 x.kind) ∧ w.cell? (a'.add (i * 4 + 1)) = some (.int .i64 x.seq) ∧ w.cell? (a'.add (i * 4 + 2)) = some (.slice x.q x.n x.c) ∧ w.cell? (a'.add (i * 4 + 3)) = some (.int .i64 x.num) ∧ Vals w x.q x.xs ∧ x.xs.length = x.n ∧ okI x.num ∧ okI x.seq ∧ x.n ≤ maxLen := by
      intro i hil
      obtain ⟨ys, n, _, _, _, hfl⟩ := hi i (by omega)
      obtain ⟨v0, y0, c0, _, t0⟩ := hfl 0 f0 rfl
      obtain ⟨v1, y1, c1, _, t1⟩ := hfl 1 f1 rfl
      obtain ⟨v2, y2, c2, _, t2⟩ := hfl 2 f2 rfl
      obtain ⟨v3, y3, c3, _, t3⟩ := hfl 3 f3 rfl
      obtain ⟨x0, e0, -, -⟩ := DataW.trod_int u0 t0
      obtain ⟨x1, e1, -, g1⟩ := DataW.trod_int u1 t1
      obtain ⟨x3, e3, -, g3⟩ := DataW.trod_int u3 t3
      simp only [List.cons.injEq, and_true] at e0 e1 e3
      subst e0 e1 e3
      rcases open_ints u2 u2e u2c t2 with ⟨e2, -⟩ | ⟨a2, ln, cp, zs, e2, -, hl2, hm2, hz, -, hcell, -⟩
      · simp only [List.cons.injEq, and_true] at e2
        subst e2
        exact ⟨⟨x0, x1, none, 0, 0, [], x3⟩, c0, c1, c2, c3, fun j x hx => by simp at hx, rfl, ok _ g3, ok _ g1, Nat.zero_le _⟩
      · simp only [List.cons.injEq, and_true] at e2
        subst e2
        simp only [if_true] at hz
        refine ⟨⟨x0, x1, some a2, ln, cp, zs.take ln, x3⟩, c0, c1, c2, c3, fun j x hx => ?_, by show (zs.take ln).length = ln; rw [List.length_take, hz]; omega, ok _ g3, ok _ g1, by show ln ≤ _; omega⟩
        have hx : (zs.take ln)[j]? = some x := hx
        have hj : j < ln := by
          have := (List.getElem?_eq_some_iff.1 hx).1
          rw [List.length_take] at this; omega
        obtain ⟨b, off, rfl, hc2⟩ := _root_.Go.ints_at hcell (by omega)
        refine ⟨b, off, rfl, World.block_lt_of_cell? w ⟨b, off + j, none⟩ (hc2 j (by omega)), ?_⟩
        rw [hc2 j (by omega)]
        rw [List.getElem?_take, if_pos hj] at hx
        rw [List.getD_eq_getElem?_getD, hx]; rfl
    have key2 : ∀ i : Nat, ∃ x : KOp, i < len → (w.cell? (a'.add (i * 4)) = some (.int .i64 x.kind) ∧ w.cell? (a'.add (i * 4 + 1)) = some (.int .i64 x.seq) ∧ w.cell? (a'.add (i * 4 + 2)) = some (.slice x.q x.n x.c) ∧ w.cell? (a'.add (i * 4 + 3)) = some (.int .i64 x.num) ∧ Vals w x.q x.xs ∧ x.xs.length = x.n ∧ okI x.num ∧ okI x.seq ∧ x.n ≤ maxLen) := by
      intro i
      by_cases hil : i < len
      · obtain ⟨x, hx⟩ := key i hil
        exact ⟨x, fun _ => hx⟩
      · exact ⟨⟨0, 0, none, 0, 0, [], 0⟩, fun h => absurd h hil⟩
    obtain ⟨g, hg⟩ := Classical.axiomOfChoice key2
    refine ⟨some a', len, cap, (List.range len).map g, rfl, fun j x hx => ?_, by simp, by omega⟩
    have hj : j < len := by
      have := (List.getElem?_eq_some_iff.1 hx).1
      simpa using this
    rw [List.getElem?_map, List.getElem?_range hj] at hx
    simp at hx
    subst hx
    obtain ⟨c0, c1, c2, c3, hr⟩ := hg j hj
    obtain ⟨b, off, spot⟩ := a'
    have hspot : spot = none := by
      have h0 := (hg 0 (by omega)).1
      simpa [Addr.add] using World.cell?_spot h0
    subst hspot
    have hadd : ∀ k, (⟨b, off, none⟩ : Addr).add k = ⟨b, off + k, none⟩ := fun k => by unfold Addr.add; split <;> simp_all
    rw [hadd] at c0 c1 c2 c3
    exact ⟨b, off, rfl, World.block_lt_of_cell? w ⟨b, off + j * 4, none⟩ c0, c0, c1, c2, c3, hr⟩
end
end Go.Proofs.Ytfimadeokdlpnaa.kv
