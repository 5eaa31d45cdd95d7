/- Arguments: the acts of sequences, opened, with the sizes of their rows. Plain lemmas. -/
import Derived.Test.YtfimadeokdlpnaaVfg
import Derived.SizedLaws
namespace Go.Proofs.Ytfimadeokdlpnaa.kv
open Go.ChangeShapes Go.WideShapes Go.ChangeAt Go.RowKit Go.Deep K
set_option linter.unusedVariables false
set_option linter.unusedSimpArgs false
theorem weightsAll_mem {H : Type} {P : Program} {e : TypeId} {d : DataW H} {n : Nat} : ∀ {l : List (DataW H)}, d ∈ l → n ∈ d.weights P e → n ∈ DataW.weightsAll P e l
  | x :: l, hd, hn => by
    rw [DataW.weightsAll, List.mem_append]
    rcases List.mem_cons.1 hd with e | e
    · subst e; exact .inl hn
    · exact .inr (weightsAll_mem e hn)
  | [], hd, _ => by cases hd
theorem lits_length {H : Type} (k : IntKind) (l : List Int) : (lits k l : List (DataW H)).length = l.length := by unfold lits; simp
section
variable {H : Type} {enc : TypeId × Value → H} {P : Program} {w : World} {base : Nat} {held : Bool}
theorem slice_kacts_sized {r : Reach} {b0 : Nat} {t e et : TypeId} {v : Value} {d : DataW H} {p : List MemPlace} {f0 f1 f2 f3 : Field} (ht : P.underlying t = some (.slice e)) (he : P.underlying e = some (.struct #[f0, f1, f2, f3])) (hone : oneCellFields P #[f0, f1, f2, f3] = true) (hC : P.cellsOf e = 4)
    (u0 : P.underlying f0.type = some (.int .i64)) (u1 : P.underlying f1.type = some (.int .i64)) (u2 : P.underlying f2.type = some (.slice et)) (u2e : P.underlying et = some (.int .i64)) (u2c : P.cellsOf et = 1) (u3 : P.underlying f3.type = some (.int .i64))
    (hwt : ∀ n ∈ d.weights P t, n ≤ reachBytes) (hv : Value.okWide P w r b0 t v) (h : DataW.Trod enc P w base (fun _ => true) held t v d p) :
    ∃ (q : Option Addr) (n c : Nat) (xs : List KOp), v = .slice q n c ∧ KActs w q xs ∧ xs.length = n ∧ n ≤ maxLen ∧ ∀ (j : Nat) (x : KOp), xs[j]? = some x → x.n * P.bytesOf et ≤ reachBytes := by
  obtain ⟨a, len, cap, rfl⟩ := okWide_slice ht hv
  obtain ⟨fuel, hf⟩ := h
  rcases open_slice_fields ht he hone (by rw [hC]; rfl) hf with ⟨hcs, hxx⟩ | ⟨a', len', cap', m, D, Pl, hcs, _, hl, hm, hmm, hxx, hi⟩
  · simp [Value.cells] at hcs
    obtain ⟨rfl, rfl, rfl⟩ := hcs
    exact ⟨none, 0, 0, [], rfl, fun j x hx => by simp at hx, rfl, Nat.zero_le _, fun j x hx => by simp at hx⟩
  · simp [Value.cells] at hcs
    obtain ⟨rfl, rfl, rfl⟩ := hcs
    simp only [if_true] at hmm
    have ok : ∀ z : Int, (Lit.int .i64 z).wf = true → okI z := fun z hz => by
      simp [Lit.wf, IntKind.min, IntKind.max, IntKind.signed, IntKind.bits] at hz
      unfold okI; omega
    have key : ∀ i, i < len → ∃ x : KOp, w.cell? (a'.add (i * 4)) = some (.int .i64 x.kind) ∧ w.cell? (a'.add (i * 4 + 1)) = some (.int .i64 x.seq) ∧ w.cell? (a'.add (i * 4 + 2)) = some (.slice x.q x.n x.c) ∧ w.cell? (a'.add (i * 4 + 3)) = some (.int .i64 x.num) ∧ Vals w x.q x.xs ∧ x.xs.length = x.n ∧ okI x.num ∧ okI x.seq ∧ x.n ≤ maxLen ∧ x.n * P.bytesOf et ≤ reachBytes := by
      intro i hil
      obtain ⟨ys, n, hDi, _, hyl, hfl⟩ := hi i (by omega)
      have hmem : D i ∈ (List.range len).map D := List.mem_map.2 ⟨i, List.mem_range.2 hil, rfl⟩
      have hsl : d = .slice ((List.range len).map D) ((List.range (m - len)).map fun j => D (len + j)) := (Prod.mk.inj hxx).1
      obtain ⟨v0, y0, c0, _, t0⟩ := hfl 0 f0 rfl
      obtain ⟨v1, y1, c1, _, t1⟩ := hfl 1 f1 rfl
      obtain ⟨v2, y2, c2, hy2, t2⟩ := hfl 2 f2 rfl
      have hw2 : ∀ n ∈ y2.1.weights P f2.type, n ≤ reachBytes := fun n hn => hwt n (by
        rw [hsl, DataW.weights, ht]
        refine List.mem_cons_of_mem _ (List.mem_append_left _ (weightsAll_mem hmem ?_))
        rw [hDi, DataW.weights, he]
        exact DataW.weights_mem_each (j := 2) (t := f2.type) (d := y2.1) rfl (by rw [List.getElem?_map, hy2]; rfl) n hn)
      obtain ⟨v3, y3, c3, _, t3⟩ := hfl 3 f3 rfl
      obtain ⟨x0, e0, -, -⟩ := DataW.trod_int u0 t0
      obtain ⟨x1, e1, -, g1⟩ := DataW.trod_int u1 t1
      obtain ⟨x3, e3, -, g3⟩ := DataW.trod_int u3 t3
      simp only [List.cons.injEq, and_true] at e0 e1 e3
      subst e0 e1 e3
      rcases open_ints u2 u2e u2c t2 with ⟨e2, -⟩ | ⟨a2, ln, cp, zs, e2, -, hl2, hm2, hz, hy2x, hcell, -⟩
      · simp only [List.cons.injEq, and_true] at e2
        subst e2
        exact ⟨⟨x0, x1, none, 0, 0, [], x3⟩, c0, c1, c2, c3, fun j x hx => by simp at hx, rfl, ok _ g3, ok _ g1, Nat.zero_le _, by show 0 * _ ≤ _; omega⟩
      · simp only [List.cons.injEq, and_true] at e2
        subst e2
        simp only [if_true] at hz
        refine ⟨⟨x0, x1, some a2, ln, cp, zs.take ln, x3⟩, c0, c1, c2, c3, fun j x hx => ?_, by show (zs.take ln).length = ln; rw [List.length_take, hz]; omega, ok _ g3, ok _ g1, by show ln ≤ _; omega, ?_⟩
        rotate_left
        · show ln * _ ≤ _
          have hln : (zs.take ln).length = ln := by rw [List.length_take, hz]; omega
          have := hw2 ((ln + (zs.drop ln).length) * P.bytesOf et) (by
            rw [hy2x, DataW.weights, u2]
            refine List.mem_cons.2 (.inl ?_)
            rw [lits_length, lits_length, hln])
          exact Nat.le_trans (Nat.mul_le_mul_right _ (Nat.le_add_right _ _)) this
        have hx : (zs.take ln)[j]? = some x := hx
        have hj : j < ln := by
          have := (List.getElem?_eq_some_iff.1 hx).1
          rw [List.length_take] at this; omega
        obtain ⟨b, off, rfl, hc2⟩ := _root_.Go.ints_at hcell (by omega)
        refine ⟨b, off, rfl, World.block_lt_of_cell? w ⟨b, off + j, none⟩ (hc2 j (by omega)), ?_⟩
        rw [hc2 j (by omega)]
        rw [List.getElem?_take, if_pos hj] at hx
        rw [List.getD_eq_getElem?_getD, hx]; rfl
    have key2 : ∀ i : Nat, ∃ x : KOp, i < len → (w.cell? (a'.add (i * 4)) = some (.int .i64 x.kind) ∧ w.cell? (a'.add (i * 4 + 1)) = some (.int .i64 x.seq) ∧ w.cell? (a'.add (i * 4 + 2)) = some (.slice x.q x.n x.c) ∧ w.cell? (a'.add (i * 4 + 3)) = some (.int .i64 x.num) ∧ Vals w x.q x.xs ∧ x.xs.length = x.n ∧ okI x.num ∧ okI x.seq ∧ x.n ≤ maxLen ∧ x.n * P.bytesOf et ≤ reachBytes) := by
      intro i
      by_cases hil : i < len
      · obtain ⟨x, hx⟩ := key i hil
        exact ⟨x, fun _ => hx⟩
      · exact ⟨⟨0, 0, none, 0, 0, [], 0⟩, fun h => absurd h hil⟩
    obtain ⟨g, hg⟩ := Classical.axiomOfChoice key2
    refine ⟨some a', len, cap, (List.range len).map g, rfl, fun j x hx => ?_, by simp, by omega, fun j x hx => ?_⟩
    rotate_left
    · have hj : j < len := by
        have := (List.getElem?_eq_some_iff.1 hx).1
        simpa using this
      rw [List.getElem?_map, List.getElem?_range hj] at hx
      simp at hx
      subst hx
      obtain ⟨_, _, _, _, _, _, _, _, _, h9⟩ := hg j hj
      exact h9
    have hj : j < len := by
      have := (List.getElem?_eq_some_iff.1 hx).1
      simpa using this
    rw [List.getElem?_map, List.getElem?_range hj] at hx
    simp at hx
    subst hx
    obtain ⟨c0, c1, c2, c3, hr1, hr2, hr3, hr4, hr5, -⟩ := hg j hj
    obtain ⟨b, off, spot⟩ := a'
    have hspot : spot = none := by
      have h0 := (hg 0 (by omega)).1
      simpa [Addr.add] using World.cell?_spot h0
    subst hspot
    have hadd : ∀ k, (⟨b, off, none⟩ : Addr).add k = ⟨b, off + k, none⟩ := fun k => by unfold Addr.add; split <;> simp_all
    rw [hadd] at c0 c1 c2 c3
    exact ⟨b, off, rfl, World.block_lt_of_cell? w ⟨b, off + j * 4, none⟩ c0, c0, c1, c2, c3, hr1, hr2, hr3, hr4, hr5⟩
end
end Go.Proofs.Ytfimadeokdlpnaa.kv
