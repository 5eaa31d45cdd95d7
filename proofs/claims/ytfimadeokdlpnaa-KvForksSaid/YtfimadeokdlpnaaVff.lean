/- The law's state among forks: the sequences, the pool, and what lies beside them; the calls on them. -/
import Derived.Test.YtfimadeokdlpnaaVfe
namespace Go.Proofs.Ytfimadeokdlpnaa.kv
open Go.ChangeShapes Go.WideShapes Go.ChangeAt Go.RowKit K
set_option linter.unusedVariables false
set_option linter.unusedSimpArgs false
structure Mid (B : Nat) (w0 w : World) (p b W i : Nat) (L : List Ent) (S : List Pg) (I : List (List Nat)) (ps : List Value) (I0 : List (List Nat)) (vs : Value) (ks : Nat) (vi : Value) (ki : Nat) (rv : List (Value × Option Nat)) : Prop where
  many : Many B w p b S L
  fam : Fam W S (L.map (·.Q)) I
  side : Side B w p b L ps I0 vs ks vi ki rv
  bel : Below B w0 w
  cnt : 1 ≤ L.length ∧ L.length ≤ 6
  lens : ∀ (k : Nat) (l : List Nat), I[k]? = some l → l.length ≤ i ∧ ∀ s ∈ l, s < 40
  hi : i ≤ 40
namespace Mid
variable {B : Nat} {w0 w w' : World} {p b W i : Nat} {L : List Ent} {S : List Pg} {I : List (List Nat)} {ps : List Value} {I0 : List (List Nat)} {vs : Value} {ks : Nat} {vi : Value} {ki : Nat} {rv : List (Value × Option Nat)}
theorem below (h : Mid B w0 w p b W i L S I ps I0 vs ks vi ki rv) (hb : Below w.heap.size w w') : Mid B w0 w' p b W i L S I ps I0 vs ks vi ki rv :=
  ⟨h.many.below hb, h.fam, h.side.below hb, bstep h.bel hb h.many.size, h.cnt, h.lens, h.hi⟩
theorem drewN (h : Mid B w0 w p b W i L S I ps I0 vs ks vi ki rv) (n : Nat) : Mid B w0 (w.drewN n) p b W i L S I ps I0 vs ks vi ki rv := h.below ⟨rfl, rfl, rfl, Nat.le_refl _, fun _ _ => rfl⟩
theorem more (h : Mid B w0 w p b W i L S I ps I0 vs ks vi ki rv) {j : Nat} (hj : i ≤ j) (h40 : j ≤ 40) : Mid B w0 w p b W j L S I ps I0 vs ks vi ki rv :=
  ⟨h.many, h.fam, h.side, h.bel, h.cnt, fun k l hk => ⟨Nat.le_trans (h.lens k l hk).1 hj, (h.lens k l hk).2⟩, h40⟩
theorem most (h : Mid B w0 w p b W i L S I ps I0 vs ks vi ki rv) : Most 900000000 S := fun x hx => by
  have h1 := h.fam.most i (fun k l hk => (h.lens k l hk).1) x hx
  have h2 : (L.map (·.Q)).length * (i + 1) ≤ 6 * 41 := Nat.mul_le_mul (by rw [List.length_map]; exact h.cnt.2) (by have := h.hi; omega)
  omega
theorem small (h : Mid B w0 w p b W i L S I ps I0 vs ks vi ki rv) : Small S := Small.most h.most (by omega)
theorem eql (h : Mid B w0 w p b W i L S I ps I0 vs ks vi ki rv) : I.length = L.length := by rw [h.fam.eql, List.length_map]
/-- The k-th of them. -/
theorem at_ (h : Mid B w0 w p b W i L S I ps I0 vs ks vi ki rv) {k : Nat} (hk : k < L.length) : ∃ x l, L[k]? = some x ∧ I[k]? = some l ∧ (L.map (·.Q))[k]? = some x.Q ∧ Seq1 W S x.Q l := by
  have e1 : L[k]? = some L[k] := List.getElem?_eq_getElem hk
  have e2 : I[k]? = some (I[k]'(by rw [h.eql]; exact hk)) := List.getElem?_eq_getElem _
  have e3 : (L.map (·.Q))[k]? = some L[k].Q := by rw [List.getElem?_map, e1]; rfl
  exact ⟨_, _, e1, e2, e3, h.fam.one k _ _ e3 e2⟩
theorem append (h : Mid B w0 w p b W i L S I ps I0 vs ks vi ki rv) {k : Nat} {x : Ent} {l : List Nat} (hx : L[k]? = some x) (hl : I[k]? = some l) (hi : i < 40) (hb : Below w.heap.size w w') (g f c : Nat) (ha : Args w' g f (rowN W i)) (hg : w.heap.size ≤ g) :
    Calls Try.prog 11 #[.pointer (some ⟨x.s, 0, none⟩), .slice (some ⟨g, f, none⟩) W c] w' fun e w'' =>
      (e = .returned (.int .i64 0) ∧ ∃ y S', y.s = x.s ∧ Mid B w0 w'' p b W (i + 1) (L.set k y) S' (I.set k (l ++ [i])) ps I0 vs ks vi ki rv) ∨ (e = .returned (.int .i64 6) ∧ Mid B w0 w'' p b W i L S I ps I0 vs ks vi ki rv) := by
  have hQk : (L.map (·.Q))[k]? = some x.Q := by rw [List.getElem?_map, hx]; rfl
  have h1 := h.fam.one k x.Q l hQk hl
  have hll := (h.lens k l hl).1
  have hm := h.below hb
  refine (hm.many.append2_c hx h.small (by rw [h1.len]; omega) W h1.wid (rowN W i) (rowN_length _ _) g f c ha (h.many.notFoot hx hg)).mono ?_
  rintro e w'' (⟨S', Q', hr, rfl, y, hM, hys, hyQ, hB, hC, ho⟩ | ⟨hr, rfl, hB⟩)
  · refine .inl ⟨rfl, y, S', hys, hM, ?_, hm.side.call hx hys ho hC, hm.bel.trans hB, by rw [List.length_set]; exact h.cnt, fun j m hj => ?_, by omega⟩
    · have := h.fam.append hQk hl i hr
      rw [List.map_set, hyQ]; exact this
    · rw [List.getElem?_set] at hj
      split at hj
      · split at hj
        · cases hj
          refine ⟨by rw [List.length_append, List.length_singleton]; omega, fun s hs => ?_⟩
          rcases List.mem_append.1 hs with e | e
          · exact (h.lens k l hl).2 s e
          · rw [List.mem_singleton.1 e]; omega
        · cases hj
      · exact ⟨Nat.le_succ_of_le (h.lens j m hj).1, (h.lens j m hj).2⟩
  · exact .inr ⟨rfl, hm.below hB⟩
theorem fork (h : Mid B w0 w p b W i L S I ps I0 vs ks vi ki rv) {k : Nat} {x : Ent} {l : List Nat} (hx : L[k]? = some x) (hl : I[k]? = some l) (h6 : L.length < 6) :
    Calls Try.prog 20 #[.pointer (some ⟨x.s, 0, none⟩)] w fun e w' => ∃ y S', e = .returned (ptrOf y) ∧ Mid B w0 w' p b W i (L ++ [y]) S' (I ++ [l]) ps I0 vs ks vi ki rv := by
  have hQk : (L.map (·.Q))[k]? = some x.Q := by rw [List.getElem?_map, hx]; rfl
  refine (h.many.fork2_c hx h.most).mono ?_
  rintro e w' ⟨f, rfl, y, hM, rfl, hyQ, hB, hC, hf, ho⟩
  refine ⟨y, _, rfl, hM, ?_, h.side.fork hf ho hC, h.bel.trans hB, by rw [List.length_append, List.length_singleton]; omega, fun j m hj => ?_, h.hi⟩
  · rw [List.map_append, List.map_singleton, hyQ]
    exact h.fam.fork hQk hl
  · rw [List.getElem?_append] at hj
    split at hj
    · exact h.lens j m hj
    · rw [List.getElem?_singleton] at hj
      split at hj
      · cases hj; exact h.lens k l hl
      · cases hj
theorem keep (h : Mid B w0 w p b W i L S I ps I0 vs ks vi ki rv) {k : Nat} {x : Ent} {l : List Nat} (hx : L[k]? = some x) (hl : I[k]? = some l) (n : Int) (hn : n ≤ 9223372036854775807) :
    Calls Try.prog 22 #[.pointer (some ⟨x.s, 0, none⟩), .int .i64 n] w fun e w' => e = .returned (.tuple #[]) ∧ ∃ y S', y.s = x.s ∧ Mid B w0 w' p b W i (L.set k y) S' I ps I0 vs ks vi ki rv := by
  have hQk : (L.map (·.Q))[k]? = some x.Q := by rw [List.getElem?_map, hx]; rfl
  obtain ⟨m, hm, hm0⟩ : ∃ m : Int, ((0 ≤ n ∧ m = n) ∨ (n < 0 ∧ m = 0)) ∧ 0 ≤ m := by
    by_cases h0 : 0 ≤ n
    · exact ⟨n, .inl ⟨h0, rfl⟩, h0⟩
    · exact ⟨0, .inr ⟨by omega, rfl⟩, by omega⟩
  refine (h.many.keep2_c hx h.small n m hm hn).mono ?_
  rintro e w' ⟨rfl, y, hM, hys, hyQ, hB, hC, ho⟩
  refine ⟨rfl, y, _, hys, hM, ?_, h.side.call hx hys ho hC, h.bel.trans hB, by rw [List.length_set]; exact h.cnt, h.lens, h.hi⟩
  rw [List.map_set, hyQ]
  exact h.fam.keep hQk hl m hm0
theorem release (h : Mid B w0 w p b W i L S I ps I0 vs ks vi ki rv) {k : Nat} {x : Ent} {l : List Nat} (hx : L[k]? = some x) (hl : I[k]? = some l) :
    Calls Try.prog 24 #[.pointer (some ⟨x.s, 0, none⟩)] w fun e w' => e = .returned (.tuple #[]) ∧ ∃ y S', y.s = x.s ∧ y.Q.pages = [] ∧ Mid B w0 w' p b W i (L.set k y) S' I ps I0 vs ks vi ki rv := by
  have hQk : (L.map (·.Q))[k]? = some x.Q := by rw [List.getElem?_map, hx]; rfl
  refine (h.many.release2_c hx h.small).mono ?_
  rintro e w' ⟨rfl, y, hM, hys, hyQ, hB, hC, ho⟩
  refine ⟨rfl, y, _, hys, by rw [hyQ], hM, ?_, h.side.call hx hys ho hC, h.bel.trans hB, by rw [List.length_set]; exact h.cnt, h.lens, h.hi⟩
  rw [List.map_set, hyQ]
  exact h.fam.release hQk hl
theorem len_c (h : Mid B w0 w p b W i L S I ps I0 vs ks vi ki rv) {k : Nat} {x : Ent} {l : List Nat} (hx : L[k]? = some x) (hl : I[k]? = some l) :
    Calls Try.prog 13 #[.pointer (some ⟨x.s, 0, none⟩)] w fun e w' => e = .returned (.int .i64 l.length) ∧ w = w' := by
  have hQk : (L.map (·.Q))[k]? = some x.Q := by rw [List.getElem?_map, hx]; rfl
  have := kv.len_c x.s p x.Q x.v x.own w (h.many.one k x hx).seq
  rw [(h.fam.one k x.Q l hQk hl).len] at this
  exact this
theorem first_c (h : Mid B w0 w p b W i L S I ps I0 vs ks vi ki rv) {k : Nat} {x : Ent} (hx : L[k]? = some x) :
    Calls Try.prog 16 #[.pointer (some ⟨x.s, 0, none⟩)] w fun e w' => e = .returned (.int .i64 x.Q.first) ∧ w = w' := kv.first_c x.s p x.Q x.v x.own w (h.many.one k x hx).seq
theorem row_c (h : Mid B w0 w p b W i L S I ps I0 vs ks vi ki rv) {k n s : Nat} {x : Ent} {l : List Nat} (hx : L[k]? = some x) (hl : I[k]? = some l) (h1 : x.Q.first ≤ n) (hs : l[n]? = some s) :
    Calls Try.prog 28 #[.pointer (some ⟨x.s, 0, none⟩), .int .i64 n] w fun e w' => ∃ g, e = .returned (.tuple #[.slice (some ⟨g, 0, none⟩) W W, .int .i64 0]) ∧ Vals w' (some ⟨g, 0, none⟩) (rowN W s) ∧ Below w.heap.size w w' ∧ w.heap.size ≤ g := by
  have hQk : (L.map (·.Q))[k]? = some x.Q := by rw [List.getElem?_map, hx]; rfl
  have hq := h.fam.one k x.Q l hQk hl
  have := h.many.row_c hx n h1 (by rw [hq.len]; exact (List.getElem?_eq_some_iff.1 hs).1)
  rw [hq.row n s h1 hs, hq.wid] at this
  exact this
theorem seqAt (h : Mid B w0 w p b W i L S I ps I0 vs ks vi ki rv) : ∃ f c, vs = .slice (some ⟨ks, f, none⟩) ps.length c ∧ ∀ (k : Nat) (u : Value), ps[k]? = some u → w.cell? ⟨ks, f + k, none⟩ = some u := by
  rcases h.side.ss.2 with ⟨_, _, h0⟩ | ⟨b', off, cap, cs, h1, h2, h3, h4, h5, h6, h7⟩
  · cases h0
  · cases h2
    refine ⟨off, cap, h1, fun k u hk => h5.cell _ _ ?_⟩
    have := (List.getElem?_eq_some_iff.1 hk).1
    rw [h7 k (by omega), hk]
theorem inAt (h : Mid B w0 w p b W i L S I ps I0 vs ks vi ki rv) : ∃ f c, vi = .slice (some ⟨ki, f, none⟩) I0.length c ∧ (∀ k, w.frozen? ⟨ki, k, none⟩ = false) ∧ ∀ (k : Nat) (l : List Nat), I0[k]? = some l → ∃ q c o, rv[k]? = some (.slice q l.length c, o) ∧ w.cell? ⟨ki, f + k, none⟩ = some (.slice q l.length c) ∧ Row w 2 1 (.slice q l.length c) o l.length (encL l) := by
  rcases h.side.ii.2 with ⟨_, _, h0⟩ | ⟨b', off, cap, cs, h1, h2, h3, h4, h5, h6, h7⟩
  · cases h0
  · cases h2
    refine ⟨off, cap, h1, fun k => h5.free k, fun k l hl => ?_⟩
    have hk := (List.getElem?_eq_some_iff.1 hl).1
    have e : rv[k]? = some (rv[k]'(by rw [h.side.rl]; exact hk)) := List.getElem?_eq_getElem _
    generalize rv[k]'(by rw [h.side.rl]; exact hk) = r at e
    have hr := (h.side.rows k l r hl e).1
    obtain ⟨q, c, hv⟩ := hr.form
    obtain ⟨rv1, ro⟩ := r
    simp only at hv hr
    subst hv
    refine ⟨q, c, ro, e, h5.cell _ _ ?_, hr⟩
    rw [h7 k (by omega), List.getElem?_map, e]; rfl
end Mid
/-- The numbers of a row of seeds, read one by one. -/
theorem seed_at {w : World} {q : Option Addr} {c : Nat} {o : Option Nat} {l : List Nat} (h : Row w 2 1 (.slice q l.length c) o l.length (encL l)) {n s : Nat} (hs : l[n]? = some s) : ∃ g f, q = some ⟨g, f, none⟩ ∧ g < w.heap.size ∧ w.cell? ⟨g, f + n, none⟩ = some (.int .i64 s) := by
  have hn := (List.getElem?_eq_some_iff.1 hs).1
  obtain ⟨g, off, cap, cs, e1, e2, e3, e4, e5, e6, e7⟩ := h.pos (by omega)
  cases e1
  refine ⟨g, off, rfl, e5.lt, e5.cell _ _ ?_⟩
  rw [e7 n (by omega)]
  simp [encL, hs]
end Go.Proofs.Ytfimadeokdlpnaa.kv
