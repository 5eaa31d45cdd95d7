/- Sequences on one pool: whose is what, and each row as it was appended: plain law. -/
import Derived.Test.YtfimadeokdlpnaaVfa
namespace Go.Proofs.Ytfimadeokdlpnaa.kv
open K
set_option linter.unusedVariables false
set_option linter.unusedSimpArgs false
/-- How often a page stands in the lists. -/
def occ (Qs : List Sq) (q : Nat) : Nat := (Qs.map fun Q => Q.pages.count q).sum
theorem occ_set : ∀ (Qs : List Sq) (k : Nat) (Q Q' : Sq) (q : Nat), Qs[k]? = some Q → occ (Qs.set k Q') q + Q.pages.count q = occ Qs q + Q'.pages.count q
  | [], k, Q, Q', q, h => by cases h
  | A :: Qs, 0, Q, Q', q, h => by
    cases h
    simp only [occ, List.set_cons_zero, List.map_cons, List.sum_cons]; omega
  | A :: Qs, k + 1, Q, Q', q, h => by
    have := occ_set Qs k Q Q' q h
    simp only [occ, List.set_cons_succ, List.map_cons, List.sum_cons] at this ⊢; omega
theorem occ_app (Qs : List Sq) (Q : Sq) (q : Nat) : occ (Qs ++ [Q]) q = occ Qs q + Q.pages.count q := by simp [occ]
theorem occ_le : ∀ (Qs : List Sq) (k : Nat) (Q : Sq) (q : Nat), Qs[k]? = some Q → Q.pages.count q ≤ occ Qs q
  | [], k, Q, q, h => by cases h
  | A :: Qs, 0, Q, q, h => by
    cases h
    simp only [occ, List.map_cons, List.sum_cons]; omega
  | A :: Qs, k + 1, Q, q, h => by
    have := occ_le Qs k Q q h
    simp only [occ, List.map_cons, List.sum_cons] at this ⊢; omega
theorem occ_two (Qs : List Sq) (i k : Nat) (P Q : Sq) (q : Nat) (hik : i ≠ k) (hi : Qs[i]? = some P) (hk : Qs[k]? = some Q) : P.pages.count q + Q.pages.count q ≤ occ Qs q := by
  have h1 := occ_set Qs k Q { Q with pages := [] } q hk
  have h2 := occ_le (Qs.set k { Q with pages := [] }) i P q (by rw [List.getElem?_set_ne (Ne.symm hik)]; exact hi)
  simp at h1
  omega
theorem occ_max : ∀ (Qs : List Sq) (m q : Nat), (∀ (k : Nat) (Q : Sq), Qs[k]? = some Q → Q.pages.length ≤ m) → occ Qs q ≤ Qs.length * m
  | [], m, q, _ => by simp [occ]
  | A :: Qs, m, q, h => by
    have h1 := h 0 A rfl
    have h2 := occ_max Qs m q (fun k Q hk => h (k + 1) Q hk)
    have h3 : A.pages.count q ≤ A.pages.length := List.count_le_length
    simp only [occ, List.map_cons, List.sum_cons, List.length_cons] at h2 ⊢
    rw [Nat.add_mul]; omega
theorem occ_zero : ∀ (Qs : List Sq) (q : Nat), (∀ (k : Nat) (Q : Sq), Qs[k]? = some Q → Q.pages = []) → occ Qs q = 0
  | [], q, _ => rfl
  | A :: Qs, q, h => by
    have h1 := h 0 A rfl
    have h2 := occ_zero Qs q (fun k Q hk => h (k + 1) Q hk)
    simp only [occ, List.map_cons, List.sum_cons] at h2 ⊢
    rw [h1, h2]; rfl
theorem count_two {l : List Nat} {a b x : Nat} (h : a < b) (ha : l[a]? = some x) (hb : l[b]? = some x) : 2 ≤ l.count x := by
  have e := List.take_append_drop b l
  rw [← e, List.count_append]
  have h1 : 0 < (l.take b).count x := List.count_pos_iff.2 (List.mem_of_getElem? (i := a) (by rw [List.getElem?_take, if_pos h]; exact ha))
  have h2 : 0 < (l.drop b).count x := List.count_pos_iff.2 (List.mem_of_getElem? (i := 0) (by rw [List.getElem?_drop]; exact hb))
  omega
/-- A sequence, and its rows' seeds. -/
structure Seq1 (W : Nat) (S : List Pg) (Q : Sq) (l : List Nat) : Prop where
  tag : Q.tag = tagR
  wid : Q.width = W
  len : Q.len = l.length
  fl : Q.first ≤ Q.len
  fit : Q.len - Q.first ≤ Q.pages.length * (32 / W)
  hi : Q.pages.length * (32 / W) ≤ Q.len - Q.first + 32 / W
  row : ∀ i s, Q.first ≤ i → l[i]? = some s → rowOf S Q i = rowN W s
structure Fam (W : Nat) (S : List Pg) (Qs : List Sq) (I : List (List Nat)) : Prop where
  wd : 1 ≤ W ∧ W ≤ 32
  len : S.length = 64
  cl : CL S
  own : ∀ q : Nat, q < 64 → ownersOf S q = occ Qs q
  rng : ∀ (k : Nat) (Q : Sq), Qs[k]? = some Q → ∀ n ∈ Q.pages, n < 64
  eql : I.length = Qs.length
  one : ∀ (k : Nat) (Q : Sq) (l : List Nat), Qs[k]? = some Q → I[k]? = some l → Seq1 W S Q l
theorem rowOf_same {S S' : List Pg} {Q Q' : Sq} {i : Nat} (hw : Q'.width = Q.width) (hc : Q'.cell i = Q.cell i) (h : ∀ j, j < Q.width → getOf S' (Q'.page i) (Q.cell i + j) = getOf S (Q.page i) (Q.cell i + j)) : rowOf S' Q' i = rowOf S Q i := by
  unfold rowOf
  rw [hw]
  refine List.map_congr_left fun j hj => ?_
  rw [hc]
  exact h j (List.mem_range.1 hj)
namespace Seq1
variable {W : Nat} {S S' : List Pg} {Q : Sq} {l : List Nat}
theorem per_pos (hW : 1 ≤ W ∧ W ≤ 32) : 1 ≤ 32 / W := (Nat.le_div_iff_mul_le (by omega)).2 (by omega)
theorem page_mem (h : Seq1 W S Q l) (hW : 1 ≤ W ∧ W ≤ 32) {i : Nat} (h1 : Q.first ≤ i) (h2 : i < Q.len) : Q.pages[(i - Q.first) / (32 / W)]? = some (Q.page i) ∧ Q.page i ∈ Q.pages := by
  have hp := per_pos hW
  have hf := h.fit
  have hlt : (i - Q.first) / (32 / W) < Q.pages.length := (Nat.div_lt_iff_lt_mul (by omega)).2 (by omega)
  have e : Q.pages[(i - Q.first) / (32 / W)]? = some (Q.page i) := by
    unfold Sq.page Sq.per
    rw [h.wid, List.getElem?_eq_getElem hlt]; rfl
  exact ⟨e, List.mem_of_getElem? e⟩
theorem same (h : Seq1 W S Q l) (hW : 1 ≤ W ∧ W ≤ 32) (hg : ∀ n ∈ Q.pages, ∀ j, getOf S' (n : Nat) j = getOf S n j) : Seq1 W S' Q l := by
  refine ⟨h.tag, h.wid, h.len, h.fl, h.fit, h.hi, fun i s h1 h2 => ?_⟩
  have hi : i < Q.len := by rw [h.len]; exact (List.getElem?_eq_some_iff.1 h2).1
  rw [← h.row i s h1 h2]
  exact rowOf_same rfl rfl fun j _ => hg _ (h.page_mem hW h1 hi).2 _
theorem cellW (h : Seq1 W S Q l) (hW : 1 ≤ W ∧ W ≤ 32) (i : Nat) : Q.cell i + W ≤ 32 := by
  have := Sq.cell_lt (Q := Q) (by rw [h.wid]; exact hW) i (W - 1) (by rw [h.wid]; omega)
  omega
end Seq1
namespace Fam
variable {W : Nat} {S : List Pg} {Qs : List Sq} {I : List (List Nat)}
theorem ex (h : Fam W S Qs I) {k : Nat} {Q : Sq} (hk : Qs[k]? = some Q) : ∃ l, I[k]? = some l ∧ Seq1 W S Q l := by
  have := (List.getElem?_eq_some_iff.1 hk).1
  have hI : k < I.length := by rw [h.eql]; exact this
  have e : I[k]? = some I[k] := List.getElem?_eq_getElem hI
  exact ⟨_, e, h.one k Q _ hk e⟩
theorem used (h : Fam W S Qs I) {k : Nat} {Q : Sq} (hk : Qs[k]? = some Q) {n : Nat} (hn : n ∈ Q.pages) : 1 ≤ occ Qs n := Nat.le_trans (List.count_pos_iff.2 hn) (occ_le Qs k Q n hk)
/-- A change that leaves each page that stands in a list as it is. -/
theorem put (h : Fam W S Qs I) {k : Nat} {Q Q' : Sq} {S' : List Pg} {l l' : List Nat} (hk : Qs[k]? = some Q) (hl : I[k]? = some l) (hlen : S'.length = 64) (hcl : CL S')
    (hown : ∀ q : Nat, q < 64 → ownersOf S' q + Q.pages.count q = occ Qs q + Q'.pages.count q) (hr : ∀ n ∈ Q'.pages, n < 64)
    (hg : ∀ i P, i ≠ k → Qs[i]? = some P → ∀ n ∈ P.pages, ∀ j, getOf S' (n : Nat) j = getOf S n j) (h1 : Seq1 W S' Q' l') : Fam W S' (Qs.set k Q') (I.set k l') := by
  have hkl := (List.getElem?_eq_some_iff.1 hk).1
  refine ⟨h.wd, hlen, hcl, fun q hq => ?_, fun i P hi => ?_, by simp [h.eql], fun i P m hi hm => ?_⟩
  · have := occ_set Qs k Q Q' q hk
    have := hown q hq
    omega
  · rw [List.getElem?_set] at hi
    by_cases e : k = i
    · rw [if_pos e, if_pos hkl] at hi
      cases hi; exact hr
    · rw [if_neg e] at hi
      exact h.rng i P hi
  · rw [List.getElem?_set] at hi hm
    by_cases e : k = i
    · rw [if_pos e, if_pos hkl] at hi
      rw [if_pos e, if_pos (by rw [h.eql]; exact hkl)] at hm
      cases hi; cases hm; exact h1
    · rw [if_neg e] at hi hm
      exact (h.one i P m hi hm).same h.wd (hg i P (Ne.symm e) hi)
end Fam
end Go.Proofs.Ytfimadeokdlpnaa.kv
