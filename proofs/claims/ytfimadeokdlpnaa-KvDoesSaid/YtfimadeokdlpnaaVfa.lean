/- Owners and numbers of the pages behind each change: plain law. -/
import Derived.Test.YtfimadeokdlpnaaVso
namespace Go.Proofs.Ytfimadeokdlpnaa.kv
open K
set_option linter.unusedVariables false
set_option linter.unusedSimpArgs false
theorem own_at {S : List Pg} {q : Nat} {x : Pg} (h : S[q]? = some x) : ownersOf S q = x.own := by
  unfold ownersOf
  by_cases ho : x.own = 0
  · rw [look_free h ho, ho]
  · rw [look_in h ho]
theorem look_out {S : List Pg} {q : Nat} (h : S[q]? = none) : look S q = none := by
  unfold look
  rw [if_neg (by omega), Int.toNat_natCast, h]
theorem own_out {S : List Pg} {q : Nat} (h : S[q]? = none) : ownersOf S q = 0 := by unfold ownersOf; rw [look_out h]
theorem get_at {S : List Pg} {q : Nat} {x : Pg} (h : S[q]? = some x) (ho : x.own ≠ 0) (k : Nat) : getOf S q k = x.cells[k]?.getD 0 := by
  unfold getOf
  rw [look_in h ho]
theorem own_pos {S : List Pg} {q : Nat} (h : ownersOf S q ≠ 0) : ∃ x, S[q]? = some x ∧ x.own ≠ 0 ∧ look S q = some x := by
  cases hx : S[q]? with
  | none => exact absurd (own_out hx) h
  | some x =>
    rw [own_at hx] at h
    exact ⟨x, rfl, h, look_in hx h⟩
theorem look_zero {S : List Pg} {q : Nat} (h : ownersOf S q = 0) : look S q = none := by
  cases hx : S[q]? with
  | none => exact look_out hx
  | some x => rw [own_at hx] at h; exact look_free hx h
/-- Thirty-two numbers a page. -/
def CL (S : List Pg) : Prop := ∀ (q : Nat) (x : Pg), S[q]? = some x → x.cells.length = 32
theorem CL.set {S : List Pg} (h : CL S) (i : Nat) {y : Pg} (hy : y.cells.length = 32) : CL (S.set i y) := fun q x hx => by
  rw [List.getElem?_set] at hx
  split at hx
  · split at hx
    · cases hx; exact hy
    · cases hx
  · exact h q x hx
theorem set_get {S : List Pg} {n q : Nat} {x y : Pg} (hx : S[n]? = some x) : (S.set n y)[q]? = if q = n then some y else S[q]? := by
  have := (List.getElem?_eq_some_iff.1 hx).1
  rw [List.getElem?_set]
  by_cases e : n = q
  · rw [if_pos e, if_pos (by omega), if_pos e.symm]
  · rw [if_neg e, if_neg (fun h => e h.symm)]
/-! put1 -/
theorem put1_len (S : List Pg) (n : Int) (k : Nat) (v : Int) : (put1 S n k v).length = S.length := by unfold put1; split <;> simp
theorem put1_own (S : List Pg) (n k : Nat) (v : Int) (q : Nat) : ownersOf (put1 S n k v) q = ownersOf S q := by
  by_cases h : ownersOf S n = 0
  · unfold put1; rw [look_zero h]
  · obtain ⟨x, hx, ho, hl⟩ := own_pos h
    have e : put1 S n k v = S.set n { x with cells := x.cells.set k v } := by unfold put1; rw [hl, Int.toNat_natCast]
    rw [e]
    by_cases hq : q = n
    · subst hq
      rw [own_at (x := { x with cells := x.cells.set k v }) (by rw [set_get hx, if_pos rfl]), own_at hx]
    · have e2 : (S.set n { x with cells := x.cells.set k v })[q]? = S[q]? := by rw [set_get hx, if_neg hq]
      cases hz : S[q]? with
      | none => rw [own_out (by rw [e2, hz]), own_out hz]
      | some z => rw [own_at (by rw [e2, hz]), own_at hz]
theorem get_same {S S' : List Pg} {q : Nat} (h : S'[q]? = S[q]?) (k : Nat) : getOf S' q k = getOf S q k := by
  unfold getOf look
  rw [if_neg (by omega), if_neg (by omega), Int.toNat_natCast, h]
theorem own_same {S S' : List Pg} {q : Nat} (h : S'[q]? = S[q]?) : ownersOf S' q = ownersOf S q := by
  unfold ownersOf look
  rw [if_neg (by omega), if_neg (by omega), Int.toNat_natCast, h]
theorem put1_get (S : List Pg) (hc : CL S) (n k : Nat) (v : Int) (q j : Nat) (hn : ownersOf S n ≠ 0) (hk : k < 32) : getOf (put1 S n k v) q j = if q = n ∧ j = k then v else getOf S q j := by
  obtain ⟨x, hx, ho, hl⟩ := own_pos hn
  have e : put1 S n k v = S.set n { x with cells := x.cells.set k v } := by unfold put1; rw [hl, Int.toNat_natCast]
  rw [e]
  by_cases hq : q = n
  · subst hq
    rw [get_at (x := { x with cells := x.cells.set k v }) (by rw [set_get hx, if_pos rfl]) ho, get_at hx ho]
    have := hc q x hx
    show (x.cells.set k v)[j]?.getD 0 = _
    rw [List.getElem?_set]
    by_cases hj : k = j
    · rw [if_pos hj, if_pos (by omega), if_pos ⟨rfl, hj.symm⟩]; rfl
    · rw [if_neg hj, if_neg (fun h => hj h.2.symm)]
  · rw [if_neg (fun h => hq h.1)]
    exact get_same (by rw [set_get hx, if_neg hq]) j
theorem CL.put1 {S : List Pg} (h : CL S) (n : Int) (k : Nat) (v : Int) : CL (put1 S n k v) := by
  unfold kv.put1
  split
  next x hx =>
    obtain ⟨i, rfl, h1, h2⟩ := look_some hx
    refine h.set _ ?_
    show (x.cells.set k v).length = 32
    rw [List.length_set]; exact h i x h1
  next => exact h
/-! share1 -/
theorem share1_len (S : List Pg) (n : Int) : (share1 S n).length = S.length := by unfold share1; split <;> simp
theorem share1_own (S : List Pg) (n q : Nat) (hn : ownersOf S n ≠ 0) : ownersOf (share1 S n) q = ownersOf S q + if q = n then 1 else 0 := by
  obtain ⟨x, hx, ho, hl⟩ := own_pos hn
  have e : share1 S n = S.set n { x with own := x.own + 1 } := by unfold share1; rw [hl, Int.toNat_natCast]
  rw [e]
  by_cases hq : q = n
  · subst hq
    rw [own_at (x := { x with own := x.own + 1 }) (by rw [set_get hx, if_pos rfl]), own_at hx, if_pos rfl]
  · rw [if_neg hq]
    exact own_same (by rw [set_get hx, if_neg hq])
theorem share1_get (S : List Pg) (n q j : Nat) : getOf (share1 S n) q j = getOf S q j := by
  by_cases hn : ownersOf S n = 0
  · unfold share1; rw [look_zero hn]
  obtain ⟨x, hx, ho, hl⟩ := own_pos hn
  have e : share1 S n = S.set n { x with own := x.own + 1 } := by unfold share1; rw [hl, Int.toNat_natCast]
  rw [e]
  by_cases hq : q = n
  · subst hq
    rw [get_at (x := { x with own := x.own + 1 }) (by rw [set_get hx, if_pos rfl]) (by show x.own + 1 ≠ 0; omega), get_at hx ho]
  · exact get_same (by rw [set_get hx, if_neg hq]) j
theorem CL.share1 {S : List Pg} (h : CL S) (n : Int) : CL (share1 S n) := by
  unfold kv.share1
  split
  next x hx =>
    obtain ⟨i, rfl, h1, h2⟩ := look_some hx
    exact h.set _ (h i x h1)
  next => exact h
/-! drop1 -/
theorem drop1_len (S : List Pg) (n : Int) : (drop1 S n).length = S.length := by unfold drop1; split <;> simp
theorem drop1_own (S : List Pg) (n q : Nat) (hn : ownersOf S n ≠ 0) : ownersOf (drop1 S n) q + (if q = n then 1 else 0) = ownersOf S q := by
  obtain ⟨x, hx, ho, hl⟩ := own_pos hn
  have e : drop1 S n = S.set n (if x.own = 1 then Pg.no else { x with own := x.own - 1 }) := by unfold drop1; rw [hl, Int.toNat_natCast]
  rw [e]
  by_cases hq : q = n
  · subst hq
    rw [own_at (x := if x.own = 1 then Pg.no else { x with own := x.own - 1 }) (by rw [set_get hx, if_pos rfl]), own_at hx, if_pos rfl]
    split
    · show 0 + 1 = _; omega
    · show x.own - 1 + 1 = _; omega
  · rw [if_neg hq]
    exact own_same (by rw [set_get hx, if_neg hq])
theorem drop1_get (S : List Pg) (n q j : Nat) (h : ownersOf (drop1 S n) q ≠ 0) : getOf (drop1 S n) q j = getOf S q j := by
  by_cases hn : ownersOf S n = 0
  · unfold drop1; rw [look_zero hn]
  obtain ⟨x, hx, ho, hl⟩ := own_pos hn
  have e : drop1 S n = S.set n (if x.own = 1 then Pg.no else { x with own := x.own - 1 }) := by unfold drop1; rw [hl, Int.toNat_natCast]
  rw [e] at h ⊢
  by_cases hq : q = n
  · subst hq
    by_cases h1 : x.own = 1
    · rw [if_pos h1] at h
      rw [own_at (x := Pg.no) (by rw [set_get hx, if_pos rfl])] at h
      exact absurd rfl h
    · rw [if_neg h1]
      rw [get_at (x := { x with own := x.own - 1 }) (by rw [set_get hx, if_pos rfl]) (by show x.own - 1 ≠ 0; omega), get_at hx ho]
  · exact get_same (by rw [set_get hx, if_neg hq]) j
theorem CL.drop1 {S : List Pg} (h : CL S) (n : Int) : CL (drop1 S n) := by
  unfold kv.drop1
  split
  next x hx =>
    obtain ⟨i, rfl, h1, h2⟩ := look_some hx
    refine h.set _ ?_
    split
    · rfl
    · exact h i x h1
  next => exact h
/-! take1 -/
theorem take1_len (S : List Pg) (tag : ByteArray) : (take1 S tag).length = S.length := by unfold take1; simp
theorem ff_free {S : List Pg} (h : 0 < freeOf S) : ∃ x, S[ff S]? = some x ∧ x.own = 0 := by
  unfold freeOf at h
  rw [List.countP_pos_iff] at h
  have hlt : ff S < S.length := List.findIdx_lt_length.2 h
  refine ⟨S[ff S], List.getElem?_eq_getElem hlt, ?_⟩
  have := List.findIdx_getElem (p := fun x : Pg => x.own == 0) (xs := S) (w := hlt)
  exact beq_iff_eq.1 this
theorem take1_own (S : List Pg) (tag : ByteArray) (hf : 0 < freeOf S) (q : Nat) : ownersOf (take1 S tag) q = ownersOf S q + if q = ff S then 1 else 0 := by
  obtain ⟨x, hx, ho⟩ := ff_free hf
  unfold take1
  by_cases hq : q = ff S
  · rw [if_pos hq, hq, own_at (x := Pg.of tag) (by rw [set_get hx, if_pos rfl]), own_at hx, ho]; rfl
  · rw [if_neg hq]
    exact own_same (by rw [set_get hx, if_neg hq])
theorem take1_get (S : List Pg) (tag : ByteArray) (hf : 0 < freeOf S) (q : Nat) (hq : q ≠ ff S) (j : Nat) : getOf (take1 S tag) q j = getOf S q j := by
  obtain ⟨x, hx, ho⟩ := ff_free hf
  unfold take1
  exact get_same (by rw [set_get hx, if_neg hq]) j
theorem CL.take1 {S : List Pg} (h : CL S) (tag : ByteArray) : CL (take1 S tag) := h.set _ rfl
/-! copyTo, putRow -/
theorem copy_all (S : List Pg) (hc : CL S) (old j : Nat) (hne : old ≠ j) (hj : ownersOf S j ≠ 0) : ∀ k, k ≤ 32 → (copyTo S old j k).length = S.length ∧ CL (copyTo S old j k) ∧ (∀ q : Nat, ownersOf (copyTo S old j k) q = ownersOf S q) ∧
    ∀ q i : Nat, getOf (copyTo S old j k) q i = if q = j ∧ i < k then getOf S old i else getOf S q i
  | 0, _ => ⟨rfl, hc, fun _ => rfl, fun q i => by rw [if_neg (by omega)]; rfl⟩
  | k + 1, hk => by
    obtain ⟨h1, h2, h3, h4⟩ := copy_all S hc old j hne hj k (by omega)
    refine ⟨by show (put1 _ _ _ _).length = _; rw [put1_len, h1], h2.put1 _ _ _, fun q => by show ownersOf (put1 _ _ _ _) _ = _; rw [put1_own, h3], fun q i => ?_⟩
    show getOf (put1 _ _ _ _) _ _ = _
    rw [put1_get _ h2 _ _ _ _ _ (by rw [h3]; exact hj) (by omega)]
    by_cases e : q = j ∧ i = k
    · rw [if_pos e, if_pos ⟨e.1, by omega⟩, h4, if_neg (fun h => hne h.1), e.2]
    · rw [if_neg e, h4]
      by_cases e2 : q = j ∧ i < k
      · rw [if_pos e2, if_pos ⟨e2.1, by omega⟩]
      · rw [if_neg e2, if_neg (fun h => e2 ⟨h.1, by rcases Nat.lt_or_ge i k with l | l; exact l; exact absurd ⟨h.1, by omega⟩ e⟩)]
theorem row_all (S : List Pg) (hc : CL S) (pg c : Nat) (xs : List Int) (hp : ownersOf S pg ≠ 0) : ∀ k, c + k ≤ 32 → (putRow S pg c xs k).length = S.length ∧ CL (putRow S pg c xs k) ∧ (∀ q : Nat, ownersOf (putRow S pg c xs k) q = ownersOf S q) ∧
    ∀ q i : Nat, getOf (putRow S pg c xs k) q i = if q = pg ∧ c ≤ i ∧ i < c + k then xs.getD (i - c) 0 else getOf S q i
  | 0, _ => ⟨rfl, hc, fun _ => rfl, fun q i => by rw [if_neg (by omega)]; rfl⟩
  | k + 1, hk => by
    obtain ⟨h1, h2, h3, h4⟩ := row_all S hc pg c xs hp k (by omega)
    refine ⟨by show (put1 _ _ _ _).length = _; rw [put1_len, h1], h2.put1 _ _ _, fun q => by show ownersOf (put1 _ _ _ _) _ = _; rw [put1_own, h3], fun q i => ?_⟩
    show getOf (put1 _ _ _ _) _ _ = _
    rw [put1_get _ h2 _ _ _ _ _ (by rw [h3]; exact hp) (by omega)]
    by_cases e : q = pg ∧ i = c + k
    · rw [if_pos e, if_pos ⟨e.1, by omega, by omega⟩, e.2, Nat.add_sub_cancel_left]
    · rw [if_neg e, h4]
      by_cases e2 : q = pg ∧ c ≤ i ∧ i < c + k
      · rw [if_pos e2, if_pos ⟨e2.1, by omega, by omega⟩]
      · rw [if_neg e2, if_neg (fun h => e2 ⟨h.1, h.2.1, by rcases Nat.lt_or_ge i (c + k) with l | l; exact l; exact absurd ⟨h.1, by omega⟩ e⟩)]
/-! dropAll, shareAll -/
theorem drop_all : ∀ (t : List Nat) (S : List Pg) (d : Nat → Nat), CL S → (∀ q, q ∈ t → q < S.length) → (∀ q, q < S.length → ownersOf S q = d q + t.count q) →
    (dropAll S t).length = S.length ∧ CL (dropAll S t) ∧ (∀ q, q < S.length → ownersOf (dropAll S t) q = d q) ∧ ∀ q j, q < S.length → d q ≠ 0 → getOf (dropAll S t) q j = getOf S q j
  | [], S, d, hc, _, h => ⟨rfl, hc, fun q hq => by have := h q hq; simp at this; exact this, fun _ _ _ _ => rfl⟩
  | n :: t, S, d, hc, hr, h => by
    have hn := hr n (by simp)
    have hon := h n hn
    rw [List.count_cons_self] at hon
    have hd : ∀ q, q < S.length → ownersOf (drop1 S n) q = d q + t.count q := fun q hq => by
      have := drop1_own S n q (by omega)
      have h2 := h q hq
      rw [List.count_cons] at h2
      by_cases e : q = n
      · subst e; simp at this h2; omega
      · have e2 : (n == q) = false := by rw [beq_eq_false_iff_ne]; omega
        rw [if_neg e] at this
        rw [e2] at h2
        simp at this h2; omega
    obtain ⟨h1, h2, h3, h4⟩ := drop_all t (drop1 S n) d (hc.drop1 n) (fun q hq => by rw [drop1_len]; exact hr q (by simp [hq])) (fun q hq => hd q (by rw [drop1_len] at hq; exact hq))
    rw [drop1_len] at h1 h3 h4
    refine ⟨h1, h2, h3, fun q j hq hdq => ?_⟩
    show getOf (dropAll (drop1 S n) t) q j = _
    rw [h4 q j hq hdq, drop1_get _ _ _ _ (by rw [hd q hq]; omega)]
theorem share_all : ∀ (t : List Nat) (S : List Pg), CL S → (∀ q, q ∈ t → ownersOf S q ≠ 0) →
    (shareAll S t).length = S.length ∧ CL (shareAll S t) ∧ (∀ q : Nat, ownersOf (shareAll S t) q = ownersOf S q + t.count q) ∧ ∀ q j : Nat, getOf (shareAll S t) q j = getOf S q j
  | [], S, hc, _ => ⟨rfl, hc, fun q => by simp [shareAll], fun _ _ => rfl⟩
  | n :: t, S, hc, hr => by
    have hn := hr n (by simp)
    obtain ⟨h1, h2, h3, h4⟩ := share_all t (share1 S n) (hc.share1 n) (fun q hq => by rw [share1_own S n q hn]; have := hr q (by simp [hq]); omega)
    rw [share1_len] at h1
    refine ⟨h1, h2, fun q => ?_, fun q j => ?_⟩
    · show ownersOf (shareAll (share1 S n) t) q = _
      rw [h3, share1_own S n q hn, List.count_cons]
      by_cases e : q = n
      · subst e; simp; omega
      · have e2 : (n == q) = false := by rw [beq_eq_false_iff_ne]; omega
        rw [if_neg e, e2]; simp
    · show getOf (shareAll (share1 S n) t) q j = _
      rw [h4, share1_get]
end Go.Proofs.Ytfimadeokdlpnaa.kv
