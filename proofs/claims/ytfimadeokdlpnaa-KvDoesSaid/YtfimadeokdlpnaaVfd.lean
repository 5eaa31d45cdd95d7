/- Sequences on one pool: Fork, Keep, Release, and the end: plain law. -/
import Derived.Test.YtfimadeokdlpnaaVfc
namespace Go.Proofs.Ytfimadeokdlpnaa.kv
open K
set_option linter.unusedVariables false
set_option linter.unusedSimpArgs false
theorem keep_form (per len : Nat) (m : Int) (hm : 0 ≤ m) : ∀ (t : List Nat) (S : List Pg) (f : Nat), ∃ c, c ≤ t.length ∧ keepOf per len m S t f = (dropAll S (t.take c), t.drop c, f + c * per) ∧ (c = 0 ∨ f + c * per ≤ len)
  | [], S, f => ⟨0, Nat.le_refl _, by simp [keepOf, dropAll], .inl rfl⟩
  | g :: t, S, f => by
    unfold keepOf
    by_cases hc : (f : Int) + per ≤ len - m
    · rw [if_pos hc]
      obtain ⟨c, h1, h2, h3⟩ := keep_form per len m hm t (drop1 S g) (f + per)
      refine ⟨c + 1, by simp; omega, ?_, .inr ?_⟩
      · rw [h2, Nat.add_mul, Nat.one_mul]
        have : f + per + c * per = f + (c * per + per) := by omega
        rw [this]; rfl
      · rw [Nat.add_mul, Nat.one_mul]
        rcases h3 with h3 | h3
        · subst h3; omega
        · omega
    · rw [if_neg hc]
      exact ⟨0, Nat.zero_le _, by simp [dropAll], .inl rfl⟩
namespace Fam
variable {W : Nat} {S : List Pg} {Qs : List Sq} {I : List (List Nat)}
theorem fork (h : Fam W S Qs I) {k : Nat} {Q : Sq} {l : List Nat} (hk : Qs[k]? = some Q) (hl : I[k]? = some l) : Fam W (shareAll S Q.pages) (Qs ++ [Q]) (I ++ [l]) := by
  obtain ⟨h1, h2, h3, h4⟩ := share_all Q.pages S h.cl (fun q hq => by rw [h.own q (h.rng k Q hk q hq)]; have := h.used hk hq; omega)
  refine ⟨h.wd, by rw [h1, h.len], h2, fun q hq => by rw [h3, h.own q hq, occ_app], fun i P hi => ?_, by simp [h.eql], fun i P m hi hm => ?_⟩
  · rw [List.getElem?_append] at hi
    split at hi
    · exact h.rng i P hi
    · rw [List.getElem?_singleton] at hi
      split at hi
      · cases hi; exact h.rng k Q hk
      · cases hi
  · rw [List.getElem?_append] at hi hm
    rw [h.eql] at hm
    split at hi
    next e =>
      rw [if_pos e] at hm
      exact (h.one i P m hi hm).same h.wd fun n _ j => h4 n j
    next e =>
      rw [if_neg e] at hm
      rw [List.getElem?_singleton] at hi hm
      split at hi
      next e2 =>
        rw [if_pos e2] at hm
        cases hi; cases hm
        exact (h.one k Q l hk hl).same h.wd fun n _ j => h4 n j
      · cases hi
/-- Pages let go of, from the front. -/
theorem drops (h : Fam W S Qs I) {k : Nat} {Q : Sq} {l : List Nat} (hk : Qs[k]? = some Q) (hl : I[k]? = some l) (c f : Nat) (hf : f ≤ Q.len) (hfit : Q.len - f ≤ (Q.pages.drop c).length * (32 / W)) (hhi : (Q.pages.drop c).length * (32 / W) ≤ Q.len - f + 32 / W)
    (hrow : ∀ i, f ≤ i → i < Q.len → Q.first ≤ i ∧ ({ Q with pages := Q.pages.drop c, first := f } : Sq).page i = Q.page i ∧ ({ Q with pages := Q.pages.drop c, first := f } : Sq).cell i = Q.cell i) :
    Fam W (dropAll S (Q.pages.take c)) (Qs.set k { Q with pages := Q.pages.drop c, first := f }) I := by
  have hQ := h.one k Q l hk hl
  have hkl := (List.getElem?_eq_some_iff.1 hk).1
  have hIk : I.set k l = I := by
    refine List.ext_getElem? fun i => ?_
    rw [List.getElem?_set]
    by_cases e : k = i
    · subst e; rw [if_pos rfl, if_pos (by rw [h.eql]; exact hkl), hl]
    · rw [if_neg e]
  have hcnt : ∀ q, (Q.pages.take c).count q + (Q.pages.drop c).count q = Q.pages.count q := fun q => by rw [← List.count_append, List.take_append_drop]
  have hle := fun q => occ_le Qs k Q q hk
  obtain ⟨h1, h2, h3, h4⟩ := drop_all (Q.pages.take c) S (fun q => occ Qs q - (Q.pages.take c).count q) h.cl (fun q hq => by rw [h.len]; exact h.rng k Q hk q (List.mem_of_mem_take hq)) (fun q hq => by
    rw [h.len] at hq
    have a1 := h.own q hq
    have a2 := hcnt q
    have a3 := hle q
    show _ = occ Qs q - _ + _
    omega)
  rw [h.len] at h1 h3 h4
  have keepG : ∀ n, n < 64 → (Q.pages.take c).count n < occ Qs n → ∀ j, getOf (dropAll S (Q.pages.take c)) (n : Nat) j = getOf S n j := fun n hn hc j => h4 n j hn (by show occ Qs n - _ ≠ 0; omega)
  rw [← hIk]
  refine h.put hk hl h1 h2 (fun q hq => ?_) (fun n hn => h.rng k Q hk n (List.mem_of_mem_drop hn)) (fun i P hik hi n hn j => keepG n (h.rng i P hi n hn) ?_ j) ?_
  · have a1 := h3 q hq
    have a2 := hcnt q
    have a3 := hle q
    show _ = _ + (Q.pages.drop c).count q
    rw [a1]; omega
  · have a1 := occ_two Qs i k P Q n hik hi hk
    have a2 := hcnt n
    have a3 : 0 < P.pages.count n := List.count_pos_iff.2 hn
    omega
  · refine ⟨hQ.tag, hQ.wid, hQ.len, hf, hfit, hhi, fun i s e1 e2 => ?_⟩
    have e1 : f ≤ i := e1
    have hi : i < Q.len := by rw [hQ.len]; exact (List.getElem?_eq_some_iff.1 e2).1
    obtain ⟨b1, b2, b3⟩ := hrow i e1 hi
    rw [← hQ.row i s b1 e2]
    refine rowOf_same rfl b3 fun j hj => ?_
    rw [b2]
    obtain ⟨p1, p2⟩ := hQ.page_mem h.wd b1 hi
    refine keepG _ (h.rng k Q hk _ p2) ?_ _
    have hm : Q.page i ∈ Q.pages.drop c := by
      have hp := Seq1.per_pos h.wd
      have hlt : (i - f) / (32 / W) < (Q.pages.drop c).length := (Nat.div_lt_iff_lt_mul (by omega)).2 (by omega)
      have e : ({ Q with pages := Q.pages.drop c, first := f } : Sq).page i = (Q.pages.drop c)[(i - f) / (32 / W)] := by
        unfold Sq.page Sq.per
        show ((Q.pages.drop c)[(i - f) / (32 / Q.width)]?).getD 0 = _
        rw [hQ.wid, List.getElem?_eq_getElem hlt]; rfl
      rw [← b2, e]
      exact List.getElem_mem hlt
    have a1 := hcnt (Q.page i)
    have a2 := hle (Q.page i)
    have a3 : 0 < (Q.pages.drop c).count (Q.page i) := List.count_pos_iff.2 hm
    omega
theorem keep (h : Fam W S Qs I) {k : Nat} {Q : Sq} {l : List Nat} (hk : Qs[k]? = some Q) (hl : I[k]? = some l) (m : Int) (hm : 0 ≤ m) :
    Fam W (keepOf Q.per Q.len m S Q.pages Q.first).1 (Qs.set k { Q with pages := (keepOf Q.per Q.len m S Q.pages Q.first).2.1, first := (keepOf Q.per Q.len m S Q.pages Q.first).2.2 }) I := by
  have hQ := h.one k Q l hk hl
  have hp := Seq1.per_pos h.wd
  have hper : Q.per = 32 / W := by unfold Sq.per; rw [hQ.wid]
  obtain ⟨c, h1, h2, h3⟩ := keep_form Q.per Q.len m hm Q.pages S Q.first
  rw [h2]
  have hfl := hQ.fl
  have hfit := hQ.fit
  have hhi := hQ.hi
  rw [hper] at h3 ⊢
  have hfc : Q.first + c * (32 / W) ≤ Q.len := by
    rcases h3 with h3 | h3
    · subst h3; omega
    · exact h3
  have hd : (Q.pages.drop c).length * (32 / W) + c * (32 / W) = Q.pages.length * (32 / W) := by rw [← Nat.add_mul, List.length_drop]; congr 1; omega
  refine h.drops hk hl c (Q.first + c * (32 / W)) hfc (by omega) (by omega) fun i e1 e2 => ⟨by omega, ?_, ?_⟩
  · have hx : i - Q.first = i - (Q.first + c * (32 / W)) + c * (32 / W) := by omega
    unfold Sq.page Sq.per
    show ((Q.pages.drop c)[(i - (Q.first + c * (32 / W))) / (32 / Q.width)]?).getD 0 = _
    rw [hQ.wid, List.getElem?_drop, hx, Nat.add_mul_div_right _ _ (by omega), Nat.add_comm c]
  · have hx : i - Q.first = i - (Q.first + c * (32 / W)) + c * (32 / W) := by omega
    unfold Sq.cell Sq.per
    show (i - (Q.first + c * (32 / W))) % (32 / Q.width) * Q.width = _
    rw [hQ.wid, hx, Nat.add_mul_mod_self_right]
theorem release (h : Fam W S Qs I) {k : Nat} {Q : Sq} {l : List Nat} (hk : Qs[k]? = some Q) (hl : I[k]? = some l) : Fam W (dropAll S Q.pages) (Qs.set k { Q with pages := [], first := Q.len }) I := by
  have := h.drops hk hl Q.pages.length Q.len (Nat.le_refl _) (by omega) (by rw [List.drop_length]; simp) (fun i e1 e2 => absurd e2 (by omega))
  rw [List.take_length, List.drop_length] at this
  exact this
theorem first_neg (h : Fam W S Qs I) {k : Nat} {Q : Sq} {l : List Nat} (hk : Qs[k]? = some Q) (hl : I[k]? = some l) : Q.len = l.length := (h.one k Q l hk hl).len
/-- No page has many owners. -/
theorem most (h : Fam W S Qs I) (m : Nat) (hm : ∀ (k : Nat) (l : List Nat), I[k]? = some l → l.length ≤ m) : Most (Qs.length * (m + 1)) S := by
  intro x hx
  obtain ⟨i, hi, rfl⟩ := List.mem_iff_getElem.1 hx
  have e := List.getElem?_eq_getElem hi
  rw [← own_at e, h.own i (by rw [← h.len]; exact hi)]
  refine occ_max Qs (m + 1) i fun k Q hk => ?_
  obtain ⟨l, hl, hQ⟩ := h.ex hk
  have h1 := hm k l hl
  have h2 := hQ.hi
  have h3 := hQ.len
  have hp := Seq1.per_pos h.wd
  rcases Nat.eq_zero_or_pos Q.pages.length with e | e
  · omega
  · obtain ⟨L, hL⟩ : ∃ L, Q.pages.length = L + 1 := ⟨Q.pages.length - 1, by omega⟩
    rw [hL, Nat.add_mul] at h2
    have := Nat.le_mul_of_pos_right L (show 0 < 32 / W by omega)
    omega
theorem done (h : Fam W S Qs I) (he : ∀ (k : Nat) (Q : Sq), Qs[k]? = some Q → Q.pages = []) : freeOf S = 64 ∧ countOf S tagR = 0 := by
  have hz : ∀ x ∈ S, x.own = 0 := fun x hx => by
    obtain ⟨i, hi, rfl⟩ := List.mem_iff_getElem.1 hx
    rw [← own_at (List.getElem?_eq_getElem hi), h.own i (by rw [← h.len]; exact hi)]
    exact occ_zero Qs i he
  constructor
  · unfold freeOf
    rw [← h.len]
    exact List.countP_eq_length.2 fun x hx => by rw [hz x hx]; rfl
  · unfold countOf
    exact List.countP_eq_zero.2 fun x hx => by simp [cnt, hz x hx]
theorem start (hW : 1 ≤ W ∧ W ≤ 32) : Fam W (List.replicate 64 Pg.no) [⟨tagR, W, [], 0, 0⟩] [[]] := by
  refine ⟨hW, by simp, fun q x hx => ?_, fun q hq => ?_, fun i P hi => ?_, rfl, fun i P m hi hm => ?_⟩
  · rw [List.getElem?_replicate] at hx
    split at hx
    · cases hx; rfl
    · cases hx
  · rw [own_at (x := Pg.no) (by rw [List.getElem?_replicate, if_pos hq])]; rfl
  · rw [List.getElem?_singleton] at hi
    split at hi
    · cases hi; simp
    · cases hi
  · rw [List.getElem?_singleton] at hi hm
    split at hi
    next e =>
      rw [if_pos e] at hm
      cases hi; cases hm
      exact ⟨rfl, rfl, rfl, Nat.le_refl _, by simp, by simp, fun i s _ h => by simp at h⟩
    · cases hi
end Fam
end Go.Proofs.Ytfimadeokdlpnaa.kv
