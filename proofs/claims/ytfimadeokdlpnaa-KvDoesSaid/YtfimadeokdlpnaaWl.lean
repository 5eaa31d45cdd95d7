/- Sequences on one pool: whose is what, for any number of pages: plain law. -/
import Derived.Test.YtfimadeokdlpnaaVfd
namespace Go.Proofs.Ytfimadeokdlpnaa.kv
open K
set_option linter.unusedVariables false
set_option linter.unusedSimpArgs false
structure Ord (W : Nat) (Q : Sq) : Prop where
  wid : Q.width = W
  fl : Q.first ≤ Q.len
  fit : Q.len - Q.first ≤ Q.pages.length * (32 / W)
  hi : Q.pages.length * (32 / W) ≤ Q.len - Q.first + 32 / W
structure FamO (W N : Nat) (S : List Pg) (Qs : List Sq) : Prop where
  wd : 1 ≤ W ∧ W ≤ 32
  len : S.length = N
  cl : CL S
  own : ∀ q : Nat, q < N → ownersOf S q = occ Qs q
  rng : ∀ (k : Nat) (Q : Sq), Qs[k]? = some Q → ∀ n ∈ Q.pages, n < N
  one : ∀ (k : Nat) (Q : Sq), Qs[k]? = some Q → Ord W Q
namespace FamO
variable {W N : Nat} {S : List Pg} {Qs : List Sq}
theorem used (h : FamO W N S Qs) {k : Nat} {Q : Sq} (hk : Qs[k]? = some Q) {n : Nat} (hn : n ∈ Q.pages) : 1 ≤ occ Qs n := Nat.le_trans (List.count_pos_iff.2 hn) (occ_le Qs k Q n hk)
theorem owned (h : FamO W N S Qs) {k : Nat} {Q : Sq} (hk : Qs[k]? = some Q) {n : Nat} (hn : n ∈ Q.pages) : ownersOf S n ≠ 0 := by
  rw [h.own n (h.rng k Q hk n hn)]
  have := h.used hk hn
  omega
theorem last (h : FamO W N S Qs) {k : Nat} {Q : Sq} (hk : Qs[k]? = some Q) (ho : Q.isOpen = true) : ownersOf S Q.last ≠ 0 := h.owned hk (List.mem_of_getElem? (Sq.last_at (open_pos ho)))
theorem put (h : FamO W N S Qs) {k : Nat} {Q Q' : Sq} {S' : List Pg} (hk : Qs[k]? = some Q) (hlen : S'.length = N) (hcl : CL S')
    (hown : ∀ q : Nat, q < N → ownersOf S' q + Q.pages.count q = occ Qs q + Q'.pages.count q) (hr : ∀ n ∈ Q'.pages, n < N) (h1 : Ord W Q') : FamO W N S' (Qs.set k Q') := by
  have hkl := (List.getElem?_eq_some_iff.1 hk).1
  refine ⟨h.wd, hlen, hcl, fun q hq => ?_, fun i P hi => ?_, fun i P hi => ?_⟩
  · have := occ_set Qs k Q Q' q hk
    have := hown q hq
    omega
  · rw [List.getElem?_set] at hi
    by_cases e : k = i
    · rw [if_pos e, if_pos hkl] at hi
      cases hi; exact hr
    · rw [if_neg e] at hi
      exact h.rng i P hi
  · rw [List.getElem?_set] at hi
    by_cases e : k = i
    · rw [if_pos e, if_pos hkl] at hi
      cases hi; exact h1
    · rw [if_neg e] at hi
      exact h.one i P hi
theorem room (h : FamO W N S Qs) {k : Nat} {Q : Sq} (hk : Qs[k]? = some Q) {S1 : List Pg} {Q1 : Sq} (hr : roomOf S Q = some (S1, Q1)) : FamO W N S1 (Qs.set k Q1) ∧ Q1.len = Q.len ∧ Q1.isOpen = true := by
  have hQ := h.one k Q hk
  have hp := Seq1.per_pos h.wd
  have hkl := (List.getElem?_eq_some_iff.1 hk).1
  unfold roomOf at hr
  by_cases hn : needOf S Q = 0
  · rw [if_pos hn] at hr
    obtain ⟨rfl, rfl⟩ := Prod.mk.inj (Option.some.inj hr)
    have e : Qs.set k Q = Qs := by
      refine List.ext_getElem? fun i => ?_
      rw [List.getElem?_set]
      by_cases e : k = i
      · subst e; rw [if_pos rfl, if_pos hkl, hk]
      · rw [if_neg e]
    rw [e]
    unfold needOf at hn
    by_cases hc : (Q.isOpen && (ownersOf S Q.last == 1)) = true
    · rw [Bool.and_eq_true, beq_iff_eq] at hc
      exact ⟨h, rfl, hc.1⟩
    · rw [if_neg hc] at hn; cases hn
  · rw [if_neg hn] at hr
    by_cases hf : freeOf S = 0
    · rw [if_pos hf] at hr; cases hr
    rw [if_neg hf] at hr
    have hf : 0 < freeOf S := by omega
    obtain ⟨x, hfx, hfo⟩ := ff_free hf
    have hff : ff S < N := by rw [← h.len]; exact (List.getElem?_eq_some_iff.1 hfx).1
    have hfz : ownersOf S (ff S) = 0 := by rw [own_at hfx, hfo]
    have to := take1_own S Q.tag hf
    have tc := h.cl.take1 Q.tag
    have tl := take1_len S Q.tag
    by_cases hop : Q.isOpen = true
    · rw [if_pos hop] at hr
      obtain ⟨rfl, rfl⟩ := Prod.mk.inj (Option.some.inj hr)
      have a1 := Sq.last_at (open_pos hop)
      have hmem : Q.last ∈ Q.pages := List.mem_of_getElem? a1
      have hL := open_pos hop
      have hlo := h.last hk hop
      have hne : Q.last ≠ ff S := fun e => hlo (by rw [e]; exact hfz)
      obtain ⟨c1, c2, c3, c4⟩ := copy_all (take1 S Q.tag) tc Q.last (ff S) hne (by rw [to, if_pos rfl]; omega) 32 (by omega)
      have dn : ownersOf (copyTo (take1 S Q.tag) Q.last (ff S) 32) Q.last ≠ 0 := by rw [c3, to]; omega
      have d1 := fun q : Nat => drop1_own _ Q.last q dn
      have dl := drop1_len (copyTo (take1 S Q.tag) Q.last (ff S) 32) Q.last
      have dc := c2.drop1 (Q.last : Int)
      generalize drop1 (copyTo (take1 S Q.tag) Q.last (ff S) 32) Q.last = D at *
      refine ⟨?_, rfl, by unfold Sq.isOpen at hop ⊢; show decide (_ < (Q.pages.set _ _).length * _) = true; rw [List.length_set]; exact hop⟩
      refine h.put hk (by rw [dl, c1, tl, h.len]) dc (fun q hq => ?_) (fun n hn => ?_) ⟨hQ.wid, hQ.fl, by show _ ≤ (Q.pages.set _ _).length * _; rw [List.length_set]; exact hQ.fit, by show (Q.pages.set _ _).length * _ ≤ _; rw [List.length_set]; exact hQ.hi⟩
      · have h1 := d1 q
        rw [c3, to] at h1
        have h2 := h.own q hq
        show _ = _ + (Q.pages.set (Q.pages.length - 1) (ff S)).count q
        rw [List.count_set (by omega)]
        have e1 : Q.pages[Q.pages.length - 1]'(by omega) = Q.last := by
          have := List.getElem?_eq_getElem (l := Q.pages) (i := Q.pages.length - 1) (by omega)
          rw [a1] at this
          exact (Option.some.inj this).symm
        rw [e1]
        have hcl : 1 ≤ Q.pages.count Q.last := List.count_pos_iff.2 hmem
        by_cases e2 : q = Q.last
        · subst e2
          have e3 : (ff S == Q.last) = false := by rw [beq_eq_false_iff_ne]; exact fun e => hne e.symm
          rw [if_pos rfl, if_neg hne] at h1
          rw [e3]; simp; omega
        · have e3 : (Q.last == q) = false := by rw [beq_eq_false_iff_ne]; exact fun e => e2 e.symm
          rw [if_neg e2] at h1
          rw [e3]
          by_cases e4 : q = ff S
          · have e5 : (ff S == q) = true := by rw [beq_iff_eq]; exact e4.symm
            rw [if_pos e4] at h1
            rw [e5]; simp; omega
          · have e5 : (ff S == q) = false := by rw [beq_eq_false_iff_ne]; exact fun e => e4 e.symm
            rw [if_neg e4] at h1
            rw [e5]; simp; omega
      · rcases List.mem_or_eq_of_mem_set hn with e | e
        · exact h.rng k Q hk n e
        · rw [e]; exact hff
    · rw [if_neg hop] at hr
      obtain ⟨rfl, rfl⟩ := Prod.mk.inj (Option.some.inj hr)
      have hcl : ¬ (Q.len - Q.first < Q.pages.length * (32 / W)) := by
        intro e
        apply hop
        unfold Sq.isOpen Sq.per
        rw [hQ.wid, decide_eq_true e]
      have hfit := hQ.fit
      refine ⟨?_, rfl, ?_⟩
      · refine h.put hk (by rw [tl, h.len]) tc (fun q hq => ?_) (fun n hn => ?_) ⟨hQ.wid, hQ.fl, by show Q.len - Q.first ≤ (Q.pages ++ [ff S]).length * (32 / W); rw [List.length_append, Nat.add_mul]; omega, by show (Q.pages ++ [ff S]).length * (32 / W) ≤ Q.len - Q.first + 32 / W; rw [List.length_append, List.length_singleton, Nat.add_mul]; omega⟩
        · show _ = _ + (Q.pages ++ [ff S]).count q
          rw [to, h.own q hq, List.count_append, List.count_cons, List.count_nil]
          by_cases e : q = ff S
          · subst e; simp; omega
          · have e5 : (ff S == q) = false := by rw [beq_eq_false_iff_ne]; exact fun h => e h.symm
            rw [if_neg e, e5]; simp
        · rcases List.mem_append.1 hn with e | e
          · exact h.rng k Q hk n e
          · rw [List.mem_singleton.1 e]; exact hff
      · unfold Sq.isOpen Sq.per
        show decide (Q.len - Q.first < (Q.pages ++ [ff S]).length * (32 / Q.width)) = true
        rw [hQ.wid, List.length_append, List.length_singleton, Nat.add_mul]
        exact decide_eq_true (by omega)
theorem append (h : FamO W N S Qs) {k : Nat} {Q : Sq} (hk : Qs[k]? = some Q) (xs : List Int) {S' : List Pg} {Q' : Sq} (hr : appendOf S Q xs = some (S', Q')) : FamO W N S' (Qs.set k Q') ∧ Q'.len = Q.len + 1 := by
  unfold appendOf at hr
  cases hro : roomOf S Q with
  | none => rw [hro] at hr; cases hr
  | some r =>
    obtain ⟨S1, Q1⟩ := r
    rw [hro] at hr
    obtain ⟨rfl, rfl⟩ := Prod.mk.inj (Option.some.inj hr)
    obtain ⟨h1, h2, h3⟩ := h.room hk hro
    have hkl := (List.getElem?_eq_some_iff.1 hk).1
    have hk1 : (Qs.set k Q1)[k]? = some Q1 := by rw [List.getElem?_set, if_pos rfl, if_pos hkl]
    have hQ := h1.one k Q1 hk1
    have hp := Seq1.per_pos h.wd
    have hop := h3
    unfold Sq.isOpen Sq.per at hop
    rw [hQ.wid] at hop
    simp only [decide_eq_true_eq] at hop
    have hfl := hQ.fl
    have hhi := hQ.hi
    rw [← h2, (h.one k Q hk).wid]
    have hpg : ownersOf S1 (Q1.page Q1.len) ≠ 0 := by
      refine h1.owned hk1 ?_
      have hlt : (Q1.len - Q1.first) / (32 / W) < Q1.pages.length := (Nat.div_lt_iff_lt_mul (by omega)).2 hop
      unfold Sq.page Sq.per
      rw [hQ.wid, List.getElem?_eq_getElem hlt]
      exact List.getElem_mem hlt
    have hc := Sq.cell_lt (Q := Q1) (by rw [hQ.wid]; exact h.wd) Q1.len (W - 1) (by rw [hQ.wid]; have := h.wd; omega)
    have hwd := h.wd
    obtain ⟨b1, b2, b3, b4⟩ := row_all S1 h1.cl (Q1.page Q1.len) (Q1.cell Q1.len) xs hpg W (by omega)
    have := h1.put (Q' := { Q1 with len := Q1.len + 1 }) hk1 (by rw [b1, h1.len]) b2 (fun q hq => by rw [b3, h1.own q hq]) (h1.rng k Q1 hk1)
      ⟨hQ.wid, by show Q1.first ≤ Q1.len + 1; omega, by show Q1.len + 1 - Q1.first ≤ Q1.pages.length * (32 / W); omega, by show Q1.pages.length * (32 / W) ≤ Q1.len + 1 - Q1.first + 32 / W; omega⟩
    rw [List.set_set] at this
    exact ⟨this, rfl⟩
theorem fork (h : FamO W N S Qs) {k : Nat} {Q : Sq} (hk : Qs[k]? = some Q) : FamO W N (shareAll S Q.pages) (Qs ++ [Q]) := by
  obtain ⟨h1, h2, h3, h4⟩ := share_all Q.pages S h.cl (fun q hq => h.owned hk hq)
  refine ⟨h.wd, by rw [h1, h.len], h2, fun q hq => by rw [h3, h.own q hq, occ_app], fun i P hi => ?_, fun i P hi => ?_⟩
  · rw [List.getElem?_append] at hi
    split at hi
    · exact h.rng i P hi
    · rw [List.getElem?_singleton] at hi
      split at hi
      · cases hi; exact h.rng k Q hk
      · cases hi
  · rw [List.getElem?_append] at hi
    split at hi
    · exact h.one i P hi
    · rw [List.getElem?_singleton] at hi
      split at hi
      · cases hi; exact h.one k Q hk
      · cases hi
theorem drops (h : FamO W N S Qs) {k : Nat} {Q : Sq} (hk : Qs[k]? = some Q) (c f : Nat) (hf : f ≤ Q.len) (hfit : Q.len - f ≤ (Q.pages.drop c).length * (32 / W)) (hhi : (Q.pages.drop c).length * (32 / W) ≤ Q.len - f + 32 / W) :
    FamO W N (dropAll S (Q.pages.take c)) (Qs.set k { Q with pages := Q.pages.drop c, first := f }) := by
  have hQ := h.one k Q hk
  have hcnt : ∀ q, (Q.pages.take c).count q + (Q.pages.drop c).count q = Q.pages.count q := fun q => by rw [← List.count_append, List.take_append_drop]
  have hle := fun q => occ_le Qs k Q q hk
  obtain ⟨h1, h2, h3, h4⟩ := drop_all (Q.pages.take c) S (fun q => occ Qs q - (Q.pages.take c).count q) h.cl (fun q hq => by rw [h.len]; exact h.rng k Q hk q (List.mem_of_mem_take hq)) (fun q hq => by
    rw [h.len] at hq
    have a1 := h.own q hq
    have a2 := hcnt q
    have a3 := hle q
    show _ = occ Qs q - _ + _
    omega)
  rw [h.len] at h1 h3 h4
  refine h.put hk h1 h2 (fun q hq => ?_) (fun n hn => h.rng k Q hk n (List.mem_of_mem_drop hn)) ⟨hQ.wid, hf, hfit, hhi⟩
  have a1 := h3 q hq
  have a2 := hcnt q
  have a3 := hle q
  show _ = _ + (Q.pages.drop c).count q
  rw [a1]; omega
theorem keep (h : FamO W N S Qs) {k : Nat} {Q : Sq} (hk : Qs[k]? = some Q) (m : Int) (hm : 0 ≤ m) :
    FamO W N (keepOf Q.per Q.len m S Q.pages Q.first).1 (Qs.set k { Q with pages := (keepOf Q.per Q.len m S Q.pages Q.first).2.1, first := (keepOf Q.per Q.len m S Q.pages Q.first).2.2 }) := by
  have hQ := h.one k Q hk
  have hp := Seq1.per_pos h.wd
  have hper : Q.per = 32 / W := by unfold Sq.per; rw [hQ.wid]
  obtain ⟨c, h1, h2, h3⟩ := keep_form Q.per Q.len m hm Q.pages S Q.first
  rw [h2]
  have hfl := hQ.fl
  have hfit := hQ.fit
  have hhi := hQ.hi
  rw [hper] at h3 ⊢
  have hfc : Q.first + c * (32 / W) ≤ Q.len := by
    rcases h3 with h3 | h3
    · subst h3; omega
    · exact h3
  have hd : (Q.pages.drop c).length * (32 / W) + c * (32 / W) = Q.pages.length * (32 / W) := by rw [← Nat.add_mul, List.length_drop]; congr 1; omega
  exact h.drops hk c (Q.first + c * (32 / W)) hfc (by omega) (by omega)
theorem release (h : FamO W N S Qs) {k : Nat} {Q : Sq} (hk : Qs[k]? = some Q) : FamO W N (dropAll S Q.pages) (Qs.set k { Q with pages := [], first := Q.len }) := by
  have := h.drops hk Q.pages.length Q.len (Nat.le_refl _) (by omega) (by rw [List.drop_length]; simp)
  rw [List.take_length, List.drop_length] at this
  exact this
theorem most (h : FamO W N S Qs) (m : Nat) (hm : ∀ (k : Nat) (Q : Sq), Qs[k]? = some Q → Q.len ≤ m) : Most (Qs.length * (m + 1)) S := by
  intro x hx
  obtain ⟨i, hi, rfl⟩ := List.mem_iff_getElem.1 hx
  have e := List.getElem?_eq_getElem hi
  rw [← own_at e, h.own i (by rw [← h.len]; exact hi)]
  refine occ_max Qs (m + 1) i fun k Q hk => ?_
  have hQ := h.one k Q hk
  have h1 := hm k Q hk
  have h2 := hQ.hi
  have hp := Seq1.per_pos h.wd
  rcases Nat.eq_zero_or_pos Q.pages.length with e | e
  · omega
  · obtain ⟨L, hL⟩ : ∃ L, Q.pages.length = L + 1 := ⟨Q.pages.length - 1, by omega⟩
    rw [hL, Nat.add_mul] at h2
    have := Nat.le_mul_of_pos_right L (show 0 < 32 / W by omega)
    omega
theorem start (hW : 1 ≤ W ∧ W ≤ 32) (N : Nat) (tag : ByteArray) : FamO W N (List.replicate N Pg.no) [⟨tag, W, [], 0, 0⟩] := by
  refine ⟨hW, by simp, fun q x hx => ?_, fun q hq => ?_, fun i P hi => ?_, fun i P hi => ?_⟩
  · rw [List.getElem?_replicate] at hx
    split at hx
    · cases hx; rfl
    · cases hx
  · rw [own_at (x := Pg.no) (by rw [List.getElem?_replicate, if_pos hq])]; rfl
  · rw [List.getElem?_singleton] at hi
    split at hi
    · cases hi; simp
    · cases hi
  · rw [List.getElem?_singleton] at hi
    split at hi
    · cases hi
      exact ⟨rfl, Nat.le_refl _, by simp, by simp⟩
    · cases hi
end FamO
end Go.Proofs.Ytfimadeokdlpnaa.kv
