/- Sequences on one pool: what each act does to them: plain law. -/
import Derived.Test.YtfimadeokdlpnaaVfb
namespace Go.Proofs.Ytfimadeokdlpnaa.kv
open K
set_option linter.unusedVariables false
set_option linter.unusedSimpArgs false
theorem Seq1.last_at {W : Nat} {S : List Pg} {Q : Sq} {l : List Nat} (h : Seq1 W S Q l) (hW : 1 ≤ W ∧ W ≤ 32) (ho : Q.isOpen = true) : Q.pages[Q.pages.length - 1]? = some Q.last ∧ (Q.len - Q.first) / (32 / W) = Q.pages.length - 1 ∧ Q.page Q.len = Q.last := by
  have h1 := Sq.last_at (open_pos ho)
  have hp := Seq1.per_pos hW
  unfold Sq.isOpen Sq.per at ho
  rw [h.wid] at ho
  simp only [decide_eq_true_eq] at ho
  have hi := h.hi
  have e : (Q.len - Q.first) / (32 / W) = Q.pages.length - 1 := by
    have hL : 0 < Q.pages.length := by
      rcases Nat.eq_zero_or_pos Q.pages.length with e | e
      · rw [e] at ho; omega
      · exact e
    obtain ⟨L, hL2⟩ : ∃ L, Q.pages.length = L + 1 := ⟨Q.pages.length - 1, by omega⟩
    rw [hL2] at ho hi ⊢
    refine Nat.div_eq_of_lt_le ?_ ?_
    · show (L + 1 - 1) * _ ≤ _
      rw [Nat.add_mul] at hi
      simp only [Nat.add_sub_cancel]; omega
    · show _ < (L + 1 - 1 + 1) * _
      simp only [Nat.add_sub_cancel]; exact ho
  refine ⟨h1, e, ?_⟩
  unfold Sq.page Sq.per
  rw [h.wid, e, h1]; rfl
theorem Sq.page_len (Q : Sq) (n i : Nat) : ({ Q with len := n } : Sq).page i = Q.page i := rfl
theorem Sq.cell_len (Q : Sq) (n i : Nat) : ({ Q with len := n } : Sq).cell i = Q.cell i := rfl
theorem rowN_get (W s j : Nat) (h : j < W) : (rowN W s)[j]? = some (((s * 31 + j : Nat) : Int)) := by
  unfold rowN
  rw [List.getElem?_map, List.getElem?_range h]; rfl
namespace Fam
variable {W : Nat} {S : List Pg} {Qs : List Sq} {I : List (List Nat)}
theorem getS (h : Fam W S Qs I) {q : Nat} (hq : q < 64) : ∃ x, S[q]? = some x ∧ x.own = occ Qs q := by
  have e : S[q]? = some (S[q]'(by rw [h.len]; exact hq)) := List.getElem?_eq_getElem _
  exact ⟨_, e, by rw [← own_at e]; exact h.own q hq⟩
/-- A row laid behind the others, in a page of one owner. -/
theorem putR (h : Fam W S Qs I) {k : Nat} {Q : Sq} {l : List Nat} (hk : Qs[k]? = some Q) (hl : I[k]? = some l) (ho : Q.isOpen = true) (h1 : ownersOf S Q.last = 1) (s : Nat) :
    Fam W (putRow S (Q.page Q.len) (Q.cell Q.len) (rowN W s) W) (Qs.set k { Q with len := Q.len + 1 }) (I.set k (l ++ [s])) := by
  have hQ := h.one k Q l hk hl
  obtain ⟨a1, a2, a3⟩ := hQ.last_at h.wd ho
  have hp := Seq1.per_pos h.wd
  have hmem : Q.last ∈ Q.pages := List.mem_of_getElem? a1
  have hlt := h.rng k Q hk _ hmem
  have hocc := h.own Q.last hlt
  rw [h1] at hocc
  have hck : 1 ≤ Q.pages.count Q.last := List.count_pos_iff.2 hmem
  have hle := occ_le Qs k Q Q.last hk
  rw [a3]
  obtain ⟨b1, b2, b3, b4⟩ := row_all S h.cl Q.last (Q.cell Q.len) (rowN W s) (by omega) W (hQ.cellW h.wd _)
  have hoth : ∀ i P, i ≠ k → Qs[i]? = some P → ∀ n ∈ P.pages, n ≠ Q.last := by
    intro i P hik hi n hn e
    subst e
    have := occ_two Qs i k P Q Q.last hik hi hk
    have := List.count_pos_iff.2 hn
    omega
  have hop : Q.len - Q.first < Q.pages.length * (32 / W) := by
    unfold Sq.isOpen Sq.per at ho
    rw [hQ.wid] at ho
    simpa using ho
  have hfl := hQ.fl
  refine h.put hk hl (by rw [b1, h.len]) b2 (fun q hq => by rw [b3, h.own q hq]) (h.rng k Q hk) (fun i P hik hi n hn j => by rw [b4, if_neg (fun e => hoth i P hik hi n hn e.1)]) ?_
  have hhi := hQ.hi
  refine ⟨hQ.tag, hQ.wid, by simp [hQ.len], by show Q.first ≤ Q.len + 1; omega, by show Q.len + 1 - Q.first ≤ Q.pages.length * (32 / W); omega, by show Q.pages.length * (32 / W) ≤ Q.len + 1 - Q.first + 32 / W; omega, fun i t e1 e2 => ?_⟩
  have e1 : Q.first ≤ i := e1
  rcases Nat.lt_or_ge i l.length with hi | hi
  · rw [List.getElem?_append_left hi] at e2
    rw [← hQ.row i t e1 e2]
    refine rowOf_same rfl rfl fun j hj => ?_
    rw [Sq.page_len]
    have hj : j < W := by rw [← hQ.wid]; exact hj
    rw [b4]
    refine if_neg ?_
    rintro ⟨c1, c2, c3⟩
    have hiL : i < Q.len := by rw [hQ.len]; exact hi
    obtain ⟨d1, d2⟩ := hQ.page_mem h.wd e1 hiL
    rw [c1] at d1
    have hdiv : (i - Q.first) / (32 / W) ≤ (Q.len - Q.first) / (32 / W) := Nat.div_le_div_right (by omega)
    rw [a2] at hdiv
    rcases Nat.lt_or_ge ((i - Q.first) / (32 / W)) (Q.pages.length - 1) with hd | hd
    · have := count_two hd d1 a1
      omega
    · have hE : (i - Q.first) / (32 / W) = (Q.len - Q.first) / (32 / W) := by rw [a2]; omega
      have hm1 := Nat.div_add_mod (i - Q.first) (32 / W)
      have hm2 := Nat.div_add_mod (Q.len - Q.first) (32 / W)
      rw [hE] at hm1
      have hml : (i - Q.first) % (32 / W) + 1 ≤ (Q.len - Q.first) % (32 / W) := by omega
      have hmm := Nat.mul_le_mul_right W hml
      rw [Nat.add_mul] at hmm
      unfold Sq.cell Sq.per at c2
      rw [hQ.wid] at c2
      omega
  · have hi2 : i = l.length := by
      have := (List.getElem?_eq_some_iff.1 e2).1
      simp at this; omega
    subst hi2
    rw [List.getElem?_append_right (Nat.le_refl _), Nat.sub_self] at e2
    obtain rfl : s = t := by simpa using e2
    have e3 : rowN W s = (List.range Q.width).map fun j => ((s * 31 + j : Nat) : Int) := by rw [hQ.wid]; rfl
    refine Eq.trans ?_ e3.symm
    unfold rowOf
    refine List.map_congr_left fun j hj => ?_
    have hj : j < W := by rw [← hQ.wid]; exact List.mem_range.1 hj
    rw [Sq.page_len, Sq.cell_len Q (Q.len + 1), ← hQ.len, a3, b4, if_pos ⟨rfl, by omega, by omega⟩, Nat.add_sub_cancel_left]
    rw [List.getD_eq_getElem?_getD, rowN_get W s j hj]; rfl
/-- Room for a row: an own page that is not full. -/
theorem room (h : Fam W S Qs I) {k : Nat} {Q : Sq} (hk : Qs[k]? = some Q) {S1 : List Pg} {Q1 : Sq} (hr : roomOf S Q = some (S1, Q1)) :
    Fam W S1 (Qs.set k Q1) I ∧ Q1.len = Q.len ∧ Q1.isOpen = true ∧ ownersOf S1 Q1.last = 1 := by
  obtain ⟨l, hl, hQ⟩ := h.ex hk
  have hp := Seq1.per_pos h.wd
  have hkl := (List.getElem?_eq_some_iff.1 hk).1
  have hIk : I.set k l = I := by
    refine List.ext_getElem? fun i => ?_
    rw [List.getElem?_set]
    by_cases e : k = i
    · subst e; rw [if_pos rfl, if_pos (by rw [h.eql]; exact hkl), hl]
    · rw [if_neg e]
  unfold roomOf at hr
  by_cases hn : needOf S Q = 0
  · rw [if_pos hn] at hr
    obtain ⟨rfl, rfl⟩ := Prod.mk.inj (Option.some.inj hr)
    have e : Qs.set k Q = Qs := by
      refine List.ext_getElem? fun i => ?_
      rw [List.getElem?_set]
      by_cases e : k = i
      · subst e; rw [if_pos rfl, if_pos hkl, hk]
      · rw [if_neg e]
    rw [e]
    unfold needOf at hn
    by_cases hc : (Q.isOpen && (ownersOf S Q.last == 1)) = true
    · rw [Bool.and_eq_true, beq_iff_eq] at hc
      exact ⟨h, rfl, hc.1, hc.2⟩
    · rw [if_neg hc] at hn; cases hn
  · rw [if_neg hn] at hr
    by_cases hf : freeOf S = 0
    · rw [if_pos hf] at hr; cases hr
    rw [if_neg hf] at hr
    have hf : 0 < freeOf S := by omega
    obtain ⟨x, hfx, hfo⟩ := ff_free hf
    have hff : ff S < 64 := by rw [← h.len]; exact (List.getElem?_eq_some_iff.1 hfx).1
    have hfz : ownersOf S (ff S) = 0 := by rw [own_at hfx, hfo]
    have hfocc : occ Qs (ff S) = 0 := by rw [← h.own _ hff]; exact hfz
    have hnf : ∀ (i : Nat) (P : Sq), Qs[i]? = some P → ∀ n ∈ P.pages, n ≠ ff S := fun i P hi n hn e => by
      have := h.used hi hn
      rw [e, hfocc] at this
      omega
    have to := take1_own S Q.tag hf
    have tg := take1_get S Q.tag hf
    have tc := h.cl.take1 Q.tag
    have tl := take1_len S Q.tag
    by_cases hop : Q.isOpen = true
    · rw [if_pos hop] at hr
      obtain ⟨rfl, rfl⟩ := Prod.mk.inj (Option.some.inj hr)
      obtain ⟨a1, a2, a3⟩ := hQ.last_at h.wd hop
      have hmem : Q.last ∈ Q.pages := List.mem_of_getElem? a1
      have hL := open_pos hop
      have hlt := h.rng k Q hk _ hmem
      have hne : Q.last ≠ ff S := hnf k Q hk _ hmem
      have hu := h.used hk hmem
      have hlo := h.own Q.last hlt
      have hl1 : ownersOf S Q.last ≠ 1 := by
        intro e
        apply hn
        unfold needOf
        rw [hop, e]; rfl
      obtain ⟨c1, c2, c3, c4⟩ := copy_all (take1 S Q.tag) tc Q.last (ff S) hne (by rw [to, if_pos rfl]; omega) 32 (by omega)
      have dn : ownersOf (copyTo (take1 S Q.tag) Q.last (ff S) 32) Q.last ≠ 0 := by rw [c3, to]; omega
      have d1 := fun q : Nat => drop1_own _ Q.last q dn
      have dg := drop1_get (copyTo (take1 S Q.tag) Q.last (ff S) 32) Q.last
      have dl := drop1_len (copyTo (take1 S Q.tag) Q.last (ff S) 32) Q.last
      have dc := c2.drop1 (Q.last : Int)
      generalize drop1 (copyTo (take1 S Q.tag) Q.last (ff S) 32) Q.last = D at *
      have down : ∀ q : Nat, ownersOf D q + (if q = Q.last then 1 else 0) = ownersOf S q + if q = ff S then 1 else 0 := fun q => by rw [d1 q, c3, to]
      have keepG : ∀ n, n < 64 → 1 ≤ occ Qs n → ∀ j, getOf D (n : Nat) j = getOf S n j := by
        intro n hn64 hn1 j
        have hnf : n ≠ ff S := fun e => by rw [e, hfocc] at hn1; omega
        have h1 := down n
        have h2 := h.own n hn64
        rw [if_neg hnf] at h1
        have h3 : ownersOf D n ≠ 0 := by
          split at h1
          next e => rw [e] at h1 h2 ⊢; omega
          next e => omega
        rw [dg n j h3, c4, if_neg (fun e => hnf e.1), tg n hnf j]
      have newG : ∀ j, j < 32 → getOf D (ff S) j = getOf S Q.last j := by
        intro j hj
        have h1 := down (ff S)
        rw [if_neg (Ne.symm hne), if_pos rfl] at h1
        rw [dg (ff S) j (by omega), c4, if_pos ⟨rfl, hj⟩, tg Q.last hne j]
      have hgetI : ∀ i : Nat, (Q.pages.set (Q.pages.length - 1) (ff S))[i]? = if i = Q.pages.length - 1 then some (ff S) else Q.pages[i]? := by
        intro i
        rw [List.getElem?_set]
        by_cases e : Q.pages.length - 1 = i
        · rw [if_pos e, if_pos (by omega), if_pos e.symm]
        · rw [if_neg e, if_neg (fun h => e h.symm)]
      have hlast : ({ Q with pages := Q.pages.set (Q.pages.length - 1) (ff S) } : Sq).last = ff S := by
        unfold Sq.last
        show ((Q.pages.set (Q.pages.length - 1) (ff S))[(Q.pages.set (Q.pages.length - 1) (ff S)).length - 1]?).getD 0 = _
        rw [List.length_set, hgetI, if_pos rfl]; rfl
      refine ⟨?_, rfl, ?_, ?_⟩
      · rw [← hIk]
        refine h.put hk hl (by rw [dl, c1, tl, h.len]) dc (fun q hq => ?_) (fun n hn => ?_) (fun i P hik hi n hn j => keepG n (h.rng i P hi n hn) (h.used hi hn) j) ?_
        · have h1 := down q
          have h2 := h.own q hq
          show _ = _ + (Q.pages.set (Q.pages.length - 1) (ff S)).count q
          rw [List.count_set (by omega)]
          have e1 : Q.pages[Q.pages.length - 1]'(by omega) = Q.last := by
            have := List.getElem?_eq_getElem (l := Q.pages) (i := Q.pages.length - 1) (by omega)
            rw [a1] at this
            exact (Option.some.inj this).symm
          rw [e1]
          have hcl : 1 ≤ Q.pages.count Q.last := List.count_pos_iff.2 hmem
          by_cases e2 : q = Q.last
          · subst e2
            have e3 : (ff S == Q.last) = false := by rw [beq_eq_false_iff_ne]; exact fun e => hne e.symm
            rw [if_pos rfl, if_neg hne] at h1
            rw [e3]; simp; omega
          · have e3 : (Q.last == q) = false := by rw [beq_eq_false_iff_ne]; exact fun e => e2 e.symm
            rw [if_neg e2] at h1
            rw [e3]
            by_cases e4 : q = ff S
            · have e5 : (ff S == q) = true := by rw [beq_iff_eq]; exact e4.symm
              rw [if_pos e4] at h1
              rw [e5]; simp; omega
            · have e5 : (ff S == q) = false := by rw [beq_eq_false_iff_ne]; exact fun e => e4 e.symm
              rw [if_neg e4] at h1
              rw [e5]; simp; omega
        · rcases List.mem_or_eq_of_mem_set hn with e | e
          · exact h.rng k Q hk n e
          · rw [e]; exact hff
        · refine ⟨hQ.tag, hQ.wid, hQ.len, hQ.fl, by show _ ≤ (Q.pages.set _ _).length * _; rw [List.length_set]; exact hQ.fit, by show (Q.pages.set _ _).length * _ ≤ _; rw [List.length_set]; exact hQ.hi, fun i s e1 e2 => ?_⟩
          have e1 : Q.first ≤ i := e1
          have hi : i < Q.len := by rw [hQ.len]; exact (List.getElem?_eq_some_iff.1 e2).1
          obtain ⟨p1, p2⟩ := hQ.page_mem h.wd e1 hi
          rw [← hQ.row i s e1 e2]
          refine rowOf_same rfl rfl fun j hj => ?_
          have hpg : ({ Q with pages := Q.pages.set (Q.pages.length - 1) (ff S) } : Sq).page i = if (i - Q.first) / (32 / W) = Q.pages.length - 1 then ff S else Q.page i := by
            have e : ({ Q with pages := Q.pages.set (Q.pages.length - 1) (ff S) } : Sq).page i = ((Q.pages.set (Q.pages.length - 1) (ff S))[(i - Q.first) / (32 / W)]?).getD 0 := by
              unfold Sq.page Sq.per
              show ((Q.pages.set (Q.pages.length - 1) (ff S))[(i - Q.first) / (32 / Q.width)]?).getD 0 = _
              rw [hQ.wid]
            rw [e, hgetI]
            split
            · rfl
            · rw [p1]; rfl
          rw [hpg]
          split
          next e =>
            have hpl : Q.page i = Q.last := by
              rw [e, a1] at p1
              exact (Option.some.inj p1).symm
            rw [hpl]
            exact newG _ (Sq.cell_lt (by rw [hQ.wid]; exact h.wd) i j hj)
          next e => exact keepG _ (h.rng k Q hk _ p2) (h.used hk p2) _
      · unfold Sq.isOpen at hop ⊢
        show decide (_ < (Q.pages.set _ _).length * _) = true
        rw [List.length_set]; exact hop
      · rw [hlast]
        have h1 := down (ff S)
        rw [if_neg (Ne.symm hne), if_pos rfl, hfz] at h1
        omega
    · rw [if_neg hop] at hr
      obtain ⟨rfl, rfl⟩ := Prod.mk.inj (Option.some.inj hr)
      have hcl : ¬ (Q.len - Q.first < Q.pages.length * (32 / W)) := by
        intro e
        apply hop
        unfold Sq.isOpen Sq.per
        rw [hQ.wid, decide_eq_true e]
      have hlast : ({ Q with pages := Q.pages ++ [ff S] } : Sq).last = ff S := by
        unfold Sq.last
        show ((Q.pages ++ [ff S])[(Q.pages ++ [ff S]).length - 1]?).getD 0 = _
        simp
      have hfit := hQ.fit
      refine ⟨?_, rfl, ?_, ?_⟩
      · rw [← hIk]
        refine h.put hk hl (by rw [tl, h.len]) tc (fun q hq => ?_) (fun n hn => ?_) (fun i P hik hi n hn j => tg n (hnf i P hi n hn) j) ?_
        · show _ = _ + (Q.pages ++ [ff S]).count q
          rw [to, h.own q hq, List.count_append, List.count_cons, List.count_nil]
          by_cases e : q = ff S
          · subst e; simp; omega
          · have e5 : (ff S == q) = false := by rw [beq_eq_false_iff_ne]; exact fun h => e h.symm
            rw [if_neg e, e5]; simp
        · rcases List.mem_append.1 hn with e | e
          · exact h.rng k Q hk n e
          · rw [List.mem_singleton.1 e]; exact hff
        · refine ⟨hQ.tag, hQ.wid, hQ.len, hQ.fl, by show Q.len - Q.first ≤ (Q.pages ++ [ff S]).length * (32 / W); rw [List.length_append, Nat.add_mul]; omega, by show (Q.pages ++ [ff S]).length * (32 / W) ≤ Q.len - Q.first + 32 / W; rw [List.length_append, List.length_singleton, Nat.add_mul]; omega, fun i s e1 e2 => ?_⟩
          have e1 : Q.first ≤ i := e1
          have hi : i < Q.len := by rw [hQ.len]; exact (List.getElem?_eq_some_iff.1 e2).1
          obtain ⟨p1, p2⟩ := hQ.page_mem h.wd e1 hi
          rw [← hQ.row i s e1 e2]
          refine rowOf_same rfl rfl fun j hj => ?_
          have hpg : ({ Q with pages := Q.pages ++ [ff S] } : Sq).page i = Q.page i := by
            have e : ({ Q with pages := Q.pages ++ [ff S] } : Sq).page i = ((Q.pages ++ [ff S])[(i - Q.first) / (32 / W)]?).getD 0 := by
              unfold Sq.page Sq.per
              show ((Q.pages ++ [ff S])[(i - Q.first) / (32 / Q.width)]?).getD 0 = _
              rw [hQ.wid]
            rw [e, List.getElem?_append_left (List.getElem?_eq_some_iff.1 p1).1, p1]; rfl
          rw [hpg]
          exact tg _ (hnf k Q hk _ p2) _
      · unfold Sq.isOpen Sq.per
        show decide (Q.len - Q.first < (Q.pages ++ [ff S]).length * (32 / Q.width)) = true
        rw [hQ.wid, List.length_append, List.length_singleton, Nat.add_mul]
        exact decide_eq_true (by omega)
      · rw [hlast, to, hfz, if_pos rfl]
theorem append (h : Fam W S Qs I) {k : Nat} {Q : Sq} {l : List Nat} (hk : Qs[k]? = some Q) (hl : I[k]? = some l) (s : Nat) {S' : List Pg} {Q' : Sq} (hr : appendOf S Q (rowN W s) = some (S', Q')) :
    Fam W S' (Qs.set k Q') (I.set k (l ++ [s])) := by
  unfold appendOf at hr
  cases hro : roomOf S Q with
  | none => rw [hro] at hr; cases hr
  | some r =>
    obtain ⟨S1, Q1⟩ := r
    rw [hro] at hr
    obtain ⟨rfl, rfl⟩ := Prod.mk.inj (Option.some.inj hr)
    obtain ⟨h1, h2, h3, h4⟩ := h.room hk hro
    have hkl := (List.getElem?_eq_some_iff.1 hk).1
    have hk1 : (Qs.set k Q1)[k]? = some Q1 := by rw [List.getElem?_set, if_pos rfl, if_pos hkl]
    have := h1.putR hk1 hl h3 h4 s
    rw [List.set_set] at this
    rw [(h.one k Q l hk hl).wid, ← h2]
    exact this
end Fam
end Go.Proofs.Ytfimadeokdlpnaa.kv
