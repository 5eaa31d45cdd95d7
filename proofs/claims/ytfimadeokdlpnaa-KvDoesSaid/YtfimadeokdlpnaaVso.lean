/- One sequence by itself on a pool: plain law. -/
import Derived.Test.YtfimadeokdlpnaaVc
namespace Go.Proofs.Ytfimadeokdlpnaa.kv
open K
set_option linter.unusedVariables false
set_option linter.unusedSimpArgs false
/-- The pool's pages, of which the first m are the sequence's. -/
structure Own (tag : ByteArray) (N m : Nat) (S : List Pg) : Prop where
  len : S.length = N
  pg : ∀ (i : Nat) (x : Pg), S[i]? = some x → if i < m then x.own = 1 ∧ x.tag = tag else x.own = 0
theorem Own.start (tag : ByteArray) (N : Nat) : Own tag N 0 (List.replicate N Pg.no) := by
  refine ⟨by simp, fun i x hx => ?_⟩
  rw [List.getElem?_replicate] at hx
  split at hx
  · cases hx; simp [Pg.no]
  · cases hx
theorem Own.put1 {tag : ByteArray} {N m : Nat} {S : List Pg} (h : Own tag N m S) (n : Int) (k : Nat) (v : Int) : Own tag N m (put1 S n k v) := by
  unfold kv.put1
  split
  next x hx =>
    obtain ⟨i, rfl, h1, h2⟩ := look_some hx
    refine ⟨by simp [h.len], fun j y hy => ?_⟩
    rw [Int.toNat_natCast, List.getElem?_set] at hy
    split at hy
    next e =>
      subst e
      split at hy
      · cases hy; exact h.pg i x h1
      · cases hy
    next e => exact h.pg j y hy
  next => exact h
theorem Own.putRow {tag : ByteArray} {N m : Nat} {S : List Pg} (h : Own tag N m S) (pg c : Nat) (xs : List Int) : ∀ k, Own tag N m (putRow S pg c xs k)
  | 0 => h
  | k + 1 => (Own.putRow h pg c xs k).put1 _ _ _
theorem Own.free {tag : ByteArray} {N m : Nat} {S : List Pg} (h : Own tag N m S) (hm : m ≤ N) : freeOf S = N - m := by
  unfold freeOf
  have hl := h.len
  rw [← List.take_append_drop m S, List.countP_append, List.countP_eq_zero.2, List.countP_eq_length.2]
  · simp [hl]
  · intro x hx
    obtain ⟨i, hi, rfl⟩ := List.mem_iff_getElem.1 hx
    have := h.pg (m + i) _ (by rw [← List.getElem?_drop]; exact List.getElem?_eq_getElem hi)
    rw [if_neg (by omega)] at this
    simpa using this
  · intro x hx
    obtain ⟨i, hi, rfl⟩ := List.mem_iff_getElem.1 hx
    have hi2 : i < m := by rw [List.length_take] at hi; omega
    have := h.pg i ((S.take m)[i]) (by have h1 := List.getElem?_eq_getElem hi; rw [List.getElem?_take, if_pos hi2] at h1; exact h1)
    rw [if_pos hi2] at this
    have h1 := this.1
    simp only [beq_iff_eq]
    omega
theorem Own.ff {tag : ByteArray} {N m : Nat} {S : List Pg} (h : Own tag N m S) (hm : m < N) : ff S = m := by
  unfold kv.ff
  have hl := h.len
  rw [List.findIdx_eq (by omega)]
  refine ⟨?_, fun j hj => ?_⟩
  · have := h.pg m _ (List.getElem?_eq_getElem (by omega))
    rw [if_neg (by omega)] at this
    simpa using this
  · have := h.pg j _ (List.getElem?_eq_getElem (by omega))
    rw [if_pos hj] at this
    simp [this.1]
theorem Own.take1 {tag : ByteArray} {N m : Nat} {S : List Pg} (h : Own tag N m S) (hm : m < N) : Own tag N (m + 1) (take1 S tag) := by
  unfold kv.take1
  rw [h.ff hm]
  refine ⟨by simp [h.len], fun j y hy => ?_⟩
  rw [List.getElem?_set] at hy
  split at hy
  next e =>
    subst e
    split at hy
    · cases hy; rw [if_pos (by omega)]; exact ⟨rfl, rfl⟩
    · cases hy
  next e =>
    have := h.pg j y hy
    by_cases hj : j < m
    · rw [if_pos hj] at this; rw [if_pos (by omega)]; exact this
    · rw [if_neg hj] at this; rw [if_neg (by omega)]; exact this
/-- One sequence by itself: n rows, m pages, each its own. -/
structure Solo (tag : ByteArray) (W N n m : Nat) (S : List Pg) (Q : Sq) : Prop where
  seq : Q = ⟨tag, W, List.range m, 0, n⟩
  own : Own tag N m S
  lo : n ≤ m * (32 / W)
  hi : m * (32 / W) < n + 32 / W
  le : m ≤ N
theorem Solo.start (tag : ByteArray) (W N : Nat) (hW : 1 ≤ W ∧ W ≤ 32) : Solo tag W N 0 0 (List.replicate N Pg.no) ⟨tag, W, [], 0, 0⟩ := by
  have : 1 ≤ 32 / W := (Nat.le_div_iff_mul_le (by omega)).2 (by omega)
  exact ⟨rfl, Own.start tag N, by omega, by omega, by omega⟩
theorem Solo.isOpen {tag : ByteArray} {W N n m : Nat} {S : List Pg} {Q : Sq} (h : Solo tag W N n m S Q) : Q.isOpen = decide (n < m * (32 / W)) := by
  rw [h.seq]
  simp [Sq.isOpen, Sq.per]
theorem Solo.need {tag : ByteArray} {W N n m : Nat} {S : List Pg} {Q : Sq} (h : Solo tag W N n m S Q) : needOf S Q = if n < m * (32 / W) then 0 else 1 := by
  unfold needOf
  rw [h.isOpen]
  by_cases ho : n < m * (32 / W)
  · rw [if_pos ho, decide_eq_true ho, Bool.true_and]
    have hm : 0 < m := by
      rcases Nat.eq_zero_or_pos m with e | e
      · subst e; omega
      · exact e
    have hl : Q.last = m - 1 := by
      rw [h.seq]
      simp [Sq.last, List.getElem?_range (show m - 1 < m by omega)]
    have hx : S[m - 1]? = some (S[m - 1]'(by have := h.own.len; have := h.le; omega)) := List.getElem?_eq_getElem _
    have hp := h.own.pg _ _ hx
    rw [if_pos (by omega)] at hp
    have : ownersOf S Q.last = 1 := by
      unfold ownersOf
      rw [hl, look_in hx (by omega)]
      exact hp.1
    rw [this]; rfl
  · rw [if_neg ho, decide_eq_false ho]; rfl
theorem Solo.append {tag : ByteArray} {W N n m : Nat} {S : List Pg} {Q : Sq} (h : Solo tag W N n m S Q) (hn : n < N * (32 / W)) (xs : List Int) : ∃ S' Q' m', appendOf S Q xs = some (S', Q') ∧ Solo tag W N (n + 1) m' S' Q' := by
  have hnd := h.need
  have hlo := h.lo
  have hhi := h.hi
  by_cases ho : n < m * (32 / W)
  · rw [if_pos ho] at hnd
    refine ⟨_, _, m, by unfold appendOf roomOf; rw [if_pos hnd], ⟨by rw [h.seq], h.own.putRow _ _ _ _, by omega, by omega, h.le⟩⟩
  · rw [if_neg ho] at hnd
    have hm : m < N := by
      rcases Nat.lt_or_ge m N with e | e
      · exact e
      · have := Nat.mul_le_mul_right (32 / W) e; omega
    have hf := h.own.free h.le
    have hop : Q.isOpen = false := by rw [h.isOpen, decide_eq_false ho]
    have htag : Q.tag = tag := by rw [h.seq]
    have hr : roomOf S Q = some (kv.take1 S tag, { Q with pages := Q.pages ++ [kv.ff S] }) := by
      unfold roomOf
      rw [if_neg (by omega), if_neg (by omega), hop, htag]; rfl
    refine ⟨_, _, m + 1, by unfold appendOf; rw [hr], ⟨?_, ((h.own.take1 hm)).putRow _ _ _ _, by rw [Nat.add_mul]; omega, by rw [Nat.add_mul]; omega, by omega⟩⟩
    rw [h.own.ff hm, h.seq]
    simp only [List.range_succ]
theorem Solo.full {tag : ByteArray} {W N n m : Nat} {S : List Pg} {Q : Sq} (h : Solo tag W N n m S Q) (hn : N * (32 / W) ≤ n) (xs : List Int) : appendOf S Q xs = none := by
  have hnd := h.need
  have hlo := h.lo
  have := Nat.mul_le_mul_right (32 / W) h.le
  rw [if_neg (by omega)] at hnd
  have hm : m = N := by
    have := h.hi
    have := h.le
    rcases Nat.lt_or_ge m N with e | e
    · have := Nat.mul_le_mul_right (32 / W) (show m + 1 ≤ N by omega)
      rw [Nat.add_mul] at this; omega
    · omega
  have hf := h.own.free h.le
  unfold appendOf roomOf
  rw [if_neg (by omega), if_pos (by omega)]
end Go.Proofs.Ytfimadeokdlpnaa.kv
