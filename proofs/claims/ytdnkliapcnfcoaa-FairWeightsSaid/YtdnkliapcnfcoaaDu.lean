/- The fair queue beside the reference: contracts of whole calls, what holds between them. -/
import Derived.Test.YtdnkliapcnfcoaaPl
namespace Go.Proofs.Ytdnkliapcnfcoaa.fair
open Go.ChangeShapes Go.WideShapes Go.ChangeAt Go.RowKit K
set_option linter.unusedVariables false
set_option linter.unusedSimpArgs false
def mx (a b : Int) : Int := if a < b then b else a
def FS.addR (S : FS) (n id cost : Int) : Int × FS :=
  if (n < 0 ∨ (S.n : Int) ≤ n) ∨ cost < 1 ∨ 10000 < cost then (20, S)
  else if S.has id = true then (26, S)
  else if (S.q n.toNat).length = 16 then (5, S)
  else (0, S.put n.toNat (if (S.q n.toNat).length = 0 then mx (S.ck n.toNat) S.now else S.ck n.toNat) (S.q n.toNat ++ [(id, cost)]) S.now)
def FS.cancelR (S : FS) (id : Int) : Bool × FS :=
  match (List.range S.n).find? (fun i => hasQ (S.q i) id) with
  | none => (false, S)
  | some i => (true, S.put i (S.ck i) ((S.q i).eraseIdx (posQ (S.q i) id)) S.now)
def RS.addR (R : RS) (n id cost : Int) : Int × RS :=
  if (n < 0 ∨ (R.n : Int) ≤ n) ∨ cost < 1 ∨ 10000 < cost then (20, R)
  else if hasL R.l id = true then (26, R)
  else if 16 ≤ cntL R.l n then (5, R)
  else (0, { R with l := R.l ++ [(n, id, cost)], ck := upd R.ck n.toNat (if cntL R.l n = 0 then mx (R.ck n.toNat) R.now else R.ck n.toNat) })
def RS.cancelR (R : RS) (id : Int) : Bool × RS := if hasL R.l id = true then (true, { R with l := R.l.eraseIdx (atL R.l id) }) else (false, R)
theorem mx_cases (a b : Int) : (a < b ∧ mx a b = b) ∨ (b ≤ a ∧ mx a b = a) := by unfold mx; split <;> omega
theorem add_c (p : Nat) (S : FS) (L : FL) (F : Nat → Prop) (w : World) (h : FR w p S L F) (hf : Few S) (n id cost : Int) :
    Calls Try.prog 10 #[.pointer (some ⟨p, 0, none⟩), .int .i64 n, .int .i64 id, .int .i64 cost] w (Post (S.addR n id cost).2 w p F (.int .i64 (S.addR n id cost).1)) := by
  unfold FS.addR
  by_cases h1 : (n < 0 ∨ (S.n : Int) ≤ n) ∨ cost < 1 ∨ 10000 < cost
  · rw [if_pos h1]; exact add_range p S L F w h n id cost h1
  · rw [if_neg h1]
    have hn0 : 0 ≤ n := by omega
    have hn1 : n < S.n := by omega
    have hc1 : 1 ≤ cost := by omega
    have hc2 : cost ≤ 10000 := by omega
    clear h1
    obtain ⟨i, rfl⟩ : ∃ i : Nat, n = i := ⟨n.toNat, by omega⟩
    have hi : i < S.n := by omega
    rw [Int.toNat_natCast]
    cases hh : S.has id
    · rw [if_neg (by simp)]
      by_cases h16 : (S.q i).length = 16
      · rw [if_pos h16]; exact add_full p S L F w h hf i hi id cost hc1 hc2 hh h16
      · rw [if_neg h16]
        by_cases h0 : (S.q i).length = 0
        · rw [if_pos h0]
          exact add_first p S L F w h hf i hi id cost hc1 hc2 hh h0 _ (mx_cases _ _)
        · rw [if_neg h0]
          exact add_more p S L F w h hf i hi id cost hc1 hc2 hh _ rfl (by omega) (by have := hf i hi; omega)
    · rw [if_pos rfl]; exact add_twice p S L F w h hf i hi id cost hc1 hc2 hh
theorem cancel_c (p : Nat) (S : FS) (L : FL) (F : Nat → Prop) (w : World) (h : FR w p S L F) (hf : Few S) (id : Int) :
    Calls Try.prog 12 #[.pointer (some ⟨p, 0, none⟩), .int .i64 id] w (Post (S.cancelR id).2 w p F (.bool (S.cancelR id).1)) := by
  unfold FS.cancelR
  cases hfind : (List.range S.n).find? (fun i => hasQ (S.q i) id) with
  | none =>
    refine cancel_no p S L F w h hf id ?_
    unfold FS.has
    rw [List.any_eq_false]
    intro i hi
    have := List.find?_eq_none.1 hfind i hi
    simpa using this
  | some i =>
    obtain ⟨h1, pa, sb, h2, h3⟩ := List.find?_eq_some_iff_append.1 hfind
    have hi : i < S.n := List.mem_range.1 (List.mem_of_find?_eq_some hfind)
    refine cancel_yes p S L F w h hf id i hi (by simpa using h1) (fun k hk => ?_)
    have hlen : pa.length = i := by
      have : (List.range S.n)[pa.length]? = some i := by rw [h2]; simp
      rw [List.getElem?_range (by rw [← List.length_range (n := S.n), h2]; simp)] at this
      simpa using this
    have hk2 : k ∈ pa := by
      have : pa[k]? = some k := by
        have e : (List.range S.n)[k]? = some k := by rw [List.getElem?_range (by omega)]
        rw [h2, List.getElem?_append_left (by omega)] at e
        exact e
      exact List.mem_of_getElem? this
    have := h3 k hk2
    simpa using this
theorem radd_c (p : Nat) (S : RS) (L : RL) (F : Nat → Prop) (w : World) (h : RR w p S L F) (hs : S.l.length < 1000) (n id cost : Int) :
    Calls Try.prog 14 #[.pointer (some ⟨p, 0, none⟩), .int .i64 n, .int .i64 id, .int .i64 cost] w (RPost (S.addR n id cost).2 w p F (.int .i64 (S.addR n id cost).1)) := by
  unfold RS.addR
  by_cases h1 : (n < 0 ∨ (S.n : Int) ≤ n) ∨ cost < 1 ∨ 10000 < cost
  · rw [if_pos h1]
    refine radd_range p S L F w h n id cost ?_
    rcases h1 with h1 | h1
    · left; unfold RS.isB; rcases h1 with h1 | h1
      · simp; omega
      · simp; omega
    · exact .inr h1
  · rw [if_neg h1]
    have hn0 : 0 ≤ n := by omega
    have hn1 : n < S.n := by omega
    have hc1 : 1 ≤ cost := by omega
    have hc2 : cost ≤ 10000 := by omega
    clear h1
    obtain ⟨i, rfl⟩ : ∃ i : Nat, n = i := ⟨n.toNat, by omega⟩
    have hi : i < S.n := by omega
    have hb : S.isB i = true := by simp [RS.isB]; omega
    rw [Int.toNat_natCast]
    cases hh : hasL S.l id
    · rw [if_neg (by simp)]
      by_cases h16 : 16 ≤ cntL S.l i
      · rw [if_pos h16]; exact radd_full p S L F w h i id cost hb hc1 hc2 hh h16
      · rw [if_neg h16]
        by_cases h0 : cntL S.l i = 0
        · rw [if_pos h0]
          exact radd_first p S L F w h hs i hi id cost hc1 hc2 hh h0 _ (mx_cases _ _)
        · rw [if_neg h0]
          have := radd_more p S L F w h hs i hi id cost hc1 hc2 hh _ rfl (by omega) (by omega)
          rw [upd_self]; exact this
    · rw [if_pos rfl]; exact radd_twice p S L F w h i id cost hb hc1 hc2 hh
theorem rcancel_c (p : Nat) (S : RS) (L : RL) (F : Nat → Prop) (w : World) (h : RR w p S L F) (id : Int) :
    Calls Try.prog 16 #[.pointer (some ⟨p, 0, none⟩), .int .i64 id] w (RPost (S.cancelR id).2 w p F (.bool (S.cancelR id).1)) := by
  unfold RS.cancelR
  cases hh : hasL S.l id
  · rw [if_neg (by simp)]; exact rcancel_no p S L F w h id hh
  · rw [if_pos rfl]; exact rcancel_yes p S L F w h id hh
/-- After so many steps. -/
structure Inv (S : FS) (R : RS) (k : Nat) : Prop where
  sim : Sim S R
  good : Good S (k * 7207200000)
  len : R.l.length ≤ k
theorem Good.mono {S : FS} {B B' : Int} (h : Good S B) (hB : B ≤ B') : Good S B' :=
  ⟨h.few, h.q, h.wt, fun i hi => ⟨(h.ck i hi).1, by have := (h.ck i hi).2; omega⟩, ⟨h.now.1, by have := h.now.2; omega⟩, h.cost⟩
theorem Inv.rgood {S : FS} {R : RS} {k : Nat} (h : Inv S R k) : RGood R (k * 7207200000) := by
  have hs := h.sim
  have hn := hs.n
  refine ⟨fun i hi => ?_, fun i hi => ?_, fun x hx => hs.ten x hx, fun x hx => ?_⟩
  · rw [← hs.wt i (by omega)]; exact h.good.wt i (by omega)
  · rw [← hs.ck i (by omega)]; exact h.good.ck i (by omega)
  · have ht := hs.ten x hx
    refine h.good.cost x.1.toNat (by omega) x.2 ?_
    rw [hs.q _ (by omega), mem_ofT, show ((x.1.toNat : Nat) : Int) = x.1 by omega]
    exact hx
theorem Good.put {S : FS} {B : Int} (h : Good S B) (i : Nat) (c : Int) (l : List (Int × Int)) (t : Int) (hc : 0 ≤ c ∧ c ≤ B) (hl : l.length ≤ 16) (hlc : ∀ x, x ∈ l → 1 ≤ x.2 ∧ x.2 ≤ 10000) (ht : 0 ≤ t ∧ t ≤ B) : Good (S.put i c l t) B := by
  refine ⟨h.few, fun k hk => ?_, h.wt, fun k hk => ?_, ht, fun k hk x hx => ?_⟩
  · show (upd S.q i l k).length ≤ 16
    by_cases e : k = i
    · subst e; rw [upd_at]; exact hl
    · rw [upd_ne _ _ _ _ e]; exact h.q k hk
  · show 0 ≤ upd S.ck i c k ∧ upd S.ck i c k ≤ B
    by_cases e : k = i
    · subst e; rw [upd_at]; exact hc
    · rw [upd_ne _ _ _ _ e]; exact h.ck k hk
  · change x ∈ upd S.q i l k at hx
    by_cases e : k = i
    · subst e; rw [upd_at] at hx; exact hlc x hx
    · rw [upd_ne _ _ _ _ e] at hx; exact h.cost k hk x hx
theorem Good.next {S : FS} {B : Int} (h : Good S B) : Good S.next.2 (B + 7207200000) := by
  have hm := h.mono (show B ≤ B + 7207200000 by omega)
  unfold FS.next
  cases hb : S.best S.n with
  | none => exact hm
  | some b =>
    obtain ⟨hbn, _⟩ := bestTo_lt hb
    cases hq : S.q b with
    | nil => simp only [hq]; exact hm
    | cons xc r =>
      obtain ⟨x, c⟩ := xc
      simp only [hq]
      have hk := h.ck b hbn
      have hw := h.wt b hbn
      have hc := h.cost b hbn (x, c) (by rw [hq]; simp)
      have q1 : (0 : Int) ≤ 720720 / S.wt b := Int.ediv_nonneg (by omega) (by omega)
      have q2 : 720720 / S.wt b ≤ 720720 := Int.ediv_le_self _ (by omega)
      have q3 : 0 ≤ c * (720720 / S.wt b) := Int.mul_nonneg (by omega) q1
      have q4 : c * (720720 / S.wt b) ≤ 10000 * 720720 := Int.mul_le_mul hc.2 q2 q1 (by omega)
      refine hm.put b _ r _ ⟨by omega, by omega⟩ ?_ (fun y hy => h.cost b hbn y (by rw [hq]; exact List.mem_cons_of_mem _ hy)) ⟨by omega, by omega⟩
      have := h.q b hbn
      rw [hq] at this; simp at this; omega
theorem Good.add {S : FS} {B : Int} (h : Good S B) (n id cost : Int) : Good (S.addR n id cost).2 B := by
  unfold FS.addR
  split
  · exact h
  next h1 =>
    split
    · exact h
    · split
      · exact h
      next h16 =>
        have hn0 : 0 ≤ n := by omega
        have hn1 : n < S.n := by omega
        have hi : n.toNat < S.n := by omega
        have hk := h.ck _ hi
        have hnow := h.now
        have hm := mx_cases (S.ck n.toNat) S.now
        refine h.put _ _ _ _ ?_ ?_ ?_ hnow
        · split
          · omega
          · exact hk
        · have := h.q _ hi
          rw [List.length_append]; simp; omega
        · intro x hx
          rcases List.mem_append.1 hx with hx | hx
          · exact h.cost _ hi x hx
          · simp at hx; subst hx; simp; omega
theorem Good.cancel {S : FS} {B : Int} (h : Good S B) (id : Int) : Good (S.cancelR id).2 B := by
  unfold FS.cancelR
  split
  · exact h
  next i hfind =>
    have hi : i < S.n := List.mem_range.1 (List.mem_of_find?_eq_some hfind)
    refine h.put _ _ _ _ (h.ck i hi) ?_ (fun x hx => h.cost i hi x (List.mem_of_mem_eraseIdx hx)) h.now
    have := h.q i hi
    have := List.length_eraseIdx_le (S.q i) (posQ (S.q i) id)
    omega
theorem Inv.new (ws : List Int) (h : wOk ws = true) : Inv (FS.new ws) (RS.new ws) 0 := ⟨Sim.new ws, good_new ws h _ (by omega), Nat.le_refl _⟩
theorem Inv.mono {S : FS} {R : RS} {k : Nat} (h : Inv S R k) : Inv S R (k + 1) := ⟨h.sim, h.good.mono (by omega), Nat.le_succ_of_le h.len⟩
theorem Inv.add {S : FS} {R : RS} {k : Nat} (h : Inv S R k) (n id cost : Int) : (S.addR n id cost).1 = (R.addR n id cost).1 ∧ Inv (S.addR n id cost).2 (R.addR n id cost).2 (k + 1) := by
  have hg := (h.good.add n id cost).mono (show (k : Int) * 7207200000 ≤ ((k + 1 : Nat) : Int) * 7207200000 by omega)
  have hs := h.sim
  have hn := hs.n
  by_cases h1 : (n < 0 ∨ (S.n : Int) ≤ n) ∨ cost < 1 ∨ 10000 < cost
  · have e1 : S.addR n id cost = (20, S) := by unfold FS.addR; rw [if_pos h1]
    have e2 : R.addR n id cost = (20, R) := by unfold RS.addR; rw [if_pos (by rw [← hn]; exact h1)]
    rw [e1] at hg ⊢; rw [e2]; exact ⟨rfl, hs, hg, Nat.le_succ_of_le h.len⟩
  · have h1' : ¬ ((n < 0 ∨ (R.n : Int) ≤ n) ∨ cost < 1 ∨ 10000 < cost) := by rw [← hn]; exact h1
    have hn0 : 0 ≤ n := by omega
    have hn1 : n < S.n := by omega
    cases hh : S.has id
    · have hh2 : hasL R.l id = false := by rw [← hs.has]; exact hh
      have hi : n.toNat < S.n := by omega
      have hc := hs.cnt n.toNat hi
      rw [show ((n.toNat : Nat) : Int) = n by omega] at hc
      by_cases h16 : (S.q n.toNat).length = 16
      · have e1 : S.addR n id cost = (5, S) := by unfold FS.addR; rw [if_neg h1, hh, if_neg Bool.false_ne_true, if_pos h16]
        have e2 : R.addR n id cost = (5, R) := by unfold RS.addR; rw [if_neg h1', hh2, if_neg Bool.false_ne_true, if_pos (by omega)]
        rw [e1] at hg ⊢; rw [e2]; exact ⟨rfl, hs, hg, Nat.le_succ_of_le h.len⟩
      · have e1 : S.addR n id cost = (0, S.put n.toNat (if (S.q n.toNat).length = 0 then mx (S.ck n.toNat) S.now else S.ck n.toNat) (S.q n.toNat ++ [(id, cost)]) S.now) := by unfold FS.addR; rw [if_neg h1, hh, if_neg Bool.false_ne_true, if_neg h16]
        have e2 : R.addR n id cost = (0, { R with l := R.l ++ [(n, id, cost)], ck := upd R.ck n.toNat (if (S.q n.toNat).length = 0 then mx (S.ck n.toNat) S.now else S.ck n.toNat) }) := by
          unfold RS.addR; rw [if_neg h1', hh2, if_neg Bool.false_ne_true, if_neg (by have := h.good.q _ hi; omega), hc, hs.ck _ hi, hs.now]
        rw [e1] at hg ⊢; rw [e2]
        have hadd := hs.add n.toNat hi id cost hh2 (if (S.q n.toNat).length = 0 then mx (S.ck n.toNat) S.now else S.ck n.toNat)
        rw [show ((n.toNat : Nat) : Int) = n by omega] at hadd
        refine ⟨rfl, hadd, hg, ?_⟩
        have := h.len
        show (R.l ++ [(n, id, cost)]).length ≤ k + 1
        rw [List.length_append]; simp; omega
    · have e1 : S.addR n id cost = (26, S) := by unfold FS.addR; rw [if_neg h1, hh, if_pos rfl]
      have e2 : R.addR n id cost = (26, R) := by unfold RS.addR; rw [if_neg h1', ← hs.has, hh, if_pos rfl]
      rw [e1] at hg ⊢; rw [e2]; exact ⟨rfl, hs, hg, Nat.le_succ_of_le h.len⟩
theorem Inv.cancel {S : FS} {R : RS} {k : Nat} (h : Inv S R k) (id : Int) : (S.cancelR id).1 = (R.cancelR id).1 ∧ Inv (S.cancelR id).2 (R.cancelR id).2 (k + 1) := by
  have hg := (h.good.cancel id).mono (show (k : Int) * 7207200000 ≤ ((k + 1 : Nat) : Int) * 7207200000 by omega)
  have hs := h.sim
  revert hg
  unfold FS.cancelR RS.cancelR
  rw [← hs.has id]
  cases hfind : (List.range S.n).find? (fun i => hasQ (S.q i) id) with
  | none =>
    have : S.has id = false := by
      unfold FS.has
      rw [List.any_eq_false]
      intro i hi
      have := List.find?_eq_none.1 hfind i hi
      simpa using this
    rw [this]; exact fun hg => ⟨rfl, hs, hg, Nat.le_succ_of_le h.len⟩
  | some i =>
    have hi : i < S.n := List.mem_range.1 (List.mem_of_find?_eq_some hfind)
    have hy : hasQ (S.q i) id = true := by simpa using List.find?_some hfind
    have : S.has id = true := by
      unfold FS.has
      exact List.any_eq_true.2 ⟨i, List.mem_range.2 hi, hy⟩
    rw [this]
    refine fun hg => ⟨rfl, hs.cancel id i hi hy, hg, ?_⟩
    have := List.length_eraseIdx_le R.l (atL R.l id)
    have := h.len
    show (R.l.eraseIdx (atL R.l id)).length ≤ k + 1
    omega
theorem Inv.next {S : FS} {R : RS} {k : Nat} (h : Inv S R k) : S.next.1 = R.next.1 ∧ Inv S.next.2 R.next.2 (k + 1) := by
  obtain ⟨h1, h2⟩ := h.sim.next
  refine ⟨h1, h2, by have := h.good.next; refine this.mono (by omega), ?_⟩
  have := h.len
  unfold RS.next
  split
  · show R.l.length ≤ k + 1
    omega
  · split
    · show R.l.length ≤ k + 1
      omega
    · show (R.l.eraseIdx _).length ≤ k + 1
      have := List.length_eraseIdx_le R.l (firstOf R.l (‹Nat› : Nat))
      omega
/-- The blocks of a Fair, and no others. -/
def FL.foot (p : Nat) (n : Nat) (L : FL) (b : Nat) : Prop := b = p ∨ b = L.bt ∨ ∃ i, i < n ∧ L.own i = some b
theorem FR.tight {w : World} {p : Nat} {S : FS} {L : FL} {F : Nat → Prop} (h : FR w p S L F) : FR w p S L (L.foot p S.n) :=
  ⟨h.head, h.rows, h.size, h.few, h.c0, h.c1, h.c2, h.row, h.ne, h.ne0, h.ne1, .inl rfl, .inr (.inl rfl), fun i b hi hb => .inr (.inr ⟨i, hi, hb⟩)⟩
theorem FR.foot_in {w : World} {p : Nat} {S : FS} {L : FL} {F : Nat → Prop} (h : FR w p S L F) : ∀ b, L.foot p S.n b → F b := by
  rintro b (rfl | rfl | ⟨i, hi, hb⟩)
  · exact h.fp
  · exact h.ft
  · exact h.fo i b hi hb
theorem FR.foot_lt {w : World} {p : Nat} {S : FS} {L : FL} {F : Nat → Prop} (h : FR w p S L F) : ∀ b, L.foot p S.n b → b < w.heap.size := by
  rintro b (rfl | rfl | ⟨i, hi, hb⟩)
  · exact h.head.lt
  · exact h.rows.lt
  · exact (h.row i hi).lt b hb
/-- Both lie in the heap, apart, and from block B0 on; the blocks X are of neither. -/
def Two (B0 : Nat) (X : Nat → Prop) (w : World) (p q : Nat) (S : FS) (R : RS) : Prop :=
  ∃ L M, FR w p S L (L.foot p S.n) ∧ RR w q R M (M.foot q) ∧ (∀ b, L.foot p S.n b → ¬ M.foot q b) ∧ (∀ b, L.foot p S.n b → B0 ≤ b) ∧ (∀ b, M.foot q b → B0 ≤ b) ∧ (∀ b, X b → b < w.heap.size ∧ ¬ L.foot p S.n b ∧ ¬ M.foot q b)
/-- Behind a call on one of them. -/
def TPost (B0 : Nat) (X : Nat → Prop) (w : World) (p q : Nat) (S : FS) (R : RS) (r : Value) (e : Ending) (w' : World) : Prop :=
  e = .returned r ∧ Two B0 X w' p q S R ∧ Below B0 w w' ∧ ∀ b, X b → w'.heap[b]? = w.heap[b]?
namespace Two
variable {B0 : Nat} {X : Nat → Prop} {w w' : World} {p q : Nat} {S S' : FS} {R R' : RS}
theorem below (h : Two B0 X w p q S R) (hb : Below w.heap.size w w') : Two B0 X w' p q S R := by
  obtain ⟨L, M, h1, h2, h3, h4, h5, h6⟩ := h
  exact ⟨L, M, h1.below hb, h2.below hb, h3, h4, h5, fun b hx => ⟨Nat.lt_of_lt_of_le (h6 b hx).1 hb.size, (h6 b hx).2⟩⟩
theorem drew (h : Two B0 X w p q S R) : Two B0 X w.drew p q S R := h.below (Below.refl _ _).drew
theorem drewN (h : Two B0 X w p q S R) (n : Nat) : Two B0 X (w.drewN n) p q S R := h.below (belowDrewN (Below.refl _ _) n)
theorem forget (h : Two B0 X w p q S R) : Two B0 (fun _ => False) w p q S R := by
  obtain ⟨L, M, h1, h2, h3, h4, h5, h6⟩ := h
  exact ⟨L, M, h1, h2, h3, h4, h5, fun b hx => hx.elim⟩
theorem fresh (h : Two B0 X w p q S R) (o : Obj) : Two B0 (fun b => b = w.heap.size) (w.alloc o) p q S R := by
  obtain ⟨L, M, h1, h2, h3, h4, h5, h6⟩ := h.below ((Below.refl _ w).alloc (Nat.le_refl _) o)
  obtain ⟨L, M, h1, h2, h3, h4, h5, h6⟩ := h
  have hb : Below w.heap.size w (w.alloc o) := (Below.refl _ w).alloc (Nat.le_refl _) o
  refine ⟨L, M, h1.below hb, h2.below hb, h3, h4, h5, fun b hx => ?_⟩
  subst hx
  exact ⟨by simp, fun hf => Nat.lt_irrefl _ (h1.foot_lt _ hf), fun hf => Nat.lt_irrefl _ (h2.foot_lt _ hf)⟩
/-- A call on the Fair. -/
theorem left (h : Two B0 X w p q S R) (hB : B0 ≤ w.heap.size) {f : Nat} {args : Array Value} {r : Value}
    (hc : ∀ L F, FR w p S L F → Calls Try.prog f args w (Post S' w p F r)) : Calls Try.prog f args w (TPost B0 X w p q S' R r) := by
  obtain ⟨L, M, h1, h2, h3, h4, h5, hX⟩ := h
  refine (hc L _ h1).mono fun e w' => ?_
  rintro ⟨rfl, ⟨L', hL⟩, hch⟩
  have hin := hL.foot_in
  refine ⟨rfl, ⟨L', M, hL.tight, h2.chg hch (fun b hb hf => h3 b hf hb), fun b hb hm => ?_, fun b hb => ?_, h5, fun b hx => ⟨Nat.lt_of_lt_of_le (hX b hx).1 hch.size, fun hf => ?_, (hX b hx).2.2⟩⟩, hch.below h4 hB, fun b hx => hch.block b (hX b hx).1 (hX b hx).2.1⟩
  · rcases hin b hb with h6 | h6
    · exact h3 b h6 hm
    · have := h2.foot_lt b hm; omega
  · rcases hin b hb with h6 | h6
    · exact h4 b h6
    · omega
  · rcases hin b hf with h6 | h6
    · exact (hX b hx).2.1 h6
    · have := (hX b hx).1; omega
/-- A call on the reference. -/
theorem right (h : Two B0 X w p q S R) (hB : B0 ≤ w.heap.size) {f : Nat} {args : Array Value} {r : Value}
    (hc : ∀ L F, RR w q R L F → Calls Try.prog f args w (RPost R' w q F r)) : Calls Try.prog f args w (TPost B0 X w p q S R' r) := by
  obtain ⟨L, M, h1, h2, h3, h4, h5, hX⟩ := h
  refine (hc M _ h2).mono fun e w' => ?_
  rintro ⟨rfl, ⟨M', hM⟩, hch⟩
  have hin := hM.foot_in
  refine ⟨rfl, ⟨L, M', h1.chg hch (fun b hb hf => h3 b hb hf), hM.tight, fun b hb hm => ?_, h4, fun b hb => ?_, fun b hx => ⟨Nat.lt_of_lt_of_le (hX b hx).1 hch.size, (hX b hx).2.1, fun hf => ?_⟩⟩, hch.below h5 hB, fun b hx => hch.block b (hX b hx).1 (hX b hx).2.2⟩
  · rcases hin b hm with h6 | h6
    · exact h3 b hb h6
    · have := h1.foot_lt b hb; omega
  · rcases hin b hb with h6 | h6
    · exact h5 b h6
    · omega
  · rcases hin b hf with h6 | h6
    · exact (hX b hx).2.2 h6
    · have := (hX b hx).1; omega
end Two
end Go.Proofs.Ytdnkliapcnfcoaa.fair
