/- The fair queue and the reference, as plain data: the one is as the other. No program in sight. -/
import Derived.Test.YtdnkliapcnfcoaaRo
namespace Go.Proofs.Ytdnkliapcnfcoaa.fair
set_option linter.unusedVariables false
set_option linter.unusedSimpArgs false
theorem hasQ_iff (q : List (Int × Int)) (id : Int) : hasQ q id = true ↔ ∃ x ∈ q, x.1 = id := by
  unfold hasQ posQ
  rw [decide_eq_true_iff, List.findIdx_lt_length]
  simp
theorem hasL_iff (l : List (Int × Int × Int)) (id : Int) : hasL l id = true ↔ ∃ x ∈ l, x.2.1 = id := by
  unfold hasL atL
  rw [decide_eq_true_iff, List.findIdx_lt_length]
  simp
theorem has_iff (S : FS) (id : Int) : S.has id = true ↔ ∃ i, i < S.n ∧ ∃ x ∈ S.q i, x.1 = id := by
  constructor
  · intro h
    obtain ⟨i, hi, hq, _⟩ := FS.has_yes h
    exact ⟨i, hi, (hasQ_iff _ _).1 hq⟩
  · rintro ⟨i, hi, hx⟩
    unfold FS.has
    exact List.any_eq_true.2 ⟨i, List.mem_range.2 hi, (hasQ_iff _ _).2 hx⟩
/-- What waits of one tenant, out of the list of all. -/
def ofT (l : List (Int × Int × Int)) (i : Nat) : List (Int × Int) := (l.filter fun x => x.1 == (i : Int)).map (·.2)
theorem ofT_length (l : List (Int × Int × Int)) (i : Nat) : (ofT l i).length = cntL l i := by simp [ofT, cntL]
theorem mem_ofT (l : List (Int × Int × Int)) (i : Nat) (x : Int × Int) : x ∈ ofT l i ↔ ((i : Int), x) ∈ l := by
  unfold ofT
  rw [List.mem_map]
  constructor
  · rintro ⟨y, hy, rfl⟩
    rw [List.mem_filter] at hy
    obtain ⟨h1, h2⟩ := hy
    have h2 : y.1 = (i : Int) := by simpa using h2
    rw [← h2]; exact h1
  · intro h
    exact ⟨_, List.mem_filter.2 ⟨h, by simp⟩, rfl⟩
theorem ofT_append (a b : List (Int × Int × Int)) (i : Nat) : ofT (a ++ b) i = ofT a i ++ ofT b i := by simp [ofT]
theorem split_at {α : Type} {l : List α} {k : Nat} {x : α} (h : l[k]? = some x) : l = l.take k ++ x :: l.drop (k + 1) := by
  obtain ⟨hk, hx⟩ := List.getElem?_eq_some_iff.1 h
  rw [← hx, List.getElem_cons_drop, List.take_append_drop]
theorem eraseIdx_split {α : Type} (l : List α) (k : Nat) : l.eraseIdx k = l.take k ++ l.drop (k + 1) := List.eraseIdx_eq_take_drop_succ _ _
theorem ofT_erase {l : List (Int × Int × Int)} {k : Nat} {x : Int × Int × Int} (h : l[k]? = some x) (i : Nat) :
    ofT (l.eraseIdx k) i = if x.1 = (i : Int) then (ofT l i).eraseIdx (ofT (l.take k) i).length else ofT l i := by
  have e : ofT l i = ofT (l.take k) i ++ ofT (x :: l.drop (k + 1)) i := by rw [← ofT_append, ← split_at h]
  rw [eraseIdx_split, ofT_append, e]
  split
  next hx =>
    have : ofT (x :: l.drop (k + 1)) i = x.2 :: ofT (l.drop (k + 1)) i := by simp [ofT, hx]
    rw [this, List.eraseIdx_append_of_length_le (Nat.le_refl _)]
    simp
  next hx =>
    have : ofT (x :: l.drop (k + 1)) i = ofT (l.drop (k + 1)) i := by simp [ofT, hx]
    rw [this]
theorem bestTo_congr {ck ck' : Nat → Int} {sm sm' : Nat → Bool} : ∀ (j : Nat), (∀ i, i < j → ck i = ck' i) → (∀ i, i < j → sm i = sm' i) → bestTo ck sm j = bestTo ck' sm' j
  | 0, _, _ => rfl
  | j + 1, h1, h2 => by
    have ih := bestTo_congr j (fun i hi => h1 i (by omega)) (fun i hi => h2 i (by omega))
    unfold bestTo
    rw [h2 j (by omega), ih]
    split
    next hs =>
      cases hb : bestTo ck' sm' j with
      | none => rfl
      | some b =>
        have := bestTo_lt hb
        simp only []
        rw [h1 j (by omega), h1 b (by omega)]
    next => rfl
theorem nodup_inj {α β : Type} (f : α → β) : ∀ {l : List α}, (l.map f).Nodup → ∀ {x y : α}, x ∈ l → y ∈ l → f x = f y → x = y
  | [], _, x, y, hx, _, _ => absurd hx (List.not_mem_nil)
  | a :: l, h, x, y, hx, hy, e => by
    rw [List.map_cons, List.nodup_cons] at h
    rcases List.mem_cons.1 hx with hx | hx <;> rcases List.mem_cons.1 hy with hy | hy
    · rw [hx, hy]
    · exact absurd (List.mem_map.2 ⟨y, hy, by rw [← e, hx]⟩) h.1
    · exact absurd (List.mem_map.2 ⟨x, hx, by rw [e, hy]⟩) h.1
    · exact nodup_inj f h.2 hx hy e
/-- The one is as the other. -/
structure Sim (S : FS) (R : RS) : Prop where
  n : S.n = R.n
  wt : ∀ i, i < S.n → S.wt i = R.wt i
  ck : ∀ i, i < S.n → S.ck i = R.ck i
  now : S.now = R.now
  q : ∀ i, i < S.n → S.q i = ofT R.l i
  ten : ∀ x, x ∈ R.l → 0 ≤ x.1 ∧ x.1 < R.n
  ids : (R.l.map fun x => x.2.1).Nodup
namespace Sim
variable {S : FS} {R : RS}
theorem cnt (h : Sim S R) (i : Nat) (hi : i < S.n) : cntL R.l i = (S.q i).length := by rw [h.q i hi, ofT_length]
theorem has (h : Sim S R) (id : Int) : S.has id = hasL R.l id := by
  rw [Bool.eq_iff_iff, has_iff, hasL_iff]
  constructor
  · rintro ⟨i, hi, x, hx, rfl⟩
    rw [h.q i hi, mem_ofT] at hx
    exact ⟨_, hx, rfl⟩
  · rintro ⟨x, hx, rfl⟩
    have ht := h.ten x hx
    refine ⟨x.1.toNat, by have := h.n; omega, x.2, ?_, rfl⟩
    rw [h.q _ (by have := h.n; omega), mem_ofT]
    rw [show ((x.1.toNat : Nat) : Int) = x.1 by omega]; exact hx
theorem best (h : Sim S R) : S.best S.n = R.best R.n := by
  unfold FS.best RS.best
  rw [← h.n]
  exact bestTo_congr _ h.ck (fun i hi => by unfold FS.busy RS.busy; rw [h.cnt i hi])
theorem waiting (h : Sim S R) (t : Int) : S.waiting t = (cntL R.l t : Int) := by
  unfold FS.waiting
  split
  next ht =>
    rw [← h.cnt t.toNat (by omega), show ((t.toNat : Nat) : Int) = t by omega]
  next ht =>
    have : cntL R.l t = 0 := by
      unfold cntL
      rw [List.length_eq_zero_iff, List.filter_eq_nil_iff]
      intro x hx
      have := h.ten x hx
      have := h.n
      simp; omega
    rw [this]; rfl
theorem clock (h : Sim S R) (t : Int) : S.clock t = R.clock t := by
  unfold FS.clock RS.clock
  have hn := h.n
  by_cases ht : 0 ≤ t ∧ t < S.n
  · rw [if_pos ht, if_pos (by omega), h.ck _ (by omega)]
  · rw [if_neg ht, if_neg (by omega)]
theorem new (ws : List Int) : Sim (FS.new ws) (RS.new ws) := ⟨rfl, fun _ _ => rfl, fun _ _ => rfl, rfl, fun _ _ => rfl, fun x hx => absurd hx (List.not_mem_nil), List.nodup_nil⟩
theorem add (h : Sim S R) (i : Nat) (hi : i < S.n) (id cost : Int) (hh : hasL R.l id = false) (c : Int) :
    Sim (S.put i c (S.q i ++ [(id, cost)]) S.now) { R with l := R.l ++ [((i : Int), id, cost)], ck := upd R.ck i c } := by
  refine ⟨h.n, h.wt, fun k hk => ?_, h.now, fun k hk => ?_, fun x hx => ?_, ?_⟩
  · show upd S.ck i c k = upd R.ck i c k
    by_cases e : k = i
    · subst e; rw [upd_at, upd_at]
    · rw [upd_ne _ _ _ _ e, upd_ne _ _ _ _ e]; exact h.ck k hk
  · show upd S.q i (S.q i ++ [(id, cost)]) k = ofT (R.l ++ [((i : Int), id, cost)]) k
    rw [ofT_append]
    by_cases e : k = i
    · subst e; rw [upd_at, h.q k hk]; simp [ofT]
    · rw [upd_ne _ _ _ _ e, h.q k hk]
      have : ofT [((i : Int), id, cost)] k = [] := by simp [ofT]; omega
      rw [this, List.append_nil]
  · show 0 ≤ x.1 ∧ x.1 < (R.n : Int)
    rcases List.mem_append.1 hx with hx | hx
    · exact h.ten x hx
    · have := h.n
      simp at hx; subst hx; simp; omega
  · show ((R.l ++ [((i : Int), id, cost)]).map fun x => x.2.1).Nodup
    rw [List.map_append, List.nodup_append]
    refine ⟨h.ids, by simp, ?_⟩
    intro a ha b hb
    simp at hb; subst hb
    rintro rfl
    obtain ⟨x, hx, hx2⟩ := List.mem_map.1 ha
    have := (hasL_iff R.l a).2 ⟨x, hx, hx2⟩
    rw [hh] at this; cases this
theorem erase_ids {l : List (Int × Int × Int)} (h : (l.map fun x => x.2.1).Nodup) (k : Nat) : ((l.eraseIdx k).map fun x => x.2.1).Nodup :=
  h.sublist ((List.eraseIdx_sublist l k).map _)
theorem erase_ten {l : List (Int × Int × Int)} {n : Nat} (h : ∀ x, x ∈ l → 0 ≤ x.1 ∧ x.1 < (n : Int)) (k : Nat) : ∀ x, x ∈ l.eraseIdx k → 0 ≤ x.1 ∧ x.1 < (n : Int) :=
  fun x hx => h x (List.mem_of_mem_eraseIdx hx)
/-- Next: the same answer; and the one is as the other again. -/
theorem next (h : Sim S R) : S.next.1 = R.next.1 ∧ Sim S.next.2 R.next.2 := by
  have hb := h.best
  unfold FS.next RS.next
  rw [← hb]
  cases hbest : S.best S.n with
  | none => exact ⟨rfl, h⟩
  | some b =>
    obtain ⟨hbn, hbb⟩ := bestTo_lt hbest
    have hcnt : 0 < cntL R.l b := by rw [h.cnt b hbn]; simpa [FS.busy] using hbb
    have hf := firstOf_lt hcnt
    obtain ⟨x, hx⟩ : ∃ x, R.l[firstOf R.l b]? = some x := ⟨_, List.getElem?_eq_getElem hf⟩
    have hx1 : x.1 = (b : Int) := by
      have := List.findIdx_getElem (p := fun x : Int × Int × Int => x.1 == (b : Int)) (xs := R.l) (w := hf)
      rw [← (List.getElem?_eq_some_iff.1 hx).2]; exact beq_iff_eq.1 this
    have hpre : ofT (R.l.take (firstOf R.l b)) b = [] := by
      unfold ofT
      rw [List.map_eq_nil_iff, List.filter_eq_nil_iff]
      intro y hy
      obtain ⟨k, hk, rfl⟩ := List.mem_iff_getElem.1 hy
      rw [List.length_take] at hk
      rw [List.getElem_take]
      have := List.not_of_lt_findIdx (p := fun x : Int × Int × Int => x.1 == (b : Int)) (xs := R.l) (i := k) (by unfold firstOf at hk; omega)
      simpa using this
    have hq : S.q b = x.2 :: ofT (R.l.drop (firstOf R.l b + 1)) b := by
      rw [h.q b hbn]
      conv => lhs; rw [split_at hx, ofT_append, hpre, List.nil_append]
      simp [ofT, hx1]
    obtain ⟨x0, x1, x2⟩ := x
    simp only [hq, hx]
    refine ⟨trivial, h.n, h.wt, fun k hk => ?_, ?_, fun k hk => ?_, erase_ten h.ten _, erase_ids h.ids _⟩
    · show upd S.ck b (S.ck b + x2 * (720720 / S.wt b)) k = upd R.ck b (R.ck b + x2 * (720720 / R.wt b)) k
      by_cases e : k = b
      · subst e; rw [upd_at, upd_at, h.ck k hbn, h.wt k hbn]
      · rw [upd_ne _ _ _ _ e, upd_ne _ _ _ _ e]; exact h.ck k hk
    · exact h.ck b hbn
    · show upd S.q b (ofT (R.l.drop (firstOf R.l b + 1)) b) k = ofT (R.l.eraseIdx (firstOf R.l b)) k
      rw [ofT_erase hx]
      by_cases e : k = b
      · subst e
        rw [upd_at, if_pos hx1, hpre, ← h.q k hbn, hq]; rfl
      · rw [upd_ne _ _ _ _ e, if_neg (by simp only at hx1; omega), h.q k hk]
/-- Cancel of what is there. -/
theorem cancel (h : Sim S R) (id : Int) (i : Nat) (hi : i < S.n) (hy : hasQ (S.q i) id = true) :
    Sim (S.put i (S.ck i) ((S.q i).eraseIdx (posQ (S.q i) id)) S.now) { R with l := R.l.eraseIdx (atL R.l id) } := by
  obtain ⟨y, hym, hyid⟩ := (hasQ_iff _ _).1 hy
  rw [h.q i hi, mem_ofT] at hym
  have hl : hasL R.l id = true := (hasL_iff _ _).2 ⟨_, hym, hyid⟩
  have hk := hasL_lt hl
  obtain ⟨x, hx⟩ : ∃ x, R.l[atL R.l id]? = some x := ⟨_, List.getElem?_eq_getElem hk⟩
  have hxid : x.2.1 = id := by
    have := List.findIdx_getElem (p := fun x : Int × Int × Int => x.2.1 == id) (xs := R.l) (w := hk)
    rw [← (List.getElem?_eq_some_iff.1 hx).2]; exact beq_iff_eq.1 this
  have hxy : x = ((i : Int), y) := by
    exact nodup_inj _ h.ids (List.mem_of_getElem? hx) hym (hxid.trans hyid.symm)
  have hx1 : x.1 = (i : Int) := by rw [hxy]
  have hpos : posQ (S.q i) id = (ofT (R.l.take (atL R.l id)) i).length := by
    have e : S.q i = ofT (R.l.take (atL R.l id)) i ++ x.2 :: ofT (R.l.drop (atL R.l id + 1)) i := by
      rw [h.q i hi]
      conv => lhs; rw [split_at hx, ofT_append]
      congr 1
      simp [ofT, hx1]
    unfold posQ
    rw [e, List.findIdx_append]
    have hnone : List.findIdx (fun x : Int × Int => x.1 == id) (ofT (R.l.take (atL R.l id)) i) = (ofT (R.l.take (atL R.l id)) i).length := by
      rw [List.findIdx_eq_length]
      intro z hz
      rw [mem_ofT] at hz
      obtain ⟨k, hk2, he⟩ := List.mem_iff_getElem.1 hz
      rw [List.length_take] at hk2
      rw [List.getElem_take] at he
      have := List.not_of_lt_findIdx (p := fun x : Int × Int × Int => x.2.1 == id) (xs := R.l) (i := k) (by unfold atL at hk2; omega)
      rw [he] at this
      simpa using this
    rw [hnone, if_neg (by omega)]
    simp [List.findIdx_cons, hxid]
  refine ⟨h.n, h.wt, fun k hk => ?_, h.now, fun k hk => ?_, erase_ten h.ten _, erase_ids h.ids _⟩
  · show upd S.ck i (S.ck i) k = R.ck k
    rw [upd_self]; exact h.ck k hk
  · show upd S.q i ((S.q i).eraseIdx (posQ (S.q i) id)) k = ofT (R.l.eraseIdx (atL R.l id)) k
    rw [ofT_erase hx]
    by_cases e : k = i
    · subst e; rw [upd_at, if_pos hx1, hpos, ← h.q k hi]
    · rw [upd_ne _ _ _ _ e, if_neg (by omega), h.q k hk]
end Sim
end Go.Proofs.Ytdnkliapcnfcoaa.fair
