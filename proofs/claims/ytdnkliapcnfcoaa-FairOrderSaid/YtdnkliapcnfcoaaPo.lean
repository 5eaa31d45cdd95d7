/- FairOrder, as plain data. -/
import Derived.Test.YtdnkliapcnfcoaaDu
namespace Go.Proofs.Ytdnkliapcnfcoaa.fair
set_option linter.unusedVariables false
set_option linter.unusedSimpArgs false
/-- Just these wait, in the order in which they came. -/
def Ord (S : FS) (l : List (Int × Int × Int)) (k : Nat) : Prop := ∃ R, Inv S R k ∧ R.l = l
theorem Ord.good {S : FS} {l : List (Int × Int × Int)} {k : Nat} (h : Ord S l k) : Good S (k * 7207200000) := by obtain ⟨R, h, _⟩ := h; exact h.good
theorem Ord.len {S : FS} {l : List (Int × Int × Int)} {k : Nat} (h : Ord S l k) : l.length ≤ k := by obtain ⟨R, h, rfl⟩ := h; exact h.len
theorem Ord.new (ws : List Int) (h : wOk ws = true) : Ord (FS.new ws) [] 0 := ⟨_, Inv.new ws h, rfl⟩
theorem Ord.mono {S : FS} {l : List (Int × Int × Int)} {k : Nat} (h : Ord S l k) : Ord S l (k + 1) := by obtain ⟨R, h, e⟩ := h; exact ⟨R, h.mono, e⟩
theorem Ord.add {S : FS} {l : List (Int × Int × Int)} {k : Nat} (h : Ord S l k) (n id cost : Int) :
    ((S.addR n id cost).1 = 0 → Ord (S.addR n id cost).2 (l ++ [(n, id, cost)]) (k + 1)) ∧ ((S.addR n id cost).1 ≠ 0 → Ord (S.addR n id cost).2 l (k + 1)) := by
  obtain ⟨R, h, rfl⟩ := h
  obtain ⟨h1, h2⟩ := h.add n id cost
  have : ((R.addR n id cost).1 = 0 ∧ (R.addR n id cost).2.l = R.l ++ [(n, id, cost)]) ∨ ((R.addR n id cost).1 ≠ 0 ∧ (R.addR n id cost).2.l = R.l) := by
    unfold RS.addR
    split
    · right; exact ⟨by simp, rfl⟩
    · split
      · right; exact ⟨by simp, rfl⟩
      · split
        · right; exact ⟨by simp, rfl⟩
        · left; exact ⟨rfl, rfl⟩
  rw [h1]
  rcases this with ⟨a, b⟩ | ⟨a, b⟩
  · exact ⟨fun _ => ⟨_, h2, b⟩, fun hn => absurd a hn⟩
  · exact ⟨fun hn => absurd hn a, fun _ => ⟨_, h2, b⟩⟩
def without (l : List (Int × Int × Int)) (id : Int) : List (Int × Int × Int) := l.filter fun x => x.2.1 != id
theorem without_snoc (l : List (Int × Int × Int)) (x : Int × Int × Int) (id : Int) : without (l ++ [x]) id = without l id ++ if x.2.1 != id then [x] else [] := by
  unfold without
  rw [List.filter_append]
  cases h : x.2.1 != id <;> simp [h]
theorem without_all {l : List (Int × Int × Int)} {id : Int} (h : ∀ x, x ∈ l → x.2.1 ≠ id) : without l id = l := by
  unfold without
  rw [List.filter_eq_self]
  intro x hx; simpa using h x hx
theorem without_one {l : List (Int × Int × Int)} (hn : (l.map fun x => x.2.1).Nodup) {id : Int} (h : hasL l id = true) : without l id = l.eraseIdx (atL l id) := by
  have hk := hasL_lt h
  obtain ⟨x, hx⟩ : ∃ x, l[atL l id]? = some x := ⟨_, List.getElem?_eq_getElem hk⟩
  have hxid : x.2.1 = id := by
    have := List.findIdx_getElem (p := fun x : Int × Int × Int => x.2.1 == id) (xs := l) (w := hk)
    rw [← (List.getElem?_eq_some_iff.1 hx).2]; exact beq_iff_eq.1 this
  have e := split_at hx
  rw [eraseIdx_split]
  conv => lhs; rw [e]
  have h1 : ∀ y, y ∈ l.take (atL l id) → y.2.1 ≠ id := by
    intro y hy
    obtain ⟨k, hk2, rfl⟩ := List.mem_iff_getElem.1 hy
    rw [List.length_take] at hk2
    rw [List.getElem_take]
    have := List.not_of_lt_findIdx (p := fun x : Int × Int × Int => x.2.1 == id) (xs := l) (i := k) (by unfold atL at hk2; omega)
    simpa using this
  have h2 : ∀ y, y ∈ l.drop (atL l id + 1) → y.2.1 ≠ id := by
    intro y hy hyid
    rw [e, List.map_append, List.map_cons, List.nodup_append] at hn
    have := (List.nodup_cons.1 hn.2.1).1
    exact this (List.mem_map.2 ⟨y, hy, by rw [hyid, hxid]⟩)
  unfold without
  rw [List.filter_append, List.filter_cons, if_neg (by simp [hxid])]
  exact congr (congrArg _ (without_all h1)) (without_all h2)
theorem Ord.cancel {S : FS} {l : List (Int × Int × Int)} {k : Nat} (h : Ord S l k) (id : Int) :
    (S.cancelR id).1 = decide ((without l id).length < l.length) ∧ Ord (S.cancelR id).2 (without l id) (k + 1) := by
  obtain ⟨R, h, rfl⟩ := h
  obtain ⟨h1, h2⟩ := h.cancel id
  rw [h1]
  cases hh : hasL R.l id
  · have e : without R.l id = R.l := without_all fun x hx hid => by
      have := (hasL_iff R.l id).2 ⟨x, hx, hid⟩
      rw [hh] at this; cases this
    have e2 : R.cancelR id = (false, R) := by unfold RS.cancelR; rw [hh, if_neg (by simp)]
    rw [e2] at h2
    rw [e, e2]; exact ⟨by simp, ⟨R, h2, rfl⟩⟩
  · have e := without_one h.sim.ids hh
    have e2 : R.cancelR id = (true, { R with l := R.l.eraseIdx (atL R.l id) }) := by unfold RS.cancelR; rw [hh, if_pos rfl]
    have := hasL_lt hh
    have := List.length_eraseIdx_of_lt this
    rw [e2] at h2
    rw [e, e2]; exact ⟨by simp; omega, ⟨_, h2, rfl⟩⟩
theorem Ord.next {S : FS} {l : List (Int × Int × Int)} {k : Nat} (h : Ord S l k) (hl : l ≠ []) :
    ∃ i t id c, l[i]? = some (t, id, c) ∧ (∀ j y, j < i → l[j]? = some y → (y.1 == t) = false ∧ (y.2.1 == id) = false) ∧ S.next.1 = (id, c, true) ∧ Ord S.next.2 (l.eraseIdx i) (k + 1) := by
  obtain ⟨R, h, rfl⟩ := h
  obtain ⟨h1, h2⟩ := h.next
  cases hb : R.best R.n with
  | none =>
    exfalso
    cases hR : R.l with
    | nil => exact hl hR
    | cons x r =>
      have hx := h.sim.ten x (by rw [hR]; simp)
      have := bestTo_none hb x.1.toNat (by omega)
      simp only [RS.busy, decide_eq_false_iff_not, cntL, hR] at this
      rw [show ((x.1.toNat : Nat) : Int) = x.1 by omega] at this
      simp at this
  | some b =>
    obtain ⟨hbn, hbb⟩ := bestTo_lt hb
    have hf := firstOf_lt (show 0 < cntL R.l b by simpa [RS.busy] using hbb)
    obtain ⟨x, hx⟩ : ∃ x, R.l[firstOf R.l b]? = some x := ⟨_, List.getElem?_eq_getElem hf⟩
    have e : R.next = ((x.2.1, x.2.2, true), { R with l := R.l.eraseIdx (firstOf R.l b), ck := upd R.ck b (R.ck b + x.2.2 * (720720 / R.wt b)), now := R.ck b }) := by
      unfold RS.next; rw [hb]; simp only [hx]
    have hx1 : x.1 = (b : Int) := by
      have := List.findIdx_getElem (p := fun x : Int × Int × Int => x.1 == (b : Int)) (xs := R.l) (w := hf)
      rw [← (List.getElem?_eq_some_iff.1 hx).2]; exact beq_iff_eq.1 this
    rw [e] at h1 h2
    refine ⟨firstOf R.l b, x.1, x.2.1, x.2.2, hx, fun j y hj hy => ⟨?_, ?_⟩, h1, _, h2, rfl⟩
    · have hjl : j < R.l.length := by omega
      have := List.not_of_lt_findIdx (p := fun x : Int × Int × Int => x.1 == (b : Int)) (xs := R.l) (i := j) hj
      rw [(List.getElem?_eq_some_iff.1 hy).2] at this
      rw [hx1]; simpa using this
    · have hne : j ≠ firstOf R.l b := by omega
      cases hid : y.2.1 == x.2.1
      · rfl
      · have := nodup_inj (fun x : Int × Int × Int => x.2.1) h.sim.ids (List.mem_of_getElem? hy) (List.mem_of_getElem? hx) (beq_iff_eq.1 hid)
        subst this
        have hjl : j < R.l.length := by omega
        have hnot := List.not_of_lt_findIdx (p := fun x : Int × Int × Int => x.1 == (b : Int)) (xs := R.l) (i := j) hj
        rw [(List.getElem?_eq_some_iff.1 hy).2, hx1] at hnot
        simp at hnot
theorem Ord.ends {S : FS} {k : Nat} (h : Ord S [] k) : S.next = ((0, 0, false), S) := by
  obtain ⟨R, h, hl⟩ := h
  have : S.best S.n = none := by
    cases hb : S.best S.n with
    | none => rfl
    | some b =>
      obtain ⟨hbn, hbb⟩ := bestTo_lt hb
      have := h.sim.cnt b hbn
      rw [hl] at this
      simp [FS.busy, ← this, cntL] at hbb
  unfold FS.next; rw [this]
end Go.Proofs.Ytdnkliapcnfcoaa.fair
