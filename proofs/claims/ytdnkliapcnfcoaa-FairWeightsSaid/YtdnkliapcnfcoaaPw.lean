/- FairWeights, as plain data. -/
import Derived.Test.YtdnkliapcnfcoaaDu
namespace Go.Proofs.Ytdnkliapcnfcoaa.fair
set_option linter.unusedVariables false
set_option linter.unusedSimpArgs false
theorem unit_exact (w : Int) (h : 1 ≤ w ∧ w ≤ 16) : 720720 / w * w = 720720 ∧ 45045 ≤ 720720 / w ∧ 720720 / w ≤ 720720 := by
  have : w = 1 ∨ w = 2 ∨ w = 3 ∨ w = 4 ∨ w = 5 ∨ w = 6 ∨ w = 7 ∨ w = 8 ∨ w = 9 ∨ w = 10 ∨ w = 11 ∨ w = 12 ∨ w = 13 ∨ w = 14 ∨ w = 15 ∨ w = 16 := by omega
  rcases this with rfl | rfl | rfl | rfl | rfl | rfl | rfl | rfl | rfl | rfl | rfl | rfl | rfl | rfl | rfl | rfl <;> decide
/-- At first: of the first so many two wait each, of the next one so many. -/
structure Lay (S : FS) (n : Nat) (ws : List Int) (j k : Nat) (T : Int) : Prop where
  nn : S.n = n
  wt : ∀ i, i < n → S.wt i = ws.getD i 0
  good : Good S 0
  len : ∀ i, i < n → (S.q i).length = if i < j then 2 else if i = j then k else 0
  cost : ∀ i, i < n → ∀ x, x ∈ S.q i → x.2 ≤ T
  ids : ∀ i, i < n → ∀ x, x ∈ S.q i → 0 ≤ x.1 ∧ x.1 < 2 * j + k ∧ x.1 / 2 = i
  ck : ∀ i, i < n → S.ck i = 0
  now : S.now = 0
theorem lay_new (ws : List Int) (h : wOk ws = true) : Lay (FS.new ws) ws.length ws 0 0 1 :=
  ⟨rfl, fun _ _ => rfl, good_new ws h 0 (by omega), fun i hi => by simp [FS.new], fun i hi x hx => absurd hx (List.not_mem_nil), fun i hi x hx => absurd hx (List.not_mem_nil), fun _ _ => rfl, rfl⟩
theorem addR_new {S : FS} (i : Nat) (hi : i < S.n) (id cost : Int) (h1 : 1 ≤ cost) (h2 : cost ≤ 10000) (hh : S.has id = false) (hl : (S.q i).length < 16) :
    S.addR i id cost = (0, S.put i (if (S.q i).length = 0 then mx (S.ck i) S.now else S.ck i) (S.q i ++ [(id, cost)]) S.now) := by
  unfold FS.addR
  rw [if_neg (by omega), hh, if_neg Bool.false_ne_true, Int.toNat_natCast, if_neg (by omega)]
theorem has_below {S : FS} {id : Int} (h : ∀ i, i < S.n → ∀ x, x ∈ S.q i → x.1 < id) : S.has id = false := by
  cases hh : S.has id
  · rfl
  · obtain ⟨i, hi, x, hx, e⟩ := (has_iff S id).1 hh
    have := h i hi x hx; omega
theorem Lay.step {S : FS} {n : Nat} {ws : List Int} {j k : Nat} {T : Int} (h : Lay S n ws j k T) (hj : j < n) (hk : k < 2) (c : Int) (hc : 1 ≤ c ∧ c ≤ 10000) :
    ∃ S1, S.addR j (((2 * j + k : Nat)) : Int) c = (0, S1) ∧ Lay S1 n ws j (k + 1) (mx T c) := by
  have hn := h.nn
  have hlen := h.len j hj
  rw [if_neg (by omega), if_pos rfl] at hlen
  have e := addR_new (S := S) j (by omega) ((2 * j + k : Nat) : Int) c hc.1 hc.2 (has_below fun i hi x hx => by have := h.ids i (by omega) x hx; omega) (by omega)
  have hm := mx_cases T c
  have hg := h.good.add j ((2 * j + k : Nat) : Int) c
  have hck : (if (S.q j).length = 0 then mx (S.ck j) S.now else S.ck j) = 0 := by
    rw [h.ck j hj, h.now]; unfold mx; split <;> simp
  rw [hck] at e
  rw [e] at hg
  refine ⟨_, e, hn, h.wt, hg, fun i hi => ?_, fun i hi x hx => ?_, fun i hi x hx => ?_, fun i hi => ?_, h.now⟩
  · show (upd S.q j (S.q j ++ [(((2 * j + k : Nat) : Int), c)]) i).length = _
    by_cases e : i = j
    · subst e; rw [upd_at, List.length_append, hlen, if_neg (by omega), if_pos rfl]; rfl
    · rw [upd_ne _ _ _ _ e, h.len i hi]
      by_cases h1 : i < j
      · rw [if_pos h1, if_pos h1]
      · rw [if_neg h1, if_neg h1, if_neg e, if_neg e]
  · change x ∈ upd S.q j (S.q j ++ [(((2 * j + k : Nat) : Int), c)]) i at hx
    by_cases e : i = j
    · subst e; rw [upd_at] at hx
      rcases List.mem_append.1 hx with hx | hx
      · have := h.cost i hi x hx; omega
      · simp at hx; subst hx; simp; omega
    · rw [upd_ne _ _ _ _ e] at hx; have := h.cost i hi x hx; omega
  · change x ∈ upd S.q j (S.q j ++ [(((2 * j + k : Nat) : Int), c)]) i at hx
    by_cases e : i = j
    · subst e; rw [upd_at] at hx
      rcases List.mem_append.1 hx with hx | hx
      · have := h.ids i hi x hx; omega
      · simp at hx; subst hx; simp; omega
    · rw [upd_ne _ _ _ _ e] at hx; have := h.ids i hi x hx; omega
  · show upd S.ck j 0 i = 0
    by_cases e : i = j
    · subst e; rw [upd_at]
    · rw [upd_ne _ _ _ _ e]; exact h.ck i hi
theorem Lay.roll {S : FS} {n : Nat} {ws : List Int} {j : Nat} {T : Int} (h : Lay S n ws j 2 T) : Lay S n ws (j + 1) 0 T :=
  ⟨h.nn, h.wt, h.good, fun i hi => by
    rw [h.len i hi]
    by_cases h1 : i < j
    · rw [if_pos h1, if_pos (by omega)]
    · rw [if_neg h1]
      by_cases h2 : i = j
      · rw [if_pos h2, if_pos (by omega)]
      · rw [if_neg h2, if_neg (by omega)]; split <;> rfl, h.cost, fun i hi x hx => by have := h.ids i hi x hx; omega, h.ck, h.now⟩
def half (m : Nat) : Int → Option Int := fun x => if 0 ≤ x ∧ x < m then some (x / 2) else none
/-- Then: of each two wait; what was served. -/
structure Wts (S : FS) (n : Nat) (ws : List Int) (sv : Nat → Int) (f : Int → Option Int) (id : Int) (k : Nat) (T : Int) : Prop where
  nn : S.n = n
  wt : ∀ i, i < n → S.wt i = ws.getD i 0
  good : Good S (k * 7207200000)
  len : ∀ i, i < n → (S.q i).length = 2
  cost : ∀ i, i < n → ∀ x, x ∈ S.q i → x.2 ≤ T
  ids : ∀ i, i < n → ∀ x, x ∈ S.q i → 0 ≤ x.1 ∧ x.1 < id ∧ f x.1 = some (i : Int)
  ck : ∀ i, i < n → S.ck i = sv i * (720720 / ws.getD i 0)
  near : ∀ a b, a < n → b < n → S.ck a ≤ S.ck b + T * (720720 / ws.getD a 0)
  sv0 : ∀ i, i < n → 0 ≤ sv i ∧ sv i ≤ k * 10000
  top : 1 ≤ T ∧ T ≤ 10000
theorem Lay.wts {S : FS} {n : Nat} {ws : List Int} {T : Int} (h : Lay S n ws n 0 T) (hT : 1 ≤ T ∧ T ≤ 10000) : Wts S n ws (fun _ => 0) (half (2 * n)) ((2 * n : Nat) : Int) 0 T :=
  ⟨h.nn, h.wt, h.good.mono (by omega), fun i hi => by rw [h.len i hi, if_pos hi], h.cost, fun i hi x hx => by
    obtain ⟨h1, h2, h3⟩ := h.ids i hi x hx
    refine ⟨h1, by omega, ?_⟩
    unfold half
    rw [if_pos ⟨h1, by omega⟩, h3], fun i hi => by rw [h.ck i hi]; simp, fun a b ha hb => by
    rw [h.ck a ha, h.ck b hb]
    have hw : 1 ≤ ws.getD a 0 ∧ ws.getD a 0 ≤ 16 := by rw [← h.wt a ha]; exact h.good.wt a (by rw [h.nn]; exact ha)
    have := (unit_exact _ hw).2.1
    have : 0 ≤ T * (720720 / ws.getD a 0) := Int.mul_nonneg (by omega) (by omega)
    omega, fun i hi => ⟨Int.le_refl _, by omega⟩, hT⟩
theorem bestTo_min {ck : Nat → Int} {sm : Nat → Bool} : ∀ {j b : Nat}, bestTo ck sm j = some b → ∀ k, k < j → sm k = true → ck b ≤ ck k
  | 0, b, h, k, hk, _ => by omega
  | j + 1, b, h, k, hk, hs => by
    unfold bestTo at h
    split at h
    next hsj =>
      split at h
      next hb =>
        cases h
        by_cases e : k = j
        · subst e; exact Int.le_refl _
        · have := bestTo_none hb k (by omega); rw [hs] at this; cases this
      next b' hb =>
        have ih := fun k hk hs => bestTo_min hb k hk hs
        split at h
        next hlt =>
          cases h
          by_cases e : k = j
          · subst e; exact Int.le_refl _
          · have := ih k (by omega) hs; omega
        next hge =>
          cases h
          by_cases e : k = j
          · subst e; omega
          · exact ih k (by omega) hs
    next hsj =>
      by_cases e : k = j
      · subst e; rw [hs] at hsj; exact absurd rfl hsj
      · exact bestTo_min h k (by omega) hs
def setM (f : Int → Option Int) (id v : Int) : Int → Option Int := fun y => if y = id then some v else f y
theorem Wts.step {S : FS} {n : Nat} {ws : List Int} {sv : Nat → Int} {f : Int → Option Int} {id : Int} {k : Nat} {T : Int} (h : Wts S n ws sv f id k T) (hn : 0 < n) (c : Int) (hc : 1 ≤ c ∧ c ≤ 10000) :
    ∃ b x cx S1 S2, b < n ∧ S.next = ((x, cx, true), S1) ∧ 1 ≤ cx ∧ cx ≤ 10000 ∧ 0 ≤ x ∧ x < id ∧ f x = some (b : Int) ∧ S1.addR b id c = (0, S2) ∧ Good S1 ((k + 1 : Nat) * 7207200000) ∧
      Wts S2 n ws (upd sv b (sv b + cx)) (setM f id b) (id + 1) (k + 1) (mx T c) := by
  have hSn := h.nn
  have hT := h.top
  have hm := mx_cases T c
  cases hbest : S.best S.n with
  | none =>
    have := bestTo_none hbest 0 (by omega)
    simp [FS.busy, h.len 0 hn] at this
  | some b =>
    obtain ⟨hbn, hbb⟩ := bestTo_lt hbest
    have hbn : b < n := by omega
    have hmin : ∀ i, i < n → S.ck b ≤ S.ck i := fun i hi => bestTo_min hbest i (by omega) (by simp [FS.busy, h.len i hi])
    have hl := h.len b hbn
    obtain ⟨x, cx, y, hq⟩ : ∃ x cx y, S.q b = [(x, cx), y] := by
      match hq : S.q b, hl with
      | [(x, cx), y], _ => exact ⟨x, cx, y, rfl⟩
    obtain ⟨i1, i2, i3⟩ := h.ids b hbn (x, cx) (by rw [hq]; simp)
    have hcx := h.good.cost b (by omega) (x, cx) (by rw [hq]; simp)
    have hcT := h.cost b hbn (x, cx) (by rw [hq]; simp)
    simp only at i1 i2 i3 hcx hcT
    have hnx : S.next = ((x, cx, true), S.put b (S.ck b + cx * (720720 / S.wt b)) [y] (S.ck b)) := by unfold FS.next; rw [hbest]; simp only [hq]
    have hg1 := h.good.next
    rw [hnx] at hg1
    have hg1 : Good (S.put b (S.ck b + cx * (720720 / S.wt b)) [y] (S.ck b)) ((k + 1 : Nat) * 7207200000) := hg1.mono (by omega)
    have hq1 : ∀ i, (S.put b (S.ck b + cx * (720720 / S.wt b)) [y] (S.ck b)).q i = if i = b then [y] else S.q i := fun i => rfl
    have hin : ∀ i, i < n → ∀ z, z ∈ (S.put b (S.ck b + cx * (720720 / S.wt b)) [y] (S.ck b)).q i → z ∈ S.q i := by
      intro i hi z hz
      rw [hq1] at hz
      split at hz
      next e => subst e; rw [hq]; exact List.mem_cons_of_mem _ hz
      next => exact hz
    have e := addR_new (S := S.put b (S.ck b + cx * (720720 / S.wt b)) [y] (S.ck b)) b (by show b < S.n; omega) id c hc.1 hc.2 (has_below fun i hi z hz => (h.ids i (by change i < S.n at hi; omega) z (hin i (by change i < S.n at hi; omega) z hz)).2.1) (by rw [hq1, if_pos rfl]; simp)
    have hg2 := hg1.add b id c
    rw [e] at hg2
    have eck : (S.put b (S.ck b + cx * (720720 / S.wt b)) [y] (S.ck b)).ck b = S.ck b + cx * (720720 / S.wt b) := by simp [FS.put, upd]
    have eq0 : ((S.put b (S.ck b + cx * (720720 / S.wt b)) [y] (S.ck b)).q b) = [y] := by rw [hq1, if_pos rfl]
    rw [eq0, eck, if_neg (by simp)] at e hg2
    refine ⟨b, x, cx, _, _, hbn, hnx, hcx.1, hcx.2, i1, i2, i3, e, hg1, hSn, h.wt, hg2, fun i hi => ?_, fun i hi z hz => ?_, fun i hi z hz => ?_, fun i hi => ?_, fun a b' ha hb' => ?_, fun i hi => ?_, by omega⟩
    · show (upd _ b ([y] ++ [(id, c)]) i).length = 2
      by_cases e : i = b
      · subst e; rw [upd_at]; rfl
      · rw [upd_ne _ _ _ _ e]; show (upd S.q b [y] i).length = 2; rw [upd_ne _ _ _ _ e]; exact h.len i hi
    · change z ∈ upd (upd S.q b [y]) b ([y] ++ [(id, c)]) i at hz
      by_cases e : i = b
      · subst e; rw [upd_at] at hz
        simp at hz
        rcases hz with rfl | rfl
        · have := h.cost i hi z (by rw [hq]; simp); omega
        · simp; omega
      · rw [upd_ne _ _ _ _ e, upd_ne _ _ _ _ e] at hz; have := h.cost i hi z hz; omega
    · change z ∈ upd (upd S.q b [y]) b ([y] ++ [(id, c)]) i at hz
      by_cases e : i = b
      · subst e; rw [upd_at] at hz
        simp at hz
        rcases hz with rfl | rfl
        · obtain ⟨a1, a2, a3⟩ := h.ids i hi z (by rw [hq]; simp)
          exact ⟨a1, by omega, by unfold setM; rw [if_neg (by omega)]; exact a3⟩
        · exact ⟨by simp; omega, by simp; omega, by simp [setM]⟩
      · rw [upd_ne _ _ _ _ e, upd_ne _ _ _ _ e] at hz
        obtain ⟨a1, a2, a3⟩ := h.ids i hi z hz
        exact ⟨a1, by omega, by unfold setM; rw [if_neg (by omega)]; exact a3⟩
    · show upd (upd S.ck b _) b (S.ck b + cx * (720720 / S.wt b)) i = upd sv b (sv b + cx) i * _
      by_cases e : i = b
      · subst e; rw [upd_at, upd_at, h.ck i hi, h.wt i hi, Int.add_mul]
      · rw [upd_ne _ _ _ _ e, upd_ne _ _ _ _ e, upd_ne _ _ _ _ e]; exact h.ck i hi
    · show upd (upd S.ck b _) b (S.ck b + cx * (720720 / S.wt b)) a ≤ upd (upd S.ck b _) b (S.ck b + cx * (720720 / S.wt b)) b' + mx T c * (720720 / ws.getD a 0)
      have hwa : 1 ≤ ws.getD a 0 ∧ ws.getD a 0 ≤ 16 := by rw [← h.wt a ha]; exact h.good.wt a (by omega)
      have hwb : 1 ≤ ws.getD b 0 ∧ ws.getD b 0 ≤ 16 := by rw [← h.wt b hbn]; exact h.good.wt b (by omega)
      have ua := (unit_exact _ hwa).2.1
      have ub := (unit_exact _ hwb).2.1
      have m1 : T * (720720 / ws.getD a 0) ≤ mx T c * (720720 / ws.getD a 0) := Int.mul_le_mul_of_nonneg_right (by omega) (by omega)
      have m2 : 0 ≤ cx * (720720 / S.wt b) := by rw [h.wt b hbn]; exact Int.mul_nonneg (by omega) (by omega)
      have m3 : cx * (720720 / ws.getD b 0) ≤ T * (720720 / ws.getD b 0) := Int.mul_le_mul_of_nonneg_right (by omega) (by omega)
      have m4 : 0 ≤ T * (720720 / ws.getD a 0) := Int.mul_nonneg (by omega) (by omega)
      have nab := h.near a b' ha hb'
      by_cases e1 : a = b
      · subst e1
        rw [upd_at]
        by_cases e2 : b' = a
        · subst e2; rw [upd_at]; omega
        · rw [upd_ne _ _ _ _ e2, upd_ne _ _ _ _ e2]
          have := hmin b' hb'
          rw [h.wt a ha]
          omega
      · rw [upd_ne _ _ _ _ e1, upd_ne _ _ _ _ e1]
        by_cases e2 : b' = b
        · subst e2; rw [upd_at]; omega
        · rw [upd_ne _ _ _ _ e2, upd_ne _ _ _ _ e2]; omega
    · show 0 ≤ upd sv b (sv b + cx) i ∧ upd sv b (sv b + cx) i ≤ _
      have := h.sv0 i hi
      by_cases e : i = b
      · subst e; rw [upd_at]; omega
      · rw [upd_ne _ _ _ _ e]; omega
/-- The law. -/
theorem Wts.law {S : FS} {n : Nat} {ws : List Int} {sv : Nat → Int} {f : Int → Option Int} {id : Int} {k : Nat} {T : Int} (h : Wts S n ws sv f id k T) (a b : Nat) (ha : a < n) (hb : b < n) (m : Int)
    (hm : 0 ≤ m ∧ m ≤ ws.getD a 0) : (sv a * ws.getD b 0 - sv b * ws.getD a 0) * m ≤ 2 * T * ws.getD a 0 * ws.getD b 0 := by
  have hwa : 1 ≤ ws.getD a 0 ∧ ws.getD a 0 ≤ 16 := by rw [← h.wt a ha]; exact h.good.wt a (by rw [h.nn]; exact ha)
  have hwb : 1 ≤ ws.getD b 0 ∧ ws.getD b 0 ≤ 16 := by rw [← h.wt b hb]; exact h.good.wt b (by rw [h.nn]; exact hb)
  have hT := h.top
  have hnear := h.near a b ha hb
  rw [h.ck a ha, h.ck b hb] at hnear
  obtain ⟨ea, -⟩ := unit_exact _ hwa
  obtain ⟨eb, -⟩ := unit_exact _ hwb
  generalize ws.getD a 0 = wa at *
  generalize ws.getD b 0 = wb at *
  generalize hua : 720720 / wa = ua at *
  generalize hub : 720720 / wb = ub at *
  generalize sv a = sa at *
  generalize sv b = sb at *
  have hD : sa * wb - sb * wa ≤ T * wb := by
    have h1 : (sa * ua) * (wa * wb) ≤ (sb * ub + T * ua) * (wa * wb) := Int.mul_le_mul_of_nonneg_right hnear (Int.mul_nonneg (by omega) (by omega))
    have e1 : (sa * ua) * (wa * wb) = 720720 * (sa * wb) := by
      rw [← ea]; simp only [Int.mul_assoc, Int.mul_left_comm, Int.mul_comm]
    have e2 : (sb * ub + T * ua) * (wa * wb) = 720720 * (sb * wa) + 720720 * (T * wb) := by
      rw [Int.add_mul]
      have x1 : (sb * ub) * (wa * wb) = 720720 * (sb * wa) := by rw [← eb]; simp only [Int.mul_assoc, Int.mul_left_comm, Int.mul_comm]
      have x2 : (T * ua) * (wa * wb) = 720720 * (T * wb) := by rw [← ea]; simp only [Int.mul_assoc, Int.mul_left_comm, Int.mul_comm]
      rw [x1, x2]
    rw [e1, e2] at h1
    omega
  have hpos : 0 ≤ T * wb := Int.mul_nonneg (by omega) (by omega)
  have h2 : (sa * wb - sb * wa) * m ≤ (T * wb) * m := Int.mul_le_mul_of_nonneg_right hD hm.1
  have h3 : (T * wb) * m ≤ (T * wb) * wa := Int.mul_le_mul_of_nonneg_left hm.2 hpos
  have h4 : 2 * T * wa * wb = (T * wb) * wa + (T * wb) * wa := by
    have : 2 * T * wa * wb = 2 * ((T * wb) * wa) := by simp only [Int.mul_assoc, Int.mul_left_comm, Int.mul_comm]
    omega
  have h5 : 0 ≤ (T * wb) * wa := Int.mul_nonneg hpos (by omega)
  omega
end Go.Proofs.Ytdnkliapcnfcoaa.fair
