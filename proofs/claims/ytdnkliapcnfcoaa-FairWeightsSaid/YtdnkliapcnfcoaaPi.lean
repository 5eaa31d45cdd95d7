/- FairIdle, as plain data: two tenants of one weight; who comes late is served in turn. -/
import Derived.Test.YtdnkliapcnfcoaaArg
namespace Go.Proofs.Ytdnkliapcnfcoaa.fair
set_option linter.unusedVariables false
set_option linter.unusedSimpArgs false
/-- Two tenants of one weight; so much of the clock for a cost of ten. -/
structure Duo (S : FS) (wt u : Int) : Prop where
  n : S.n = 2
  w0 : S.wt 0 = wt
  w1 : S.wt 1 = wt
  hw : 1 ≤ wt ∧ wt ≤ 16
  hu : u = 10 * (720720 / wt)
theorem Duo.pos {S : FS} {wt u : Int} (h : Duo S wt u) : 0 < u ∧ u ≤ 7207200 := by
  have := h.hw
  have h1 : (720720 : Int) / 16 ≤ 720720 / wt := by
    have q : 720720 / wt * wt + 720720 % wt = 720720 := by rw [Int.mul_comm]; exact Int.mul_ediv_add_emod 720720 wt
    have q2 := Int.emod_lt_of_pos 720720 (show 0 < wt by omega)
    apply Classical.byContradiction
    intro hn
    have hle : 720720 / wt ≤ 45044 := by omega
    have h0 : (0 : Int) ≤ 720720 / wt := Int.ediv_nonneg (by omega) (by omega)
    have : 720720 / wt * wt ≤ 45044 * 16 := Int.mul_le_mul hle this.2 (by omega) (by omega)
    omega
  have h2 : 720720 / wt ≤ 720720 := Int.ediv_le_self _ (by omega)
  have := h.hu
  omega
/-- Before: nothing waits; the first has been served so often. -/
structure Pre (S : FS) (wt u : Int) (k : Nat) : Prop where
  duo : Duo S wt u
  q0 : S.q 0 = []
  q1 : S.q 1 = []
  c0 : S.ck 0 = k * u
  c1 : S.ck 1 = 0
  now : S.now = if k = 0 then 0 else ((k : Int) - 1) * u
theorem pre_new (wt : Int) (h : 1 ≤ wt ∧ wt ≤ 16) : Pre (FS.new [wt, wt]) wt (10 * (720720 / wt)) 0 :=
  ⟨⟨rfl, rfl, rfl, h, rfl⟩, rfl, rfl, by simp [FS.new], rfl, rfl⟩
theorem wOk_two (wt : Int) (h : 1 ≤ wt ∧ wt ≤ 16) : wOk [wt, wt] = true := by simp [wOk, wGood, h.1, h.2]
theorem hasQ_nil (id : Int) : hasQ [] id = false := rfl
theorem has_two {S : FS} (hn : S.n = 2) (id : Int) : S.has id = (hasQ (S.q 0) id || hasQ (S.q 1) id) := by
  unfold FS.has; rw [hn]
  simp [List.range_succ]
/-- The turn of two. -/
theorem best_two {S : FS} (hn : S.n = 2) : S.best S.n = if S.busy 1 then (if S.busy 0 then (if S.ck 1 < S.ck 0 then some 1 else some 0) else some 1) else (if S.busy 0 then some 0 else none) := by
  unfold FS.best
  rw [hn]
  unfold bestTo bestTo bestTo
  cases h0 : S.busy 0 <;> cases h1 : S.busy 1 <;> simp
theorem next_of {S : FS} {b : Nat} {x c : Int} {r : List (Int × Int)} (hb : S.best S.n = some b) (hq : S.q b = (x, c) :: r) :
    S.next = ((x, c, true), S.put b (S.ck b + c * (720720 / S.wt b)) r (S.ck b)) := by
  unfold FS.next; rw [hb]; simp only [hq]
theorem addR_ok {S : FS} (i : Nat) (hi : i < S.n) (id cost : Int) (h1 : 1 ≤ cost) (h2 : cost ≤ 10000) (hh : S.has id = false) (hl : (S.q i).length < 16) :
    S.addR i id cost = (0, S.put i (if (S.q i).length = 0 then mx (S.ck i) S.now else S.ck i) (S.q i ++ [(id, cost)]) S.now) := by
  unfold FS.addR
  rw [if_neg (by omega), hh, if_neg Bool.false_ne_true, Int.toNat_natCast, if_neg (by omega)]
theorem Pre.step {S : FS} {wt u : Int} {k : Nat} (h : Pre S wt u k) (id : Int) :
    ∃ S1 S2, S.addR 0 id 10 = (0, S1) ∧ S1.next = ((id, 10, true), S2) ∧ Pre S2 wt u (k + 1) := by
  have hu := h.duo.pos
  have hd := h.duo
  have hmx : mx (S.ck 0) S.now = k * u := by
    rw [h.c0, h.now]; unfold mx
    by_cases hk : k = 0
    · subst hk; simp
    · rw [if_neg hk, if_neg]
      have : ((k : Int) - 1) * u = k * u - u := by rw [Int.sub_mul, Int.one_mul]
      omega
  have e1 := addR_ok (S := S) 0 (by rw [hd.n]; omega) id 10 (by omega) (by omega) (by rw [has_two hd.n, h.q0, h.q1]; rfl) (by rw [h.q0]; simp)
  rw [h.q0] at e1
  simp only [List.length_nil, if_true, List.nil_append, hmx] at e1
  refine ⟨S.put 0 (k * u) [(id, 10)] S.now, (S.put 0 (k * u) [(id, 10)] S.now).put 0 (((k : Int) + 1) * u) [] (k * u), e1, ?_, ?_⟩
  · have hb : (S.put 0 (k * u) [(id, 10)] S.now).best (S.put 0 (k * u) [(id, 10)] S.now).n = some 0 := by
      rw [best_two (S := S.put 0 (k * u) [(id, 10)] S.now) hd.n]
      have b0 : (S.put 0 (k * u) [(id, 10)] S.now).busy 0 = true := by simp [FS.busy, FS.put, upd]
      have b1 : (S.put 0 (k * u) [(id, 10)] S.now).busy 1 = false := by simp [FS.busy, FS.put, upd, h.q1]
      rw [b0, b1]; rfl
    rw [next_of hb (x := id) (c := 10) (r := []) (by simp [FS.put, upd])]
    have e : (S.put 0 (k * u) [(id, 10)] S.now).ck 0 = k * u := by simp [FS.put, upd]
    have e2 : (S.put 0 (k * u) [(id, 10)] S.now).wt 0 = wt := hd.w0
    rw [e, e2, ← hd.hu, show (k : Int) * u + u = ((k : Int) + 1) * u by rw [Int.add_mul, Int.one_mul]]
  · refine ⟨⟨hd.n, hd.w0, hd.w1, hd.hw, hd.hu⟩, by simp [FS.put, upd], by simp [FS.put, upd, h.q1], by simp [FS.put, upd], by simp [FS.put, upd, h.c1], ?_⟩
    rw [if_neg (by omega)]
    simp [FS.put]
/-- Then: both have something waiting, in turn; the marks are in the map. -/
structure Mid (S : FS) (wt u : Int) (k : Nat) (f : Int → Option Int) (id : Int) (r0 r1 : Nat) : Prop where
  duo : Duo S wt u
  l0 : (S.q 0).length = r0
  l1 : (S.q 1).length = r1
  m0 : ∀ x, x ∈ S.q 0 → x.2 = 10 ∧ (0 ≤ x.1 ∧ x.1 < id) ∧ f x.1 = some 0
  m1 : ∀ x, x ∈ S.q 1 → x.2 = 10 ∧ (0 ≤ x.1 ∧ x.1 < id) ∧ f x.1 = some 1
  c0 : S.ck 0 = k * u
  c1 : S.ck 1 = if r1 = 0 then 0 else S.now
  now : S.now = if k = 0 then 0 else ((k : Int) - 1) * u
theorem Pre.mid {S : FS} {wt u : Int} {k : Nat} (h : Pre S wt u k) (f : Int → Option Int) (id : Int) : Mid S wt u k f id 0 0 :=
  ⟨h.duo, by rw [h.q0]; rfl, by rw [h.q1]; rfl, by rw [h.q0]; simp, by rw [h.q1]; simp, h.c0, h.c1, h.now⟩
theorem hasQ_lt_no {q : List (Int × Int)} {id : Int} (h : ∀ x, x ∈ q → x.1 < id) : hasQ q id = false := by
  cases hh : hasQ q id
  · rfl
  · obtain ⟨x, hx, e⟩ := (hasQ_iff q id).1 hh
    have := h x hx; omega
def setF (f : Int → Option Int) (id v : Int) : Int → Option Int := fun x => if x = id then some v else f x
theorem setF_old {f : Int → Option Int} {id v x : Int} (h : x < id) : setF f id v x = f x := by unfold setF; rw [if_neg (by omega)]
theorem Mid.step0 {S : FS} {wt u : Int} {k : Nat} {f : Int → Option Int} {id : Int} {r0 r1 : Nat} (h : Mid S wt u k f id r0 r1) (hid : 0 ≤ id) (hr : r0 < 16) :
    ∃ S1, S.addR 0 id 10 = (0, S1) ∧ Mid S1 wt u k (setF f id 0) (id + 1) (r0 + 1) r1 := by
  have hu := h.duo.pos
  have hd := h.duo
  have hmx : mx (S.ck 0) S.now = k * u := by
    rw [h.c0, h.now]; unfold mx
    by_cases hk : k = 0
    · subst hk; simp
    · rw [if_neg hk, if_neg]
      have : ((k : Int) - 1) * u = k * u - u := by rw [Int.sub_mul, Int.one_mul]
      omega
  have e1 := addR_ok (S := S) 0 (by rw [hd.n]; omega) id 10 (by omega) (by omega) (by rw [has_two hd.n, hasQ_lt_no (fun x hx => (h.m0 x hx).2.1.2), hasQ_lt_no (fun x hx => (h.m1 x hx).2.1.2)]; rfl) (by rw [h.l0]; exact hr)
  rw [hmx, h.c0, ite_self] at e1
  refine ⟨_, e1, ⟨hd.n, hd.w0, hd.w1, hd.hw, hd.hu⟩, by simp [FS.put, upd, h.l0], by simp [FS.put, upd, h.l1], fun x hx => ?_, fun x hx => ?_, by simp [FS.put, upd], by simp [FS.put, upd, h.c1], h.now⟩
  · simp only [FS.put, upd, if_true, List.mem_append, List.mem_singleton] at hx
    rcases hx with hx | rfl
    · obtain ⟨a, b, c⟩ := h.m0 x hx
      exact ⟨a, by omega, by rw [setF_old b.2]; exact c⟩
    · exact ⟨rfl, by simp; omega, by simp [setF]⟩
  · simp only [FS.put, upd] at hx
    obtain ⟨a, b, c⟩ := h.m1 x hx
    exact ⟨a, by omega, by rw [setF_old b.2]; exact c⟩
theorem Mid.step1 {S : FS} {wt u : Int} {k : Nat} {f : Int → Option Int} {id : Int} {r0 r1 : Nat} (h : Mid S wt u k f id r0 r1) (hid : 0 ≤ id) (hr : r1 < 16) :
    ∃ S1, S.addR 1 id 10 = (0, S1) ∧ Mid S1 wt u k (setF f id 1) (id + 1) r0 (r1 + 1) := by
  have hu := h.duo.pos
  have hd := h.duo
  have hnow : 0 ≤ S.now := by
    rw [h.now]; split
    · omega
    · exact Int.mul_nonneg (by omega) (by omega)
  have e1 := addR_ok (S := S) 1 (by rw [hd.n]; omega) id 10 (by omega) (by omega) (by rw [has_two hd.n, hasQ_lt_no (fun x hx => (h.m0 x hx).2.1.2), hasQ_lt_no (fun x hx => (h.m1 x hx).2.1.2)]; rfl) (by rw [h.l1]; exact hr)
  have hc : (if (S.q 1).length = 0 then mx (S.ck 1) S.now else S.ck 1) = S.now := by
    rw [h.l1, h.c1]
    by_cases h0 : r1 = 0
    · rw [if_pos h0, if_pos h0]; unfold mx; split <;> omega
    · rw [if_neg h0, if_neg h0]
  rw [hc] at e1
  refine ⟨_, e1, ⟨hd.n, hd.w0, hd.w1, hd.hw, hd.hu⟩, by simp [FS.put, upd, h.l0], by simp [FS.put, upd, h.l1], fun x hx => ?_, fun x hx => ?_, by simp [FS.put, upd, h.c0], by simp [FS.put, upd], h.now⟩
  · simp only [FS.put, upd] at hx
    obtain ⟨a, b, c⟩ := h.m0 x hx
    exact ⟨a, by omega, by rw [setF_old b.2]; exact c⟩
  · simp only [FS.put, upd, if_true, List.mem_append, List.mem_singleton] at hx
    rcases hx with hx | rfl
    · obtain ⟨a, b, c⟩ := h.m1 x hx
      exact ⟨a, by omega, by rw [setF_old b.2]; exact c⟩
    · exact ⟨rfl, by simp; omega, by simp [setF]⟩
/-- Then they are served in turn: m is whose turn it is. -/
structure Fin (S : FS) (wt u : Int) (f : Int → Option Int) (e : Nat) (r0 r1 : Nat) (m : Nat) : Prop where
  duo : Duo S wt u
  l0 : (S.q 0).length = r0
  l1 : (S.q 1).length = r1
  m0 : ∀ x, x ∈ S.q 0 → x.2 = 10 ∧ f x.1 = some 0 ∧ 0 ≤ x.1 ∧ x.1 < 1000
  m1 : ∀ x, x ∈ S.q 1 → x.2 = 10 ∧ f x.1 = some 1 ∧ 0 ≤ x.1 ∧ x.1 < 1000
  he : e ≤ 1
  hm : m ≤ 1
  eq : e + r1 = m + r0
  ck : 0 < r0 → 0 < r1 → S.ck 0 = S.ck 1 + m * u
theorem Mid.fin {S : FS} {wt u : Int} {k : Nat} {f : Int → Option Int} {id : Int} {r : Nat} (h : Mid S wt u k f id r r) (hid : id ≤ 1000) (hr : 0 < r) : ∃ e, Fin S wt u f e r r e := by
  refine ⟨if k = 0 then 0 else 1, h.duo, h.l0, h.l1, fun x hx => ⟨(h.m0 x hx).1, (h.m0 x hx).2.2, (h.m0 x hx).2.1.1, by have := (h.m0 x hx).2.1.2; omega⟩, fun x hx => ⟨(h.m1 x hx).1, (h.m1 x hx).2.2, (h.m1 x hx).2.1.1, by have := (h.m1 x hx).2.1.2; omega⟩, by split <;> omega, by split <;> omega, rfl, fun _ _ => ?_⟩
  rw [h.c0, h.c1, if_neg (by omega), h.now]
  by_cases hk : k = 0
  · subst hk; simp
  · rw [if_neg hk, if_neg hk, Int.sub_mul, Int.one_mul]; simp
theorem Fin.step {S : FS} {wt u : Int} {f : Int → Option Int} {e r0 r1 m : Nat} (h : Fin S wt u f e r0 r1 m) (hr : 0 < r0 + r1) :
    ∃ x S1, S.next = ((x, 10, true), S1) ∧ (f x = some (m : Int) ∧ 0 ≤ x ∧ x < 1000) ∧ ((m = 0 ∧ 0 < r0 ∧ Fin S1 wt u f e (r0 - 1) r1 1) ∨ (m = 1 ∧ 0 < r1 ∧ Fin S1 wt u f e r0 (r1 - 1) 0)) := by
  have hu := h.duo.pos
  have hd := h.duo
  have hm := h.hm
  have he := h.he
  have heq := h.eq
  by_cases hm0 : m = 0
  · subst hm0
    have hr0 : 0 < r0 := by omega
    have hb : S.best S.n = some 0 := by
      rw [best_two hd.n]
      have b0 : S.busy 0 = true := by simp [FS.busy, h.l0, hr0]
      rw [b0]
      by_cases hr1 : 0 < r1
      · have b1 : S.busy 1 = true := by simp [FS.busy, h.l1, hr1]
        have := h.ck hr0 hr1
        rw [b1, if_pos rfl, if_pos rfl, if_neg (by omega)]
      · have b1 : S.busy 1 = false := by simp [FS.busy, h.l1]; omega
        rw [b1]; rfl
    cases hq : S.q 0 with
    | nil => have := h.l0; rw [hq] at this; simp at this; omega
    | cons y r =>
      obtain ⟨x, c⟩ := y
      obtain ⟨hc, hf⟩ := h.m0 (x, c) (by rw [hq]; simp)
      simp only at hc hf
      subst hc
      refine ⟨x, _, next_of hb hq, hf, .inl ⟨rfl, hr0, ⟨⟨hd.n, hd.w0, hd.w1, hd.hw, hd.hu⟩, ?_, by simp [FS.put, upd, h.l1], fun z hz => ?_, fun z hz => ?_, he, by omega, by omega, fun g0 g1 => ?_⟩⟩⟩
      · have := h.l0; rw [hq] at this; simp at this; simp [FS.put, upd]; omega
      · simp only [FS.put, upd, if_true] at hz
        exact h.m0 z (by rw [hq]; exact List.mem_cons_of_mem _ hz)
      · simp only [FS.put, upd] at hz; exact h.m1 z hz
      · have := h.ck hr0 g1
        have hw0 := hd.w0
        have hhu := hd.hu
        simp [FS.put, upd]
        rw [hw0]; omega
  · obtain rfl : m = 1 := by omega
    have hr1 : 0 < r1 := by omega
    have hb : S.best S.n = some 1 := by
      rw [best_two hd.n]
      have b1 : S.busy 1 = true := by simp [FS.busy, h.l1, hr1]
      rw [b1]
      by_cases hr0 : 0 < r0
      · have b0 : S.busy 0 = true := by simp [FS.busy, h.l0, hr0]
        have := h.ck hr0 hr1
        rw [b0, if_pos rfl, if_pos rfl, if_pos (by omega)]
      · have b0 : S.busy 0 = false := by simp [FS.busy, h.l0]; omega
        rw [b0]; rfl
    cases hq : S.q 1 with
    | nil => have := h.l1; rw [hq] at this; simp at this; omega
    | cons y r =>
      obtain ⟨x, c⟩ := y
      obtain ⟨hc, hf⟩ := h.m1 (x, c) (by rw [hq]; simp)
      simp only at hc hf
      subst hc
      refine ⟨x, _, next_of hb hq, hf, .inr ⟨rfl, hr1, ⟨⟨hd.n, hd.w0, hd.w1, hd.hw, hd.hu⟩, by simp [FS.put, upd, h.l0], ?_, fun z hz => ?_, fun z hz => ?_, he, by omega, by omega, fun g0 g1 => ?_⟩⟩⟩
      · have := h.l1; rw [hq] at this; simp at this; simp [FS.put, upd]; omega
      · simp only [FS.put, upd] at hz; exact h.m0 z hz
      · simp only [FS.put, upd, if_true] at hz
        exact h.m1 z (by rw [hq]; exact List.mem_cons_of_mem _ hz)
      · have := h.ck g0 hr1
        have hw1 := hd.w1
        have hhu := hd.hu
        simp [FS.put, upd]
        rw [hw1]; omega
end Go.Proofs.Ytdnkliapcnfcoaa.fair
