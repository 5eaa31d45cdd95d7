/- The pool: Put, Share, Drop. -/
import Derived.Test.YtfimadeokdlpnaaVq
import Derived.Deep.MidRow
namespace Go.Proofs.Ytfimadeokdlpnaa.kv
open Go.ChangeShapes Go.WideShapes Go.ChangeAt Go.RowKit K
set_option linter.unusedVariables false
set_option linter.unusedSimpArgs false
theorem encG_length {x : Pg} (h : x.cells.length = 32) : (encG x).length = 34 := by simp [encG, h]
theorem Cells.put {S : List Pg} {cs cs' : Array Value} (h : Cells S cs) {i : Nat} (y : Pg) (hy : y.cells.length = 32) (hs : cs'.size = cs.size)
    (h1 : ∀ j, j < 34 → cs'[i * 34 + j]? = (encG y)[j]?) (h2 : ∀ k, (k < i * 34 ∨ i * 34 + 34 ≤ k) → cs'[k]? = cs[k]?) : Cells (S.set i y) cs' := by
  refine ⟨by rw [hs, h.size]; simp, fun k x hx => ?_⟩
  rw [List.getElem?_set] at hx
  split at hx
  next e =>
    subst e
    split at hx
    · cases hx; exact ⟨hy, h1⟩
    · cases hx
  next e =>
    refine ⟨(h.pg k x hx).1, fun j hj => ?_⟩
    rw [h2 _ (by omega)]
    exact (h.pg k x hx).2 j hj
theorem freeOf_set {S : List Pg} {i : Nat} {x : Pg} (y : Pg) (hx : S[i]? = some x) : freeOf (S.set i y) = freeOf S - (if x.own = 0 then 1 else 0) + (if y.own = 0 then 1 else 0) := by
  obtain ⟨hi, rfl⟩ := List.getElem?_eq_some_iff.1 hx
  unfold freeOf
  rw [List.countP_set hi]
  simp
/-- Behind a call that changes the pool. -/
def PPost (p b : Nat) (S' : List Pg) (w : World) (r : Value) (e : Ending) (w' : World) : Prop :=
  e = .returned r ∧ PR w' p b S' ∧ Chg (fun k => k = p ∨ k = b) w w'
theorem PPost.same {p b : Nat} {S : List Pg} {w : World} {r : Value} (h : PR w p b S) : PPost p b S w r (.returned r) w := ⟨rfl, h, Chg.refl _ _⟩
theorem Rows.free {w : World} {b : Nat} {S : List Pg} (h : Rows w b S) (k : Nat) : w.frozen? ⟨b, k, none⟩ = false := by obtain ⟨cs, h, _⟩ := h; exact h.free k
theorem Rows.keep {w w' : World} {b : Nat} {S : List Pg} (h : Rows w b S) (hb : w'.heap[b]? = w.heap[b]?) : Rows w' b S := by
  obtain ⟨cs, h1, h2⟩ := h
  exact ⟨cs, (by unfold Bk at h1 ⊢; rw [hb]; exact h1), h2⟩
theorem Rows.one {w : World} {b : Nat} {S : List Pg} (h : Rows w b S) {i : Nat} {x : Pg} (hx : S[i]? = some x) (y : Pg) (hy : y.cells.length = 32) (j : Nat) (hj : j < 34) (v : Value)
    (hv : ∀ k, k < 34 → (encG y)[k]? = if k = j then some v else (encG x)[k]?) : Rows (w.setCell ⟨b, i * 34 + j, none⟩ v) b (S.set i y) := by
  obtain ⟨cs, k1, k2⟩ := h
  have hi := (List.getElem?_eq_some_iff.1 hx).1
  have hsz := k2.size
  refine ⟨_, k1.set _ v, k2.put y hy (by simp) (fun q hq => ?_) (fun q hq => ?_)⟩
  · rw [hv q hq]
    split
    next e => subst e; rw [Array.getElem?_setIfInBounds_self_of_lt (by omega)]
    next e => rw [Array.getElem?_setIfInBounds_ne (by omega)]; exact (k2.pg i x hx).2 q hq
  · rw [Array.getElem?_setIfInBounds_ne (by omega)]
theorem Bk.sets {b : Nat} {t : TypeId} : ∀ (vs : List Value) (o : Nat) (w : World) (cs : Array Value), Bk w b cs t → o + vs.length ≤ cs.size →
    ∃ cs', Bk (w.setCells b o vs) b cs' t ∧ cs'.size = cs.size ∧ ∀ k, cs'[k]? = if o ≤ k ∧ k < o + vs.length then vs[k - o]? else cs[k]?
  | [], o, w, cs, h, _ => ⟨cs, h, rfl, fun k => by rw [if_neg (by simp)]⟩
  | v :: r, o, w, cs, h, hfit => by
    simp only [List.length_cons] at hfit
    obtain ⟨cs', h1, h2, h3⟩ := Bk.sets r (o + 1) _ _ (h.set o v) (by simp; omega)
    refine ⟨cs', h1, by simpa using h2, fun k => ?_⟩
    rw [h3 k]
    simp only [List.length_cons]
    by_cases e : k = o
    · subst e
      rw [if_neg (by omega), if_pos (by omega), Array.getElem?_setIfInBounds_self_of_lt (by omega)]
      simp
    · by_cases e2 : o + 1 ≤ k ∧ k < o + 1 + r.length
      · rw [if_pos e2, if_pos (by omega), show k - o = (k - (o + 1)) + 1 by omega]
        simp
      · rw [if_neg e2, if_neg (by omega), Array.getElem?_setIfInBounds_ne (by omega)]
theorem chg_sets {F : Nat → Prop} {b : Nat} {w0 : World} : ∀ (vs : List Value) (o : Nat) (w : World), Chg F w0 w → F b → Chg F w0 (w.setCells b o vs)
  | [], _, _, h, _ => h
  | v :: r, o, w, h, hb => chg_sets r (o + 1) _ (h.setCell _ _ (.inl hb)) hb
theorem bk_sets_other {b g : Nat} {cs : Array Value} {t : TypeId} (hne : g ≠ b) : ∀ (vs : List Value) (o : Nat) (w : World), Bk w g cs t → Bk (w.setCells b o vs) g cs t
  | [], _, _, h => h
  | v :: r, o, w, h => bk_sets_other hne r (o + 1) _ (h.other _ _ hne)
theorem Rows.page {w : World} {b : Nat} {S : List Pg} (h : Rows w b S) {i : Nat} (hi : i < S.length) (y : Pg) (hy : y.cells.length = 32) : Rows (w.setCells b (i * 34) (encG y)) b (S.set i y) := by
  obtain ⟨cs, k1, k2⟩ := h
  have hsz := k2.size
  have hl := encG_length hy
  obtain ⟨cs', h1, h2, h3⟩ := Bk.sets (encG y) (i * 34) w cs k1 (by omega)
  refine ⟨cs', h1, k2.put y hy h2 (fun q hq => ?_) (fun q hq => ?_)⟩
  · rw [h3, if_pos (by omega)]; congr 1; omega
  · rw [h3, if_neg (by omega)]
theorem Rows.there {w : World} {b : Nat} {S : List Pg} (h : Rows w b S) {i : Nat} (hi : i < S.length) : w.there b (i * 34) 34 := by
  obtain ⟨cs, k1, k2⟩ := h
  have hsz := k2.size
  intro j hj
  refine ⟨?_, k1.free _⟩
  rw [k1.cell (i * 34 + j) (cs[i * 34 + j]'(by omega)) (Array.getElem?_eq_getElem _)]
  rfl
theorem freeOf_pos {S : List Pg} {i : Nat} {x : Pg} (hx : S[i]? = some x) (ho : x.own = 0) : 0 < freeOf S :=
  List.countP_pos_iff.2 ⟨x, List.mem_of_getElem? hx, by simp [ho]⟩
/-- One cell of a page anew. -/
theorem PR.one {w : World} {p b : Nat} {S : List Pg} (h : PR w p b S) {i : Nat} {x : Pg} (hx : S[i]? = some x) (y : Pg) (hy : y.cells.length = 32) (ho : y.own = 0 ↔ x.own = 0) (j : Nat) (hj : j < 34) (v : Value)
    (hv : ∀ k, k < 34 → (encG y)[k]? = if k = j then some v else (encG x)[k]?) (hne : p ≠ b) : PR (w.setCell ⟨b, i * 34 + j, none⟩ v) p b (S.set i y) ∧ Chg (fun k => k = p ∨ k = b) w (w.setCell ⟨b, i * 34 + j, none⟩ v) := by
  have hf : freeOf (S.set i y) = freeOf S := by
    rw [freeOf_set y hx]
    by_cases e : x.own = 0
    · have := freeOf_pos hx e
      rw [if_pos e, if_pos (ho.2 e)]; omega
    · rw [if_neg e, if_neg (fun e2 => e (ho.1 e2))]; omega
  refine ⟨⟨?_, Rows.one h.rows hx y hy j hj v hv, by simpa using h.few, h.ne⟩, (Chg.refl _ _).setCell _ _ (.inl (.inr rfl))⟩
  rw [hf, List.length_set]; exact h.head.other _ _ hne
def put1 (S : List Pg) (n : Int) (k : Nat) (v : Int) : List Pg := match look S n with | some x => S.set n.toNat { x with cells := x.cells.set k v } | none => S
def share1 (S : List Pg) (n : Int) : List Pg := match look S n with | some x => S.set n.toNat { x with own := x.own + 1 } | none => S
def drop1 (S : List Pg) (n : Int) : List Pg := match look S n with | some x => S.set n.toNat (if x.own = 1 then Pg.no else { x with own := x.own - 1 }) | none => S
theorem put_c (p b : Nat) (S : List Pg) (w : World) (h : PR w p b S) (n : Int) (k : Nat) (hk : k < 32) (v : Int) :
    Calls Try.prog 36 #[.pointer (some ⟨p, 0, none⟩), .int .i64 n, .int .i64 k, .int .i64 v] w (PPost p b (put1 S n k v) w (.int .i64 (errOf S n))) := by
  unfold put1 errOf
  cases hl : look S n with
  | some x =>
    obtain ⟨i, rfl, hx, ho⟩ := look_some hl
    have FI := Lib.hid (cell_some p b S w h i x hx ho k hk)
    have hk2 : x.cells[k]? = some (x.cells[k]'(by rw [h.len hx]; exact hk)) := List.getElem?_eq_getElem _
    have hr := h.r2 hx k _ hk2
    have hf := h.free (i * 34 + 2 + k)
    have hlen := h.len hx
    have ONE := h.one hx { x with cells := x.cells.set k v } (by simpa using hlen) Iff.rfl (k + 2) (by omega) (.int .i64 v) (fun q hq => by
      rcases q with _ | _ | q
      · rfl
      · rfl
      · simp only [encG, List.getElem?_cons_succ, List.getElem?_map, List.getElem?_set]
        by_cases e : q = k
        · subst e; rw [if_pos rfl, if_pos (by omega), if_pos rfl]; rfl
        · rw [if_neg (by omega), if_neg (by omega)]) h.ne
    rw [show i * 34 + (k + 2) = i * 34 + 2 + k by omega] at ONE
    have HO := Lib.hid ONE
    generalize x.cells[k]'(by rw [h.len hx]; exact hk) = u at *
    simp only [Int.toNat_natCast]
    generalize hS : S.set i { x with cells := x.cells.set k v } = S' at HO ⊢
    clear h hl hx ho hk2 ONE hlen hS
    go_enter Try.func36, Try.ntmps36
    go_wp2_with fail
    refine FI.out.mono ?_
    rintro e w' ⟨rfl, rfl⟩
    go_wp2
    go_ret
    exact ⟨rfl, HO.out.1, HO.out.2⟩
  | none =>
    have FI := Lib.hid (cell_none p b S w h n k hl)
    have H := Lib.hid h
    clear h hl
    go_enter Try.func36, Try.ntmps36
    go_wp2_with fail
    refine FI.out.mono ?_
    rintro e w' ⟨rfl, rfl⟩
    go_wp2
    go_ret
    exact PPost.same H.out
theorem share_c (p b : Nat) (S : List Pg) (w : World) (h : PR w p b S) (n : Int) (hM : ∀ x ∈ S, x.own ≤ 1000000000) :
    Calls Try.prog 45 #[.pointer (some ⟨p, 0, none⟩), .int .i64 n] w (PPost p b (share1 S n) w (.int .i64 (errOf S n))) := by
  unfold share1 errOf
  cases hl : look S n with
  | some x =>
    obtain ⟨i, rfl, hx, ho⟩ := look_some hl
    have FI := Lib.hid (find_in p b S w h i x hx ho)
    have hr := h.r1 hx
    have hf := h.free (i * 34 + 1)
    have hlen := h.len hx
    have hm := hM x (List.mem_of_getElem? hx)
    have ONE := h.one hx { x with own := x.own + 1 } hlen ⟨fun e => by simp at e, fun e => absurd e ho⟩ 1 (by omega) (.int .i64 ((x.own : Int) + 1)) (fun q hq => by
      rcases q with _ | _ | q
      · rfl
      · show some (Value.int .i64 ((x.own + 1 : Nat) : Int)) = _
        rw [if_pos rfl]; rfl
      · rw [if_neg (by omega)]; rfl) h.ne
    have HO := Lib.hid ONE
    simp only [Int.toNat_natCast]
    generalize hS : S.set i { x with own := x.own + 1 } = S' at HO ⊢
    generalize x.own = o at *
    clear h hl hx ho ONE hlen hM hS
    go_enter Try.func45, Try.ntmps45
    go_wp2_with fail
    refine FI.out.mono ?_
    rintro e w' ⟨rfl, rfl⟩
    go_wp2
    go_ret
    exact ⟨rfl, HO.out.1, HO.out.2⟩
  | none =>
    have FI := Lib.hid (find_none p b S w h n hl)
    have H := Lib.hid h
    clear h hl hM
    go_enter Try.func45, Try.ntmps45
    go_wp2_with fail
    refine FI.out.mono ?_
    rintro e w' ⟨rfl, rfl⟩
    go_wp2
    go_ret
    exact PPost.same H.out
end Go.Proofs.Ytfimadeokdlpnaa.kv
