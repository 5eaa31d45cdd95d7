/- The reference's pool: how it lies in the heap; used, Owners, Tag, Get, Free. -/
import Derived.Test.YtfimadeokdlpnaaWz
namespace Go.Proofs.Ytfimadeokdlpnaa.kv
open Go.ChangeShapes Go.WideShapes Go.ChangeAt Go.RowKit K
set_option linter.unusedVariables false
set_option linter.unusedSimpArgs false
/-- A page's numbers: where they lie. -/
def cv (x : Pg) (b : Nat) : Value := if x.own = 0 then .slice none 0 0 else .slice (some ⟨b, 0, none⟩) 32 32
structure RP (w : World) (r rb : Nat) (S : List Pg) (c : Nat → Nat) : Prop where
  head : Bk w r #[.slice (some ⟨rb, 0, none⟩) S.length S.length, .int .i64 0] 80
  rows : ∃ cs, Bk w rb cs 96 ∧ cs.size = S.length * 3 ∧ ∀ (i : Nat) (x : Pg), S[i]? = some x → cs[i * 3]? = some (.string x.tag) ∧ cs[i * 3 + 1]? = some (.int .i64 x.own) ∧ cs[i * 3 + 2]? = some (cv x (c i))
  cell : ∀ (i : Nat) (x : Pg), S[i]? = some x → x.own ≠ 0 → Bk w (c i) (encI x.cells).toArray 2 ∧ c i ≠ r ∧ c i ≠ rb
  inj : ∀ (i j : Nat) (x y : Pg), i ≠ j → S[i]? = some x → S[j]? = some y → x.own ≠ 0 → y.own ≠ 0 → c i ≠ c j
  gone : ∀ (i : Nat) (x : Pg), S[i]? = some x → x.own = 0 → x = Pg.no
  len : CL S
  few : S.length ≤ 256
  ne : r ≠ rb
/-- Its blocks. -/
def RF (r rb : Nat) (S : List Pg) (c : Nat → Nat) (k : Nat) : Prop := k = r ∨ k = rb ∨ ∃ (i : Nat) (x : Pg), S[i]? = some x ∧ x.own ≠ 0 ∧ k = c i
namespace RP
variable {w w' : World} {r rb : Nat} {S : List Pg} {c : Nat → Nat} {G : Nat → Prop}
theorem chg (h : RP w r rb S c) (hc : Chg G w w') (hG : ∀ k, RF r rb S c k → ¬ G k) : RP w' r rb S c :=
  ⟨hc.bk h.head (hG _ (.inl rfl)), (by obtain ⟨cs, k1, k2⟩ := h.rows; exact ⟨cs, hc.bk k1 (hG _ (.inr (.inl rfl))), k2⟩), fun i x hx ho => ⟨hc.bk (h.cell i x hx ho).1 (hG _ (.inr (.inr ⟨i, x, hx, ho, rfl⟩))), (h.cell i x hx ho).2⟩, h.inj, h.gone, h.len, h.few, h.ne⟩
theorem below (h : RP w r rb S c) (hb : Below w.heap.size w w') : RP w' r rb S c := h.chg (G := fun _ => False) (Chg.of_below hb rfl) (fun _ _ => id)
theorem drewN (h : RP w r rb S c) (n : Nat) : RP (w.drewN n) r rb S c := h.below ⟨rfl, rfl, rfl, Nat.le_refl _, fun _ _ => rfl⟩
theorem lt (h : RP w r rb S c) : ∀ k, RF r rb S c k → k < w.heap.size := by
  rintro k (e | e | ⟨i, x, hx, ho, e⟩)
  · rw [e]; exact h.head.lt
  · obtain ⟨cs, k1, -⟩ := h.rows
    rw [e]; exact k1.lt
  · rw [e]; exact (h.cell i x hx ho).1.lt
theorem h0 (h : RP w r rb S c) : w.cell? ⟨r, 0, none⟩ = some (.slice (some ⟨rb, 0, none⟩) S.length S.length) := h.head.cell 0 _ rfl
theorem h1 (h : RP w r rb S c) : w.cell? ⟨r, 1, none⟩ = some (.int .i64 0) := h.head.cell 1 _ rfl
theorem r0 (h : RP w r rb S c) {i : Nat} {x : Pg} (hx : S[i]? = some x) : w.cell? ⟨rb, i * 3, none⟩ = some (.string x.tag) := by
  obtain ⟨cs, k1, k2, k3⟩ := h.rows
  exact k1.cell _ _ (k3 i x hx).1
theorem r1 (h : RP w r rb S c) {i : Nat} {x : Pg} (hx : S[i]? = some x) : w.cell? ⟨rb, i * 3 + 1, none⟩ = some (.int .i64 x.own) := by
  obtain ⟨cs, k1, k2, k3⟩ := h.rows
  exact k1.cell _ _ (k3 i x hx).2.1
theorem r2 (h : RP w r rb S c) {i : Nat} {x : Pg} (hx : S[i]? = some x) (ho : x.own ≠ 0) : w.cell? ⟨rb, i * 3 + 2, none⟩ = some (.slice (some ⟨c i, 0, none⟩) 32 32) := by
  obtain ⟨cs, k1, k2, k3⟩ := h.rows
  have := (k3 i x hx).2.2
  unfold cv at this
  rw [if_neg ho] at this
  exact k1.cell _ _ this
theorem rc (h : RP w r rb S c) {i : Nat} {x : Pg} (hx : S[i]? = some x) (ho : x.own ≠ 0) {k : Nat} (hk : k < 32) : w.cell? ⟨c i, k, none⟩ = some (.int .i64 (x.cells[k]?.getD 0)) := by
  have hl := h.len i x hx
  refine (h.cell i x hx ho).1.cell _ _ ?_
  simp [encI, List.getElem?_eq_getElem (show k < x.cells.length by omega)]
theorem free (h : RP w r rb S c) (i : Nat) : w.frozen? ⟨rb, i, none⟩ = false := by obtain ⟨cs, k, _⟩ := h.rows; exact k.free i
/-- One page has turned. -/
theorem upd (h : RP w r rb S c) {i : Nat} {x y : Pg} (hx : S[i]? = some x) (b' : Nat) {cs cs' : Array Value} (hcs : Bk w rb cs 96) (hw : Bk w' r #[.slice (some ⟨rb, 0, none⟩) S.length S.length, .int .i64 0] 80)
    (hcs' : Bk w' rb cs' 96) (hz : cs'.size = cs.size) (e0 : cs'[i * 3]? = some (.string y.tag)) (e1 : cs'[i * 3 + 1]? = some (.int .i64 y.own)) (e2 : cs'[i * 3 + 2]? = some (cv y b')) (eo : ∀ k, k < i * 3 ∨ i * 3 + 3 ≤ k → cs'[k]? = cs[k]?)
    (hcell : y.own ≠ 0 → Bk w' b' (encI y.cells).toArray 2 ∧ b' ≠ r ∧ b' ≠ rb ∧ ∀ (j : Nat) (z : Pg), j ≠ i → S[j]? = some z → z.own ≠ 0 → c j ≠ b')
    (hoth : ∀ (j : Nat) (z : Pg), j ≠ i → S[j]? = some z → z.own ≠ 0 → w'.heap[c j]? = w.heap[c j]?) (hgone : y.own = 0 → y = Pg.no) (hlen : y.cells.length = 32) : RP w' r rb (S.set i y) (fun j => if j = i then b' else c j) := by
  obtain ⟨cs0, k1, k2, k3⟩ := h.rows
  obtain ⟨rfl, -⟩ := hcs.eq k1
  have hg : ∀ j, (S.set i y)[j]? = if j = i then some y else S[j]? := fun j => set_get hx
  refine ⟨by rw [List.length_set]; exact hw, ⟨cs', hcs', by rw [List.length_set, hz, k2], fun j z hj => ?_⟩, fun j z hj ho => ?_, fun j1 j2 z1 z2 hne h1 h2 o1 o2 => ?_, fun j z hj ho => ?_, h.len.set i hlen, by rw [List.length_set]; exact h.few, h.ne⟩
  · rw [hg] at hj
    split at hj
    next e =>
      subst e
      cases hj
      rw [if_pos rfl]; exact ⟨e0, e1, e2⟩
    next e =>
      rw [if_neg e, eo _ (by omega), eo _ (by omega), eo _ (by omega)]
      exact k3 j z hj
  · rw [hg] at hj
    split at hj
    next e =>
      subst e
      cases hj
      rw [if_pos rfl]
      obtain ⟨a1, a2, a3, -⟩ := hcell ho
      exact ⟨a1, a2, a3⟩
    next e =>
      rw [if_neg e]
      obtain ⟨a1, a2⟩ := h.cell j z hj ho
      refine ⟨?_, a2⟩
      unfold Bk at a1 ⊢
      rw [hoth j z e hj ho]; exact a1
  · rw [hg] at h1 h2
    split at h1
    next e1' =>
      subst e1'
      cases h1
      rw [if_neg (Ne.symm hne)] at h2
      rw [if_pos rfl, if_neg (Ne.symm hne)]
      exact Ne.symm ((hcell o1).2.2.2 j2 z2 (Ne.symm hne) h2 o2)
    next e1' =>
      split at h2
      next e2' =>
        subst e2'
        cases h2
        rw [if_pos rfl, if_neg hne]
        exact (hcell o2).2.2.2 j1 z1 hne h1 o1
      next e2' =>
        rw [if_neg e1', if_neg e2']
        exact h.inj j1 j2 z1 z2 hne h1 h2 o1 o2
  · rw [hg] at hj
    split at hj
    · cases hj; exact hgone ho
    · exact h.gone j z hj ho
end RP
variable (r rb : Nat) (S : List Pg) (c : Nat → Nat) (w : World)
theorem used_in (h : RP w r rb S c) (i : Nat) (x : Pg) (hx : S[i]? = some x) (ho : x.own ≠ 0) : Calls Try.prog 60 #[.pointer (some ⟨r, 0, none⟩), .int .i64 i] w fun e w' => e = .returned (.bool true) ∧ w = w' := by
  have h0 := h.h0
  have hr := h.r1 hx
  have hi := (List.getElem?_eq_some_iff.1 hx).1
  have h1 : (0 : Int) ≤ (i : Int) := by omega
  have h2 : (i : Int) < (S.length : Int) := by omega
  have h3 : (0 : Int) < (x.own : Int) := by omega
  clear h hx
  generalize S.length = k at *
  go_enter Try.func60, Try.ntmps60
  go_wp2
  go_ret
  exact ⟨ret_bool (by simp; omega), rfl⟩
theorem used_no (h : RP w r rb S c) (n : Int) (hl : look S n = none) : Calls Try.prog 60 #[.pointer (some ⟨r, 0, none⟩), .int .i64 n] w fun e w' => e = .returned (.bool false) ∧ w = w' := by
  have h0 := h.h0
  by_cases hn : n < 0
  · clear h
    generalize S.length = k at *
    go_enter Try.func60, Try.ntmps60
    go_wp2
    go_ret
    exact ⟨rfl, rfl⟩
  · obtain ⟨i, rfl⟩ : ∃ i : Nat, n = i := ⟨n.toNat, by omega⟩
    cases hx : S[i]? with
    | none =>
      have hi := List.getElem?_eq_none_iff.1 hx
      have h1 : (0 : Int) ≤ (i : Int) := by omega
      have h2 : ¬ (i : Int) < (S.length : Int) := by omega
      clear h hx
      generalize S.length = k at *
      go_enter Try.func60, Try.ntmps60
      go_wp2
      go_ret
      exact ⟨rfl, rfl⟩
    | some x =>
      have ho : x.own = 0 := by
        rcases Nat.eq_zero_or_pos x.own with e | e
        · exact e
        · rw [look_in hx (by omega)] at hl; cases hl
      have hr := h.r1 hx
      rw [ho] at hr
      have hi := (List.getElem?_eq_some_iff.1 hx).1
      have h1 : (0 : Int) ≤ (i : Int) := by omega
      have h2 : (i : Int) < (S.length : Int) := by omega
      clear h hx
      generalize S.length = k at *
      go_enter Try.func60, Try.ntmps60
      go_wp2
      go_ret
      exact ⟨rfl, rfl⟩
theorem rowners_c (h : RP w r rb S c) (n : Int) : Calls Try.prog 52 #[.pointer (some ⟨r, 0, none⟩), .int .i64 n] w fun e w' => e = .returned (.int .i64 (ownersOf S n)) ∧ w = w' := by
  unfold ownersOf
  cases hl : look S n with
  | none =>
    have U := Lib.hid (used_no r rb S c w h n hl)
    clear h
    go_enter Try.func52, Try.ntmps52
    go_wp2_with fail
    refine U.out.mono ?_
    rintro e w' ⟨rfl, rfl⟩
    go_wp2
    go_ret
    exact ⟨rfl, rfl⟩
  | some x =>
    obtain ⟨i, rfl, hx, ho⟩ := look_some hl
    have U := Lib.hid (used_in r rb S c w h i x hx ho)
    have h0 := h.h0
    have hr := h.r1 hx
    have hi := (List.getElem?_eq_some_iff.1 hx).1
    have h1 : (0 : Int) ≤ (i : Int) := by omega
    have h2 : (i : Int) < (S.length : Int) := by omega
    clear h hx hl
    generalize S.length = k at *
    go_enter Try.func52, Try.ntmps52
    go_wp2_with fail
    refine U.out.mono ?_
    rintro e w' ⟨rfl, rfl⟩
    go_wp2
    go_ret
    exact ⟨rfl, rfl⟩
theorem rtag_c (h : RP w r rb S c) (n : Int) : Calls Try.prog 54 #[.pointer (some ⟨r, 0, none⟩), .int .i64 n] w fun e w' => e = .returned (.string (tagOf S n)) ∧ w = w' := by
  unfold tagOf
  cases hl : look S n with
  | none =>
    have U := Lib.hid (used_no r rb S c w h n hl)
    clear h
    go_enter Try.func54, Try.ntmps54
    go_wp2_with fail
    refine U.out.mono ?_
    rintro e w' ⟨rfl, rfl⟩
    go_wp2
    go_ret
    exact ⟨rfl, rfl⟩
  | some x =>
    obtain ⟨i, rfl, hx, ho⟩ := look_some hl
    have U := Lib.hid (used_in r rb S c w h i x hx ho)
    have h0 := h.h0
    have hr := h.r0 hx
    have hi := (List.getElem?_eq_some_iff.1 hx).1
    have h1 : (0 : Int) ≤ (i : Int) := by omega
    have h2 : (i : Int) < (S.length : Int) := by omega
    clear h hx hl
    generalize S.length = k at *
    go_enter Try.func54, Try.ntmps54
    go_wp2_with fail
    refine U.out.mono ?_
    rintro e w' ⟨rfl, rfl⟩
    go_wp2
    go_ret
    exact ⟨rfl, rfl⟩
/-- A number of a page, if the page is there and not free. -/
theorem rget_c (h : RP w r rb S c) (n : Int) (k : Nat) (hk : k < 32) : Calls Try.prog 41 #[.pointer (some ⟨r, 0, none⟩), .int .i64 n, .int .i64 k] w fun e w' => e = .returned (.tuple #[.int .i64 (getOf S n k), .int .i64 (errOf S n)]) ∧ w = w' := by
  unfold getOf errOf
  cases hl : look S n with
  | none =>
    have U := Lib.hid (used_no r rb S c w h n hl)
    clear h
    go_enter Try.func41, Try.ntmps41
    go_wp2_with fail
    refine U.out.mono ?_
    rintro e w' ⟨rfl, rfl⟩
    go_wp2
    go_ret2
    exact ⟨rfl, rfl⟩
  | some x =>
    obtain ⟨i, rfl, hx, ho⟩ := look_some hl
    have U := Lib.hid (used_in r rb S c w h i x hx ho)
    have h0 := h.h0
    have hr := h.r2 hx ho
    have hrc := h.rc hx ho hk
    have hi := (List.getElem?_eq_some_iff.1 hx).1
    have h1 : (0 : Int) ≤ (i : Int) := by omega
    have h2 : (i : Int) < (S.length : Int) := by omega
    have h3 : (0 : Int) ≤ (k : Int) := by omega
    have h4 : (k : Int) < 32 := by omega
    have h5 : ¬ (k : Int) < 0 := by omega
    have h6 : ¬ (32 : Int) ≤ (k : Int) := by omega
    clear h hx hl
    generalize S.length = m at *
    obtain ⟨v, hv⟩ : ∃ v, x.cells[k]?.getD 0 = v := ⟨_, rfl⟩
    rw [hv] at hrc
    simp only [hv]
    clear hv
    go_enter Try.func41, Try.ntmps41
    go_wp2_with fail
    refine U.out.mono ?_
    rintro e w' ⟨rfl, rfl⟩
    go_wp2
    go_ret2
    exact ⟨rfl, rfl⟩
end Go.Proofs.Ytfimadeokdlpnaa.kv
