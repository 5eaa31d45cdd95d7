/- fair.Fair: place: slices.IndexFunc at its items. -/
import Derived.Test.YtdnkliapcnfcoaaFw
namespace Go.Proofs.Ytdnkliapcnfcoaa.fair
open Go.ChangeShapes Go.WideShapes Go.ChangeAt Go.RowKit K
set_option linter.unusedVariables false
set_option linter.unusedSimpArgs false
theorem hit_c (x y id : Int) (B : Nat) (w : World) (hB : B < w.heap.size) (hcell : w.cell? ⟨B, 0, none⟩ = some (.int .i64 id)) :
    Calls Try.prog 28 #[.agg #[.int .i64 x, .int .i64 y], .pointer (some ⟨B, 0, none⟩)] w fun e w' => e = .returned (.bool (x == id)) ∧ Below w.heap.size w w' := by
  have hne : B ≠ w.heap.size := by omega
  go_enter Try.func28, Try.ntmps28
  go_wp2
  all_goals
    go_ret
    exact ⟨ret_bool (by simp), (Below.refl _ _).alloc (Nat.le_refl _) _⟩
/-- Where the first item with that id stands; the length: nowhere. -/
def posQ (q : List (Int × Int)) (id : Int) : Nat := q.findIdx (fun x => x.1 == id)
def idxQ (q : List (Int × Int)) (id : Int) : Int := if posQ q id < q.length then posQ q id else -1
/-- The items' cells. -/
def Items (w : World) (p : Option Addr) (q : List (Int × Int)) : Prop :=
  ∀ j x, q[j]? = some x → ∃ b off, p = some ⟨b, off, none⟩ ∧ b < w.heap.size ∧ w.cell? ⟨b, off + j * 2, none⟩ = some (.int .i64 x.1) ∧ w.cell? ⟨b, off + j * 2 + 1, none⟩ = some (.int .i64 x.2)
theorem Items.below {w w' : World} {p : Option Addr} {q : List (Int × Int)} (h : Items w p q) (hb : Below w.heap.size w w') : Items w' p q := by
  intro j x hx
  obtain ⟨b, off, h1, h2, h3, h4⟩ := h j x hx
  exact ⟨b, off, h1, Nat.lt_of_lt_of_le h2 hb.size, (hb.cell (p := ⟨b, off + j * 2, none⟩) h2).trans h3, (hb.cell (p := ⟨b, off + j * 2 + 1, none⟩) h2).trans h4⟩
theorem Items.of_row {w : World} {t : TypeId} {own : Option Nat} {p : Option Addr} {n c : Nat} {q : List (Int × Int)} (h : Row w t 2 (.slice p n c) own q.length (encQ q)) : Items w p q := by
  intro j x hx
  have hj : j < q.length := (List.getElem?_eq_some_iff.1 hx).1
  obtain ⟨b, off, cap, cs, h1, h2, h3, h4, h5, h6, h7⟩ := h.pos (by omega)
  obtain ⟨e1, e2⟩ := encQ_get q j x hx
  cases h1
  refine ⟨b, off, rfl, h5.lt, h5.cell _ _ ?_, h5.cell _ _ ?_⟩
  · rw [h7 (j * 2) (by omega), Nat.mul_comm]; exact e1
  · rw [Nat.add_assoc, h7 (j * 2 + 1) (by omega), Nat.mul_comm]; exact e2
theorem posQ_step {q : List (Int × Int)} {id : Int} {j : Nat} {x : Int × Int} (h : ∀ k y, k < j → q[k]? = some y → (y.1 == id) = false) (hx : q[j]? = some x) (hid : (x.1 == id) = true) : posQ q id = j := by
  have hj : j < q.length := (List.getElem?_eq_some_iff.1 hx).1
  unfold posQ
  rw [List.findIdx_eq hj]
  refine ⟨?_, fun k hk => ?_⟩
  · rw [(List.getElem?_eq_some_iff.1 hx).2]; exact hid
  · exact h k _ hk (List.getElem?_eq_getElem (by omega))
theorem posQ_none {q : List (Int × Int)} {id : Int} (h : ∀ k y, k < q.length → q[k]? = some y → (y.1 == id) = false) : posQ q id = q.length := by
  unfold posQ
  rw [List.findIdx_eq_length]
  intro x hx
  obtain ⟨k, hk, rfl⟩ := List.mem_iff_getElem.1 hx
  exact h k _ hk (List.getElem?_eq_getElem hk)
set_option maxHeartbeats 1000000 in
theorem indexFunc_c (q : List (Int × Int)) (n : Nat) (hn : q.length = n) (hbig : n ≤ 1000) (p : Option Addr) (c : Nat) (id : Int) (B : Nat) (w : World) (hq : Items w p q) (hB : B < w.heap.size) (hcell : w.cell? ⟨B, 0, none⟩ = some (.int .i64 id)) :
    Calls Try.prog 27 #[.slice p n c, .func (.func 28) #[] #[.pointer (some ⟨B, 0, none⟩)]] w fun e w' => e = .returned (.int .i64 (idxQ q id)) ∧ Below w.heap.size w w' := by
  have HQ := Lib.hid hq
  have HN := Lib.hid hn
  have HC := Lib.hid hcell
  have HB := Lib.hid hB
  clear hq hn hcell hB
  go_enter Try.func27, Try.ntmps27
  go_wp2
  go_loopw [5, 8] (fun _ s8 wr => ∃ j : Nat, j ≤ n ∧ s8 = .int .i64 j ∧ Hid (Below w.heap.size w wr) ∧ Hid (∀ k y, k < j → q[k]? = some y → (y.1 == id) = false)) (fun _ s8 _ => n - (intOf s8).toNat)
  case atStart => exact ⟨0, Nat.zero_le _, rfl, Lib.hid (Below.refl _ _), Lib.hid (fun k y hk => absurd hk (Nat.not_lt_zero _))⟩
  case round =>
    obtain ⟨j, hj, rfl, BW, A⟩ := hrel
    by_cases hlt : j < n
    · have hltz : (j : Int) < (n : Int) := by omega
      have hx : q[j]? = some (q[j]'(by rw [HN.out]; exact hlt)) := List.getElem?_eq_getElem _
      generalize hX : q[j]'(by rw [HN.out]; exact hlt) = x at hx
      clear hX
      obtain ⟨b, off, rfl, hbl, hc1, hc2⟩ := (HQ.out.below BW.out) j x hx
      obtain ⟨x, y⟩ := x
      have HX := Lib.hid hx
      have hcB := (BW.out.cell (p := ⟨B, 0, none⟩) HB.out).trans HC.out
      have HH := Lib.hid (hit_c x y id B wr (Nat.lt_of_lt_of_le HB.out BW.out.size) hcB)
      clear hcB
      cases hq : x == id
      · rw [hq] at HH
        have HI := Lib.hid hq
        clear hq
        go_wp2_with fail
        refine HH.out.mono ?_
        rintro e w' ⟨rfl, hb'⟩
        go_wp2
        refine ⟨⟨j + 1, by omega, by go_num, below_step BW.out hb', Lib.hid fun k z hk hz => ?_⟩, by simp [intOf]; omega⟩
        by_cases e : k = j
        · subst e
          have := HX.out
          rw [hz] at this
          cases this
          exact HI.out
        · exact A.out k z (by omega) hz
      · rw [hq] at HH
        have hfin : idxQ q id = j := by
          unfold idxQ
          rw [posQ_step A.out HX.out hq, HN.out, if_pos hlt]
        have HF := Lib.hid hfin
        clear hq hfin
        go_wp2_with fail
        refine HH.out.mono ?_
        rintro e w' ⟨rfl, hb'⟩
        go_wp2
        go_ret
        exact ⟨ret_int HF.out.symm, below_step BW.out hb'⟩
    · have hltz : ¬ (j : Int) < (n : Int) := by omega
      have hfin : idxQ q id = -1 := by
        unfold idxQ
        have := A.out
        rw [show j = q.length from by have := HN.out; omega] at this
        rw [posQ_none this, if_neg (by omega)]
      have HF := Lib.hid hfin
      clear hfin
      go_wp2
      go_ret
      exact ⟨ret_int HF.out.symm, BW.out⟩
end Go.Proofs.Ytdnkliapcnfcoaa.fair
