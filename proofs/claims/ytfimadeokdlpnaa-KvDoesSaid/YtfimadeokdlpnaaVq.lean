/- The pool: Owners, Tag, Sizes, hand, ask, cell, Get. -/
import Derived.Test.YtfimadeokdlpnaaVp
namespace Go.Proofs.Ytfimadeokdlpnaa.kv
open Go.ChangeShapes Go.WideShapes Go.ChangeAt Go.RowKit K
set_option linter.unusedVariables false
set_option linter.unusedSimpArgs false
/-- The page of a number, if it is not free. -/
def look (S : List Pg) (n : Int) : Option Pg := if n < 0 then none else match S[n.toNat]? with | some x => if x.own = 0 then none else some x | none => none
theorem look_some {S : List Pg} {n : Int} {x : Pg} (h : look S n = some x) : ∃ i : Nat, n = i ∧ S[i]? = some x ∧ x.own ≠ 0 := by
  unfold look at h
  split at h
  · cases h
  · refine ⟨n.toNat, by omega, ?_⟩
    split at h
    next y hy =>
      split at h
      · cases h
      next ho => cases h; exact ⟨hy, ho⟩
    · cases h
theorem look_in {S : List Pg} {i : Nat} {x : Pg} (h : S[i]? = some x) (ho : x.own ≠ 0) : look S i = some x := by
  unfold look
  rw [if_neg (by omega), Int.toNat_natCast, h]
  exact if_neg ho
theorem look_free {S : List Pg} {i : Nat} {x : Pg} (h : S[i]? = some x) (ho : x.own = 0) : look S i = none := by
  unfold look
  rw [if_neg (by omega), Int.toNat_natCast, h]
  exact if_pos ho
theorem find_none (p b : Nat) (S : List Pg) (w : World) (h : PR w p b S) (n : Int) (hl : look S n = none) :
    Calls Try.prog 56 #[.pointer (some ⟨p, 0, none⟩), .int .i64 n] w fun e w' => e = .returned (.pointer none) ∧ w = w' := by
  by_cases hn : n < 0 ∨ (S.length : Int) ≤ n
  · exact find_out p b S w h n hn
  · obtain ⟨i, rfl⟩ : ∃ i : Nat, n = i := ⟨n.toNat, by omega⟩
    have hx : S[i]? = some (S[i]'(by omega)) := List.getElem?_eq_getElem _
    refine find_free p b S w h i _ hx ?_
    unfold look at hl
    rw [if_neg (by omega), Int.toNat_natCast, hx] at hl
    simp only at hl
    split at hl
    · assumption
    · cases hl
def ownersOf (S : List Pg) (n : Int) : Nat := match look S n with | some x => x.own | none => 0
def tagOf (S : List Pg) (n : Int) : ByteArray := match look S n with | some x => x.tag | none => ⟨#[]⟩
theorem owners_c (p b : Nat) (S : List Pg) (w : World) (h : PR w p b S) (n : Int) :
    Calls Try.prog 32 #[.pointer (some ⟨p, 0, none⟩), .int .i64 n] w fun e w' => e = .returned (.int .i64 (ownersOf S n)) ∧ w = w' := by
  unfold ownersOf
  cases hl : look S n with
  | some x =>
    obtain ⟨i, rfl, hx, ho⟩ := look_some hl
    have FI := Lib.hid (find_in p b S w h i x hx ho)
    have hr := h.r1 hx
    clear h hl hx ho
    go_enter Try.func32, Try.ntmps32
    go_wp2_with fail
    refine FI.out.mono ?_
    rintro e w' ⟨rfl, rfl⟩
    go_wp2
    go_ret
    exact ⟨rfl, rfl⟩
  | none =>
    have FI := Lib.hid (find_none p b S w h n hl)
    clear h hl
    go_enter Try.func32, Try.ntmps32
    go_wp2_with fail
    refine FI.out.mono ?_
    rintro e w' ⟨rfl, rfl⟩
    go_wp2
    go_ret
    exact ⟨rfl, rfl⟩
theorem tag_c (p b : Nat) (S : List Pg) (w : World) (h : PR w p b S) (n : Int) :
    Calls Try.prog 53 #[.pointer (some ⟨p, 0, none⟩), .int .i64 n] w fun e w' => e = .returned (.string (tagOf S n)) ∧ w = w' := by
  unfold tagOf
  cases hl : look S n with
  | some x =>
    obtain ⟨i, rfl, hx, ho⟩ := look_some hl
    have FI := Lib.hid (find_in p b S w h i x hx ho)
    have hr := h.r0 hx
    clear h hl hx ho
    go_enter Try.func53, Try.ntmps53
    go_wp2_with fail
    refine FI.out.mono ?_
    rintro e w' ⟨rfl, rfl⟩
    go_wp2
    go_ret
    exact ⟨rfl, rfl⟩
  | none =>
    have FI := Lib.hid (find_none p b S w h n hl)
    clear h hl
    go_enter Try.func53, Try.ntmps53
    go_wp2_with fail
    refine FI.out.mono ?_
    rintro e w' ⟨rfl, rfl⟩
    go_wp2
    go_ret
    exact ⟨rfl, rfl⟩
def getOf (S : List Pg) (n : Int) (k : Nat) : Int := match look S n with | some x => x.cells[k]?.getD 0 | none => 0
def errOf (S : List Pg) (n : Int) : Int := match look S n with | some x => 0 | none => 25
theorem cell_some (p b : Nat) (S : List Pg) (w : World) (h : PR w p b S) (i : Nat) (x : Pg) (hx : S[i]? = some x) (ho : x.own ≠ 0) (k : Nat) (hk : k < 32) :
    Calls Try.prog 58 #[.pointer (some ⟨p, 0, none⟩), .int .i64 i, .int .i64 k] w fun e w' => e = .returned (.tuple #[.pointer (some ⟨b, i * 34 + 2 + k, none⟩), .int .i64 0]) ∧ w = w' := by
  have FI := Lib.hid (find_in p b S w h i x hx ho)
  have h1 : (0 : Int) ≤ (k : Int) := by omega
  have h2 : (k : Int) < 32 := by omega
  clear h hx ho
  go_enter Try.func58, Try.ntmps58
  go_wp2_with fail
  refine FI.out.mono ?_
  rintro e w' ⟨rfl, rfl⟩
  go_wp2
  go_ret2
  exact ⟨rfl, rfl⟩
theorem cell_none (p b : Nat) (S : List Pg) (w : World) (h : PR w p b S) (n k : Int) (hl : look S n = none) :
    Calls Try.prog 58 #[.pointer (some ⟨p, 0, none⟩), .int .i64 n, .int .i64 k] w fun e w' => e = .returned (.tuple #[.pointer none, .int .i64 25]) ∧ w = w' := by
  have FI := Lib.hid (find_none p b S w h n hl)
  clear h hl
  go_enter Try.func58, Try.ntmps58
  go_wp2_with fail
  refine FI.out.mono ?_
  rintro e w' ⟨rfl, rfl⟩
  go_wp2
  go_ret2
  exact ⟨rfl, rfl⟩
theorem get_c (p b : Nat) (S : List Pg) (w : World) (h : PR w p b S) (n : Int) (k : Nat) (hk : k < 32) :
    Calls Try.prog 55 #[.pointer (some ⟨p, 0, none⟩), .int .i64 n, .int .i64 k] w fun e w' => e = .returned (.tuple #[.int .i64 (getOf S n k), .int .i64 (errOf S n)]) ∧ w = w' := by
  unfold getOf errOf
  cases hl : look S n with
  | some x =>
    obtain ⟨i, rfl, hx, ho⟩ := look_some hl
    have FI := Lib.hid (cell_some p b S w h i x hx ho k hk)
    have hk2 : x.cells[k]? = some (x.cells[k]'(by rw [h.len hx]; exact hk)) := List.getElem?_eq_getElem _
    have hr := h.r2 hx k _ hk2
    simp only [hk2, Option.getD_some]
    generalize x.cells[k]'(by rw [h.len hx]; exact hk) = v at *
    clear h hl hx ho hk2
    go_enter Try.func55, Try.ntmps55
    go_wp2_with fail
    refine FI.out.mono ?_
    rintro e w' ⟨rfl, rfl⟩
    go_wp2
    go_ret2
    exact ⟨rfl, rfl⟩
  | none =>
    have FI := Lib.hid (cell_none p b S w h n k hl)
    clear h hl
    go_enter Try.func55, Try.ntmps55
    go_wp2_with fail
    refine FI.out.mono ?_
    rintro e w' ⟨rfl, rfl⟩
    go_wp2
    go_ret2
    exact ⟨rfl, rfl⟩
theorem sizes_c (p b : Nat) (S : List Pg) (w : World) (h : PR w p b S) :
    Calls Try.prog 30 #[.pointer (some ⟨p, 0, none⟩)] w fun e w' => e = .returned (.tuple #[.int .i64 S.length, .int .i64 (freeOf S), .int .i64 0]) ∧ Below w.heap.size w w' := by
  have h0 := h.h0
  have h1 := h.h1
  have h2 := h.h2
  clear h
  go_enter Try.func30, Try.ntmps30
  go_wp2
  go_region
  go_wp2
  go_ret3
  exact ⟨rfl, (Below.refl _ _).drew⟩
theorem hand_c (p b : Nat) (S : List Pg) (w : World) (h : PR w p b S) :
    Calls Try.prog 62 #[.pointer (some ⟨p, 0, none⟩)] w fun e w' => e = .returned (.int .i64 (freeOf S)) ∧ Below w.heap.size w w' := by
  have h1 := h.h1
  have h2 := h.h2
  have hf : freeOf S ≤ S.length := List.countP_le_length
  have hs := h.few
  generalize freeOf S = f at *
  clear h
  go_enter Try.func62, Try.ntmps62
  go_wp2
  go_region
  go_wp2
  go_ret
  exact ⟨rfl, (Below.refl _ _).drew⟩
/-- ask, of one page and a tag that is none. -/
theorem ask_c (tag : ByteArray) (ht : tag.toList ≠ []) (f : Nat) (w : World) :
    Calls Try.prog 61 #[.string tag, .int .i64 1, .int .i64 f] w fun e w' => e = .returned (.int .i64 (if f = 0 then 6 else 0)) ∧ w = w' := by
  have h1 : tag.toList.isEmpty = false := by simpa using ht
  by_cases hf : f = 0
  · subst hf
    go_enter Try.func61, Try.ntmps61
    go_wp2
    go_ret
    exact ⟨rfl, rfl⟩
  · rw [if_neg hf]
    have hz : (1 : Int) ≤ (f : Int) := by omega
    go_enter Try.func61, Try.ntmps61
    go_wp2
    go_ret
    exact ⟨rfl, rfl⟩
end Go.Proofs.Ytfimadeokdlpnaa.kv
