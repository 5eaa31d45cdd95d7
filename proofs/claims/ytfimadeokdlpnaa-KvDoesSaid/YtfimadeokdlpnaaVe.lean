/- The pool: Take, Count, New. -/
import Derived.Test.YtfimadeokdlpnaaVd
namespace Go.Proofs.Ytfimadeokdlpnaa.kv
open Go.ChangeShapes Go.WideShapes Go.ChangeAt Go.RowKit K
set_option linter.unusedVariables false
set_option linter.unusedSimpArgs false
theorem Take_full (p b : Nat) (S : List Pg) (w : World) (h : PR w p b S) (tag : ByteArray) (ht : tag.toList ≠ []) (hf : freeOf S = 0) :
    Calls Try.prog 57 #[.pointer (some ⟨p, 0, none⟩), .string tag, .int .i64 1] w fun e w' => e = .returned (.tuple #[.slice none 0 0, .int .i64 6]) ∧ Below w.heap.size w w' := by
  have FH := Lib.hid (hand_c p b S w h)
  have FA := Lib.hid (fun w => ask_c tag ht (freeOf S) w)
  rw [hf] at FA FH
  clear h ht hf
  go_enter Try.func57, Try.ntmps57
  go_wp2_with fail
  refine FH.out.mono ?_
  rintro e w1 ⟨rfl, hb⟩
  have HB := Lib.hid hb
  clear hb
  go_wp2_with fail
  refine (FA.out w1).mono ?_
  rintro e w2 ⟨rfl, rfl⟩
  go_wp2
  go_ret2
  exact ⟨rfl, HB.out⟩
theorem Take_ok (p b : Nat) (S : List Pg) (w : World) (h : PR w p b S) (tag : ByteArray) (ht : tag.toList ≠ []) (hf : 0 < freeOf S) :
    Calls Try.prog 57 #[.pointer (some ⟨p, 0, none⟩), .string tag, .int .i64 1] w fun e w' =>
      ∃ g f cp, e = .returned (.tuple #[.slice (some ⟨g, f, none⟩) 1 cp, .int .i64 0]) ∧ PR w' p b (take1 S tag) ∧ Chg (fun k => k = p ∨ k = b) w w' ∧ w'.cell? ⟨g, f, none⟩ = some (.int .i64 (ff S)) ∧ g < w'.heap.size := by
  have FH := Lib.hid (hand_c p b S w h)
  have FA := Lib.hid (fun w => ask_c tag ht (freeOf S) w)
  rw [if_neg (by omega)] at FA
  have H := Lib.hid h
  have HF := Lib.hid hf
  clear h ht hf
  go_enter Try.func57, Try.ntmps57
  go_wp2_with fail
  refine FH.out.mono ?_
  rintro e w1 ⟨rfl, hb⟩
  have HB := Lib.hid hb
  have FT := Lib.hid (take_c p b S w1 (H.out.below hb) tag HF.out)
  clear hb
  go_wp2_with fail
  refine (FA.out w1).mono ?_
  rintro e w2 ⟨rfl, rfl⟩
  go_wp2_with fail
  refine FT.out.mono ?_
  rintro e w2 ⟨g, f, cp, rfl, hR, hC, hcell, hg⟩
  have HR := Lib.hid hR
  have HC := Lib.hid hC
  have HL := Lib.hid hcell
  have HG := Lib.hid hg
  clear hR hC hcell hg
  go_wp2
  go_ret2
  exact ⟨g, f, cp, rfl, HR.out, (Chg.of_below (F := fun k => k = p ∨ k = b) HB.out rfl).trans HC.out (fun k hk => .inl hk), HL.out, HG.out⟩
def cnt (tag : ByteArray) (x : Pg) : Bool := decide (0 < x.own) && (x.tag.toList == tag.toList)
def countOf (S : List Pg) (tag : ByteArray) : Nat := S.countP (cnt tag)
theorem countOf_take {S : List Pg} {j : Nat} {x : Pg} (tag : ByteArray) (hx : S[j]? = some x) : (S.take (j + 1)).countP (cnt tag) = (S.take j).countP (cnt tag) + (if cnt tag x then 1 else 0) := by
  obtain ⟨hj, rfl⟩ := List.getElem?_eq_some_iff.1 hx
  rw [List.take_succ_eq_append_getElem hj, List.countP_append]
  simp [List.countP_cons, List.countP_nil]
set_option maxHeartbeats 1000000 in
theorem count_c (p b : Nat) (S : List Pg) (w : World) (h : PR w p b S) (tag : ByteArray) :
    Calls Try.prog 15 #[.pointer (some ⟨p, 0, none⟩), .string tag] w fun e w' => e = .returned (.int .i64 (countOf S tag)) ∧ w = w' := by
  have H := Lib.hid h
  have h0 := h.h0
  have hfew := h.few
  clear h
  go_enter Try.func15, Try.ntmps15
  go_wp2_with fail
  go_loopw [5, 12] (fun s5 s12 wr => ∃ j : Nat, j ≤ S.length ∧ s12 = .int .i64 j ∧ s5 = .int .i64 ((S.take j).countP (cnt tag)) ∧ w = wr) (fun _ s12 _ => S.length - (intOf s12).toNat)
  case atStart => exact ⟨0, Nat.zero_le _, rfl, rfl, rfl⟩
  case round =>
    obtain ⟨j, hj, rfl, rfl, rfl⟩ := hrel
    by_cases hjl : j < S.length
    · have hx : S[j]? = some (S[j]'hjl) := List.getElem?_eq_getElem _
      generalize S[j]'hjl = x at hx
      have hr1 := H.out.r1 hx
      have hr0 := H.out.r0 hx
      have hst := countOf_take tag hx
      have hz : (j : Int) < (S.length : Int) := by omega
      have hz0 : (0 : Int) ≤ (j : Int) := by omega
      have hle : (S.take j).countP (cnt tag) ≤ S.length := Nat.le_trans List.countP_le_length (by simp; omega)
      have HX := Lib.hid hx
      clear hx
      generalize (S.take j).countP (cnt tag) = c at *
      by_cases ho : x.own = 0
      · have e : cnt tag x = false := by simp [cnt, ho]
        rw [e] at hst
        have HS := Lib.hid hst
        rw [ho] at hr1
        clear hst
        go_wp2
        exact ⟨⟨j + 1, by omega, by go_num, by rw [HS.out]; rfl, trivial⟩, by simp [intOf]; omega⟩
      · have ho1 : 0 < x.own := by omega
        cases ht : x.tag.toList == tag.toList
        · have e : cnt tag x = false := by simp only [cnt, ht]; simp
          rw [e] at hst
          have HS := Lib.hid hst
          clear hst
          go_wp2
          exact ⟨⟨j + 1, by omega, by go_num, by rw [HS.out]; rfl, trivial⟩, by simp [intOf]; omega⟩
        · have e : cnt tag x = true := by simp only [cnt, ht]; simp; omega
          rw [e] at hst
          have HS := Lib.hid hst
          clear hst
          go_wp2
          exact ⟨⟨j + 1, by omega, by go_num, by rw [HS.out]; go_num, trivial⟩, by simp [intOf]; omega⟩
    · obtain rfl : j = S.length := by omega
      rw [List.take_length] at *
      have hz : ¬ (S.length : Int) < (S.length : Int) := by omega
      go_wp2
      go_ret
      exact ⟨rfl, rfl⟩
end Go.Proofs.Ytfimadeokdlpnaa.kv
