/- fair.Fair: Waiting, Clock, place. -/
import Derived.Test.YtdnkliapcnfcoaaFm
namespace Go.Proofs.Ytdnkliapcnfcoaa.fair
open Go.ChangeShapes Go.WideShapes Go.ChangeAt Go.RowKit K
set_option linter.unusedVariables false
set_option linter.unusedSimpArgs false
theorem FR.r2' {w : World} {p : Nat} {S : FS} {L : FL} {F : Nat → Prop} (h : FR w p S L F) (i : Nat) (hi : i < S.n) : ∃ a c, w.cell? ⟨L.bt, i * 3 + 2, none⟩ = some (.slice a (S.q i).length c) := by
  obtain ⟨a, c, e⟩ := (h.row i hi).form
  exact ⟨a, c, e ▸ h.r2 i hi⟩
def FS.waiting (S : FS) (n : Int) : Int := if 0 ≤ n ∧ n < S.n then (S.q n.toNat).length else 0
def FS.clock (S : FS) (n : Int) : Int := if 0 ≤ n ∧ n < S.n then S.ck n.toNat else 0
theorem waiting_c (p : Nat) (S : FS) (L : FL) (F : Nat → Prop) (w : World) (h : FR w p S L F) (n : Int) :
    Calls Try.prog 17 #[.pointer (some ⟨p, 0, none⟩), .int .i64 n] w fun e w' => e = .returned (.int .i64 (S.waiting n)) ∧ w = w' := by
  by_cases hn : 0 ≤ n ∧ n < S.n
  · obtain ⟨i, rfl⟩ : ∃ i : Nat, n = i := ⟨n.toNat, by omega⟩
    have hi : i < S.n := by omega
    obtain ⟨a, c, hc⟩ := h.r2' i hi
    have hw : S.waiting i = (S.q i).length := by unfold FS.waiting; rw [if_pos hn]; simp
    rw [hw]
    have FI := Lib.hid (find_in p S L F w h i hi)
    clear h hw hn
    go_enter Try.func17, Try.ntmps17
    go_wp2_with fail
    refine FI.out.mono ?_
    rintro e w' ⟨rfl, rfl⟩
    go_wp2
    go_ret
    exact ⟨rfl, rfl⟩
  · have hw : S.waiting n = 0 := by unfold FS.waiting; rw [if_neg hn]
    rw [hw]
    have FI := Lib.hid (find_out p S L F w h n (by omega))
    clear h hw hn
    go_enter Try.func17, Try.ntmps17
    go_wp2_with fail
    refine FI.out.mono ?_
    rintro e w' ⟨rfl, rfl⟩
    go_wp2
    go_ret
    exact ⟨rfl, rfl⟩
theorem clock_c (p : Nat) (S : FS) (L : FL) (F : Nat → Prop) (w : World) (h : FR w p S L F) (n : Int) :
    Calls Try.prog 19 #[.pointer (some ⟨p, 0, none⟩), .int .i64 n] w fun e w' => e = .returned (.int .i64 (S.clock n)) ∧ w = w' := by
  by_cases hn : 0 ≤ n ∧ n < S.n
  · obtain ⟨i, rfl⟩ : ∃ i : Nat, n = i := ⟨n.toNat, by omega⟩
    have hi : i < S.n := by omega
    have hc := h.r1 i hi
    have hw : S.clock i = S.ck i := by unfold FS.clock; rw [if_pos hn]; simp
    rw [hw]
    have FI := Lib.hid (find_in p S L F w h i hi)
    clear h hw hn
    go_enter Try.func19, Try.ntmps19
    go_wp2_with fail
    refine FI.out.mono ?_
    rintro e w' ⟨rfl, rfl⟩
    go_wp2
    go_ret
    exact ⟨rfl, rfl⟩
  · have hw : S.clock n = 0 := by unfold FS.clock; rw [if_neg hn]
    rw [hw]
    have FI := Lib.hid (find_out p S L F w h n (by omega))
    clear h hw hn
    go_enter Try.func19, Try.ntmps19
    go_wp2_with fail
    refine FI.out.mono ?_
    rintro e w' ⟨rfl, rfl⟩
    go_wp2
    go_ret
    exact ⟨rfl, rfl⟩
end Go.Proofs.Ytdnkliapcnfcoaa.fair
