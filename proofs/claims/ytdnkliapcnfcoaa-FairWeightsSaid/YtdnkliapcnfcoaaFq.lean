/- fair.Fair: place: whose an item is, and where it stands. -/
import Derived.Test.YtdnkliapcnfcoaaFp
namespace Go.Proofs.Ytdnkliapcnfcoaa.fair
open Go.ChangeShapes Go.WideShapes Go.ChangeAt Go.RowKit K
set_option linter.unusedVariables false
set_option linter.unusedSimpArgs false
/-- Does one of these bear that number? -/
def hasQ (q : List (Int × Int)) (id : Int) : Bool := decide (posQ q id < q.length)
theorem idxQ_no {q : List (Int × Int)} {id : Int} (h : hasQ q id = false) : idxQ q id = -1 := by
  unfold hasQ at h; unfold idxQ; rw [if_neg (by simpa using h)]
theorem idxQ_yes {q : List (Int × Int)} {id : Int} (h : hasQ q id = true) : idxQ q id = posQ q id := by
  unfold hasQ at h; unfold idxQ; rw [if_pos (by simpa using h)]
theorem hasQ_lt {q : List (Int × Int)} {id : Int} (h : hasQ q id = true) : posQ q id < q.length := by simpa [hasQ] using h
theorem FR.items {w : World} {p : Nat} {S : FS} {L : FL} {F : Nat → Prop} (h : FR w p S L F) (i : Nat) (hi : i < S.n) :
    ∃ a c, w.cell? ⟨L.bt, i * 3 + 2, none⟩ = some (.slice a (S.q i).length c) ∧ Items w a (S.q i) := by
  obtain ⟨a, c, e⟩ := (h.row i hi).form
  exact ⟨a, c, e ▸ h.r2 i hi, Items.of_row (e ▸ h.row i hi)⟩
/-- So much of each waits at most. -/
def Few (S : FS) : Prop := ∀ i, i < S.n → (S.q i).length ≤ 16
set_option maxHeartbeats 1000000 in
theorem place_no (p : Nat) (S : FS) (L : FL) (F : Nat → Prop) (w : World) (h : FR w p S L F) (hf : Few S) (id : Int) (hno : ∀ i, i < S.n → hasQ (S.q i) id = false) :
    Calls Try.prog 22 #[.pointer (some ⟨p, 0, none⟩), .int .i64 id] w fun e w' => e = .returned (.tuple #[.pointer none, .int .i64 0]) ∧ Below w.heap.size w w' := by
  have H := Lib.hid h
  have HF := Lib.hid hf
  have HN := Lib.hid hno
  have hp := h.head.lt
  have h4 := h.few
  have h0 := h.h0
  clear h hf hno
  generalize hn : S.n = n at *
  have HE := Lib.hid hn
  clear hn
  have hne : p ≠ w.heap.size := by omega
  go_enter Try.func22, Try.ntmps22
  go_wp2
  have B0 : Below w.heap.size w (w.alloc (.cells #[.int .i64 id] 3)) := (Below.refl _ _).alloc (Nat.le_refl _) _
  go_loopw [14] (fun s wr => ∃ j : Nat, j ≤ n ∧ s = .int .i64 j ∧ Hid (Below (w.alloc (.cells #[.int .i64 id] 3)).heap.size (w.alloc (.cells #[.int .i64 id] 3)) wr)) (fun s _ => n - (intOf s).toNat)
  case atStart => exact ⟨0, Nat.zero_le _, rfl, Lib.hid (Below.refl _ _)⟩
  case round =>
    obtain ⟨j, hj, rfl, BW⟩ := hrel
    have hsz : w.heap.size + 1 ≤ wr.heap.size := by have := BW.out.size; simp at this; omega
    have BB : Below w.heap.size w wr := B0.trans (BW.out.mono (by simp))
    have h0' : wr.cell? ⟨p, 0, none⟩ = some (.slice (some ⟨L.bt, 0, none⟩) n L.cap) := (BB.cell (p := ⟨p, 0, none⟩) hp).trans h0
    by_cases hlt : j < n
    · have hltz : (j : Int) < (n : Int) := by omega
      have h1 : (0 : Int) ≤ (j : Int) := by omega
      obtain ⟨a, c, hc, hit⟩ := (H.out.below BB).items j (by rw [HE.out]; exact hlt)
      have hcell : wr.cell? ⟨w.heap.size, 0, none⟩ = some (.int .i64 id) := (BW.out.cell (p := ⟨w.heap.size, 0, none⟩) (by simp)).trans ((Bk.new w #[.int .i64 id] 3).cell 0 _ rfl)
      have IX := Lib.hid (indexFunc_c (S.q j) (S.q j).length rfl (by have := HF.out j (by rw [HE.out]; exact hlt); omega) a c id w.heap.size wr hit (by omega) hcell)
      rw [idxQ_no (HN.out j hlt)] at IX
      have BH := Lib.hid BB
      clear B0 h0 BB hcell hit
      generalize (S.q j).length = m at *
      go_wp2_with fail
      refine IX.out.mono ?_
      rintro e w1 ⟨rfl, hb⟩
      have HB1 := Lib.hid hb
      clear hb
      go_wp2
      exact ⟨⟨j + 1, by omega, by go_num, Lib.hid (below_step BW.out HB1.out)⟩, by simp [intOf]; omega⟩
    · have hltz : ¬ (j : Int) < (n : Int) := by omega
      go_wp2
      go_ret2
      exact ⟨rfl, BB⟩
set_option maxHeartbeats 1000000 in
theorem place_yes (p : Nat) (S : FS) (L : FL) (F : Nat → Prop) (w : World) (h : FR w p S L F) (hf : Few S) (id : Int) (i : Nat) (hi : i < S.n) (hyes : hasQ (S.q i) id = true) (hno : ∀ k, k < i → hasQ (S.q k) id = false) :
    Calls Try.prog 22 #[.pointer (some ⟨p, 0, none⟩), .int .i64 id] w fun e w' => e = .returned (.tuple #[.pointer (some ⟨L.bt, i * 3, none⟩), .int .i64 (posQ (S.q i) id)]) ∧ Below w.heap.size w w' := by
  have H := Lib.hid h
  have HF := Lib.hid hf
  have HN := Lib.hid hno
  have HY := Lib.hid hyes
  have hp := h.head.lt
  have h4 := h.few
  have h0 := h.h0
  clear h hf hno hyes
  generalize hn : S.n = n at *
  have HE := Lib.hid hn
  clear hn
  have hne : p ≠ w.heap.size := by omega
  go_enter Try.func22, Try.ntmps22
  go_wp2
  have B0 : Below w.heap.size w (w.alloc (.cells #[.int .i64 id] 3)) := (Below.refl _ _).alloc (Nat.le_refl _) _
  go_loopw [14] (fun s wr => ∃ j : Nat, j ≤ i ∧ s = .int .i64 j ∧ Hid (Below (w.alloc (.cells #[.int .i64 id] 3)).heap.size (w.alloc (.cells #[.int .i64 id] 3)) wr)) (fun s _ => n - (intOf s).toNat)
  case atStart => exact ⟨0, Nat.zero_le _, rfl, Lib.hid (Below.refl _ _)⟩
  case round =>
    obtain ⟨j, hj, rfl, BW⟩ := hrel
    have hsz : w.heap.size + 1 ≤ wr.heap.size := by have := BW.out.size; simp at this; omega
    have BB : Below w.heap.size w wr := B0.trans (BW.out.mono (by simp))
    have h0' : wr.cell? ⟨p, 0, none⟩ = some (.slice (some ⟨L.bt, 0, none⟩) n L.cap) := (BB.cell (p := ⟨p, 0, none⟩) hp).trans h0
    have hltz : (j : Int) < (n : Int) := by omega
    have h1 : (0 : Int) ≤ (j : Int) := by omega
    obtain ⟨a, c, hc, hit⟩ := (H.out.below BB).items j (by rw [HE.out]; omega)
    have hcell : wr.cell? ⟨w.heap.size, 0, none⟩ = some (.int .i64 id) := (BW.out.cell (p := ⟨w.heap.size, 0, none⟩) (by simp)).trans ((Bk.new w #[.int .i64 id] 3).cell 0 _ rfl)
    have IX := Lib.hid (indexFunc_c (S.q j) (S.q j).length rfl (by have := HF.out j (by rw [HE.out]; omega); omega) a c id w.heap.size wr hit (by omega) hcell)
    by_cases hlt : j < i
    · rw [idxQ_no (HN.out j hlt)] at IX
      have BH := Lib.hid BB
      clear B0 h0 BB hcell hit
      generalize (S.q j).length = m at *
      go_wp2_with fail
      refine IX.out.mono ?_
      rintro e w1 ⟨rfl, hb⟩
      have HB1 := Lib.hid hb
      clear hb
      go_wp2
      exact ⟨⟨j + 1, by omega, by go_num, Lib.hid (below_step BW.out HB1.out)⟩, by simp [intOf]; omega⟩
    · obtain rfl : j = i := by omega
      rw [idxQ_yes HY.out] at IX
      have hge : (0 : Int) ≤ (posQ (S.q j) id : Int) := by omega
      have BH := Lib.hid BB
      clear B0 h0 BB hcell hit
      generalize (S.q j).length = m at *
      go_wp2_with fail
      refine IX.out.mono ?_
      rintro e w1 ⟨rfl, hb⟩
      have HB1 := Lib.hid hb
      clear hb
      go_wp2
      go_ret2
      exact ⟨rfl, below_step BH.out (HB1.out.mono (by omega))⟩
end Go.Proofs.Ytdnkliapcnfcoaa.fair
