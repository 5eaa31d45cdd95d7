/- A sequence: Row. -/
import Derived.Test.YtfimadeokdlpnaaVo
namespace Go.Proofs.Ytfimadeokdlpnaa.kv
open Go.ChangeShapes Go.WideShapes Go.ChangeAt Go.RowKit K
set_option linter.unusedVariables false
set_option linter.unusedSimpArgs false
variable (s p : Nat) (Q : Sq) (v : Value) (own : Option Nat) (w : World)
def Sq.page (Q : Sq) (i : Nat) : Nat := (Q.pages[(i - Q.first) / Q.per]?).getD 0
def Sq.cell (Q : Sq) (i : Nat) : Nat := (i - Q.first) % Q.per * Q.width
def rowOf (S : List Pg) (Q : Sq) (i : Nat) : List Int := (List.range Q.width).map fun k => getOf S (Q.page i) (Q.cell i + k)
def encI (l : List Int) : List Value := l.map (Value.int .i64)
theorem per_mul {W : Nat} (h : 1 ≤ W) : 32 / W * W ≤ 32 := Nat.div_mul_le_self _ _
theorem Sq.cell_lt {Q : Sq} (h : 1 ≤ Q.width ∧ Q.width ≤ 32) (i k : Nat) (hk : k < Q.width) : Q.cell i + k < 32 := by
  unfold Sq.cell
  have hp : 0 < Q.per := (Nat.le_div_iff_mul_le (by omega)).2 (by omega)
  have h1 : (i - Q.first) % Q.per + 1 ≤ Q.per := Nat.mod_lt _ hp
  have h2 : ((i - Q.first) % Q.per + 1) * Q.width ≤ Q.per * Q.width := Nat.mul_le_mul_right _ h1
  have h3 : Q.per * Q.width ≤ 32 := per_mul h.1
  rw [Nat.add_mul] at h2
  omega
theorem SR.page_at {w : World} {s p : Nat} {Q : Sq} {v : Value} {own : Option Nat} (h : SR w s p Q v own) {i : Nat} (h1 : Q.first ≤ i) (h2 : i < Q.len) : Q.pages[(i - Q.first) / Q.per]? = some (Q.page i) := by
  have hp := h.per_pos
  have hf := h.fit
  have : (i - Q.first) / Q.per < Q.pages.length := (Nat.div_lt_iff_lt_mul (by omega)).2 (by omega)
  unfold Sq.page
  rw [List.getElem?_eq_getElem this]; rfl
/-- So many cells of a row are laid. -/
def Fill (B W : Nat) (f : Nat → Int) (k : Nat) (wr : World) : Prop := ∃ cs, Bk wr B cs 2 ∧ cs.size = W ∧ ∀ j, j < k → cs[j]? = some (.int .i64 (f j))
theorem Fill.set {B W : Nat} {f : Nat → Int} {k : Nat} {wr : World} (h : Fill B W f k wr) (hk : k < W) : Fill B W f (k + 1) (wr.setCell ⟨B, k, none⟩ (.int .i64 (f k))) := by
  obtain ⟨cs, h1, h2, h3⟩ := h
  refine ⟨_, h1.set k _, by simpa using h2, fun j hj => ?_⟩
  by_cases e : j = k
  · subst e; rw [Array.getElem?_setIfInBounds_self_of_lt (by omega)]
  · rw [Array.getElem?_setIfInBounds_ne (by omega)]; exact h3 j (by omega)
theorem row_out (h : SR w s p Q v own) (i : Int) (hi : i < Q.first ∨ (Q.len : Int) ≤ i) : Calls Try.prog 28 #[.pointer (some ⟨s, 0, none⟩), .int .i64 i] w fun e w' =>
    e = .returned (.tuple #[.slice none 0 0, .int .i64 25]) ∧ w = w' := by
  have h4 := h.c4
  have h5 := h.c5
  clear h
  generalize Q.first = F at *
  generalize Q.len = N at *
  by_cases h1 : i < (F : Int)
  · clear hi
    go_enter Try.func28, Try.ntmps28
    go_wp2
    go_ret2
    exact ⟨rfl, rfl⟩
  · have h2 : (F : Int) ≤ i := by omega
    have h3 : (N : Int) ≤ i := by omega
    clear hi
    go_enter Try.func28, Try.ntmps28
    go_wp2
    go_ret2
    exact ⟨rfl, rfl⟩
set_option maxHeartbeats 1000000 in
theorem row_in (b : Nat) (S : List Pg) (h : SR w s p Q v own) (hp : PR w p b S) (i : Nat) (h1 : Q.first ≤ i) (h2 : i < Q.len) : Calls Try.prog 28 #[.pointer (some ⟨s, 0, none⟩), .int .i64 i] w fun e w' =>
    ∃ g, e = .returned (.tuple #[.slice (some ⟨g, 0, none⟩) Q.width Q.width, .int .i64 0]) ∧ Row w' 2 1 (.slice (some ⟨g, 0, none⟩) Q.width Q.width) (some g) Q.width (encI (rowOf S Q i)) ∧ Below w.heap.size w w' ∧ w.heap.size ≤ g := by
  have AT := Lib.hid (at_c s p Q v own w h i (Q.page i) h1 (by have := h.short; omega) (h.page_at h1 h2))
  have hwd := h.wd
  obtain ⟨Z, hZ1, hZ2, hmk⟩ := mk_i64 Q.width Q.width (Nat.le_refl _) (by omega)
  have h0 := h.c0
  have hw := h.c2
  have h4 := h.c4
  have h5 := h.c5
  have hs := h.head.lt
  have HP := Lib.hid hp
  have HZ := Lib.hid hZ1
  have GT : Hid (∀ wr k, Below w.heap.size w wr → k < Q.width → Calls Try.prog 55 #[.pointer (some ⟨p, 0, none⟩), .int .i64 (Q.page i : Int), .int .i64 ((Q.cell i : Int) + (k : Int))] wr fun e w' => e = .returned (.tuple #[.int .i64 (getOf S (Q.page i) (Q.cell i + k)), .int .i64 (errOf S (Q.page i))]) ∧ wr = w') := by
    intro wr k hb hk
    have := get_c p b S wr (hp.below hb) (Q.page i) (Q.cell i + k) (Sq.cell_lt hwd i k hk)
    rw [Int.natCast_add] at this
    exact this
  have hcell : ∀ k, k < Q.width → Q.cell i + k < 32 := fun k hk => Sq.cell_lt hwd i k hk
  have HR : Hid (rowOf S Q i = (List.range Q.width).map fun k => getOf S (Q.page i) (Q.cell i + k)) := rfl
  rw [show ((i - Q.first) % Q.per * Q.width : Nat) = Q.cell i from rfl] at AT
  generalize rowOf S Q i = xs at *
  generalize Q.page i = pg at *
  generalize Q.cell i = ce at *
  have hz1 : (Q.first : Int) ≤ (i : Int) := by omega
  have hz2 : (i : Int) < (Q.len : Int) := by omega
  generalize Q.width = W at *
  generalize Q.first = F at *
  generalize Q.len = N at *
  clear h hp hZ1 hZ2 h1 h2
  go_enter Try.func28, Try.ntmps28
  go_wp2_with fail
  refine AT.out.mono ?_
  rintro e w0 ⟨rfl, m, rfl⟩
  have hmk' := hmk (w.drewN m)
  have hb1 : Hid (Bk ((w.drewN m).alloc (.cells Z 2)) w.heap.size Z 2) := Bk.new _ _ _
  have HW1 : Hid (Below w.heap.size w ((w.drewN m).alloc (.cells Z 2))) := (show Below w.heap.size w (w.drewN m) from ⟨rfl, rfl, rfl, Nat.le_refl _, fun _ _ => rfl⟩).alloc (Nat.le_refl _) _
  clear hmk
  generalize (w.drewN m).alloc (.cells Z 2) = w1 at hb1 HW1 hmk'
  rw [show (w.drewN m).heap.size = w.heap.size from rfl] at hmk'
  go_wp2_with fail
  go_loopw [37] (fun s37 wr => ∃ k : Nat, k ≤ W ∧ s37 = .int .i64 k ∧ Hid (Below w.heap.size w wr) ∧ Hid (Fill w.heap.size W (fun k => getOf S pg (ce + k)) k wr)) (fun s37 _ => W - (intOf s37).toNat)
  case atStart => exact ⟨0, Nat.zero_le _, rfl, HW1, Lib.hid ⟨Z, hb1.out, HZ.out, fun j hj => absurd hj (Nat.not_lt_zero _)⟩⟩
  case round =>
    obtain ⟨k, hk, rfl, BW, FL⟩ := hrel
    have h0' := (BW.out.cell (p := ⟨s, 0, none⟩) hs).trans h0
    by_cases hkW : k < W
    · obtain ⟨cs, f1, f2, f3⟩ := FL.out
      have hkz : (k : Int) < (W : Int) := by omega
      have hk0 : (0 : Int) ≤ (k : Int) := by omega
      have hkc := f1.cell k (cs[k]'(by omega)) (Array.getElem?_eq_getElem _)
      have hkf := f1.free k
      generalize cs[k]'(by omega) = u at hkc
      have hcek := hcell k hkW
      have GK := Lib.hid (GT.out wr k BW.out hkW)
      have FS := Lib.hid (FL.out.set hkW)
      have BS := Lib.hid (BW.out.setCell (p := ⟨w.heap.size, k, none⟩) (Nat.le_refl _) (.int .i64 (getOf S pg (ce + k))))
      generalize getOf S pg (ce + k) = gv at *
      clear f1 f2 f3
      go_wp2_with fail
      refine GK.out.mono ?_
      rintro e w' ⟨rfl, rfl⟩
      go_wp2
      exact ⟨⟨k + 1, by omega, by go_num, BS, FS⟩, by simp [intOf]; omega⟩
    · obtain rfl : k = W := by omega
      have hkz : ¬ (k : Int) < (k : Int) := by omega
      go_wp2
      go_ret2
      obtain ⟨cs, f1, f2, f3⟩ := FL.out
      refine ⟨w.heap.size, rfl, ⟨?_, .inr ⟨_, 0, k, cs, rfl, rfl, Nat.le_refl _, by unfold maxLen; omega, f1, by omega, fun j hj => ?_⟩⟩, BW.out, Nat.le_refl _⟩
      · rw [HR.out]; simp [encI]
      · rw [Nat.zero_add, f3 j (by omega), HR.out]
        simp [encI, show j < k by omega]
end Go.Proofs.Ytfimadeokdlpnaa.kv
