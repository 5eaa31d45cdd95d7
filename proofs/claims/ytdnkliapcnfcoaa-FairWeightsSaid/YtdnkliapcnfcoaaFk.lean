/- aviarylaw21.works: it answers true; price. One Fair alone in the heap. -/
import Derived.Test.YtdnkliapcnfcoaaArg
namespace Go.Proofs.Ytdnkliapcnfcoaa.fair
open Go.ChangeShapes Go.WideShapes Go.ChangeAt Go.RowKit K
set_option linter.unusedVariables false
set_option linter.unusedSimpArgs false
/-- A Fair lies in the heap, from block B0 on; the blocks X are not its own. -/
def OneF (B0 : Nat) (X : Nat → Prop) (w : World) (p : Nat) (S : FS) : Prop :=
  ∃ L, FR w p S L (L.foot p S.n) ∧ (∀ b, L.foot p S.n b → B0 ≤ b) ∧ (∀ b, X b → b < w.heap.size ∧ ¬ L.foot p S.n b)
def OPost (B0 : Nat) (X : Nat → Prop) (w : World) (p : Nat) (S : FS) (r : Value) (e : Ending) (w' : World) : Prop :=
  e = .returned r ∧ OneF B0 X w' p S ∧ Below B0 w w' ∧ ∀ b, X b → w'.heap[b]? = w.heap[b]?
namespace OneF
variable {B0 : Nat} {X Y : Nat → Prop} {w w' : World} {p : Nat} {S S' : FS}
theorem below (h : OneF B0 X w p S) (hb : Below w.heap.size w w') : OneF B0 X w' p S := by
  obtain ⟨L, h1, h2, h3⟩ := h
  exact ⟨L, h1.below hb, h2, fun b hx => ⟨Nat.lt_of_lt_of_le (h3 b hx).1 hb.size, (h3 b hx).2⟩⟩
theorem drew (h : OneF B0 X w p S) : OneF B0 X w.drew p S := h.below (Below.refl _ _).drew
theorem sub (h : OneF B0 X w p S) (hY : ∀ b, Y b → X b) : OneF B0 Y w p S := by
  obtain ⟨L, h1, h2, h3⟩ := h
  exact ⟨L, h1, h2, fun b hx => h3 b (hY b hx)⟩
/-- What is made now is not its own. -/
theorem wider (h : OneF B0 X w p S) (hb : Below w.heap.size w w') (hY : ∀ b, Y b → X b ∨ (w.heap.size ≤ b ∧ b < w'.heap.size)) : OneF B0 Y w' p S := by
  obtain ⟨L, h1, h2, h3⟩ := h
  refine ⟨L, h1.below hb, h2, fun b hy => ?_⟩
  rcases hY b hy with hx | ⟨h4, h5⟩
  · exact ⟨Nat.lt_of_lt_of_le (h3 b hx).1 hb.size, (h3 b hx).2⟩
  · exact ⟨h5, fun hf => by have := h1.foot_lt b hf; omega⟩
/-- What changes the blocks X alone leaves it as it is. -/
theorem chg (h : OneF B0 X w p S) (hc : Chg X w w') : OneF B0 X w' p S := by
  obtain ⟨L, h1, h2, h3⟩ := h
  exact ⟨L, h1.chg hc (fun b hf hx => (h3 b hx).2 hf), h2, fun b hx => ⟨Nat.lt_of_lt_of_le (h3 b hx).1 hc.size, (h3 b hx).2⟩⟩
theorem call (h : OneF B0 X w p S) (hB : B0 ≤ w.heap.size) {f : Nat} {args : Array Value} {r : Value}
    (hc : ∀ L F, FR w p S L F → Calls Try.prog f args w (Post S' w p F r)) : Calls Try.prog f args w (OPost B0 X w p S' r) := by
  obtain ⟨L, h1, h4, hX⟩ := h
  refine (hc L _ h1).mono fun e w' => ?_
  rintro ⟨rfl, ⟨L', hL⟩, hch⟩
  have hin := hL.foot_in
  refine ⟨rfl, ⟨L', hL.tight, fun b hb => ?_, fun b hx => ⟨Nat.lt_of_lt_of_le (hX b hx).1 hch.size, fun hf => ?_⟩⟩, hch.below h4 hB, fun b hx => hch.block b (hX b hx).1 (hX b hx).2⟩
  · rcases hin b hb with h6 | h6
    · exact h4 b h6
    · omega
  · rcases hin b hf with h6 | h6
    · exact (hX b hx).2 h6
    · have := (hX b hx).1; omega
/-- Made anew. -/
theorem made {L : FL} (hz : B0 ≤ p) (h : FR w p S L (fun b => p ≤ b)) (hX : ∀ b, X b → b < p) : OneF B0 X w p S :=
  ⟨L, h.tight, fun b hb => Nat.le_trans hz (h.foot_in b hb), fun b hx => ⟨Nat.lt_trans (hX b hx) h.head.lt, fun hf => by have := h.foot_in b hf; have := hX b hx; omega⟩⟩
theorem add (h : OneF B0 X w p S) (hB : B0 ≤ w.heap.size) {B : Int} (hg : Good S B) (n id cost : Int) {r : Int} {S' : FS} (hr : S.addR n id cost = (r, S')) :
    Calls Try.prog 10 #[.pointer (some ⟨p, 0, none⟩), .int .i64 n, .int .i64 id, .int .i64 cost] w (OPost B0 X w p S' (.int .i64 r)) := by
  have := h.call hB fun L F hL => add_c p S L F w hL hg.q n id cost
  rw [hr] at this; exact this
theorem next (h : OneF B0 X w p S) (hB : B0 ≤ w.heap.size) {B : Int} (hg : Good S B) (hle : B ≤ 1000000000000000) {a b : Int} {c : Bool} {S' : FS} (hr : S.next = ((a, b, c), S')) :
    Calls Try.prog 11 #[.pointer (some ⟨p, 0, none⟩)] w (OPost B0 X w p S' (.tuple #[.int .i64 a, .int .i64 b, .bool c])) := by
  have := h.call hB (f := 11) (args := #[.pointer (some ⟨p, 0, none⟩)]) (r := trip S.next.1) fun L F hL => next_c p S L F w hL B hg hle
  rw [hr] at this; exact this
theorem cancel (h : OneF B0 X w p S) (hB : B0 ≤ w.heap.size) {B : Int} (hg : Good S B) (id : Int) {r : Bool} {S' : FS} (hr : S.cancelR id = (r, S')) :
    Calls Try.prog 12 #[.pointer (some ⟨p, 0, none⟩), .int .i64 id] w (OPost B0 X w p S' (.bool r)) := by
  have := h.call hB fun L F hL => cancel_c p S L F w hL hg.q id
  rw [hr] at this; exact this
end OneF
def wS : Nat → FS | 0 => FS.new [1, 2] | k + 1 => ((wS k).addR (k % 2 : Nat) k 10).2
def nS : Nat → FS | 0 => wS 6 | k + 1 => (nS k).next.2
theorem wS_add : ∀ k : Nat, k < 6 → ((wS k).addR (k % 2 : Nat) k 10).1 = 0 := by decide +kernel
theorem wS_good : ∀ k, Good (wS k) 0
  | 0 => good_new _ (by decide) 0 (by omega)
  | k + 1 => (wS_good k).add _ _ _
theorem nS_good : ∀ k : Nat, Good (nS k) (k * 7207200000)
  | 0 => (wS_good 6).mono (by omega)
  | k + 1 => (nS_good k).next.mono (by omega)
def wantF : Nat → Int | 0 => 0 | 1 => 1 | 2 => 1 | 3 => 0 | 4 => 1 | _ => 0
theorem nS_next : ∀ k : Nat, k < 6 → (nS k).next.1.2.1 = 10 ∧ (nS k).next.1.2.2 = true ∧ 0 ≤ (nS k).next.1.1 ∧ (nS k).next.1.1 < 6 ∧ (nS k).next.1.1 % 2 = wantF k := by decide +kernel
theorem nS_end : (nS 6).next.1 = (0, 0, false) := by decide +kernel
theorem nS_end2 : ((nS 7).addR 2 9 1).1 = 20 := by decide +kernel
theorem nS_end3 : ((nS 7).addR 2 9 1).2.waiting 0 = 0 := by decide +kernel
set_option maxHeartbeats 4000000 in
set_option maxRecDepth 100000 in
theorem works_true (W : World) : Calls Try.prog 7 #[] W fun e w' => e = .returned (.bool true) ∧ Below W.heap.size W w' := by
  go_enter Try.func7, Try.ntmps7
  go_wp2_with fail
  have I0 : Ints (W.alloc (.cells #[.int .i64 1, .int .i64 2] 3)) (some ⟨W.heap.size, 0, none⟩) [1, 2] := by
    intro j x hx
    refine ⟨_, _, rfl, by simp, (Bk.new W #[.int .i64 1, .int .i64 2] 3).cell _ _ ?_⟩
    match j, hx with
    | 0, hx => simp at hx; subst hx; rfl
    | 1, hx => simp at hx; subst hx; rfl
    | j + 2, hx => simp at hx
  have NC := Lib.hid (new_c _ _ 2 2 [1, 2] rfl I0)
  have HB0 : Hid (Below W.heap.size W (W.alloc (.cells #[.int .i64 1, .int .i64 2] 3))) := (Below.refl _ W).alloc (Nat.le_refl _) _
  have hz0 : W.heap.size ≤ (W.alloc (.cells #[.int .i64 1, .int .i64 2] 3)).heap.size := by simp
  clear I0
  generalize W.alloc (.cells #[.int .i64 1, .int .i64 2] 3) = w0 at *
  refine NC.out.mono ?_
  rintro e w1 ⟨hb1, hcase⟩
  rcases hcase with ⟨hbad, _⟩ | ⟨_, rfl, L, hL⟩
  · exact absurd hbad (by decide)
  · have HB1 := Lib.hid (HB0.out.trans (hb1.mono HB0.out.size))
    generalize hp : w0.heap.size = p at *
    have HO1 := Lib.hid (OneF.made (X := fun _ => False) hz0 hL (fun b hb => hb.elim))
    clear hb1 hL hp hz0
    go_wp2
    go_loopw [3] (fun i wr => ∃ k : Nat, k ≤ 6 ∧ i = .int .i64 k ∧ Hid (OneF W.heap.size (fun _ => False) wr p (wS k)) ∧ Hid (Below W.heap.size W wr)) (fun i _ => 6 - (intOf i).toNat)
    case atStart => exact ⟨0, by omega, rfl, HO1, HB1⟩
    case round =>
      obtain ⟨k, hk, rfl, HO, HB⟩ := hrel
      by_cases hlt : k < 6
      · have hkz : (k : Int) < 6 := by omega
        have hkz0 : (0 : Int) ≤ (k : Int) := by omega
        have AD := Lib.hid (HO.out.add HB.out.size (wS_good k) ((k : Int) % 2) k 10 (r := 0) (S' := wS (k + 1)) (Prod.ext (wS_add k hlt) rfl))
        go_wp2_with fail
        refine AD.out.mono ?_
        rintro e w2 ⟨rfl, h1, h2, -⟩
        have H1 := Lib.hid h1
        have H2 := Lib.hid (HB.out.trans h2)
        clear h1 h2
        go_wp2
        exact ⟨⟨k + 1, by omega, by go_num, H1, H2⟩, by simp [intOf]; omega⟩
      · have hkz : ¬ (k : Int) < 6 := by omega
        obtain rfl : k = 6 := by omega
        obtain ⟨wo, rfl⟩ : ∃ wo : World, wo = wr := ⟨_, rfl⟩
        obtain ⟨O, hO⟩ : ∃ O, O = wo.heap.size := ⟨_, rfl⟩
        have HOX : Hid (OneF W.heap.size (fun b => b = O) (wo.alloc (.cells #[.int .i64 0, .int .i64 1, .int .i64 1, .int .i64 0, .int .i64 1, .int .i64 0] 3)) p (nS 0)) :=
          HO.out.wider ((Below.refl _ wo).alloc (Nat.le_refl _) _) (fun b hb => .inr ⟨by omega, by simp; omega⟩)
        have HBX : Hid (Below W.heap.size W (wo.alloc (.cells #[.int .i64 0, .int .i64 1, .int .i64 1, .int .i64 0, .int .i64 1, .int .i64 0] 3))) := HB.out.alloc HB.out.size _
        have HBK : Hid (Bk (wo.alloc (.cells #[.int .i64 0, .int .i64 1, .int .i64 1, .int .i64 0, .int .i64 1, .int .i64 0] 3)) O #[.int .i64 0, .int .i64 1, .int .i64 1, .int .i64 0, .int .i64 1, .int .i64 0] 3) := by rw [hO]; exact Bk.new _ _ _
        go_wp2
        rw [← hO]
        clear hO
        generalize wo.alloc (.cells #[.int .i64 0, .int .i64 1, .int .i64 1, .int .i64 0, .int .i64 1, .int .i64 0] 3) = wp at *
        go_loopw [5] (fun i wr => ∃ k : Nat, k ≤ 6 ∧ i = .int .i64 k ∧ Hid (OneF W.heap.size (fun b => b = O) wr p (nS k)) ∧ Hid (Below W.heap.size W wr) ∧ Hid (Bk wr O #[.int .i64 0, .int .i64 1, .int .i64 1, .int .i64 0, .int .i64 1, .int .i64 0] 3)) (fun i _ => 6 - (intOf i).toNat)
        case atStart => exact ⟨0, by omega, rfl, HOX, HBX, HBK⟩
        case round =>
          obtain ⟨k, hk, rfl, HO, HB, HK⟩ := hrel
          by_cases hlt : k < 6
          · have hkz : (k : Int) < 6 := by omega
            have hkz0 : (0 : Int) ≤ (k : Int) := by omega
            obtain ⟨e1, e2, e3, e4, e5⟩ := nS_next k hlt
            obtain ⟨a, ha⟩ : ∃ a, a = (nS k).next.1.1 := ⟨_, rfl⟩
            rw [← ha] at e3 e4 e5
            have AD := Lib.hid (HO.out.next HB.out.size (nS_good k) (by omega) (a := a) (b := 10) (c := true) (S' := nS (k + 1)) (Prod.ext (Prod.ext ha.symm (Prod.ext e1 e2)) rfl))
            have HE5 := Lib.hid e5
            clear ha e1 e2 e5
            go_wp2_with fail
            refine AD.out.mono ?_
            rintro e w2 ⟨rfl, h1, h2, h3⟩
            have hBK2 : Bk w2 O _ 3 := (h3 O rfl).trans HK.out
            have hc := hBK2.cell k (.int .i64 (wantF k)) (by
              match k, hlt with
              | 0, _ => rfl
              | 1, _ => rfl
              | 2, _ => rfl
              | 3, _ => rfl
              | 4, _ => rfl
              | 5, _ => rfl)
            rw [← HE5.out] at hc
            have H1 := Lib.hid h1
            have H2 := Lib.hid (HB.out.trans h2)
            have HK2 := Lib.hid hBK2
            clear h1 h2 h3 hBK2
            go_wp2
            exact ⟨⟨k + 1, by omega, by go_num, H1, H2, HK2⟩, by simp [intOf]; omega⟩
          · have hkz : ¬ (k : Int) < 6 := by omega
            obtain rfl : k = 6 := by omega
            have AD := Lib.hid (HO.out.next HB.out.size (nS_good 6) (by omega) (a := 0) (b := 0) (c := false) (S' := nS 7) (Prod.ext nS_end rfl))
            go_wp2_with fail
            refine AD.out.mono ?_
            rintro e w2 ⟨rfl, h1, h2, -⟩
            have H2 := Lib.hid (HB.out.trans h2)
            have AD2 := Lib.hid (h1.add H2.out.size (nS_good 7) 2 9 1 (r := 20) (S' := ((nS 7).addR 2 9 1).2) (Prod.ext nS_end2 rfl))
            clear h1 h2
            go_wp2_with fail
            refine AD2.out.mono ?_
            rintro e w3 ⟨rfl, h1, h2, -⟩
            have H3 := Lib.hid (H2.out.trans h2)
            obtain ⟨L3, hL3, -⟩ := h1
            have WA := Lib.hid (waiting_c p _ L3 _ _ hL3 0)
            rw [nS_end3] at WA
            clear h2 hL3
            go_wp2_with fail
            refine WA.out.mono ?_
            rintro e w' ⟨rfl, rfl⟩
            go_wp2
            go_ret
            exact ⟨rfl, H3.out⟩
end Go.Proofs.Ytdnkliapcnfcoaa.fair
