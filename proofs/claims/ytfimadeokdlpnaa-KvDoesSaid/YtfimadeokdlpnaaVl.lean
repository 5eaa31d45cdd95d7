/- The law's Row; aviaryref04.Same. -/
import Derived.Test.YtfimadeokdlpnaaVk
namespace Go.Proofs.Ytfimadeokdlpnaa.kv
open Go.ChangeShapes Go.WideShapes Go.ChangeAt Go.RowKit K
set_option linter.unusedVariables false
set_option linter.unusedSimpArgs false
def rowN (W seed : Nat) : List Int := (List.range W).map fun i => ((seed * 31 + i : Nat) : Int)
theorem rowN_length (W seed : Nat) : (rowN W seed).length = W := by simp [rowN]
theorem rowN_succ (W seed : Nat) : rowN (W + 1) seed = rowN W seed ++ [((seed * 31 + W : Nat) : Int)] := by simp [rowN, List.range_succ]
theorem encI_snoc (l : List Int) (x : Int) : encI (l ++ [x]) = encI l ++ [.int .i64 x] := by simp [encI]
theorem Row.args {w : World} {g f n cp : Nat} {own : Option Nat} {xs : List Int} (h : Row w 2 1 (.slice (some ⟨g, f, none⟩) n cp) own n (encI xs)) (hn : 0 < n) : Args w g f xs := by
  obtain ⟨g', f', cap, cs, e1, e2, e3, e4, e5, e6, e7⟩ := h.pos hn
  cases e1
  refine ⟨e5.lt, fun k x hx => e5.cell _ _ ?_⟩
  have hl := h.1
  simp only [encI, List.length_map] at hl
  have hk := (List.getElem?_eq_some_iff.1 hx).1
  rw [e7 k (by omega)]
  simp [encI, hx]
set_option maxHeartbeats 1000000 in
theorem lrow_c (W seed : Nat) (hW : 1 ≤ W ∧ W ≤ 32) (hs : seed ≤ 1000) (w : World) : Calls Try.prog 12 #[.int .i64 W, .int .i64 seed] w fun e w' =>
    ∃ g f cp, e = .returned (.slice (some ⟨g, f, none⟩) W cp) ∧ Args w' g f (rowN W seed) ∧ w.heap.size ≤ g ∧ Below w.heap.size w w' := by
  obtain ⟨i0, hi0, hz0, hz1, hz2⟩ := info_parts infoL
  go_enter Try.func12, Try.ntmps12
  go_wp2_with fail
  go_loopw [5, 6] (fun s5 s6 wr => ∃ (j : Nat) (a : Option Addr) (c : Nat) (own : Option Nat), j ≤ W ∧ s6 = .int .i64 j ∧ s5 = .slice a j c ∧ Hid (Row wr 2 1 (.slice a j c) own j (encI (rowN j seed))) ∧ Hid (Below w.heap.size w wr) ∧ Hid (∀ k, own = some k → w.heap.size ≤ k)) (fun _ s6 _ => W - (intOf s6).toNat)
  case atStart => exact ⟨0, none, 0, none, by omega, rfl, rfl, Lib.hid (Row.nil _ _ _), Lib.hid (Below.refl _ _), Lib.hid (fun k hk => by cases hk)⟩
  case round =>
    obtain ⟨j, a, c, own, hj, rfl, rfl, HR, HB, HO⟩ := hrel
    by_cases hjW : j < W
    · have hjz : (j : Int) < (W : Int) := by omega
      have HROW : Hid (Row (wr.alloc (.cells #[.int .i64 ((seed : Int) * 31 + (j : Int))] 2)) 2 1 (.slice a j c) own j (encI (rowN j seed))) := HR.out.keep fun k hk => Below.heap_alloc _ _ _ (HR.out.lt k hk)
      have HN : Hid (∀ i u, [Value.int .i64 ((seed : Int) * 31 + (j : Int))][i]? = some u → (wr.alloc (.cells #[.int .i64 ((seed : Int) * 31 + (j : Int))] 2)).cell? ((⟨wr.heap.size, 0, none⟩ : Addr).add i) = some u) := by
        intro i u hu
        rcases i with _ | i
        · simp at hu; subst hu
          rw [Addr.add_lit]
          exact (Bk.new wr #[.int .i64 ((seed : Int) * 31 + (j : Int))] 2).cell 0 _ rfl
        · simp at hu
      go_wp2_with (at_builtin; refine wpList_row_append rfl (.tmp 12) (.tmp 17) 33 rfl 2 i0 _ 1 Try.underlying33 hi0 hz0 hz1 rfl (by decide) (by omega) (.slice a j c) own j (encI (rowN j seed)) rfl HROW.out ⟨wr.heap.size, 0, none⟩ 1 1 [.int .i64 ((seed : Int) * 31 + (j : Int))] rfl rfl HN.out (by simp [Value.oneCell']) (by omega) (by omega) ?_; intro g2 f2 cp2 w3 hrow hgrow hown; have HRW := Lib.hid hrow; have HGW := Lib.hid hgrow; have HOW := Lib.hid hown; clear hrow hgrow hown)
      refine ⟨⟨j + 1, some ⟨g2, f2, none⟩, cp2, some g2, by omega, by go_num, rfl, ?_, ?_, ?_⟩, by simp [intOf]; omega⟩
      · have h1 := HRW.out
        rw [← encI_snoc, show (seed : Int) * 31 + (j : Int) = ((seed * 31 + j : Nat) : Int) by omega, ← rowN_succ] at h1
        exact Lib.hid h1
      · exact Lib.hid ((((Chg.of_below (F := fun _ => False) HB.out rfl).alloc (.cells #[.int .i64 ((seed : Int) * 31 + (j : Int))] 2)).trans (Chg.of_grown (F := fun k => own = some k) HGW.out (fun k e => e.symm)) (fun k e => .inr (HO.out k e))).below (fun _ h => h.elim) (Nat.le_refl _))
      · refine Lib.hid (fun k hk => ?_)
        cases hk
        have hsz := HB.out.size
        rcases HOW.out with e | e
        · exact HO.out _ e
        · rw [e]; simp; omega
    · obtain rfl : j = W := by omega
      have hjz : ¬ (j : Int) < (j : Int) := by omega
      go_wp2
      go_ret
      obtain ⟨g, off, cap, cs, e1, e2, e3, e4, e5, e6, e7⟩ := HR.out.pos (by omega)
      cases e1
      exact ⟨g, off, ⟨c, rfl⟩, Row.args HR.out (by omega), HO.out g e2, HB.out⟩
/-- The cells of a slice of numbers. -/
def Vals (w : World) (a : Option Addr) (xs : List Int) : Prop := ∀ j x, xs[j]? = some x → ∃ b off, a = some ⟨b, off, none⟩ ∧ b < w.heap.size ∧ w.cell? ⟨b, off + j, none⟩ = some (.int .i64 x)
theorem Args.vals {w : World} {g f : Nat} {xs : List Int} (h : Args w g f xs) : Vals w (some ⟨g, f, none⟩) xs := fun j x hx => ⟨g, f, rfl, h.lt, h.cell j x hx⟩
theorem Vals.nil (w : World) (a : Option Addr) : Vals w a [] := fun j x hx => by simp at hx
set_option maxHeartbeats 1000000 in
theorem same_c (a1 a2 : Option Addr) (c1 c2 : Nat) (xs ys : List Int) (w : World) (h1 : Vals w a1 xs) (h2 : Vals w a2 ys) (hl : xs.length ≤ 1000) : Calls Try.prog 29 #[.slice a1 xs.length c1, .slice a2 ys.length c2] w fun e w' =>
    e = .returned (.bool (decide (xs = ys))) ∧ ∃ m, w' = w.drewN m := by
  by_cases hne : xs.length = ys.length
  · have H1 := Lib.hid h1
    have H2 := Lib.hid h2
    have HD : Hid (decide (xs = ys) = decide (xs = ys)) := rfl
    obtain ⟨r, hr⟩ : ∃ r, r = decide (xs = ys) := ⟨_, rfl⟩
    have HRR := Lib.hid hr
    rw [← hr]
    clear h1 h2 hr HD
    rw [← hne]
    have HNE := Lib.hid hne
    clear hne
    generalize hL : xs.length = L at *
    have HL := Lib.hid hL
    clear hL
    go_enter Try.func29, Try.ntmps29
    go_wp2_with fail
    go_loopw [5] (fun s5 wr => ∃ (j m : Nat), j ≤ L ∧ s5 = .int .i64 j ∧ wr = w.drewN m ∧ Hid (xs.take j = ys.take j)) (fun s5 _ => L - (intOf s5).toNat)
    case atStart => exact ⟨0, 0, by omega, rfl, rfl, Lib.hid rfl⟩
    case round =>
      obtain ⟨j, m, hj, rfl, rfl, HT⟩ := hrel
      by_cases hjL : j < L
      · have hjz : (j : Int) < (L : Int) := by omega
        have hj0 : (0 : Int) ≤ (j : Int) := by omega
        have hx : xs[j]? = some (xs[j]'(by rw [HL.out]; exact hjL)) := List.getElem?_eq_getElem _
        have hy : ys[j]? = some (ys[j]'(by rw [← HNE.out]; exact hjL)) := List.getElem?_eq_getElem _
        generalize xs[j]'(by rw [HL.out]; exact hjL) = x at hx
        generalize ys[j]'(by rw [← HNE.out]; exact hjL) = y at hy
        obtain ⟨b1, o1, rfl, hb1, hc1⟩ := H1.out j x hx
        obtain ⟨b2, o2, rfl, hb2, hc2⟩ := H2.out j y hy
        have HX := Lib.hid hx
        have HY := Lib.hid hy
        clear hx hy
        cases hxy : x == y with
        | true =>
          have HXY := Lib.hid hxy
          go_wp2
          go_quiet (fail)
          go_wp2
          refine ⟨⟨j + 1, _, by omega, by go_num, rfl, Lib.hid ?_⟩, by simp [intOf]; omega⟩
          rw [List.take_add_one, List.take_add_one, HT.out, HX.out, HY.out, eq_of_beq HXY.out]
        | false =>
          have HXY := Lib.hid hxy
          go_wp2
          go_quiet (fail)
          go_wp2
          go_ret
          refine ⟨ret_bool ?_, m + nq, by rw [World.drewN_drewN]⟩
          rw [HRR.out]
          symm
          rw [decide_eq_false_iff_not]
          rintro rfl
          have := HX.out.symm.trans HY.out
          have h3 := HXY.out
          rw [Option.some.inj this] at h3
          simp at h3
      · obtain rfl : j = L := by omega
        have hjz : ¬ (j : Int) < (j : Int) := by omega
        go_wp2
        go_ret
        refine ⟨ret_bool ?_, _, rfl⟩
        rw [HRR.out]
        symm
        rw [decide_eq_true_eq]
        have h3 := HT.out
        rw [List.take_of_length_le (by rw [HL.out]; omega), List.take_of_length_le (by rw [← HNE.out]; omega)] at h3
        exact h3
  · have hr : decide (xs = ys) = false := by rw [decide_eq_false_iff_not]; rintro rfl; exact hne rfl
    rw [hr]
    have hz : ((xs.length : Int) == (ys.length : Int)) = false := by rw [beq_eq_false_iff_ne]; omega
    clear h1 h2 hr
    go_enter Try.func29, Try.ntmps29
    go_wp2
    go_ret
    exact ⟨rfl, 0, rfl⟩
end Go.Proofs.Ytfimadeokdlpnaa.kv
