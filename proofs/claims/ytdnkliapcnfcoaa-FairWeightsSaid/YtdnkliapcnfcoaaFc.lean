/- fair.Fair: Cancel. -/
import Derived.Test.YtdnkliapcnfcoaaFn
namespace Go.Proofs.Ytdnkliapcnfcoaa.fair
open Go.ChangeShapes Go.WideShapes Go.ChangeAt Go.RowKit K
set_option linter.unusedVariables false
set_option linter.unusedSimpArgs false
theorem cancel_no (p : Nat) (S : FS) (L : FL) (F : Nat → Prop) (w : World) (h : FR w p S L F) (hf : Few S) (id : Int) (hh : S.has id = false) :
    Calls Try.prog 12 #[.pointer (some ⟨p, 0, none⟩), .int .i64 id] w (Post S w p F (.bool false)) := by
  have PL := Lib.hid (place_no p S L F w h hf id (FS.has_no hh))
  have H := Lib.hid h
  clear h hh hf
  go_enter Try.func12, Try.ntmps12
  go_wp2_with fail
  refine PL.out.mono ?_
  rintro e w1 ⟨rfl, hb⟩
  have HB := Lib.hid hb
  clear hb
  go_wp2
  go_ret
  exact Post.same H.out HB.out
set_option maxHeartbeats 1000000 in
theorem cancel_yes (p : Nat) (S : FS) (L : FL) (F : Nat → Prop) (w : World) (h : FR w p S L F) (hf : Few S) (id : Int) (i : Nat) (hi : i < S.n) (hyes : hasQ (S.q i) id = true) (hno : ∀ k, k < i → hasQ (S.q k) id = false) :
    Calls Try.prog 12 #[.pointer (some ⟨p, 0, none⟩), .int .i64 id] w (Post (S.put i (S.ck i) ((S.q i).eraseIdx (posQ (S.q i) id)) S.now) w p F (.bool true)) := by
  have PL := Lib.hid (place_yes p S L F w h hf id i hi hyes hno)
  have hpos := hasQ_lt hyes
  have h16 := hf i hi
  obtain ⟨g, off, cap, cs, hv, hown, -⟩ := (h.row i hi).pos (by omega)
  have hbt := h.rows.lt
  have hr2 := h.r2 i hi
  rw [hv] at hr2
  have HV := Lib.hid hv
  have HO := Lib.hid hown
  have H := Lib.hid h
  clear h hyes hno hf hv hown
  go_enter Try.func12, Try.ntmps12
  go_wp2_with fail
  refine PL.out.mono ?_
  rintro e w1 ⟨rfl, hb⟩
  have hc := (hb.cell (p := ⟨L.bt, i * 3 + 2, none⟩) hbt).trans hr2
  have HB := Lib.hid hb
  have hrow := (H.out.below hb).row i hi
  rw [HV.out, HO.out] at hrow
  obtain ⟨j, hj⟩ : ∃ j, j = posQ (S.q i) id := ⟨_, rfl⟩
  have HD := Lib.hid (delete_c w1 _ g (S.q i) hrow (by omega) j (by omega))
  rw [← hj]
  have HJ := Lib.hid hj
  have hjz : (j : Int) < 16 := by omega
  clear hrow hb hr2 hj
  go_wp2_with fail
  refine HD.out.mono ?_
  rintro e w2 ⟨v', rfl, hrow2, hch⟩
  obtain ⟨a', c', hv'⟩ := hrow2.form
  subst hv'
  have hgt : L.bt ≠ g := fun e => (H.out.ne0 i hi).2 (by rw [HO.out]; exact congrArg some e.symm)
  have hgp : p ≠ g := fun e => (H.out.ne0 i hi).1 (by rw [HO.out]; exact congrArg some e.symm)
  have B2 : Bk w2 L.bt L.cs 54 := hch.bk (H.out.rows.below HB.out hbt) hgt
  have P2 : Bk w2 p _ 51 := hch.bk (H.out.head.below HB.out H.out.head.lt) hgp
  have hc2 := B2.cell (i * 3 + 2) _ (H.out.c2 i hi)
  have hf2 := B2.free (i * 3 + 2)
  have HB2 := Lib.hid B2
  have HP2 := Lib.hid P2
  have HR2 := Lib.hid hrow2
  have HC2 := Lib.hid hch
  clear B2 P2 hrow2 hch hc
  go_wp2
  go_ret
  have hsz := H.out.size
  have CH : Chg (fun b => b = p ∨ b = L.bt ∨ L.own i = some b) w (w2.setCell ⟨L.bt, i * 3 + 2, none⟩ (.slice a' ((S.q i).eraseIdx j).length c')) :=
    ((Chg.of_below HB.out rfl).trans HC2.out (fun b hb => .inl (.inr (.inr (by rw [HO.out, hb]))))).setCell _ _ (.inl (.inr (.inl rfl)))
  rw [← HJ.out]
  refine ⟨rfl, ⟨_, FR.put H.out hi (S.ck i) S.now (.slice a' ((S.q i).eraseIdx j).length c') (some g) ((S.q i).eraseIdx j) _ CH (HP2.out.other _ _ H.out.ne) (HB2.out.set (i * 3 + 2) _) (fun k k1 k2 => ?_) (by simp) ?_ ?_ ?_ ?_⟩, H.out.chgF hi CH⟩
  · rw [Array.getElem?_setIfInBounds_ne (by omega)]
  · rw [Array.getElem?_setIfInBounds_ne (by omega)]; exact H.out.c1 i hi
  · rw [Array.getElem?_setIfInBounds_self_of_lt (by omega)]
  · exact HR2.out.keep fun b hb => Below.heap_setCell _ _ _ _ (by cases hb; exact fun e => hgt e.symm)
  · intro b hb; exact .inl (HO.out.trans hb)
end Go.Proofs.Ytdnkliapcnfcoaa.fair
