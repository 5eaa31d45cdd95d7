/- fair.Fair: Add that lays something in. -/
import Derived.Test.YtdnkliapcnfcoaaFa
namespace Go.Proofs.Ytdnkliapcnfcoaa.fair
open Go.ChangeShapes Go.WideShapes Go.ChangeAt Go.RowKit K
set_option linter.unusedVariables false
set_option linter.unusedSimpArgs false
theorem encQ_snoc (l : List (Int × Int)) (x y : Int) : encQ (l ++ [(x, y)]) = encQ l ++ [.int .i64 x, .int .i64 y] := by rw [encQ_append]; rfl
theorem FR.chgF {w w' : World} {p : Nat} {S : FS} {L : FL} {F : Nat → Prop} (h : FR w p S L F) {i : Nat} (hi : i < S.n) (hc : Chg (fun b => b = p ∨ b = L.bt ∨ L.own i = some b) w w') : Chg F w w' :=
  hc.mono fun b hb => by
    rcases hb with rfl | rfl | hb
    · exact h.fp
    · exact h.ft
    · exact h.fo i b hi hb
/-- What Add has done when the new slice is stored. -/
theorem add_done {w W w2 : World} {p : Nat} {S : FS} {L : FL} {F : Nat → Prop} (h : FR w p S L F) {i : Nat} (hi : i < S.n) (c id cost : Int) (cs : Array Value) (o : Obj) (g f cp n : Nat) (hl : (S.q i).length = n)
    (hW : Chg (fun b => b = L.bt) w W) (hbk : Bk W L.bt cs 54) (hsz : cs.size = L.cs.size) (hcs : ∀ k, k ≠ i * 3 + 1 → cs[k]? = L.cs[k]?) (hc1 : cs[i * 3 + 1]? = some (.int .i64 c))
    (hgrow : (W.alloc o).grownBy w2 (L.own i)) (hown : L.own i = some g ∨ g = (W.alloc o).heap.size)
    (hrow : Row w2 60 2 (.slice (some ⟨g, f, none⟩) (n + 1) cp) (some g) (n + 1) (encQ (S.q i) ++ [.int .i64 id, .int .i64 cost])) :
    Post (S.put i c (S.q i ++ [(id, cost)]) S.now) w p F (.int .i64 0) (.returned (.int .i64 0)) (w2.setCell ⟨L.bt, i * 3 + 2, none⟩ (.slice (some ⟨g, f, none⟩) (n + 1) cp)) := by
  have hbt := h.rows.lt
  have hp := h.head.lt
  have hWs := hW.size
  have hg : L.bt ≠ g := by
    intro e
    rcases hown with h1 | h1
    · exact (h.ne0 i hi).2 (e ▸ h1)
    · simp at h1; omega
  have hch : Chg (fun b => b = p ∨ b = L.bt ∨ L.own i = some b) w (w2.setCell ⟨L.bt, i * 3 + 2, none⟩ (.slice (some ⟨g, f, none⟩) (n + 1) cp)) :=
    (((hW.mono (G := fun b => b = p ∨ b = L.bt ∨ L.own i = some b) (fun b hb => .inr (.inl hb))).alloc o).trans (Chg.of_grown (F := fun b => L.own i = some b) hgrow (fun b hb => hb.symm)) (fun b hb => .inl (.inr (.inr hb)))).setCell _ _ (.inl (.inr (.inl rfl)))
  have b0 : Bk w2 L.bt cs 54 := (hbk.alloc o).grown hgrow (Ne.symm (h.ne0 i hi).2)
  have b1 : Bk w2 p _ 51 := ((hW.bk h.head (fun e => h.ne e)).alloc o).grown hgrow (Ne.symm (h.ne0 i hi).1)
  have hi3 : i * 3 + 2 < cs.size := by have := h.size; omega
  refine ⟨rfl, ⟨_, FR.put h hi c S.now (.slice (some ⟨g, f, none⟩) (n + 1) cp) (some g) (S.q i ++ [(id, cost)]) _ hch (b1.other _ _ h.ne) (b0.set (i * 3 + 2) _) (fun k k1 k2 => ?_) (by simp [hsz]) ?_ ?_ ?_ ?_⟩, h.chgF hi hch⟩
  · rw [Array.getElem?_setIfInBounds_ne (Ne.symm k2)]; exact hcs k k1
  · rw [Array.getElem?_setIfInBounds_ne (by omega)]; exact hc1
  · rw [Array.getElem?_setIfInBounds_self_of_lt hi3]
  · rw [encQ_snoc, List.length_append, hl]
    exact hrow.keep fun b hb => Below.heap_setCell _ _ _ _ (by cases hb; exact fun e => hg e.symm)
  · intro b hb
    cases hb
    rcases hown with h1 | h1
    · exact .inl h1
    · right; simp at h1; omega
set_option maxHeartbeats 1000000 in
theorem add_more (p : Nat) (S : FS) (L : FL) (F : Nat → Prop) (w : World) (h : FR w p S L F) (hf : Few S) (i : Nat) (hi : i < S.n) (id cost : Int) (h1 : 1 ≤ cost) (h2 : cost ≤ 10000) (hh : S.has id = false) (n : Nat) (hl : (S.q i).length = n) (hn0 : 0 < n) (hn : n < 16) :
    Calls Try.prog 10 #[.pointer (some ⟨p, 0, none⟩), .int .i64 i, .int .i64 id, .int .i64 cost] w (Post (S.put i (S.ck i) (S.q i ++ [(id, cost)]) S.now) w p F (.int .i64 0)) := by
  obtain ⟨i0, hi0, hz0, hz1, hz2⟩ := info_parts infoItem
  have FI := Lib.hid (find_in p S L F w h i hi)
  have PL := Lib.hid (place_no p S L F w h hf id (FS.has_no hh))
  obtain ⟨a, c, hv⟩ := (h.row i hi).form
  have hc := h.r2 i hi
  have hrow := h.row i hi
  rw [hv, hl] at hc hrow
  have HV := Lib.hid hv
  have hbt := h.rows.lt
  have HR := Lib.hid hrow
  have HL := Lib.hid hl
  have H := Lib.hid h
  have t1 : ((n : Int) == 16) = false := by rw [beq_eq_false_iff_ne]; omega
  have t2 : ((n : Int) == 0) = false := by rw [beq_eq_false_iff_ne]; omega
  have hnz : (n : Int) < 16 := by omega
  clear h hh hf hl hrow hv
  go_enter Try.func10, Try.ntmps10
  go_wp2_with fail
  refine FI.out.mono ?_
  rintro e w' ⟨rfl, rfl⟩
  go_wp2_with fail
  refine PL.out.mono ?_
  rintro e w1 ⟨rfl, hb⟩
  have hc1 := (hb.cell (p := ⟨L.bt, i * 3 + 2, none⟩) hbt).trans hc
  have HB := Lib.hid hb
  have HR1 : Hid (Row (w1.alloc (.cells #[.int .i64 id, .int .i64 cost] 60)) 60 2 (.slice a n c) (L.own i) n (encQ (S.q i))) :=
    (HR.out.chg (Chg.of_below hb rfl) (F := fun _ => False) (fun _ _ hf => hf)).chg ((Chg.refl (fun _ => False) w1).alloc _) (fun _ _ hf => hf)
  clear hb hc
  go_wp2_with (at_builtin; refine wpList_row_append rfl (.tmp 58) (.tmp 62) 52 rfl 60 i0 _ 2 Try.underlying52 hi0 hz0 hz1 rfl (by decide) (by omega) (.slice a n c) (L.own i) n (encQ (S.q i)) rfl HR1.out ⟨w1.heap.size, 0, none⟩ 1 1 [.int .i64 id, .int .i64 cost] rfl rfl (World.news_of_block (cs := #[.int .i64 id, .int .i64 cost]) (heap_alloc_new w1 _)) (by simp [Value.oneCell']) (by omega) (by omega) ?_; intro g f cp w2 hrow2 hgrow hown; have HR2 := Lib.hid hrow2; have B2 := (((H.out.rows.below HB.out hbt).alloc (.cells #[.int .i64 id, .int .i64 cost] 60)).grown hgrow (Ne.symm (H.out.ne0 i hi).2)); have hc2 := B2.cell (i * 3 + 2) _ (H.out.c2 i hi); have hf2 := B2.free (i * 3 + 2); have HB2 := Lib.hid B2; have HG := Lib.hid hgrow; have HO := Lib.hid hown; clear hrow2 B2 hgrow hown)
  go_ret
  exact add_done H.out hi (S.ck i) id cost L.cs _ g f cp n HL.out (Chg.of_below HB.out rfl) (H.out.rows.below HB.out hbt) rfl (fun _ _ => rfl) (H.out.c1 i hi) HG.out HO.out HR2.out
set_option maxHeartbeats 1000000 in
theorem add_first (p : Nat) (S : FS) (L : FL) (F : Nat → Prop) (w : World) (h : FR w p S L F) (hf : Few S) (i : Nat) (hi : i < S.n) (id cost : Int) (h1 : 1 ≤ cost) (h2 : cost ≤ 10000) (hh : S.has id = false) (hl : (S.q i).length = 0) (m : Int) (hm : (S.ck i < S.now ∧ m = S.now) ∨ (S.now ≤ S.ck i ∧ m = S.ck i)) :
    Calls Try.prog 10 #[.pointer (some ⟨p, 0, none⟩), .int .i64 i, .int .i64 id, .int .i64 cost] w (Post (S.put i m (S.q i ++ [(id, cost)]) S.now) w p F (.int .i64 0)) := by
  obtain ⟨i0, hi0, hz0, hz1, hz2⟩ := info_parts infoItem
  have FI := Lib.hid (find_in p S L F w h i hi)
  have PL := Lib.hid (place_no p S L F w h hf id (FS.has_no hh))
  obtain ⟨a, c, hv⟩ := (h.row i hi).form
  have hc := h.r2 i hi
  have hrow := h.row i hi
  rw [hv, hl] at hc hrow
  have HV := Lib.hid hv
  have hbt := h.rows.lt
  have HR := Lib.hid hrow
  have HL := Lib.hid hl
  have H := Lib.hid h
  have hc3 := h.r1 i hi
  have hc4 := h.h1
  have hp := h.head.lt
  clear h hh hf hl hrow hv
  have HM : Hid (m = m) := rfl
  rcases hm with ⟨hlt, rfl⟩ | ⟨hge, rfl⟩
  · go_enter Try.func10, Try.ntmps10
    go_wp2_with fail
    refine FI.out.mono ?_
    rintro e w' ⟨rfl, rfl⟩
    go_wp2_with fail
    refine PL.out.mono ?_
    rintro e w1 ⟨rfl, hb⟩
    have hc1 := (hb.cell (p := ⟨L.bt, i * 3 + 2, none⟩) hbt).trans hc
    have hc5 := (hb.cell (p := ⟨L.bt, i * 3 + 1, none⟩) hbt).trans hc3
    have hc6 := (hb.cell (p := ⟨p, 1, none⟩) hp).trans hc4
    have hf5 := (H.out.rows.below hb hbt).free (i * 3 + 1)
    have HB := Lib.hid hb
    clear hb hc hc3 hc4
    go_wp2
    go_region
    have BW : Bk (w1.setCell ⟨L.bt, i * 3 + 1, none⟩ (.int .i64 S.now)).drew L.bt (L.cs.setIfInBounds (i * 3 + 1) (.int .i64 S.now)) 54 := ((H.out.rows.below HB.out hbt).set _ _).drew
    have CW : Chg (fun b => b = L.bt) w (w1.setCell ⟨L.bt, i * 3 + 1, none⟩ (.int .i64 S.now)).drew := (Chg.setCell (F := fun b => b = L.bt) (Chg.of_below HB.out rfl) _ _ (.inl rfl)).drew
    generalize (w1.setCell ⟨L.bt, i * 3 + 1, none⟩ (.int .i64 S.now)).drew = W at BW CW ⊢
    have h2' := H.out.c2 i hi
    have h23 : i * 3 + 2 < L.cs.size := by have := H.out.size; omega
    have hW2 : (L.cs.setIfInBounds (i * 3 + 1) (.int .i64 S.now))[i * 3 + 2]? = some (.slice a 0 c) := by
      rw [Array.getElem?_setIfInBounds_ne (by omega), h2', HV.out, HL.out]
    have hcW := BW.cell (i * 3 + 2) _ hW2
    have HW2 := Lib.hid hW2
    have HBW := Lib.hid BW
    have HCW := Lib.hid CW
    have HR1 : Hid (Row (W.alloc (.cells #[.int .i64 id, .int .i64 cost] 60)) 60 2 (.slice a 0 c) (L.own i) 0 (encQ (S.q i))) :=
      (HR.out.chg CW (fun b hb e => (H.out.ne0 i hi).2 (e ▸ hb))).chg ((Chg.refl (fun _ => False) W).alloc _) (fun _ _ hf => hf)
    clear hc1 hc5 hc6 hf5 BW CW hW2 h2'
    go_wp2_with (at_builtin; refine wpList_row_append rfl (.tmp 58) (.tmp 62) 52 rfl 60 i0 _ 2 Try.underlying52 hi0 hz0 hz1 rfl (by decide) (by omega) (.slice a 0 c) (L.own i) 0 (encQ (S.q i)) rfl HR1.out ⟨W.heap.size, 0, none⟩ 1 1 [.int .i64 id, .int .i64 cost] rfl rfl (World.news_of_block (cs := #[.int .i64 id, .int .i64 cost]) (heap_alloc_new W _)) (by simp [Value.oneCell']) (by omega) (by omega) ?_; intro g f cp w2 hrow2 hgrow hown; have HR2 := Lib.hid hrow2; have B2 := ((HBW.out.alloc (.cells #[.int .i64 id, .int .i64 cost] 60)).grown hgrow (Ne.symm (H.out.ne0 i hi).2)); have hc2 := B2.cell (i * 3 + 2) _ HW2.out; have hf2 := B2.free (i * 3 + 2); have HB2 := Lib.hid B2; have HG := Lib.hid hgrow; have HO := Lib.hid hown; clear hrow2 B2 hgrow hown)
    go_ret
    exact add_done H.out hi _ id cost _ _ g f cp 0 HL.out HCW.out HBW.out (by simp) (fun k hk => by rw [Array.getElem?_setIfInBounds_ne (Ne.symm hk)]) (by rw [Array.getElem?_setIfInBounds_self_of_lt (by omega)]) HG.out HO.out HR2.out
  · go_enter Try.func10, Try.ntmps10
    go_wp2_with fail
    refine FI.out.mono ?_
    rintro e w' ⟨rfl, rfl⟩
    go_wp2_with fail
    refine PL.out.mono ?_
    rintro e w1 ⟨rfl, hb⟩
    have hc1 := (hb.cell (p := ⟨L.bt, i * 3 + 2, none⟩) hbt).trans hc
    have hc5 := (hb.cell (p := ⟨L.bt, i * 3 + 1, none⟩) hbt).trans hc3
    have hc6 := (hb.cell (p := ⟨p, 1, none⟩) hp).trans hc4
    have hf5 := (H.out.rows.below hb hbt).free (i * 3 + 1)
    have HB := Lib.hid hb
    clear hb hc hc3 hc4
    go_wp2
    go_region
    have BW : Bk (w1.setCell ⟨L.bt, i * 3 + 1, none⟩ (.int .i64 (S.ck i))).drew L.bt (L.cs.setIfInBounds (i * 3 + 1) (.int .i64 (S.ck i))) 54 := ((H.out.rows.below HB.out hbt).set _ _).drew
    have CW : Chg (fun b => b = L.bt) w (w1.setCell ⟨L.bt, i * 3 + 1, none⟩ (.int .i64 (S.ck i))).drew := (Chg.setCell (F := fun b => b = L.bt) (Chg.of_below HB.out rfl) _ _ (.inl rfl)).drew
    generalize (w1.setCell ⟨L.bt, i * 3 + 1, none⟩ (.int .i64 (S.ck i))).drew = W at BW CW ⊢
    have h2' := H.out.c2 i hi
    have h23 : i * 3 + 2 < L.cs.size := by have := H.out.size; omega
    have hW2 : (L.cs.setIfInBounds (i * 3 + 1) (.int .i64 (S.ck i)))[i * 3 + 2]? = some (.slice a 0 c) := by
      rw [Array.getElem?_setIfInBounds_ne (by omega), h2', HV.out, HL.out]
    have hcW := BW.cell (i * 3 + 2) _ hW2
    have HW2 := Lib.hid hW2
    have HBW := Lib.hid BW
    have HCW := Lib.hid CW
    have HR1 : Hid (Row (W.alloc (.cells #[.int .i64 id, .int .i64 cost] 60)) 60 2 (.slice a 0 c) (L.own i) 0 (encQ (S.q i))) :=
      (HR.out.chg CW (fun b hb e => (H.out.ne0 i hi).2 (e ▸ hb))).chg ((Chg.refl (fun _ => False) W).alloc _) (fun _ _ hf => hf)
    clear hc1 hc5 hc6 hf5 BW CW hW2 h2'
    go_wp2_with (at_builtin; refine wpList_row_append rfl (.tmp 58) (.tmp 62) 52 rfl 60 i0 _ 2 Try.underlying52 hi0 hz0 hz1 rfl (by decide) (by omega) (.slice a 0 c) (L.own i) 0 (encQ (S.q i)) rfl HR1.out ⟨W.heap.size, 0, none⟩ 1 1 [.int .i64 id, .int .i64 cost] rfl rfl (World.news_of_block (cs := #[.int .i64 id, .int .i64 cost]) (heap_alloc_new W _)) (by simp [Value.oneCell']) (by omega) (by omega) ?_; intro g f cp w2 hrow2 hgrow hown; have HR2 := Lib.hid hrow2; have B2 := ((HBW.out.alloc (.cells #[.int .i64 id, .int .i64 cost] 60)).grown hgrow (Ne.symm (H.out.ne0 i hi).2)); have hc2 := B2.cell (i * 3 + 2) _ HW2.out; have hf2 := B2.free (i * 3 + 2); have HB2 := Lib.hid B2; have HG := Lib.hid hgrow; have HO := Lib.hid hown; clear hrow2 B2 hgrow hown)
    go_ret
    exact add_done H.out hi _ id cost _ _ g f cp 0 HL.out HCW.out HBW.out (by simp) (fun k hk => by rw [Array.getElem?_setIfInBounds_ne (Ne.symm hk)]) (by rw [Array.getElem?_setIfInBounds_self_of_lt (by omega)]) HG.out HO.out HR2.out
end Go.Proofs.Ytdnkliapcnfcoaa.fair
