/- The reference's pool: Put, Share, Drop. -/
import Derived.Test.YtfimadeokdlpnaaWa
namespace Go.Proofs.Ytfimadeokdlpnaa.kv
open Go.ChangeShapes Go.WideShapes Go.ChangeAt Go.RowKit K
set_option linter.unusedVariables false
set_option linter.unusedSimpArgs false
/-- Behind a call that changes the reference's pool. -/
structure RPost (r rb : Nat) (S : List Pg) (c : Nat → Nat) (S' : List Pg) (w : World) (v : Value) (e : Ending) (w' : World) : Prop where
  ret : e = .returned v
  pool : ∃ c', RP w' r rb S' c' ∧ ∀ k, RF r rb S' c' k → RF r rb S c k ∨ w.heap.size ≤ k
  chg : Chg (RF r rb S c) w w'
theorem if_id (c : Nat → Nat) (i : Nat) : (fun j => if j = i then c i else c j) = c := by
  funext j
  split
  next e => rw [e]
  next => rfl
namespace RP
variable {w w' : World} {r rb : Nat} {S : List Pg} {c : Nat → Nat}
theorem put (h : RP w r rb S c) {i : Nat} {x : Pg} (hx : S[i]? = some x) (ho : x.own ≠ 0) (k : Nat) (v : Int) : RP (w.setCell ⟨c i, k, none⟩ (.int .i64 v)) r rb (S.set i { x with cells := x.cells.set k v }) c := by
  obtain ⟨cs, k1, k2, k3⟩ := h.rows
  obtain ⟨a1, a2, a3⟩ := h.cell i x hx ho
  obtain ⟨e0, e1, e2⟩ := k3 i x hx
  have := h.upd (w' := w.setCell ⟨c i, k, none⟩ (.int .i64 v)) (y := { x with cells := x.cells.set k v }) hx (c i) k1 (h.head.other _ _ (Ne.symm a2)) (k1.other _ _ (Ne.symm a3)) rfl e0 e1 e2 (fun _ _ => rfl)
    (fun _ => ⟨by
      have := a1.set k (.int .i64 v)
      simp only [List.setIfInBounds_toArray] at this
      rw [show (encI x.cells).set k (Value.int .i64 v) = encI (x.cells.set k v) by simp [encI, List.map_set]] at this
      exact this, a2, a3, fun j z hj hz hoz => h.inj j i z x hj hz hx hoz ho⟩)
    (fun j z hj hz hoz => Below.heap_setCell _ _ _ _ (h.inj j i z x hj hz hx hoz ho)) (fun e => absurd e ho) (by show (x.cells.set k v).length = 32; rw [List.length_set]; exact h.len i x hx)
  rwa [if_id] at this
theorem setOwn (h : RP w r rb S c) {i : Nat} {x : Pg} (hx : S[i]? = some x) (ho : x.own ≠ 0) (m : Nat) (hm : m ≠ 0) : RP (w.setCell ⟨rb, i * 3 + 1, none⟩ (.int .i64 m)) r rb (S.set i { x with own := m }) c := by
  obtain ⟨cs, k1, k2, k3⟩ := h.rows
  obtain ⟨a1, a2, a3⟩ := h.cell i x hx ho
  obtain ⟨e0, e1, e2⟩ := k3 i x hx
  have hi := (List.getElem?_eq_some_iff.1 hx).1
  have := h.upd (w' := w.setCell ⟨rb, i * 3 + 1, none⟩ (.int .i64 m)) (y := { x with own := m }) hx (c i) (cs' := cs.setIfInBounds (i * 3 + 1) (.int .i64 m)) k1 (h.head.other _ _ h.ne) (k1.set _ _) (by simp)
    (by rw [Array.getElem?_setIfInBounds_ne (by omega)]; exact e0) (by rw [Array.getElem?_setIfInBounds_self_of_lt (by omega)]) (by rw [Array.getElem?_setIfInBounds_ne (by omega), e2]; unfold cv; rw [if_neg ho, if_neg hm])
    (fun k hk => by rw [Array.getElem?_setIfInBounds_ne (by omega)])
    (fun _ => ⟨a1.other _ _ a3, a2, a3, fun j z hj hz hoz => h.inj j i z x hj hz hx hoz ho⟩)
    (fun j z hj hz hoz => Below.heap_setCell _ _ _ _ (h.cell j z hz hoz).2.2) (fun e => absurd e hm) (h.len i x hx)
  rwa [if_id] at this
theorem clear0 (h : RP w r rb S c) {i : Nat} {x : Pg} (hx : S[i]? = some x) (ho : x.own ≠ 0) : RP ((((w.setCell ⟨rb, i * 3 + 1, none⟩ (.int .i64 0)).setCell ⟨rb, i * 3, none⟩ (.string ⟨#[]⟩)).setCell ⟨rb, i * 3 + 1, none⟩ (.int .i64 0)).setCell ⟨rb, i * 3 + 2, none⟩ (.slice none 0 0)) r rb (S.set i Pg.no) c := by
  obtain ⟨cs, k1, k2, k3⟩ := h.rows
  have hi := (List.getElem?_eq_some_iff.1 hx).1
  have h1 := (((k1.set (i * 3 + 1) (.int .i64 0)).set (i * 3) (.string ⟨#[]⟩)).set (i * 3 + 1) (.int .i64 0)).set (i * 3 + 2) (.slice none 0 0)
  have := h.upd (w' := (((w.setCell ⟨rb, i * 3 + 1, none⟩ (.int .i64 0)).setCell ⟨rb, i * 3, none⟩ (.string ⟨#[]⟩)).setCell ⟨rb, i * 3 + 1, none⟩ (.int .i64 0)).setCell ⟨rb, i * 3 + 2, none⟩ (.slice none 0 0)) (y := Pg.no) hx (c i) k1
    ((((h.head.other _ _ h.ne).other _ _ h.ne).other _ _ h.ne).other _ _ h.ne) h1 (by simp)
    (by rw [Array.getElem?_setIfInBounds_ne (by omega), Array.getElem?_setIfInBounds_ne (by omega), Array.getElem?_setIfInBounds_self_of_lt (by simp; omega)]; rfl)
    (by rw [Array.getElem?_setIfInBounds_ne (by omega), Array.getElem?_setIfInBounds_self_of_lt (by simp; omega)]; rfl)
    (by rw [Array.getElem?_setIfInBounds_self_of_lt (by simp; omega)]; rfl)
    (fun k hk => by rw [Array.getElem?_setIfInBounds_ne (by omega), Array.getElem?_setIfInBounds_ne (by omega), Array.getElem?_setIfInBounds_ne (by omega), Array.getElem?_setIfInBounds_ne (by omega)])
    (fun e => absurd rfl e)
    (fun j z hj hz hoz => by
      have := (h.cell j z hz hoz).2.2
      rw [Below.heap_setCell _ _ _ _ this, Below.heap_setCell _ _ _ _ this, Below.heap_setCell _ _ _ _ this, Below.heap_setCell _ _ _ _ this]) (fun _ => rfl) rfl
  rwa [if_id] at this
theorem foot_set (h : RP w r rb S c) {i : Nat} {x y : Pg} (hx : S[i]? = some x) (ho : x.own ≠ 0) : ∀ k, RF r rb (S.set i y) c k → RF r rb S c k := by
  rintro k (e | e | ⟨j, z, hz, hoz, e⟩)
  · exact .inl e
  · exact .inr (.inl e)
  · rw [set_get hx] at hz
    split at hz
    next e2 => exact .inr (.inr ⟨i, x, hx, ho, by rw [e, e2]⟩)
    next e2 => exact .inr (.inr ⟨j, z, hz, hoz, e⟩)
end RP
variable (r rb : Nat) (S : List Pg) (c : Nat → Nat) (w : World)
theorem rput_c (h : RP w r rb S c) (n : Int) (k : Nat) (hk : k < 32) (v : Int) : Calls Try.prog 42 #[.pointer (some ⟨r, 0, none⟩), .int .i64 n, .int .i64 k, .int .i64 v] w (RPost r rb S c (put1 S n k v) w (.int .i64 (errOf S n))) := by
  unfold put1 errOf
  cases hl : look S n with
  | none =>
    have U := Lib.hid (used_no r rb S c w h n hl)
    have H := Lib.hid h
    clear h
    go_enter Try.func42, Try.ntmps42
    go_wp2_with fail
    refine U.out.mono ?_
    rintro e w' ⟨rfl, rfl⟩
    go_wp2
    go_ret
    exact ⟨rfl, ⟨c, H.out, fun k hk => .inl hk⟩, Chg.refl _ _⟩
  | some x =>
    obtain ⟨i, rfl, hx, ho⟩ := look_some hl
    have U := Lib.hid (used_in r rb S c w h i x hx ho)
    have h0 := h.h0
    have hr := h.r2 hx ho
    have hrc := h.rc hx ho hk
    have hfr := (h.cell i x hx ho).1.free k
    have hi := (List.getElem?_eq_some_iff.1 hx).1
    have h1 : (0 : Int) ≤ (i : Int) := by omega
    have h2 : (i : Int) < (S.length : Int) := by omega
    have h3 : (0 : Int) ≤ (k : Int) := by omega
    have h4 : (k : Int) < 32 := by omega
    have h5 : ¬ (k : Int) < 0 := by omega
    have h6 : ¬ (32 : Int) ≤ (k : Int) := by omega
    have hP := h.put hx ho k v
    have hC : Chg (RF r rb S c) w (w.setCell ⟨c i, k, none⟩ (.int .i64 v)) := (Chg.refl _ w).setCell _ _ (.inl (.inr (.inr ⟨i, x, hx, ho, rfl⟩)))
    have hF := h.foot_set (y := { x with cells := x.cells.set k v }) hx ho
    have KK := Lib.hid (show RPost r rb S c (S.set i { x with cells := x.cells.set k v }) w (.int .i64 0) (.returned (.int .i64 0)) (w.setCell ⟨c i, k, none⟩ (.int .i64 v)) from ⟨rfl, ⟨c, hP, fun k hk => .inl (hF k hk)⟩, hC⟩)
    simp only [Int.toNat_natCast]
    clear h hx hl hP hC hF
    generalize S.set i { x with cells := x.cells.set k v } = S2 at *
    generalize hgc : c i = ci at *
    obtain ⟨R, hR⟩ : ∃ R, R = RPost r rb S c := ⟨_, rfl⟩
    rw [← hR] at KK ⊢
    clear hR hgc
    generalize S.length = m at *
    generalize x.cells[k]?.getD 0 = v0 at *
    go_enter Try.func42, Try.ntmps42
    go_wp2_with fail
    refine U.out.mono ?_
    rintro e w' ⟨rfl, rfl⟩
    go_wp2
    exact KK.out
theorem rshare_c (h : RP w r rb S c) (hS : Small S) (n : Int) : Calls Try.prog 46 #[.pointer (some ⟨r, 0, none⟩), .int .i64 n] w (RPost r rb S c (share1 S n) w (.int .i64 (errOf S n))) := by
  unfold share1 errOf
  cases hl : look S n with
  | none =>
    have U := Lib.hid (used_no r rb S c w h n hl)
    have H := Lib.hid h
    clear h
    go_enter Try.func46, Try.ntmps46
    go_wp2_with fail
    refine U.out.mono ?_
    rintro e w' ⟨rfl, rfl⟩
    go_wp2
    go_ret
    exact ⟨rfl, ⟨c, H.out, fun k hk => .inl hk⟩, Chg.refl _ _⟩
  | some x =>
    obtain ⟨i, rfl, hx, ho⟩ := look_some hl
    have U := Lib.hid (used_in r rb S c w h i x hx ho)
    have h0 := h.h0
    have hr := h.r1 hx
    have hfr := h.free (i * 3 + 1)
    have hi := (List.getElem?_eq_some_iff.1 hx).1
    have h1 : (0 : Int) ≤ (i : Int) := by omega
    have h2 : (i : Int) < (S.length : Int) := by omega
    have hsm := hS x (List.mem_of_getElem? hx)
    have hP := h.setOwn hx ho (x.own + 1) (by omega)
    have hC : Chg (RF r rb S c) w (w.setCell ⟨rb, i * 3 + 1, none⟩ (.int .i64 ((x.own + 1 : Nat) : Int))) := (Chg.refl _ w).setCell _ _ (.inl (.inr (.inl rfl)))
    have hF := h.foot_set (y := { x with own := x.own + 1 }) hx ho
    have KK := Lib.hid (show RPost r rb S c (S.set i { x with own := x.own + 1 }) w (.int .i64 0) (.returned (.int .i64 0)) (w.setCell ⟨rb, i * 3 + 1, none⟩ (.int .i64 ((x.own + 1 : Nat) : Int))) from ⟨rfl, ⟨c, hP, fun k hk => .inl (hF k hk)⟩, hC⟩)
    simp only [Int.toNat_natCast]
    clear h hx hl hP hC hF hS
    generalize S.set i { x with own := x.own + 1 } = S2 at *
    obtain ⟨R, hR⟩ : ∃ R, R = RPost r rb S c := ⟨_, rfl⟩
    rw [← hR] at KK ⊢
    clear hR
    generalize S.length = m at *
    generalize x.own = o at *
    go_enter Try.func46, Try.ntmps46
    go_wp2_with fail
    refine U.out.mono ?_
    rintro e w' ⟨rfl, rfl⟩
    go_wp2
    exact KK.out
theorem rdrop_c (h : RP w r rb S c) (hS : Small S) (n : Int) : Calls Try.prog 43 #[.pointer (some ⟨r, 0, none⟩), .int .i64 n] w (RPost r rb S c (drop1 S n) w (.int .i64 (errOf S n))) := by
  unfold drop1 errOf
  cases hl : look S n with
  | none =>
    have U := Lib.hid (used_no r rb S c w h n hl)
    have H := Lib.hid h
    clear h
    go_enter Try.func43, Try.ntmps43
    go_wp2_with fail
    refine U.out.mono ?_
    rintro e w' ⟨rfl, rfl⟩
    go_wp2
    go_ret
    exact ⟨rfl, ⟨c, H.out, fun k hk => .inl hk⟩, Chg.refl _ _⟩
  | some x =>
    obtain ⟨i, rfl, hx, ho⟩ := look_some hl
    have U := Lib.hid (used_in r rb S c w h i x hx ho)
    have h0 := h.h0
    have hr := h.r1 hx
    have hr0 := h.r0 hx
    have hr2 := h.r2 hx ho
    have hfr := h.free (i * 3 + 1)
    have hfr0 := h.free (i * 3)
    have hfr2 := h.free (i * 3 + 2)
    have hi := (List.getElem?_eq_some_iff.1 hx).1
    have h1 : (0 : Int) ≤ (i : Int) := by omega
    have h2 : (i : Int) < (S.length : Int) := by omega
    have hne := h.ne
    have hsm := hS x (List.mem_of_getElem? hx)
    simp only [Int.toNat_natCast]
    by_cases h11 : x.own = 1
    · rw [if_pos h11]
      have hP := h.clear0 hx ho
      have hC : Chg (RF r rb S c) w ((((w.setCell ⟨rb, i * 3 + 1, none⟩ (.int .i64 0)).setCell ⟨rb, i * 3, none⟩ (.string ⟨#[]⟩)).setCell ⟨rb, i * 3 + 1, none⟩ (.int .i64 0)).setCell ⟨rb, i * 3 + 2, none⟩ (.slice none 0 0)) := ((((Chg.refl _ w).setCell _ _ (.inl (.inr (.inl rfl)))).setCell _ _ (.inl (.inr (.inl rfl)))).setCell _ _ (.inl (.inr (.inl rfl)))).setCell _ _ (.inl (.inr (.inl rfl)))
      have hF := h.foot_set (y := Pg.no) hx ho
      have KK := Lib.hid (show RPost r rb S c (S.set i Pg.no) w (.int .i64 0) (.returned (.int .i64 0)) _ from ⟨rfl, ⟨c, hP, fun k hk => .inl (hF k hk)⟩, hC⟩)
      rw [h11] at hr
      clear h hx hl hP hC hF hS
      generalize S.set i Pg.no = S2 at *
      obtain ⟨R, hR⟩ : ∃ R, R = RPost r rb S c := ⟨_, rfl⟩
      rw [← hR] at KK ⊢
      clear hR
      generalize S.length = m at *
      go_enter Try.func43, Try.ntmps43
      go_wp2_with fail
      refine U.out.mono ?_
      rintro e w' ⟨rfl, rfl⟩
      go_wp2
      exact KK.out
    · rw [if_neg h11]
      obtain ⟨o, hoo⟩ : ∃ o, x.own = o + 1 := ⟨x.own - 1, by omega⟩
      have ho2 : o ≠ 0 := by omega
      have ho3 : ((o : Int) == 0) = false := by rw [beq_eq_false_iff_ne]; omega
      have hP := h.setOwn hx ho (x.own - 1) (by omega)
      have hC : Chg (RF r rb S c) w (w.setCell ⟨rb, i * 3 + 1, none⟩ (.int .i64 ((x.own - 1 : Nat) : Int))) := (Chg.refl _ w).setCell _ _ (.inl (.inr (.inl rfl)))
      have hF := h.foot_set (y := { x with own := x.own - 1 }) hx ho
      have KK := Lib.hid (show RPost r rb S c (S.set i { x with own := x.own - 1 }) w (.int .i64 0) (.returned (.int .i64 0)) (w.setCell ⟨rb, i * 3 + 1, none⟩ (.int .i64 ((x.own - 1 : Nat) : Int))) from ⟨rfl, ⟨c, hP, fun k hk => .inl (hF k hk)⟩, hC⟩)
      rw [show ((x.own - 1 : Nat) : Int) = (o : Int) by omega] at KK
      rw [hoo] at hr hsm
      clear h hx hl hP hC hF hS
      generalize S.set i { x with own := x.own - 1 } = S2 at *
      obtain ⟨R, hR⟩ : ∃ R, R = RPost r rb S c := ⟨_, rfl⟩
      rw [← hR] at KK ⊢
      clear hR hoo h11 ho
      generalize S.length = m at *
      have hw1 : IntKind.i64.wrap (((o + 1 : Nat) : Int) - 1) = (o : Int) := by unfold IntKind.wrap; simp [IntKind.signed, IntKind.bits]; omega
      go_enter Try.func43, Try.ntmps43
      go_wp2_with fail
      refine U.out.mono ?_
      rintro e w' ⟨rfl, rfl⟩
      go_wp2
      exact KK.out
end Go.Proofs.Ytfimadeokdlpnaa.kv
