/- aviaryref21.Fair: out. -/
import Derived.Test.YtdnkliapcnfcoaaRm
import Derived.Deep.RegionHeld3
namespace Go.Proofs.Ytdnkliapcnfcoaa.fair
open Go.ChangeShapes Go.WideShapes Go.ChangeAt Go.RowKit K
set_option linter.unusedVariables false
set_option linter.unusedSimpArgs false
theorem infoItm : (Try.prog.info? 43).map (fun i => (i.zero, i.size, i.bytes)) = some (some (.agg #[.int .i64 0, .int .i64 0, .int .i64 0]), 3, 24) := by kernel_rfl
/-- Behind a call on the reference. -/
def RPost (S : RS) (w : World) (p : Nat) (F : Nat → Prop) (r : Value) (e : Ending) (w' : World) : Prop :=
  e = .returned r ∧ (∃ L, RR w' p S L (fun b => F b ∨ w.heap.size ≤ b)) ∧ Chg F w w'
theorem out_done {w w0 w1 w2 : World} {p : Nat} {S : RS} {L : RL} {F : Nat → Prop} (h : RR w p S L F) (i : Nat) (hi : i < S.l.length) (hz : w0.heap.size = w.heap.size + 1) (g0 : w.grownBy w0 none) (own1 own2 : Option Nat)
    (g1 : w0.grownBy w1 (some w.heap.size)) (o1 : own1 = some w.heap.size ∨ own1 = some w0.heap.size) (g2 : w1.grownBy w2 own1) (o2 : own2 = own1 ∨ own2 = some w1.heap.size) (p2 : Option Addr) (cp2 : Nat)
    (hp2 : Bk w2 p #[.slice (some ⟨L.bw, 0, none⟩) S.n L.capw, .slice (some ⟨L.bc, 0, none⟩) S.n L.capc, L.v, .int .i64 S.now] 63)
    (hr : Row w2 43 3 (.slice p2 (i + (S.l.length - (i + 1))) cp2) own2 (i + (S.l.length - (i + 1))) (encL (S.l.take i) ++ encL (S.l.drop (i + 1)))) :
    RPost { S with l := S.l.eraseIdx i } w p F (.tuple #[]) (.returned (.tuple #[])) (w2.setCell ⟨p, 2, none⟩ (.slice p2 (i + (S.l.length - (i + 1))) cp2)) := by
  have hp := h.head.lt
  have hw := h.wts.lt
  have hc := h.cks.lt
  have z1 := g1.size
  have z2 := g2.size
  have hb : ∀ k, k < w.heap.size → w2.heap[k]? = w.heap[k]? := fun k hk => by
    rw [g2.block k (by omega) (fun e => by rcases o1 with h1 | h1 <;> · rw [h1] at e; have := Option.some.inj e; omega), g1.block k (by omega) (fun e => by have := Option.some.inj e; omega), g0.block k hk (by simp)]
  have hbel : Below w.heap.size w w2 := ⟨g2.os.trans (g1.os.trans g0.os), g2.tape.trans (g1.tape.trans g0.tape), g2.output.trans (g1.output.trans g0.output), by omega, hb⟩
  have hch : Chg (fun b => b = p) w (w2.setCell ⟨p, 2, none⟩ (.slice p2 (i + (S.l.length - (i + 1))) cp2)) := (Chg.of_below (F := fun b => b = p) hbel rfl).setCell _ _ (.inl rfl)
  have ho2 : ∀ b, own2 = some b → w.heap.size ≤ b := by
    intro b hb
    rcases o2 with h2 | h2
    · rcases o1 with h1 | h1 <;> · rw [h2, h1] at hb; cases hb; omega
    · rw [h2] at hb; cases hb; omega
  have e1 : (S.l.eraseIdx i).length = i + (S.l.length - (i + 1)) := by rw [List.length_eraseIdx_of_lt hi]; omega
  have e2 : encL (S.l.eraseIdx i) = encL (S.l.take i) ++ encL (S.l.drop (i + 1)) := by rw [List.eraseIdx_eq_take_drop_succ, encL_append]
  refine ⟨rfl, ⟨{ L with v := .slice p2 (i + (S.l.length - (i + 1))) cp2, own := own2 }, ⟨hp2.set 2 _, h.few, h.pos, ?_, hch.bk h.wts (fun e => h.ne1 e.symm), hch.bk h.cks (fun e => h.ne2 e.symm), h.c0, h.c1, ?_, h.ne1, h.ne2, h.ne3, ⟨fun e => ?_, fun e => ?_, fun e => ?_⟩, .inl h.fp, .inl h.fw, .inl h.fc, fun b hb => .inr (ho2 b hb)⟩⟩, hch.mono fun b e => by subst e; exact h.fp⟩
  · show (S.l.eraseIdx i).length ≤ 1000
    have := h.short
    omega
  · show Row _ _ 3 (.slice p2 (i + (S.l.length - (i + 1))) cp2) own2 (S.l.eraseIdx i).length (encL (S.l.eraseIdx i))
    rw [e1, e2]
    exact hr.keep fun b hb => Below.heap_setCell _ _ _ _ (by have := ho2 b hb; show b ≠ p; omega)
  · have := ho2 _ e; omega
  · have : w.heap.size ≤ L.bw := ho2 _ e; omega
  · have : w.heap.size ≤ L.bc := ho2 _ e; omega
set_option maxHeartbeats 2000000 in
theorem out_c (p : Nat) (S : RS) (L : RL) (F : Nat → Prop) (w : World) (h : RR w p S L F) (i : Nat) (hi : i < S.l.length) :
    Calls Try.prog 26 #[.pointer (some ⟨p, 0, none⟩), .int .i64 i] w (RPost { S with l := S.l.eraseIdx i } w p F (.tuple #[])) := by
  obtain ⟨i0, hi0, hz0, hz1, hz2⟩ := info_parts infoItm
  obtain ⟨b, off, cap, cs, hv, hown, hn, hcap, hbk, hfit, hcs⟩ := h.row.pos (by omega)
  have hm : cap ≤ 9223372036854775807 := hcap
  have hshort := h.short
  obtain ⟨A, hA, hAf⟩ : ∃ A, (if cap = i + 1 then some (⟨b, off, none⟩ : Addr) else some ⟨b, off + (i + 1) * 3, none⟩) = some A ∧ Hid (Src w (some A) (encL (S.l.drop (i + 1)))) := by
    by_cases hc : cap = i + 1
    · refine ⟨⟨b, off, none⟩, by simp [hc], fun j u hu => ?_⟩
      have : (encL (S.l.drop (i + 1))).length = 0 := by rw [encL_length, List.length_drop]; omega
      rw [List.eq_nil_of_length_eq_zero this] at hu
      simp at hu
    · refine ⟨⟨b, off + (i + 1) * 3, none⟩, by simp [hc], fun j u hu => ⟨_, rfl, ?_⟩⟩
      have hj : j < (S.l.length - (i + 1)) * 3 := by
        have := (List.getElem?_eq_some_iff.1 hu).1
        rwa [encL_length, List.length_drop] at this
      rw [Addr.add_lit]
      refine hbk.cell _ _ ?_
      rw [Nat.add_assoc, hcs _ (by omega)]
      rw [encL_drop, List.getElem?_drop] at hu
      exact hu
  have hB : Hid (Src w (some ⟨b, off, none⟩) (encL (S.l.take i))) := by
    intro j u hu
    refine ⟨_, rfl, ?_⟩
    have hj : j < i * 3 := by
      have := (List.getElem?_eq_some_iff.1 hu).1
      rw [encL_length, List.length_take] at this; omega
    rw [Addr.add_lit]
    refine hbk.cell _ _ ?_
    rw [hcs _ (by omega)]
    rw [encL_take, List.getElem?_take, if_pos hj] at hu
    exact hu
  have h2 := h.h2
  rw [hv] at h2
  have hp := h.head.lt
  have hf2 := h.head.free 2
  have HV := Lib.hid hv
  have HO := Lib.hid hown
  have H := Lib.hid h
  have hic : i ≤ cap := by omega
  have hwr : IntKind.i64.wrap ((i : Int) + 1) = (i : Int) + 1 := by rw [IntKind.wrap_i64]; omega
  have hp0 : (0 : Int) ≤ (i : Int) + 1 := by omega
  have hp1 : (i : Int) + 1 ≤ (S.l.length : Int) := by omega
  have hp2 : ((i : Int) + 1).toNat = i + 1 := by omega
  have hi0z : (0 : Int) ≤ (i : Int) := by omega
  have hi1z : (i : Int) ≤ (cap : Int) := by omega
  have hnz : (S.l.length : Int) ≤ (cap : Int) := by omega
  have hne : p ≠ w.heap.size := by omega
  clear hv hown h hbk hcs hfit
  go_enter Try.func26, Try.ntmps26
  go_wp2_with fail
  have := World.new_ne w ⟨p, 2, none⟩ h2
  have HE : Hid (Row (w.alloc (.cells #[] 43)).drew 43 3 (.slice (some ⟨w.heap.size, 0, none⟩) 0 0) (some w.heap.size) 0 []) :=
    ⟨by simp, .inr ⟨w.heap.size, 0, 0, #[], rfl, rfl, Nat.le_refl _, Nat.zero_le _, Bk.new _ _ _, by simp, fun j hj => by omega⟩⟩
  have hb := H.out.row.lt b HO.out
  have hgE : w.grownBy (w.alloc (.cells #[] 43)).drew none := ⟨rfl, rfl, rfl, by simp, fun k hk _ => Below.heap_alloc w _ k hk⟩
  have hB1 := Lib.hid (hB.out.grown hgE (fun ad h => by cases h; exact ⟨hb, by simp⟩))
  have hAb : A.block = b := by
    split at hA <;> · cases hA; rfl
  have hA1 := Lib.hid (hAf.out.grown hgE (fun ad h => by cases h; exact ⟨by rw [hAb]; exact hb, by simp⟩))
  have HAb := Lib.hid hAb
  have HGE := Lib.hid hgE
  have l1 : Hid ((encL (S.l.take i)).length = i * 3) := by show _ = _; rw [encL_length, List.length_take]; omega
  have l2 : Hid ((encL (S.l.drop (i + 1))).length = (S.l.length - (i + 1)) * 3) := by show _ = _; rw [encL_length, List.length_drop]
  have o1 := Lib.hid (encL_one (S.l.take i))
  have o2 := Lib.hid (encL_one (S.l.drop (i + 1)))
  have HP0 : Hid (Bk (w.alloc (.cells #[] 43)).drew p _ 63) := (H.out.head.alloc (.cells #[] 43)).drew
  have hbz : b ≠ w.heap.size := by omega
  clear hAb hgE hAf hB
  go_region_law (first
      | (refine step_row_append_any rfl (.tmp 5) (.tmp 11) 38 rfl 43 i0 _ 3 Try.underlying38 hi0 hz0 hz1 rfl (by decide) (by omega) (.slice (some ⟨w.heap.size, 0, none⟩) 0 0) (some w.heap.size) 0 [] (by simp [Act.eval, Act.put]) HE.out (some ⟨b, off, none⟩) i cap (encL (S.l.take i)) (by simp [Act.eval, Act.put]) l1.out hB1.out o1.out (by omega) ?_; intro p1 cp1 w1 own1 hrow1 hgrow1 hown1; simp only [Nat.zero_add, List.nil_append] at hrow1; have HR1 := Lib.hid hrow1; have HP1 := Lib.hid (HP0.out.grown hgrow1 (fun e => hne (Option.some.inj e))); have hk1 : w1.cell? ⟨p, 2, none⟩ = some (.slice (some ⟨b, off, none⟩) S.l.length cap) := (HP1.out.cell 2 _ rfl).trans (congrArg some HV.out); have HA2 := Lib.hid (hA1.out.grown hgrow1 (fun ad h => by cases h; rw [HAb.out]; exact ⟨by simp; omega, fun e => hbz (Option.some.inj e)⟩)); have HG1 := Lib.hid hgrow1; have HO1 := Lib.hid hown1; clear hrow1 hgrow1 hown1)
      | (refine step_row_append_any rfl (.tmp 12) (.tmp 19) 38 rfl 43 i0 _ 3 Try.underlying38 hi0 hz0 hz1 rfl (by decide) (by omega) (.slice p1 i cp1) own1 i (encL (S.l.take i)) (by simp [Act.eval, Act.put]) HR1.out (some A) (S.l.length - (i + 1)) (cap - (i + 1)) (encL (S.l.drop (i + 1))) (by simp [Act.eval, Act.put]) l2.out HA2.out o2.out (by omega) ?_; intro p2 cp2 w2 own2 hrow2 hgrow2 hown2; have HR2 := Lib.hid hrow2; have HP2 := Lib.hid (HP1.out.grown hgrow2 (fun e => by have hz : (w.alloc (.cells #[] 43)).drew.heap.size = w.heap.size + 1 := (by simp); rcases HO1.out with h | h <;> · rw [h] at e; have e := Option.some.inj e; omega)); have hk2 : w2.cell? ⟨p, 2, none⟩ = some (.slice (some ⟨b, off, none⟩) S.l.length cap) := (HP2.out.cell 2 _ rfl).trans (congrArg some HV.out); have hf2' := HP2.out.free 2; have HG2 := Lib.hid hgrow2; have HO2 := Lib.hid hown2; clear hrow2 hgrow2 hown2))
  all_goals
    go_end0
    exact out_done H.out i hi (by simp) HGE.out own1 own2 HG1.out HO1.out HG2.out HO2.out p2 cp2 HP2.out HR2.out
end Go.Proofs.Ytdnkliapcnfcoaa.fair
