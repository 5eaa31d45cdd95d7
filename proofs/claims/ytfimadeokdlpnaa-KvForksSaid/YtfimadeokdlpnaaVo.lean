/- A sequence: own, Pages. -/
import Derived.Test.YtfimadeokdlpnaaVu
import Derived.Laws.CopyOwn
namespace Go.Proofs.Ytfimadeokdlpnaa.kv
open Go.ChangeShapes Go.WideShapes Go.ChangeAt Go.RowKit K
set_option linter.unusedVariables false
set_option linter.unusedSimpArgs false
variable (s p : Nat) (Q : Sq) (v : Value) (own : Option Nat) (w : World)
theorem encN_one (l : List Nat) : ∀ u ∈ encN l, u.oneCell' = true := by
  intro u hu
  obtain ⟨n, _, rfl⟩ := List.mem_map.1 hu
  rfl
theorem own_c (h : SR w s p Q v own) : Calls Try.prog 37 #[.pointer (some ⟨s, 0, none⟩)] w fun e w' =>
    e = .returned (.slice (some ⟨w.heap.size, 0, none⟩) Q.pages.length Q.pages.length) ∧ Row w' 3 1 (.slice (some ⟨w.heap.size, 0, none⟩) Q.pages.length Q.pages.length) (some w.heap.size) Q.pages.length (encN Q.pages) ∧ Below w.heap.size w w' := by
  obtain ⟨i0, hi0, hz0, hz1, hz2⟩ := info_parts infoI
  obtain ⟨a, c, rfl, h3⟩ := h.c3
  obtain ⟨Z, hZ1, hZ2, hmk⟩ := mk_int Q.pages.length Q.pages.length (Nat.le_refl _) (by have := h.few; omega)
  have hfew := h.few
  have hlt := h.head.lt
  have hrow := Lib.hid h.row
  have HZ := Lib.hid hZ1
  have h3' : (w.alloc (.cells Z 3)).cell? ⟨s, 3, none⟩ = some (.slice a Q.pages.length c) := (World.cell?_of_block (Below.heap_alloc w _ _ hlt)).trans h3
  have HB : Hid ((w.alloc (.cells Z 3)).heap[w.heap.size]? = some (.cells Z.toList.toArray 3 (0, 0))) := by
    show _ = _
    have := Bk.new w Z 3
    unfold Bk at this
    simpa using this
  have HL := Lib.hid (encN_length Q.pages)
  have HP : Hid (0 < (encN Q.pages).length → (some ⟨w.heap.size, 0, none⟩ : Option Addr) = some ⟨w.heap.size, 0, none⟩ ∧ ∃ ad, a = some ad ∧ ∀ j v, (encN Q.pages)[j]? = some v → (w.alloc (.cells Z 3)).cell? (ad.add j) = some v) := by
    intro hpos
    rw [encN_length] at hpos
    obtain ⟨g, off, cap, cs, e1, e2, e3, e4, e5, e6, e7⟩ := h.row.pos hpos
    cases e1
    refine ⟨rfl, _, rfl, fun j u hu => ?_⟩
    rw [Addr.add_lit]
    refine (e5.alloc _).cell _ _ ?_
    rw [e7 j (by have := (List.getElem?_eq_some_iff.1 hu).1; rw [encN_length] at this; omega)]
    exact hu
  have HO := Lib.hid (encN_one Q.pages)
  have HW : Hid (Below w.heap.size w (w.alloc (.cells Z 3))) := (Below.refl _ _).alloc (Nat.le_refl _) _
  have hmk' := hmk w
  clear hmk h hZ1 hZ2
  generalize hE : encN Q.pages = xs at *
  have HE := Lib.hid hE
  generalize Q.pages.length = L at *
  clear hE
  go_enter Try.func37, Try.ntmps37
  go_wp2_with ((with_reducible show wpList _ _ _ (Oper.mk (some 15) _ _ _ _ _ :: _) _ _); refine wpList_copy_splice rfl (.tmp 10) (.tmp 14) 35 35 rfl 3 Try.underlying35 (by rw [hi0]; simp [hz1]) (some ⟨w.heap.size, 0, none⟩) a L L L c rfl rfl w.heap.size 0 Z.toList 3 HB.out xs (by rw [HL.out]; simp) HP.out (by rw [HL.out, Array.length_toList, HZ.out]; omega) HO.out w.heap.size w HW.out (Nat.le_refl _) ?_; intro w2 hw2 hb2; have HB2 := Lib.hid hb2; clear hb2)
  go_ret
  refine ⟨rfl, ⟨by rw [HL.out]; omega, .inr ⟨_, 0, L, _, rfl, rfl, Nat.le_refl _, by unfold maxLen; omega, hw2.out, ?_, fun j hj => ?_⟩⟩, HB2.out⟩
  · have := HL.out
    have := HZ.out
    simp [splice]; omega
  · have h1 := HL.out
    have h2 := HZ.out
    simp [splice, h1, h2]
    rw [List.getElem?_append_left (by omega)]
theorem pages_c (h : SR w s p Q v own) : Calls Try.prog 14 #[.pointer (some ⟨s, 0, none⟩)] w fun e w' =>
    e = .returned (.slice (some ⟨w.heap.size, 0, none⟩) Q.pages.length Q.pages.length) ∧ Row w' 3 1 (.slice (some ⟨w.heap.size, 0, none⟩) Q.pages.length Q.pages.length) (some w.heap.size) Q.pages.length (encN Q.pages) ∧ Below w.heap.size w w' := by
  have OW := Lib.hid (own_c s p Q v own w h)
  clear h
  go_enter Try.func14, Try.ntmps14
  go_wp2_with fail
  refine OW.out.mono ?_
  rintro e w' ⟨rfl, h1, h2⟩
  have H1 := Lib.hid h1
  have H2 := Lib.hid h2
  clear h1 h2
  go_wp2
  go_ret
  exact ⟨rfl, H1.out, H2.out⟩
end Go.Proofs.Ytfimadeokdlpnaa.kv
