/- pool.New. -/
import Derived.Test.YtfimadeokdlpnaaVe
namespace Go.Proofs.Ytfimadeokdlpnaa.kv
open Go.ChangeShapes Go.WideShapes Go.ChangeAt Go.RowKit K
set_option linter.unusedVariables false
set_option linter.unusedSimpArgs false
theorem infoP : (Try.prog.info? 77).map (fun i => (i.zero, i.size, i.bytes)) = some (some (.agg noV), 34, 280) := by kernel_rfl
theorem cells_no (n : Nat) : Cells (List.replicate n Pg.no) (madeCells noV (n * 34)) := by
  have hns : noV.size = 34 := rfl
  refine ⟨by simp [size_madeCells], fun i x hx => ?_⟩
  rw [List.getElem?_replicate] at hx
  split at hx
  next hi =>
    cases hx
    refine ⟨rfl, fun j hj => ?_⟩
    rw [← noV_eq]
    unfold madeCells
    rw [Array.getElem?_map, Array.getElem?_range, if_pos (by omega)]
    simp only [Option.map_some, hns]
    rw [show (i * 34 + j) % 34 = j by omega, Array.getElem?_toList, Array.getElem?_eq_getElem (by omega), getElem!_pos noV j (by omega)]
  next hi => cases hx
theorem freeOf_no (n : Nat) : freeOf (List.replicate n Pg.no) = n := by
  unfold freeOf
  rw [List.countP_replicate]
  rfl
set_option maxRecDepth 100000 in
theorem new_c (n : Nat) (h1 : 1 ≤ n) (h2 : n ≤ 256) (w : World) :
    Calls Try.prog 8 #[.int .i64 n] w fun e w' => ∃ p b, e = .returned (.tuple #[.pointer (some ⟨p, 0, none⟩), .int .i64 0]) ∧ PR w' p b (List.replicate n Pg.no) ∧ Below w.heap.size w w' ∧ w.heap.size ≤ p ∧ w.heap.size ≤ b := by
  obtain ⟨i0, hi0, hz0, hz1, hz2⟩ := info_parts infoP
  obtain ⟨Z, hZ⟩ : ∃ Z, Z = madeCells noV (n * 34) := ⟨_, rfl⟩
  have hC : Hid (Cells (List.replicate n Pg.no) Z) := by rw [hZ]; exact cells_no n
  have hmk : ∀ w, (Instr.makeSlice 65 (.int .i64 (n : Int)) (.int .i64 (n : Int))).run Try.prog w = .ok (.slice (some ⟨w.heap.size, 0, none⟩) n n) (w.alloc (.cells Z 77)) := by
    intro w
    have h := run_make (P := Try.prog) w 65 77 i0 _ Try.underlying65 hi0 hz0 .i64 .i64 (n : Int) (n : Int) (by omega) (Int.le_refl _) (by rw [hz2]; omega) (by omega)
    rw [show (Value.agg noV).cells = noV from rfl, Int.toNat_natCast, hz1, ← hZ] at h
    exact h
  have hz1' : (1 : Int) ≤ (n : Int) := by omega
  have hz2' : (n : Int) ≤ 256 := by omega
  clear hZ
  go_enter Try.func8, Try.ntmps8
  go_wp2
  go_ret2
  refine ⟨w.heap.size + 1, w.heap.size, by simp, ⟨?_, ⟨Z, ?_, hC.out⟩, by simp; omega, by omega⟩, ?_, by omega, by omega⟩
  · rw [freeOf_no, List.length_replicate]; exact Bk.new' _ _ _ _ (by simp)
  · exact (Bk.new w Z 77).alloc _
  · exact ((Below.refl _ _).alloc (Nat.le_refl _) _).alloc (by simp) _
end Go.Proofs.Ytfimadeokdlpnaa.kv
