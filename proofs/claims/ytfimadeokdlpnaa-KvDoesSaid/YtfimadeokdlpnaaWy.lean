/- Small lemmas. -/
import Derived.Test.YtfimadeokdlpnaaVc
namespace Go.Proofs.Ytfimadeokdlpnaa.kv
open Go.ChangeShapes Go.WideShapes Go.ChangeAt Go.RowKit K
set_option linter.unusedVariables false
set_option linter.unusedSimpArgs false
def okI (a : Int) : Prop := -9223372036854775808 ≤ a ∧ a ≤ 9223372036854775807
theorem um_bd (a m : Int) (h0 : 0 < m) (h1 : m ≤ 100000) : 0 ≤ wrap64 ((IntKind.u64.wrap a).tmod m) ∧ wrap64 ((IntKind.u64.wrap a).tmod m) < m ∧ wrap64 (1 + wrap64 ((IntKind.u64.wrap a).tmod m)) = 1 + wrap64 ((IntKind.u64.wrap a).tmod m) := by
  have hu : 0 ≤ IntKind.u64.wrap a := by
    simp [IntKind.wrap, IntKind.signed, IntKind.bits]; omega
  have e : (IntKind.u64.wrap a).tmod m = IntKind.u64.wrap a % m := Int.tmod_eq_emod_of_nonneg hu
  have b1 := Int.emod_nonneg (IntKind.u64.wrap a) (show m ≠ 0 by omega)
  have b2 := Int.emod_lt_of_pos (IntKind.u64.wrap a) h0
  rw [e]
  have w1 : wrap64 (IntKind.u64.wrap a % m) = IntKind.u64.wrap a % m := by unfold wrap64; omega
  rw [w1]
  refine ⟨b1, b2, ?_⟩
  unfold wrap64; omega
theorem Many.size {B : Nat} {w : World} {p b : Nat} {S : List Pg} {L : List Ent} (h : Many B w p b S L) : B ≤ w.heap.size := Nat.le_trans h.pB (Nat.le_of_lt h.pool.head.lt)
theorem bstep {B : Nat} {w wr w4 : World} (h : Below B w wr) (hb : Below wr.heap.size wr w4) (hB : B ≤ wr.heap.size) : Below B w w4 := h.trans (hb.mono hB)
end Go.Proofs.Ytfimadeokdlpnaa.kv
