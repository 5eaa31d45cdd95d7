/- A map from ints to ints that the call made: what it reads as, as a function. -/
import Derived.Test.YtdnkliapcnfcoaaK
import Derived.Test.YtdnkliapcnfcoaaRow
import Derived.Maps.Own
import Derived.Maps.OwnOps
import Derived.Maps.Views
namespace Go.Proofs.Ytdnkliapcnfcoaa.K
open Go.RowKit Go.Maps
set_option linter.unusedVariables false
def okI (x : Int) : Prop := -9223372036854775808 ≤ x ∧ x ≤ 9223372036854775807
theorem okI_wf {x : Int} (h : okI x) : (Lit.int .i64 x).wf = true := by
  obtain ⟨h1, h2⟩ := h
  simp [Lit.wf, IntKind.min, IntKind.max, IntKind.signed, IntKind.bits]; omega
theorem keyI : Keyed Try.prog 3 := int_keyed Try.underlying3
theorem zeroI (w : World) : (zeroValue 3).run Try.prog w = .ok (.int .i64 0) w := by kernel_rfl
/-- Block b is a map of at most n entries that reads as f. -/
def MapII (w : World) (b n : Nat) (f : Int → Option Int) : Prop :=
  ∃ D : DataW Unit, w.ownsMap Try.prog 3 (plainElem Try.prog 3) b n D ∧ Maps.IsMap D ∧
    (∀ x, okI x → Maps.has D (.int .i64 x) = (f x).isSome ∧ ∀ z, D.atKey (.int .i64 x) z = match f x with | some v => .lit (.int .i64 v) | none => z)
namespace MapII
variable {w w' : World} {b n : Nat} {f : Int → Option Int}
theorem made (w : World) : MapII (w.alloc (.map #[] 0)) w.heap.size 0 (fun _ => none) :=
  ⟨.map [], World.ownsMap_made _ _ _ _, Maps.isMap_empty, fun x hx => ⟨rfl, fun z => rfl⟩⟩
theorem lt (h : MapII w b n f) : b < w.heap.size := by obtain ⟨D, h1, _⟩ := h; exact h1.lt
theorem keep (h : MapII w b n f) (hb : w'.heap[b]? = w.heap[b]?) : MapII w' b n f := by
  obtain ⟨D, ⟨es, clock, h1, h2, h3, h4⟩, h5, h6⟩ := h
  exact ⟨D, ⟨es, clock, hb.trans h1, h2, h3, h4⟩, h5, h6⟩
theorem below (h : MapII w b n f) {B : Nat} (hb : Below B w w') (hlt : b < B) : MapII w' b n f := h.keep (hb.block b hlt)
theorem update (h : MapII w b n f) (hn : n < maxLen) (x v : Int) (hx : okI x) (hv : okI v) :
    ∃ w', (Instr.mapUpdate 30 (.map (some b)) (.int .i64 x) (.int .i64 v)).run Try.prog w = .ok () w' ∧ MapII w' b (n + 1) (fun y => if y = x then some v else f y) ∧ w.grownBy w' (some b) := by
  obtain ⟨D, h1, h5, h6⟩ := h
  have hk := keyOf_int_mk Try.underlying3 (okI_wf hx)
  have hkl : WideAt.IsKeyLit (.int .i64 x) := by simp [WideAt.IsKeyLit]
  obtain ⟨w', hrun, h2, h3⟩ := h1.update keyI Try.underlying30 hn hk (plainElem_int Try.underlying3 (okI_wf hv))
  refine ⟨w', hrun, ⟨_, h2, h5.put _ _, fun y hy => ?_⟩, h3⟩
  by_cases e : y = x
  · subst e
    refine ⟨by rw [Maps.has_put_same h5 hkl]; simp, fun z => ?_⟩
    rw [Maps.atKey_put_same h5 hkl]; simp
  · have hne : Lit.int .i64 y ≠ Lit.int .i64 x := by simp [e]
    obtain ⟨h7, h8⟩ := h6 y hy
    refine ⟨by rw [Maps.has_put_other hne, h7]; simp [e], fun z => ?_⟩
    rw [Maps.atKey_put_other hne, h8]; simp [e]
theorem lookup (h : MapII w b n f) (x : Int) (hx : okI x) : (Instr.lookup 30 (.map (some b)) (.int .i64 x) false).run Try.prog w = .ok (.int .i64 ((f x).getD 0)) w := by
  obtain ⟨D, h1, h5, h6⟩ := h
  obtain ⟨c, hrun, hat, _⟩ := h1.lookup_int keyI Try.underlying30 Try.underlying3 (zeroI w) (keyOf_int_mk Try.underlying3 (okI_wf hx))
  rw [hrun]
  rw [(h6 x hx).2] at hat
  cases hf : f x with
  | none => rw [hf] at hat; simp at hat; simp [hat]
  | some v => rw [hf] at hat; simp at hat; simp [hat]
end MapII
theorem wpList_update_ii {ops : Array Oper} {rest : List Oper} {o : Oper} {a : Act} {Q : Exit → Act → World → Prop} {w : World}
    (hg : o.guard = none) (m x v : Operand) (hop : o.op = Op.mapUpdate 30 m x v) (b n : Nat) (f : Int → Option Int)
    (hm : a.eval m = .map (some b)) (hown : MapII w b n f) (hn : n < maxLen) (key val : Int) (hx : a.eval x = .int .i64 key) (hv : a.eval v = .int .i64 val) (hk : okI key) (hvv : okI val)
    (hK : ∀ w', MapII w' b (n + 1) (fun y => if y = key then some val else f y) → w.grownBy w' (some b) → wpList Try.prog ops Q rest (a.put o.dst undef) w') :
    wpList Try.prog ops Q (o :: rest) a w := by
  refine wpList_plain hg fun K' hK' => ?_
  obtain ⟨w', hrun, r1, r2⟩ := hown.update hn key val hk hvv
  unfold Oper.wp
  simp [execOp, hop, hm, hx, hv, hrun, Result.andThen]
  exact hK' _ _ (hK w' r1 r2)
end Go.Proofs.Ytdnkliapcnfcoaa.K
