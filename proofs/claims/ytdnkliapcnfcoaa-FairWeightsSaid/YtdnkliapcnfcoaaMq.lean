/- A map from ints to ints: the look-up that tells whether it is there. -/
import Derived.Test.YtdnkliapcnfcoaaMp
import Derived.Maps.OwnSet
namespace Go.Proofs.Ytdnkliapcnfcoaa.K
open Go.RowKit Go.Maps
set_option linter.unusedVariables false
theorem MapII.lookup_ok {w : World} {b n : Nat} {f : Int → Option Int} (h : MapII w b n f) (x v : Int) (hx : okI x) (hf : f x = some v) :
    (Instr.lookup 30 (.map (some b)) (.int .i64 x) true).run Try.prog w = .ok (.tuple #[.int .i64 v, .bool true]) w := by
  obtain ⟨D, ⟨es, clock, hb, F, _, rfl⟩, h5, h6⟩ := h
  have hat := (h6 x hx).2
  rw [hf] at hat
  simp only at hat
  rcases Maps.fit_look true keyI Try.underlying30 (zeroI w) hb F (keyOf_int_mk Try.underlying3 (okI_wf hx)) with ⟨_, _, h3⟩ | ⟨e0, y, _, _, hrun, hR, h3, _⟩
  · have := h3 .nil
    rw [hat] at this; cases this
  · have e := h3 .nil
    rw [hat] at e
    obtain ⟨a, ha, hy, _⟩ := plainElem_int_inv Try.underlying3 hR
    rw [hy] at e
    simp at e
    subst e
    rw [hrun, ha]; rfl
end Go.Proofs.Ytdnkliapcnfcoaa.K
