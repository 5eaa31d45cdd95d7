/- What Keep lets go of: plain law. -/
import Derived.Test.YtfimadeokdlpnaaVso
namespace Go.Proofs.Ytfimadeokdlpnaa.kv
open K
set_option linter.unusedVariables false
theorem keep_first (per len : Nat) (hp : 1 ≤ per) (m : Int) : ∀ (l : List Nat) (S : List Pg) (f : Nat), (keepOf per len m S l f).2.2 = f + min l.length (((len : Int) - m).toNat - f |>.div per) * per
  | [], S, f => by simp [keepOf]
  | g :: l, S, f => by
    unfold keepOf
    by_cases hc : (f : Int) + per ≤ len - m
    · rw [if_pos hc, keep_first per len hp m l _ _]
      have e : (((len : Int) - m).toNat - f) / per = (((len : Int) - m).toNat - (f + per)) / per + 1 := by
        rw [← Nat.add_div_right _ (by omega)]
        congr 1; omega
      show f + per + min l.length ((((len : Int) - m).toNat - (f + per)) / per) * per = f + min (l.length + 1) ((((len : Int) - m).toNat - f) / per) * per
      rw [e, Nat.add_min_add_right, Nat.add_mul]
      omega
    · rw [if_neg hc]
      have e : (((len : Int) - m).toNat - f) / per = 0 := Nat.div_eq_of_lt (by omega)
      show f = f + min (l.length + 1) ((((len : Int) - m).toNat - f) / per) * per
      rw [e]; simp
end Go.Proofs.Ytfimadeokdlpnaa.kv
