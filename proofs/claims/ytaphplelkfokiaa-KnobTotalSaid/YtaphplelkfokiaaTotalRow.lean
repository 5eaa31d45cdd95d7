/- KnobTotal: of any two numbers just one of Same, Less, and Less the other way holds, and Less is transitive. Condition: none. -/
import Derived.Test.YtaphplelkfokiaaTot
namespace Go.Proofs.Ytaphplelkfokiaa.tot
open Go.ChangeShapes Go.WideShapes Go.ChangeAt Go.RowKit K Fl ord ldx
set_option linter.unusedVariables false
set_option linter.unusedSimpArgs false
set_option maxRecDepth 100000 in
theorem liftedKnobTotal (os : Os) (started : os.Started) (H : Type) (enc : TypeId × Value → H) :
    ReturnsInHanded {} Try.checked os 4 .any (Rows.knobTotalSpec.pre6 enc Try.prog Try.f4 Rows.knobTotalRow.domain false) (Rows.knobTotalSpec.post enc Try.prog Try.f4 false true false false) := by
  refine returnsInHanded_of_change_sized (C := Try.checked) own started (by kernel_rfl) Try.func4
    (ChangeSpec.witness6 (enc := enc) (C := Try.checked) false ⟨#[], #[.float .f64 0, .float .f64 0, .float .f64 0], []⟩ 8 (by kernel_rfl) (by kernel_rfl) (by kernel_rfl) (by kernel_rfl)) ?_
  intro W base args ds gs before hval0 hW hcnd hsz0 _
  have hsz : (DataW.weightsEach Try.prog (Try.f4.params.toList ++ Rows.knobTotalSpec.plain.varTypes Try.prog) (ds ++ gs)).all (· ≤ reachBytes) = true := hsz0
  have hval : ∀ (j : Nat) t v, Try.f4.params[j]? = some t → args[j]? = some v → Value.okWide Try.prog W .any base t v := hval0
  have hW' := hW
  obtain ⟨p, q, hA0, hV, rfl, hfz, hnd⟩ := hW
  have hA : DataW.TrodAll enc Try.prog W 0 (fun _ => true) true Try.f4.params.toList args.toList ds p := hA0
  rw [Try.params4] at hA hval hsz
  have hAll := hA
  have hlt : ∀ x ∈ p, x.block < W.heap.size := fun x hx => hW'.lt x (by simp [hx])
  obtain ⟨v0, vs0, d0, ds0, p0, q0, hargs, rfl, rfl, h0, r0⟩ := trodAll_cons hA
  obtain ⟨v1, vs1, d1, ds1, p1, q1, rfl, rfl, rfl, h1, r1⟩ := trodAll_cons r0
  obtain ⟨v2, vs2, d2, ds2, p2, q2, rfl, rfl, rfl, h2, r2⟩ := trodAll_cons r1
  obtain ⟨rfl, rfl, rfl⟩ := trodAll_nil r2
  obtain rfl : args = #[v0, v1, v2] := by cases args; simp_all
  obtain ⟨rfl, rfl⟩ := trodVars_none hV
  obtain ⟨a0, rfl, rfl, rfl, w0⟩ := open_float Try.underlying22 (hval 0 22 v0 rfl rfl) h0
  obtain ⟨a1, rfl, rfl, rfl, w1⟩ := open_float Try.underlying22 (hval 1 22 v1 rfl rfl) h1
  obtain ⟨a2, rfl, rfl, rfl, w2⟩ := open_float Try.underlying22 (hval 2 22 v2 rfl rfl) h2
  have hc : ((keyN a0 == keyN a1) = true ∧ decide (keyN a0 < keyN a1) = false ∧ decide (keyN a1 < keyN a0) = false) ∨ ((keyN a0 == keyN a1) = false ∧ decide (keyN a0 < keyN a1) = true ∧ decide (keyN a1 < keyN a0) = false) ∨ ((keyN a0 == keyN a1) = false ∧ decide (keyN a0 < keyN a1) = false ∧ decide (keyN a1 < keyN a0) = true) := by
    simp only [beq_iff_eq, decide_eq_false_iff_not, decide_eq_true_eq, beq_eq_false_iff_ne]
    omega
  have ht : decide (keyN a0 < keyN a1) = true → decide (keyN a1 < keyN a2) = true → decide (keyN a0 < keyN a2) = true := by
    simp only [decide_eq_true_eq]
    omega
  refine (law a0 a1 a2 (wf_lt w0) (wf_lt w1) (wf_lt w2) _ _ _ _ _ rfl rfl rfl rfl rfl hc ht W).mono fun e W' hpost => ?_
  obtain ⟨rfl, bel⟩ := hpost
  exact ⟨_, rfl, _, _, _, [], _, [], hW', trodAll_mk1 (shut_bool Try.underlying4 _), trodAll_below laidOut _ (by kernel_rfl) hAll bel hlt, rfl, bel.frame _, fun h => by cases h⟩
theorem provedKnobTotal : Rows.KnobTotalSaid :=
  OpenClaim.holds_of_wide 4 Try.f4 rfl rfl rfl rfl rfl rfl rfl ⟨rfl, rfl, rfl, rfl, rfl⟩ rfl rfl rfl rfl rfl (by kernel_rfl) Try.func4 (by kernel_rfl)
    (of_decide_eq_true (by kernel_rfl)) (by unfold Func.isWrapper; first | (rw [if_pos (by decide +kernel)]; kernel_rfl) | (rw [if_neg (by decide +kernel)]; exact ⟨rfl, rfl⟩))
    (fun os started H enc _ => liftedKnobTotal os started H enc)
#print axioms provedKnobTotal
end Go.Proofs.Ytaphplelkfokiaa.tot
