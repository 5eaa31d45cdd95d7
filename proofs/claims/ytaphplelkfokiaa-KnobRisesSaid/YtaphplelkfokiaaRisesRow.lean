/- KnobRises: where numbers rise, the fixed ones do not fall, and a fixed number is off by half a step at most. Condition: none. -/
import Derived.Test.YtaphplelkfokiaaRsw
namespace Go.Proofs.Ytaphplelkfokiaa.rise
open Go.ChangeShapes Go.WideShapes Go.ChangeAt Go.RowKit K Fl ord ldx
set_option linter.unusedVariables false
set_option linter.unusedSimpArgs false
set_option maxRecDepth 100000 in
theorem liftedKnobRises (os : Os) (started : os.Started) (H : Type) (enc : TypeId × Value → H) :
    ReturnsInHanded {} Try.checked os 5 .any (Rows.knobRisesSpec.pre6 enc Try.prog Try.f5 Rows.knobRisesRow.domain false) (Rows.knobRisesSpec.post enc Try.prog Try.f5 false true false false) := by
  refine returnsInHanded_of_change_sized (C := Try.checked) own started (by kernel_rfl) Try.func5
    (ChangeSpec.witness6 (enc := enc) (C := Try.checked) false ⟨#[], #[.float .f64 0, .float .f64 0], []⟩ 8 (by kernel_rfl) (by kernel_rfl) (by kernel_rfl) (by kernel_rfl)) ?_
  intro W base args ds gs before hval0 hW hcnd hsz0 _
  have hsz : (DataW.weightsEach Try.prog (Try.f5.params.toList ++ Rows.knobRisesSpec.plain.varTypes Try.prog) (ds ++ gs)).all (· ≤ reachBytes) = true := hsz0
  have hval : ∀ (j : Nat) t v, Try.f5.params[j]? = some t → args[j]? = some v → Value.okWide Try.prog W .any base t v := hval0
  have hW' := hW
  obtain ⟨p, q, hA0, hV, rfl, hfz, hnd⟩ := hW
  have hA : DataW.TrodAll enc Try.prog W 0 (fun _ => true) true Try.f5.params.toList args.toList ds p := hA0
  rw [Try.params5] at hA hval hsz
  have hAll := hA
  have hlt : ∀ x ∈ p, x.block < W.heap.size := fun x hx => hW'.lt x (by simp [hx])
  obtain ⟨v0, vs0, d0, ds0, p0, q0, hargs, rfl, rfl, h0, r0⟩ := trodAll_cons hA
  obtain ⟨v1, vs1, d1, ds1, p1, q1, rfl, rfl, rfl, h1, r1⟩ := trodAll_cons r0
  obtain ⟨rfl, rfl, rfl⟩ := trodAll_nil r1
  obtain rfl : args = #[v0, v1] := by cases args; simp_all
  obtain ⟨rfl, rfl⟩ := trodVars_none hV
  obtain ⟨a0, rfl, rfl, rfl, w0⟩ := open_float Try.underlying22 (hval 0 22 v0 rfl rfl) h0
  obtain ⟨a1, rfl, rfl, rfl, w1⟩ := open_float Try.underlying22 (hval 1 22 v1 rfl rfl) h1
  have hx := tot.wf_lt w0
  have hy := tot.wf_lt w1
  have main : Calls Try.prog 5 #[.float .f64 a0, .float .f64 a1] W fun e w' => e = .returned (.bool true) ∧ Below W.heap.size W w' := by
    by_cases ha : isNum a0
    · by_cases hb : isNum a1
      · refine w_num a0 a1 (fixV a0) (fixV a1) (compare (sv a0) (sv a1)) (compare (sv a0) (sv 4674736138332667904)) (compare (sv a0) (sv 13898108175187443712)) (fun w => Fix_num a0 hx ha w) (fun w => Fix_num a1 hy hb w) (order_num ha hb) (fun h => fix_mono (cmp_is.2.2 h)) (order_num ha (by decide)) (order_num ha (by decide)) ?_ W
        intro g1 g2
        exact diff_at a0 hx (cmp_is.1 g1) (cmp_is.2.1 g2)
      · exact w_nan a0 a1 (fixV a0) 0 0 28 true false (fun w => Fix_num a0 hx ha w) (fun w => Fix_nan a1 hb w) (by rw [self_eq, decide_eq_true ha]) (by rw [self_eq, decide_eq_false hb]) (.inl ⟨rfl, rfl, rfl, rfl⟩) W
    · by_cases hb : isNum a1
      · exact w_nan a0 a1 0 (fixV a1) 28 0 false true (fun w => Fix_nan a0 ha w) (fun w => Fix_num a1 hy hb w) (by rw [self_eq, decide_eq_false ha]) (by rw [self_eq, decide_eq_true hb]) (.inr (.inl ⟨rfl, rfl, rfl, rfl⟩)) W
      · exact w_nan a0 a1 0 0 28 28 false false (fun w => Fix_nan a0 ha w) (fun w => Fix_nan a1 hb w) (by rw [self_eq, decide_eq_false ha]) (by rw [self_eq, decide_eq_false hb]) (.inr (.inr ⟨rfl, rfl, rfl, rfl⟩)) W
  refine main.mono fun e W' hpost => ?_
  obtain ⟨rfl, bel⟩ := hpost
  exact ⟨_, rfl, _, _, _, [], _, [], hW', trodAll_mk1 (shut_bool Try.underlying4 _), trodAll_below laidOut _ (by kernel_rfl) hAll bel hlt, rfl, bel.frame _, fun h => by cases h⟩
theorem provedKnobRises : Rows.KnobRisesSaid :=
  OpenClaim.holds_of_wide 5 Try.f5 rfl rfl rfl rfl rfl rfl rfl ⟨rfl, rfl, rfl, rfl, rfl⟩ rfl rfl rfl rfl rfl (by kernel_rfl) Try.func5 (by kernel_rfl)
    (of_decide_eq_true (by kernel_rfl)) (by unfold Func.isWrapper; first | (rw [if_pos (by decide +kernel)]; kernel_rfl) | (rw [if_neg (by decide +kernel)]; exact ⟨rfl, rfl⟩))
    (fun os started H enc _ => liftedKnobRises os started H enc)
#print axioms provedKnobRises
end Go.Proofs.Ytaphplelkfokiaa.rise
