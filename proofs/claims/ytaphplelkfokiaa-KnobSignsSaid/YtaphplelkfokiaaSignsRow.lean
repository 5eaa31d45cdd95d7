/- KnobSigns: a number with its sign turned is made the fixed one with its sign turned, and what is no number is refused and ordered first. Condition: none. -/
import Derived.Test.YtaphplelkfokiaaSig
namespace Go.Proofs.Ytaphplelkfokiaa.sig
open Go.ChangeShapes Go.WideShapes Go.ChangeAt Go.RowKit K Fl ord ldx
set_option linter.unusedVariables false
set_option linter.unusedSimpArgs false
set_option maxRecDepth 100000 in
theorem liftedKnobSigns (os : Os) (started : os.Started) (H : Type) (enc : TypeId × Value → H) :
    ReturnsInHanded {} Try.checked os 6 .any (Rows.knobSignsSpec.pre6 enc Try.prog Try.f6 Rows.knobSignsRow.domain false) (Rows.knobSignsSpec.post enc Try.prog Try.f6 false true false false) := by
  refine returnsInHanded_of_change_sized (C := Try.checked) own started (by kernel_rfl) Try.func6
    (ChangeSpec.witness6 (enc := enc) (C := Try.checked) false ⟨#[], #[.float .f64 0, .int .u64 0], []⟩ 8 (by kernel_rfl) (by kernel_rfl) (by kernel_rfl) (by kernel_rfl)) ?_
  intro W base args ds gs before hval0 hW hcnd hsz0 _
  have hsz : (DataW.weightsEach Try.prog (Try.f6.params.toList ++ Rows.knobSignsSpec.plain.varTypes Try.prog) (ds ++ gs)).all (· ≤ reachBytes) = true := hsz0
  have hval : ∀ (j : Nat) t v, Try.f6.params[j]? = some t → args[j]? = some v → Value.okWide Try.prog W .any base t v := hval0
  have hW' := hW
  obtain ⟨p, q, hA0, hV, rfl, hfz, hnd⟩ := hW
  have hA : DataW.TrodAll enc Try.prog W 0 (fun _ => true) true Try.f6.params.toList args.toList ds p := hA0
  rw [Try.params6] at hA hval hsz
  have hAll := hA
  have hlt : ∀ x ∈ p, x.block < W.heap.size := fun x hx => hW'.lt x (by simp [hx])
  obtain ⟨v0, vs0, d0, ds0, p0, q0, hargs, rfl, rfl, h0, r0⟩ := trodAll_cons hA
  obtain ⟨v1, vs1, d1, ds1, p1, q1, rfl, rfl, rfl, h1, r1⟩ := trodAll_cons r0
  obtain ⟨rfl, rfl, rfl⟩ := trodAll_nil r1
  obtain rfl : args = #[v0, v1] := by cases args; simp_all
  obtain ⟨rfl, rfl⟩ := trodVars_none hV
  obtain ⟨a0, rfl, rfl, rfl, w0⟩ := open_float Try.underlying22 (hval 0 22 v0 rfl rfl) h0
  obtain ⟨a1, rfl, rfl, rfl, w1⟩ := open_int Try.underlying29 (hval 1 29 v1 rfl rfl) h1
  have hx := tot.wf_lt w0
  have hn : 0 ≤ a1 ∧ a1 < 2 ^ 64 := by simp [Lit.wf, IntKind.min, IntKind.max, IntKind.signed, IntKind.bits] at w1; omega
  obtain ⟨m, rfl⟩ := Int.eq_ofNat_of_zero_le hn.1
  have main : Calls Try.prog 6 #[.float .f64 a0, .int .u64 (m : Int)] W fun e w' => e = .returned (.bool true) ∧ Below W.heap.size W w' := by
    obtain ⟨p1, p2, p3⟩ := nx_parts a0 hx
    by_cases hi : isNum a0
    · have hi2 : isNum (nx a0) := by unfold isNum at hi ⊢; rw [p2]; exact hi
      have hr := fixV_range (nx a0)
      refine law_of a0 m (by omega) (fixV a0) (fixV (nx a0)) 0 (fun w => Fix_num a0 hx hi w) (fun w => Fix_num (nx a0) p3 hi2 w) hr.1 hr.2 ?_ (.inl rfl) W
      have hs := signs a0 hx
      simp only [bne_iff_ne, ne_eq, bne_eq_false_iff_eq, beq_eq_false_iff_ne]
      by_cases c1 : fixV a0 = -fixV (nx a0)
      · exact .inr (.inl c1)
      · by_cases c2 : fixV a0 = 2147483647
        · exact .inr (.inr (.inl ⟨c1, c2⟩))
        · exact .inr (.inr (.inr ⟨c1, c2, by omega⟩))
    · have hi2 : ¬ isNum (nx a0) := by unfold isNum at hi ⊢; rw [p2]; exact hi
      exact law_of a0 m (by omega) 0 0 28 (fun w => Fix_nan a0 hi w) (fun w => Fix_nan (nx a0) hi2 w) (by omega) (by omega) (.inl rfl) (.inr rfl) W
  refine main.mono fun e W' hpost => ?_
  obtain ⟨rfl, bel⟩ := hpost
  exact ⟨_, rfl, _, _, _, [], _, [], hW', trodAll_mk1 (shut_bool Try.underlying4 _), trodAll_below laidOut _ (by kernel_rfl) hAll bel hlt, rfl, bel.frame _, fun h => by cases h⟩
theorem provedKnobSigns : Rows.KnobSignsSaid :=
  OpenClaim.holds_of_wide 6 Try.f6 rfl rfl rfl rfl rfl rfl rfl ⟨rfl, rfl, rfl, rfl, rfl⟩ rfl rfl rfl rfl rfl (by kernel_rfl) Try.func6 (by kernel_rfl)
    (of_decide_eq_true (by kernel_rfl)) (by unfold Func.isWrapper; first | (rw [if_pos (by decide +kernel)]; kernel_rfl) | (rw [if_neg (by decide +kernel)]; exact ⟨rfl, rfl⟩))
    (fun os started H enc _ => liftedKnobSigns os started H enc)
#print axioms provedKnobSigns
end Go.Proofs.Ytaphplelkfokiaa.sig
