/- FairWeights: of any two tenants of whom something always waits, what was served, divided by their weights, never differs by more than the greatest cost divided by the lesser weight, twice over. Condition: none. -/
import Derived.Test.YtdnkliapcnfcoaaFwt
namespace Go.Proofs.Ytdnkliapcnfcoaa.fair
open Go.ChangeShapes Go.WideShapes Go.ChangeAt Go.RowKit K
set_option linter.unusedVariables false
set_option linter.unusedSimpArgs false
set_option maxRecDepth 100000 in
theorem liftedFairWeights (os : Os) (started : os.Started) (H : Type) (enc : TypeId × Value → H) :
    ReturnsInHanded {} Try.checked os 3 .any (Rows.fairWeightsSpec.pre6 enc Try.prog Try.f3 Rows.fairWeightsRow.domain false) (Rows.fairWeightsSpec.post enc Try.prog Try.f3 false true false false) := by
  refine returnsInHanded_of_change_sized (C := Try.checked) own started (by kernel_rfl) Try.func3
    (ChangeSpec.witness6 (enc := enc) (C := Try.checked) false ⟨#[], #[.slice none 0 0, .slice none 0 0, .int .i64 0], []⟩ 8 (by kernel_rfl) (by kernel_rfl) (by kernel_rfl) (by kernel_rfl)) ?_
  intro W base args ds gs before hval0 hW hcnd hsz0 _
  have hsz : (DataW.weightsEach Try.prog (Try.f3.params.toList ++ Rows.fairWeightsSpec.plain.varTypes Try.prog) (ds ++ gs)).all (· ≤ reachBytes) = true := hsz0
  have hval : ∀ (j : Nat) t v, Try.f3.params[j]? = some t → args[j]? = some v → Value.okWide Try.prog W .any base t v := hval0
  have hW' := hW
  obtain ⟨p, q, hA0, hV, rfl, hfz, hnd⟩ := hW
  have hA : DataW.TrodAll enc Try.prog W 0 (fun _ => true) true Try.f3.params.toList args.toList ds p := hA0
  rw [Try.params3] at hA hval hsz
  have hAll := hA
  have hlt : ∀ x ∈ p, x.block < W.heap.size := fun x hx => hW'.lt x (by simp [hx])
  obtain ⟨v0, vs0, d0, ds0, p0, q0, hargs, rfl, rfl, h0, r0⟩ := trodAll_cons hA
  obtain ⟨v1, vs1, d1, ds1, p1, q1, rfl, rfl, rfl, h1, r1⟩ := trodAll_cons r0
  obtain ⟨v2, vs2, d2, ds2, p2, q2, rfl, rfl, rfl, h2, r2⟩ := trodAll_cons r1
  obtain ⟨rfl, rfl, rfl⟩ := trodAll_nil r2
  obtain rfl : args = #[v0, v1, v2] := by cases args; simp_all
  obtain ⟨rfl, rfl⟩ := trodVars_none hV
  obtain ⟨q0, n0, c0, xs0, rfl, hi0, hl0, hm0, hq0, hx0, hd0⟩ := slice_ints Try.underlying22 Try.underlying3 (by kernel_rfl) (hval 0 22 v0 rfl rfl) h0
  have hn0 : n0 * 8 ≤ 140737488355328 := by
    rcases hd0 with ⟨_, h0⟩ | ⟨l1, l2, hd, hle⟩
    · omega
    · have := sized_slice hsz (j := 0) rfl (by rw [hd]; rfl) Try.underlying22
      have hb : Try.prog.bytesOf 3 = 8 := by kernel_rfl
      rw [hb] at this
      have hr := reachBytes_lt
      omega
  obtain ⟨q1, n1, c1, xs1, rfl, hi1, hl1, hm1, hq1, hx1, hd1⟩ := slice_ints Try.underlying22 Try.underlying3 (by kernel_rfl) (hval 1 22 v1 rfl rfl) h1
  have hn1 : n1 * 8 ≤ 140737488355328 := by
    rcases hd1 with ⟨_, h0⟩ | ⟨l1, l2, hd, hle⟩
    · omega
    · have := sized_slice hsz (j := 1) rfl (by rw [hd]; rfl) Try.underlying22
      have hb : Try.prog.bytesOf 3 = 8 := by kernel_rfl
      rw [hb] at this
      have hr := reachBytes_lt
      omega
  obtain ⟨a2, rfl, rfl, rfl, w2⟩ := open_int Try.underlying3 (hval 2 3 v2 rfl rfl) h2
  have main : Calls Try.prog 3 #[.slice q0 n0 c0, .slice q1 n1 c1, .int .i64 a2] W fun e w' => e = .returned (.bool true) ∧ Below W.heap.size W w' := by
    rcases hq0 with rfl | ⟨pb, po, rfl⟩
    · exact weights_none W q0 c0 q1 n1 c1 a2
    · by_cases h0 : n0 = 0
      · subst h0; exact weights_none W _ c0 q1 n1 c1 a2
      · exact weights_walk W pb po n0 c0 xs0 hl0 (by omega) hn0 hi0 q1 n1 c1 xs1 hl1 (by unfold maxLen at hm1; omega) hi1 a2
  refine main.mono fun e W' hpost => ?_
  obtain ⟨rfl, bel⟩ := hpost
  exact ⟨_, rfl, _, _, _, [], _, [], hW', trodAll_mk1 (shut_bool Try.underlying4 _), trodAll_below laidOut _ (by kernel_rfl) hAll bel hlt, rfl, bel.frame _, fun h => by cases h⟩
theorem provedFairWeights : Rows.FairWeightsSaid :=
  OpenClaim.holds_of_wide 3 Try.f3 rfl rfl rfl rfl rfl rfl rfl ⟨rfl, rfl, rfl, rfl, rfl⟩ rfl rfl rfl rfl rfl (by kernel_rfl) Try.func3 (by kernel_rfl)
    (of_decide_eq_true (by kernel_rfl)) (by unfold Func.isWrapper; first | (rw [if_pos (by decide +kernel)]; kernel_rfl) | (rw [if_neg (by decide +kernel)]; exact ⟨rfl, rfl⟩))
    (fun os started H enc _ => liftedFairWeights os started H enc)
#print axioms provedFairWeights
end Go.Proofs.Ytdnkliapcnfcoaa.fair
