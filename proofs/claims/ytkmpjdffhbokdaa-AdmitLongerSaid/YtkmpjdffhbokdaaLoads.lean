/- AdmitLoads: admit.Load and the reference's Load give the same outcome on every input. Condition: none. -/
import Derived.Test.YtkmpjdffhbokdaaRows
import Derived.WalkKit
import Derived.WalkLawsBesides
import Derived.ProofKit
import Derived.OpenShut
import Derived.Below
import Derived.SizedLaws
import Derived.Outline
namespace Go.Proofs.Ytkmpjdffhbokdaa.loads
open Go.ChangeShapes Go.WideShapes Go.ChangeAt Go.RowKit
set_option linter.unusedVariables false
set_option linter.unusedSimpArgs false

def loadF (right taken : Bool) (need room most : Int) : Int :=
  if right = false then 1 else if taken = true then 3 else if room < need then 6 else
  if IntKind.u64.wrap (IntKind.u64.wrap room - IntKind.u64.wrap need) < IntKind.u64.wrap (if most < 0 then 0 else most) then 6 else 0

theorem ret_int {k : IntKind} {a b : Int} (h : a = b) : Ending.returned (.int k a) = .returned (.int k b) := by rw [h]

def mostF (most : Int) : Int := if most < 0 then 0 else most
theorem loadF_eq (a b : Bool) (n r m c : Int) (hc : mostF m = c) : loadF a b n r m =
    if a = false then 1 else if b = true then 3 else if r < n then 6 else
    if IntKind.u64.wrap (IntKind.u64.wrap r - IntKind.u64.wrap n) < IntKind.u64.wrap c then 6 else 0 := by subst hc; rfl
theorem end_taken (n r m : Int) : loadF true true n r m = 3 := rfl
theorem end_no (b : Bool) (n r m : Int) : loadF false b n r m = 1 := rfl
theorem end_need (n r m : Int) (h : r < n) : loadF true false n r m = 6 := by simp [loadF, h]
theorem end_left (n r m c : Int) (h1 : n ≤ r) (hc : mostF m = c) (h : IntKind.u64.wrap (IntKind.u64.wrap r - IntKind.u64.wrap n) < IntKind.u64.wrap c) : loadF true false n r m = 6 := by
  rw [loadF_eq _ _ _ _ _ c hc]
  have : ¬ r < n := by omega
  simp [this, h]
theorem end_ok (n r m c : Int) (h1 : n ≤ r) (hc : mostF m = c) (h : IntKind.u64.wrap c ≤ IntKind.u64.wrap (IntKind.u64.wrap r - IntKind.u64.wrap n)) : loadF true false n r m = 0 := by
  rw [loadF_eq _ _ _ _ _ c hc]
  have : ¬ r < n := by omega
  have h2 : ¬ IntKind.u64.wrap (IntKind.u64.wrap r - IntKind.u64.wrap n) < IntKind.u64.wrap c := by omega
  simp [this, h2]
theorem most_a (m : Int) : mostF m = if m < 0 then 0 else m := rfl
theorem most_b (m : Int) : mostF m = if 0 < m then m else 0 := by unfold mostF; repeat' split <;> omega
theorem most_c (m : Int) (h : m < 0) : mostF m = 0 := by unfold mostF; rw [if_pos h]
theorem most_d (m : Int) (h : 0 ≤ m) : mostF m = m := by unfold mostF; rw [if_neg (by omega)]
theorem most_e (m : Int) (h : m ≤ 0) : mostF m = 0 := by unfold mostF; split <;> omega
theorem most_f (m : Int) (h : 0 < m) : mostF m = m := by unfold mostF; split <;> omega

theorem load9 (a b : Bool) (n r m : Int) (w : World) :
    Calls Try.prog 9 #[.bool a, .bool b, .int .i64 n, .int .i64 r, .int .i64 m] w fun e w' => e = .returned (.int .i64 (loadF a b n r m)) ∧ w = w' := by
  cases a <;> cases b <;> go_enter Try.func9, Try.ntmps9 <;> go_wp2 <;> go_ret <;> refine ⟨ret_int ?_, rfl⟩
  all_goals first | exact (end_no ..).symm | exact (end_taken ..).symm | exact (end_need _ _ _ ‹_›).symm | exact (end_left _ _ _ _ ‹_› (by first | exact most_a _ | exact most_c _ ‹_› | exact most_d _ ‹_›) ‹_›).symm | exact (end_ok _ _ _ _ ‹_› (by first | exact most_a _ | exact most_c _ ‹_› | exact most_d _ ‹_›) ‹_›).symm
theorem load10 (a b : Bool) (n r m : Int) (w : World) :
    Calls Try.prog 10 #[.bool a, .bool b, .int .i64 n, .int .i64 r, .int .i64 m] w fun e w' => e = .returned (.int .i64 (loadF a b n r m)) ∧ w = w' := by
  cases a <;> cases b <;> go_enter Try.func10, Try.ntmps10 <;> go_wp2 <;> go_ret <;> refine ⟨ret_int ?_, rfl⟩
  all_goals first | exact (end_no ..).symm | exact (end_taken ..).symm | exact (end_need _ _ _ ‹_›).symm | exact (end_left _ _ _ _ ‹_› (by first | exact most_b _ | exact most_e _ ‹_› | exact most_f _ ‹_›) ‹_›).symm | exact (end_ok _ _ _ _ ‹_› (by first | exact most_b _ | exact most_e _ ‹_› | exact most_f _ ‹_›) ‹_›).symm
theorem law3 (a b : Bool) (n r m : Int) (w : World) :
    Calls Try.prog 3 #[.bool a, .bool b, .int .i64 n, .int .i64 r, .int .i64 m] w fun e w' => e = .returned (.bool true) ∧ w = w' := by
  go_enter Try.func3, Try.ntmps3
  go_wp2_with (first | (go_at_call 9; refine (load9 _ _ _ _ _ _).mono ?_; rintro e w' ⟨rfl, rfl⟩) | (go_at_call 10; refine (load10 _ _ _ _ _ _).mono ?_; rintro e w' ⟨rfl, rfl⟩))
  go_ret
  exact ⟨by simp, rfl⟩
end Go.Proofs.Ytkmpjdffhbokdaa.loads
namespace Go.Proofs.Ytkmpjdffhbokdaa.loads
open Go.ChangeShapes Go.WideShapes Go.ChangeAt Go.RowKit
theorem own : ownKnob Try.prog.godebug = none := by kernel_rfl
set_option maxRecDepth 100000 in
theorem lifted (os : Os) (started : os.Started) (H : Type) (enc : TypeId × Value → H) :
    ReturnsInHanded {} Try.checked os 3 .any (Rows.admitLoadsSpec.pre6 enc Try.prog Try.f3 Rows.admitLoadsRow.domain false) (Rows.admitLoadsSpec.post enc Try.prog Try.f3 false true false false) := by
  refine returnsInHanded_of_change_sized (C := Try.checked) own started (by kernel_rfl) Try.func3
    (ChangeSpec.witness6 (enc := enc) (C := Try.checked) false ⟨#[], #[.bool false, .bool false, .int .i64 0, .int .i64 0, .int .i64 0], []⟩ 8 (by kernel_rfl) (by kernel_rfl) (by kernel_rfl) (by kernel_rfl)) ?_
  intro W base args ds gs before hval0 hW hcnd hsz0 _
  have hval : ∀ (j : Nat) t v, Try.f3.params[j]? = some t → args[j]? = some v → Value.okWide Try.prog W .any base t v := hval0
  have hW' := hW
  obtain ⟨p, q, hA0, hV, rfl, hfz, hnd⟩ := hW
  have hA : DataW.TrodAll enc Try.prog W 0 (fun _ => true) true Try.f3.params.toList args.toList ds p := hA0
  rw [Try.params3] at hA hval
  obtain ⟨v0, vs0, d0, ds0, p0, q0, hargs, rfl, rfl, h0, r0⟩ := trodAll_cons hA
  obtain ⟨v1, vs1, d1, ds1, p1, q1, rfl, rfl, rfl, h1, r1⟩ := trodAll_cons r0
  obtain ⟨v2, vs2, d2, ds2, p2, q2, rfl, rfl, rfl, h2, r2⟩ := trodAll_cons r1
  obtain ⟨v3, vs3, d3, ds3, p3, q3, rfl, rfl, rfl, h3, r3⟩ := trodAll_cons r2
  obtain ⟨v4, vs4, d4, ds4, p4, q4, rfl, rfl, rfl, h4, r4⟩ := trodAll_cons r3
  obtain ⟨rfl, rfl, rfl⟩ := trodAll_nil r4
  obtain rfl : args = #[v0, v1, v2, v3, v4] := by cases args; simp_all
  obtain ⟨rfl, rfl⟩ := trodVars_none hV
  obtain ⟨a0, rfl, rfl, rfl⟩ := open_bool Try.underlying4 (hval 0 4 v0 rfl rfl) h0
  obtain ⟨a1, rfl, rfl, rfl⟩ := open_bool Try.underlying4 (hval 1 4 v1 rfl rfl) h1
  obtain ⟨a2, rfl, rfl, rfl, w2⟩ := open_int Try.underlying3 (hval 2 3 v2 rfl rfl) h2
  obtain ⟨a3, rfl, rfl, rfl, w3⟩ := open_int Try.underlying3 (hval 3 3 v3 rfl rfl) h3
  obtain ⟨a4, rfl, rfl, rfl, w4⟩ := open_int Try.underlying3 (hval 4 3 v4 rfl rfl) h4
  clear hA0 hval0 hsz0
  refine (law3 a0 a1 a2 a3 a4 W).mono fun e W' ⟨he, hw⟩ => ?_
  subst he hw
  exact ⟨_, rfl, _, _, _, [], _, [], hW', trodAll_mk1 (shut_bool Try.underlying4 _), (trodAll_cons_mk (shut_bool Try.underlying4 _) (trodAll_cons_mk (shut_bool Try.underlying4 _) (trodAll_cons_mk (shut_int Try.underlying3 w2) (trodAll_cons_mk (shut_int Try.underlying3 w3) (trodAll_cons_mk (shut_int Try.underlying3 w4) trodAll_mk0))))), rfl, World.keptBut_refl _ _, fun h => by cases h⟩
theorem over : Rows.admitLoadsRow.holds Try.pinned (OpenSpec.ofChange Rows.admitLoadsSpec) :=
  OpenClaim.holds_of_wide 3 Try.f3 rfl rfl rfl rfl rfl rfl rfl ⟨rfl, rfl, rfl, rfl, rfl⟩ rfl rfl rfl rfl rfl (by kernel_rfl) Try.func3 (by kernel_rfl)
    (of_decide_eq_true (by kernel_rfl)) (by unfold Func.isWrapper; first | (rw [if_pos (by decide +kernel)]; kernel_rfl) | (rw [if_neg (by decide +kernel)]; exact ⟨rfl, rfl⟩))
    (fun os started H enc _ => lifted os started H enc)
theorem proved : Rows.AdmitLoadsSaid := over
#print axioms proved
end Go.Proofs.Ytkmpjdffhbokdaa.loads
