/- Contracts of admit.Decide, the reference's Decide, and the law's own 'to', over the translation. -/
import Derived.Test.YtkmpjdffhbokdaaK
import Derived.Deep.RegionHeld3
import Derived.Deep.DrawnRows
namespace Go.Proofs.Ytkmpjdffhbokdaa.dec
open Go.ChangeShapes Go.WideShapes Go.ChangeAt Go.RowKit K
set_option linter.unusedVariables false
set_option linter.unusedSimpArgs false
abbrev facts (t tw m d ad : Bool) (asked waiting need room : Int) : Value :=
  .agg #[.bool t, .bool tw, .bool m, .bool d, .bool ad, .int .i64 asked, .int .i64 waiting, .int .i64 need, .int .i64 room]
def decF (t tw m d ad : Bool) (asked waiting need room : Int) : Int :=
  if t = false then 1 else if tw = true then 1 else if m = false then 2 else if ad = false then 2 else if d = true then 8 else
  if asked ≠ 0 then asked else if 16 ≤ waiting then 5 else if room < need then 6 else 0

theorem dec11 (t tw m d ad : Bool) (asked waiting need room : Int) (w : World) :
    Calls Try.prog 11 #[facts t tw m d ad asked waiting need room] w fun e w' => e = .returned (.int .i64 (decF t tw m d ad asked waiting need room)) ∧ Below w.heap.size w w' := by
  cases t <;> cases tw <;> cases m <;> cases ad <;> cases d <;> (go_enter Try.func11, Try.ntmps11; go_wp2) <;> (go_ret; refine ⟨ret_int ?_, (Below.refl _ _).alloc (Nat.le_refl _) _⟩; simp_all [decF]; try omega)
theorem dec13 (t tw m d ad : Bool) (asked waiting need room : Int) (w : World) :
    Calls Try.prog 13 #[facts t tw m d ad asked waiting need room] w fun e w' => e = .returned (.int .i64 (decF t tw m d ad asked waiting need room)) ∧ Below w.heap.size w w' := by
  cases t <;> cases tw <;> cases m <;> cases ad <;> cases d <;> (go_enter Try.func13, Try.ntmps13; go_wp2) <;> (go_ret; refine ⟨ret_int ?_, (Below.refl _ _).alloc (Nat.le_refl _) _⟩; simp_all [decF]; try omega)
theorem to12 (t tw m d ad : Bool) (asked waiting need room : Int) (w : World) :
    Calls Try.prog 12 #[facts t tw m d ad asked waiting need room] w fun e w' => e = .returned (facts t tw m d ad asked waiting need room) ∧ Below w.heap.size w w' := by
  go_enter Try.func12, Try.ntmps12
  go_wp2
  exact bodyPost_ret (v := facts t tw m d ad asked waiting need room) (by simp [results, Try.results12, go_sem]) rfl ⟨rfl, by repeat (first | exact Below.refl _ _ | refine Below.alloc ?_ (by simp) _)⟩
theorem bcell {W w1 : World} (hb : Below W.heap.size W w1) : (∀ b o, b < W.heap.size → w1.cell? ⟨b, o, none⟩ = W.cell? ⟨b, o, none⟩) ∧ (∀ b o, b < W.heap.size → w1.frozen? ⟨b, o, none⟩ = W.frozen? ⟨b, o, none⟩) :=
  ⟨fun b o h => hb.cell (p := ⟨b, o, none⟩) h, fun b o h => hb.frozen (p := ⟨b, o, none⟩) h⟩
theorem law4 (t tw m d ad : Bool) (asked waiting need room : Int) (w : World) :
    Calls Try.prog 4 #[facts t tw m d ad asked waiting need room] w fun e w' => e = .returned (.bool true) ∧ Below w.heap.size w w' := by
  go_enter Try.func4, Try.ntmps4
  go_wp2_with fail
  go_region_held3 (fun w' => w'.cell? ⟨w.heap.size, 0, none⟩ = some (.bool t) ∧ w'.cell? ⟨w.heap.size, 1, none⟩ = some (.bool tw) ∧ w'.cell? ⟨w.heap.size, 2, none⟩ = some (.bool m) ∧ w'.cell? ⟨w.heap.size, 3, none⟩ = some (.bool d)
    ∧ w'.cell? ⟨w.heap.size, 4, none⟩ = some (.bool ad) ∧ w'.cell? ⟨w.heap.size, 5, none⟩ = some (.int .i64 asked) ∧ w'.cell? ⟨w.heap.size, 6, none⟩ = some (.int .i64 waiting) ∧ w'.cell? ⟨w.heap.size, 7, none⟩ = some (.int .i64 need) ∧ w'.cell? ⟨w.heap.size, 8, none⟩ = some (.int .i64 room))
    (first | go_keep | (go_split_ands; refine ⟨?_, ?_, ?_, ?_, ?_, ?_, ?_, ?_, ?_⟩ <;> (first | (rw [hb3.cell (by simp; omega)]) | (rw [hb2.cell (by simp; omega)]) | (rw [hb1.cell (by simp)])) <;> first | assumption | simp))
    (first | (go_at_call 12; refine (to12 _ _ _ _ _ _ _ _ _ _).mono ?_; rintro e w1 ⟨rfl, hb1⟩; have hz1 := hb1.size; try simp at hz1) | (go_at_call 11; refine (dec11 _ _ _ _ _ _ _ _ _ _).mono ?_; rintro e w2 ⟨rfl, hb2⟩; have hz2 := hb2.size; try simp at hz2) | (go_at_call 13; refine (dec13 _ _ _ _ _ _ _ _ _ _).mono ?_; rintro e w3 ⟨rfl, hb3⟩; have hz3 := hb3.size; try simp at hz3))
  go_wp2
  go_ret
  refine ⟨rfl, ?_⟩
  have e0 : Below w.heap.size w (w.alloc (.cells #[.bool t, .bool tw, .bool m, .bool d, .bool ad, .int .i64 asked, .int .i64 waiting, .int .i64 need, .int .i64 room] 26)) := (Below.refl _ _).alloc (Nat.le_refl _) _
  exact ((e0.drew.trans (hb1.mono (B' := w.heap.size) (by simp))).trans (hb2.mono (B' := w.heap.size) (by omega))).trans (hb3.mono (B' := w.heap.size) (by omega))
/- ROW -/
set_option maxRecDepth 100000 in
theorem liftedAdmitDecides (os : Os) (started : os.Started) (H : Type) (enc : TypeId × Value → H) :
    ReturnsInHanded {} Try.checked os 4 .any (Rows.admitDecidesSpec.pre6 enc Try.prog Try.f4 Rows.admitDecidesRow.domain false) (Rows.admitDecidesSpec.post enc Try.prog Try.f4 false true false false) := by
  refine returnsInHanded_of_change_sized (C := Try.checked) own started (by kernel_rfl) Try.func4
    (ChangeSpec.witness6 (enc := enc) (C := Try.checked) false ⟨#[], #[.agg #[.bool false, .bool false, .bool false, .bool false, .bool false, .int .i64 0, .int .i64 0, .int .i64 0, .int .i64 0]], []⟩ 8 (by kernel_rfl) (by kernel_rfl) (by kernel_rfl) (by kernel_rfl)) ?_
  intro W base args ds gs before hval0 hW hcnd hsz0 _
  have hsz : (DataW.weightsEach Try.prog (Try.f4.params.toList ++ Rows.admitDecidesSpec.plain.varTypes Try.prog) (ds ++ gs)).all (· ≤ reachBytes) = true := hsz0
  have hval : ∀ (j : Nat) t v, Try.f4.params[j]? = some t → args[j]? = some v → Value.okWide Try.prog W .any base t v := hval0
  have hW' := hW
  obtain ⟨p, q, hA0, hV, rfl, hfz, hnd⟩ := hW
  have hA : DataW.TrodAll enc Try.prog W 0 (fun _ => true) true Try.f4.params.toList args.toList ds p := hA0
  rw [Try.params4] at hA hval hsz
  have hAll := hA
  have hlt : ∀ x ∈ p, x.block < W.heap.size := fun x hx => hW'.lt x (by simp [hx])
  obtain ⟨v0, vs0, d0, ds0, p0, q0, hargs, rfl, rfl, h0, r0⟩ := trodAll_cons hA
  obtain ⟨rfl, rfl, rfl⟩ := trodAll_nil r0
  obtain rfl : args = #[v0] := by cases args; simp_all
  obtain ⟨rfl, rfl⟩ := trodVars_none hV
  obtain ⟨u0, u1, u2, u3, u4, u5, u6, u7, u8, y0, y1, y2, y3, y4, y5, y6, y7, y8, nf, rfl, -, -, g0, g1, g2, g3, g4, g5, g6, g7, g8⟩ := open_agg9 Try.underlying26 (by kernel_rfl) (by kernel_rfl) (hval 0 26 v0 rfl rfl) h0
  obtain ⟨b0, e0, -⟩ := DataW.trod_bool Try.underlying4 g0
  obtain ⟨b1, e1, -⟩ := DataW.trod_bool Try.underlying4 g1
  obtain ⟨b2, e2, -⟩ := DataW.trod_bool Try.underlying4 g2
  obtain ⟨b3, e3, -⟩ := DataW.trod_bool Try.underlying4 g3
  obtain ⟨b4, e4, -⟩ := DataW.trod_bool Try.underlying4 g4
  obtain ⟨n5, e5, -⟩ := DataW.trod_int Try.underlying22 g5
  obtain ⟨n6, e6, -⟩ := DataW.trod_int Try.underlying3 g6
  obtain ⟨n7, e7, -⟩ := DataW.trod_int Try.underlying3 g7
  obtain ⟨n8, e8, -⟩ := DataW.trod_int Try.underlying3 g8
  simp only [List.cons.injEq, and_true] at e0 e1 e2 e3 e4 e5 e6 e7 e8
  subst e0 e1 e2 e3 e4 e5 e6 e7 e8
  refine (law4 b0 b1 b2 b3 b4 n5 n6 n7 n8 W).mono fun e W' hpost => ?_
  obtain ⟨rfl, bel⟩ := hpost
  exact ⟨_, rfl, _, _, _, [], _, [], hW', trodAll_mk1 (shut_bool Try.underlying4 _), trodAll_below laidOut _ (by kernel_rfl) hAll bel hlt, rfl, bel.frame _, fun h => by cases h⟩
theorem provedAdmitDecides : Rows.AdmitDecidesSaid :=
  OpenClaim.holds_of_wide 4 Try.f4 rfl rfl rfl rfl rfl rfl rfl ⟨rfl, rfl, rfl, rfl, rfl⟩ rfl rfl rfl rfl rfl (by kernel_rfl) Try.func4 (by kernel_rfl)
    (of_decide_eq_true (by kernel_rfl)) (by unfold Func.isWrapper; first | (rw [if_pos (by decide +kernel)]; kernel_rfl) | (rw [if_neg (by decide +kernel)]; exact ⟨rfl, rfl⟩))
    (fun os started H enc _ => liftedAdmitDecides os started H enc)
#print axioms provedAdmitDecides
end Go.Proofs.Ytkmpjdffhbokdaa.dec
