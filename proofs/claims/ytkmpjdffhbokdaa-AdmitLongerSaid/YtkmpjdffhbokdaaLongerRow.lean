/- AdmitLonger: a longer request needs no fewer pages; an adapter's weights need what they take. Condition: none. -/
import Derived.Test.YtkmpjdffhbokdaaLon
namespace Go.Proofs.Ytkmpjdffhbokdaa.awk
open Go.ChangeShapes Go.WideShapes Go.ChangeAt Go.RowKit K Fl ldx cfg _root_.Go.Proofs.Ytkmpjdffhbokdaa.ask
set_option linter.unusedVariables false
set_option linter.unusedSimpArgs false
theorem slice_rd {H : Type} {enc : TypeId × Value → H} {P : Program} {w : World} {base : Nat} {held : Bool} {t e : TypeId} {fuel : Nat} {v : Value} {x : DataW H × List MemPlace} (ht : P.underlying t = some (.slice e)) (he : P.underlying e = some (.int .i64)) (hc : P.cellsOf e = 1)
    (h : DataW.trod enc P w base (fun _ => true) held fuel t [v] = some x) : ∃ (p : Option Addr) (n c : Nat) (xs : List Int), v = .slice p n c ∧ Rd w p n xs := by
  rcases open_ints ht he hc h with ⟨hcs, hx⟩ | ⟨a, len, cap, zs, hcs, _, hl, hm, hz, hx, hcell, hwz⟩
  · simp only [List.cons.injEq, and_true] at hcs
    exact ⟨none, 0, 0, [], hcs, rfl, by omega, fun h => absurd h (by omega)⟩
  · simp only [List.cons.injEq, and_true] at hcs
    simp only [if_true] at hz
    refine ⟨some a, len, cap, zs.take len, hcs, ?_, by unfold maxLen at hm; omega, fun hpos => ?_⟩
    · rw [List.length_take, hz]; omega
    · obtain ⟨b, off, rfl, hc2⟩ := _root_.Go.ints_at hcell (by omega)
      refine ⟨b, off, rfl, World.block_lt_of_cell? w ⟨b, off + 0, none⟩ (hc2 0 (by omega)), fun j hj => ?_⟩
      rw [hc2 j (by omega), List.getD_eq_getElem?_getD, List.getD_eq_getElem?_getD, List.getElem?_take, if_pos hj]
set_option maxRecDepth 100000 in
theorem liftedAdmitLonger (os : Os) (started : os.Started) (H : Type) (enc : TypeId × Value → H) :
    ReturnsInHanded {} Try.checked os 7 .any (Rows.admitLongerSpec.pre6 enc Try.prog Try.f7 Rows.admitLongerRow.domain false) (Rows.admitLongerSpec.post enc Try.prog Try.f7 false true false false) := by
  refine returnsInHanded_of_change_sized (C := Try.checked) own started (by kernel_rfl) Try.func7
    (ChangeSpec.witness6 (enc := enc) (C := Try.checked) false ⟨#[], #[.agg #[.int .i64 0, .int .i64 0, .int .i64 0, .int .i64 0, .int .i64 0, .int .i64 0, .int .i64 0, .int .i64 0], .agg #[.int .i64 0, .slice none 0 0, .int .i64 0, .int .i64 0, .int .u64 0, .int .i64 0, .float .f64 0, .int .i64 0, .int .i64 0], .int .i64 0], []⟩ 8 (by kernel_rfl) (by kernel_rfl) (by kernel_rfl) (by kernel_rfl)) ?_
  intro W base args ds gs before hval0 hW hcnd hsz0 _
  have hsz : (DataW.weightsEach Try.prog (Try.f7.params.toList ++ Rows.admitLongerSpec.plain.varTypes Try.prog) (ds ++ gs)).all (· ≤ reachBytes) = true := hsz0
  have hval : ∀ (j : Nat) t v, Try.f7.params[j]? = some t → args[j]? = some v → Value.okWide Try.prog W .any base t v := hval0
  have hW' := hW
  obtain ⟨p, q, hA0, hV, rfl, hfz, hnd⟩ := hW
  have hA : DataW.TrodAll enc Try.prog W 0 (fun _ => true) true Try.f7.params.toList args.toList ds p := hA0
  rw [Try.params7] at hA hval hsz
  have hAll := hA
  have hlt : ∀ x ∈ p, x.block < W.heap.size := fun x hx => hW'.lt x (by simp [hx])
  obtain ⟨v0, vs0, d0, ds0, p0, q0, hargs, rfl, rfl, h0, r0⟩ := trodAll_cons hA
  obtain ⟨v1, vs1, d1, ds1, p1, q1, rfl, rfl, rfl, h1, r1⟩ := trodAll_cons r0
  obtain ⟨v2, vs2, d2, ds2, p2, q2, rfl, rfl, rfl, h2, r2⟩ := trodAll_cons r1
  obtain ⟨rfl, rfl, rfl⟩ := trodAll_nil r2
  obtain rfl : args = #[v0, v1, v2] := by cases args; simp_all
  obtain ⟨rfl, rfl⟩ := trodVars_none hV
  obtain ⟨u0, u1, u2, u3, u4, u5, u6, u7, y0, y1, y2, y3, y4, y5, y6, y7, nf, rfl, -, -, g0, g1, g2, g3, g4, g5, g6, g7⟩ := open_agg8 Try.underlying33 (by kernel_rfl) (by kernel_rfl) (hval 0 33 v0 rfl rfl) h0
  obtain ⟨c0, e0, -⟩ := DataW.trod_int Try.underlying3 g0
  obtain ⟨c1, e1, -⟩ := DataW.trod_int Try.underlying3 g1
  obtain ⟨c2, e2, -⟩ := DataW.trod_int Try.underlying3 g2
  obtain ⟨c3, e3, -⟩ := DataW.trod_int Try.underlying3 g3
  obtain ⟨c4, e4, -⟩ := DataW.trod_int Try.underlying3 g4
  obtain ⟨c5, e5, -⟩ := DataW.trod_int Try.underlying3 g5
  obtain ⟨c6, e6, -⟩ := DataW.trod_int Try.underlying3 g6
  obtain ⟨c7, e7, -⟩ := DataW.trod_int Try.underlying3 g7
  simp only [List.cons.injEq, and_true] at e0 e1 e2 e3 e4 e5 e6 e7
  subst e0 e1 e2 e3 e4 e5 e6 e7
  obtain ⟨s0, s1, s2, s3, s4, s5, s6, s7, s8, z0, z1, z2, z3, z4, z5, z6, z7, z8, nf2, rfl, -, -, k0, k1, k2, k3, k4, k5, k6, k7, k8⟩ := open_agg9 Try.underlying38 (by kernel_rfl) (by kernel_rfl) (hval 1 38 v1 rfl rfl) h1
  obtain ⟨q0, e0, -⟩ := DataW.trod_int Try.underlying3 k0
  obtain ⟨q2, e2, -⟩ := DataW.trod_int Try.underlying3 k2
  obtain ⟨q3, e3, -⟩ := DataW.trod_int Try.underlying3 k3
  obtain ⟨q4, e4, -⟩ := DataW.trod_int Try.underlying35 k4
  obtain ⟨q5, e5, -⟩ := DataW.trod_int Try.underlying3 k5
  obtain ⟨q6, e6, -, w6⟩ := trod_float Try.underlying36 k6
  obtain ⟨q7, e7, -⟩ := DataW.trod_int Try.underlying3 k7
  obtain ⟨q8, e8, -⟩ := DataW.trod_int Try.underlying3 k8
  simp only [List.cons.injEq, and_true] at e0 e2 e3 e4 e5 e6 e7 e8
  subst e0 e2 e3 e4 e5 e6 e7 e8
  obtain ⟨pp, nn, cc, xs, rfl, hrd⟩ := slice_rd Try.underlying34 Try.underlying3 (by kernel_rfl) k1
  have hh : q6 < 2 ^ 64 := by simpa [Lit.wf] using w6
  obtain ⟨a2, rfl, rfl, rfl, w2⟩ := open_int Try.underlying3 (hval 2 3 v2 rfl rfl) h2
  refine (longer_walk c0 c1 c2 c3 c4 c5 c6 c7 q0 pp nn cc q2 q3 q4 q5 q6 q7 q8 xs hh a2 W hrd).mono fun e W' hpost => ?_
  obtain ⟨rfl, bel⟩ := hpost
  exact ⟨_, rfl, _, _, _, [], _, [], hW', trodAll_mk1 (shut_bool Try.underlying4 _), trodAll_below laidOut _ (by kernel_rfl) hAll bel hlt, rfl, bel.frame _, fun h => by cases h⟩
theorem provedAdmitLonger : Rows.AdmitLongerSaid :=
  OpenClaim.holds_of_wide 7 Try.f7 rfl rfl rfl rfl rfl rfl rfl ⟨rfl, rfl, rfl, rfl, rfl⟩ rfl rfl rfl rfl rfl (by kernel_rfl) Try.func7 (by kernel_rfl)
    (of_decide_eq_true (by kernel_rfl)) (by unfold Func.isWrapper; first | (rw [if_pos (by decide +kernel)]; kernel_rfl) | (rw [if_neg (by decide +kernel)]; exact ⟨rfl, rfl⟩))
    (fun os started H enc _ => liftedAdmitLonger os started H enc)
#print axioms provedAdmitLonger
end Go.Proofs.Ytkmpjdffhbokdaa.awk
