/- AdmitOne: the walk. -/
import Derived.Test.YtkmpjdffhbokdaaAWk
import Derived.BigRegion
import Derived.Deep.RegionHeld3
namespace Go.Proofs.Ytkmpjdffhbokdaa.awk
open Go.ChangeShapes Go.WideShapes Go.ChangeAt Go.RowKit K Fl ldx cfg _root_.Go.Proofs.Ytkmpjdffhbokdaa.ask
open dec (facts decF dec11 dec13 to12)
set_option linter.unusedVariables false
set_option linter.unusedSimpArgs false
/-- Facts, with the n-th of them wrong. -/
def worseF (t tw m d ad : Bool) (asked waiting need room n : Int) : Value :=
  facts (t && decide (n ≠ 0)) (tw || decide (n = 1)) (m && decide (n ≠ 2)) (d || decide (n = 4)) (ad && decide (n ≠ 3)) (if n = 5 then 4 else asked) (if n = 6 then 16 else waiting) need (if n ∈ [0, 1, 2, 3, 4, 5, 6] then room else 1)
theorem worse_c (t tw m d ad : Bool) (asked waiting need room n : Int) (w : World) :
    Calls Try.prog 17 #[facts t tw m d ad asked waiting need room, .int .i64 n] w fun e w' => e = .returned (worseF t tw m d ad asked waiting need room n) ∧ Below w.heap.size w w' := by
  have hn : n = 0 ∨ n = 1 ∨ n = 2 ∨ n = 3 ∨ n = 4 ∨ n = 5 ∨ n = 6 ∨ (n ≠ 0 ∧ n ≠ 1 ∧ n ≠ 2 ∧ n ≠ 3 ∧ n ≠ 4 ∧ n ≠ 5 ∧ n ≠ 6) := by omega
  rcases hn with rfl | rfl | rfl | rfl | rfl | rfl | rfl | ⟨h0, h1, h2, h3, h4, h5, h6⟩
  all_goals
    go_enter Try.func17, Try.ntmps17
    go_wp2
    refine bodyPost_ret (v := worseF _ _ _ _ _ _ _ _ _ _) (by simp_all [results, Try.results17, go_sem, worseF, facts]) rfl ⟨rfl, by repeat (first | exact Below.refl _ _ | refine Below.alloc ?_ (by simp) _ | refine Below.setCell ?_ (by simp) _)⟩
def wantI (n : Int) : Int := if n = 0 then 1 else if n = 1 then 1 else if n = 2 then 2 else if n = 3 then 2 else if n = 4 then 8 else if n = 5 then 4 else if n = 6 then 5 else 6
theorem one_plain : ∀ a b : Fin 8, (fun (a b : Int) =>
    decF (((true && decide (a ≠ 0)) && decide (b ≠ 0))) ((false || decide (a = 1)) || decide (b = 1)) ((true && decide (a ≠ 2)) && decide (b ≠ 2)) ((false || decide (a = 4)) || decide (b = 4)) ((true && decide (a ≠ 3)) && decide (b ≠ 3)) (if b = 5 then 4 else (if a = 5 then 4 else 0)) (if b = 6 then 16 else (if a = 6 then 16 else 0)) 2 (if b ∈ [0, 1, 2, 3, 4, 5, 6] then (if a ∈ [0, 1, 2, 3, 4, 5, 6] then 2 else 1) else 1) = wantI (if b < a then b else a)) (a.val : Int) (b.val : Int) := by decide +kernel
theorem one_pl (A B : Int) (hA : 0 ≤ A ∧ A < 8) (hB : 0 ≤ B ∧ B < 8) : decF (((true && decide (A ≠ 0)) && decide (B ≠ 0))) ((false || decide (A = 1)) || decide (B = 1)) ((true && decide (A ≠ 2)) && decide (B ≠ 2)) ((false || decide (A = 4)) || decide (B = 4)) ((true && decide (A ≠ 3)) && decide (B ≠ 3)) (if B = 5 then 4 else (if A = 5 then 4 else 0)) (if B = 6 then 16 else (if A = 6 then 16 else 0)) 2 (if B ∈ [0, 1, 2, 3, 4, 5, 6] then (if A ∈ [0, 1, 2, 3, 4, 5, 6] then 2 else 1) else 1) = wantI (if B < A then B else A) := by
  have h := one_plain ⟨A.toNat, by omega⟩ ⟨B.toNat, by omega⟩
  simp only [Int.toNat_of_nonneg hA.1, Int.toNat_of_nonneg hB.1] at h
  exact h
theorem small8 (a : Int) : 0 ≤ wrap64 ((IntKind.u64.wrap a).tmod 8) ∧ wrap64 ((IntKind.u64.wrap a).tmod 8) < 8 := by
  have h0 : 0 ≤ IntKind.u64.wrap a := by
    have : IntKind.u64.wrap a = a % 2 ^ 64 := rfl
    omega
  have h1 : (IntKind.u64.wrap a).tmod 8 = IntKind.u64.wrap a % 8 := Int.tmod_eq_emod_of_nonneg h0
  rw [h1]
  have : wrap64 (IntKind.u64.wrap a % 8) = IntKind.u64.wrap a % 8 := by unfold wrap64; omega
  omega
def wantC : Array Value := #[.int .i64 1, .int .i64 1, .int .i64 2, .int .i64 2, .int .i64 8, .int .i64 4, .int .i64 5, .int .i64 6]
theorem want_cell (w : World) (b : Nat) (h : Bk w b wantC 22) (m : Int) (hm : 0 ≤ m ∧ m < 8) : w.cell? ⟨b, m.toNat, none⟩ = some (.int .i64 (wantI m)) := by
  have : m = 0 ∨ m = 1 ∨ m = 2 ∨ m = 3 ∨ m = 4 ∨ m = 5 ∨ m = 6 ∨ m = 7 := by omega
  rcases this with rfl | rfl | rfl | rfl | rfl | rfl | rfl | rfl <;> exact h.cell _ _ rfl
theorem held10 {t' tw' mo' d' ad' : Bool} {asked' waiting' need' room' m W : Int} {b0 b1 : Nat} {w' : World} (hm : 0 ≤ m ∧ m < 8) (hW : wantI m = W)
    (h0 : Bk w' b0 wantC 22) (h1 : Bk w' b1 #[.bool t', .bool tw', .bool mo', .bool d', .bool ad', .int .i64 asked', .int .i64 waiting', .int .i64 need', .int .i64 room'] 26) :
    w'.cell? ⟨b1, 0, none⟩ = some (.bool t') ∧ w'.cell? ⟨b1, 1, none⟩ = some (.bool tw') ∧ w'.cell? ⟨b1, 2, none⟩ = some (.bool mo') ∧ w'.cell? ⟨b1, 3, none⟩ = some (.bool d') ∧ w'.cell? ⟨b1, 4, none⟩ = some (.bool ad') ∧ w'.cell? ⟨b1, 5, none⟩ = some (.int .i64 asked') ∧ w'.cell? ⟨b1, 6, none⟩ = some (.int .i64 waiting') ∧ w'.cell? ⟨b1, 7, none⟩ = some (.int .i64 need') ∧ w'.cell? ⟨b1, 8, none⟩ = some (.int .i64 room') ∧ w'.cell? ⟨b0, m.toNat, none⟩ = some (.int .i64 W) :=
  ⟨h1.cell 0 _ rfl, h1.cell 1 _ rfl, h1.cell 2 _ rfl, h1.cell 3 _ rfl, h1.cell 4 _ rfl, h1.cell 5 _ rfl, h1.cell 6 _ rfl, h1.cell 7 _ rfl, h1.cell 8 _ rfl, hW ▸ want_cell w' b0 h0 m hm⟩
theorem one_at (a b A B : Int) (ha : wrap64 ((IntKind.u64.wrap a).tmod 8) = A) (hb : wrap64 ((IntKind.u64.wrap b).tmod 8) = B) (m : Int) (hm : 0 ≤ m ∧ m < 8) (hmin : (if B < A then B else A) = m)
    (t tw mo d ad : Bool) (asked waiting need room : Int) (t' tw' mo' d' ad' : Bool) (asked' waiting' need' room' : Int)
    (C1 : ∀ w, Calls Try.prog 17 #[facts true false true false true 0 0 2 2, .int .i64 A] w fun e w' => e = .returned (facts t tw mo d ad asked waiting need room) ∧ Below w.heap.size w w')
    (C2 : ∀ w, Calls Try.prog 17 #[facts t tw mo d ad asked waiting need room, .int .i64 B] w fun e w' => e = .returned (facts t' tw' mo' d' ad' asked' waiting' need' room') ∧ Below w.heap.size w w')
    (hd : decF t' tw' mo' d' ad' asked' waiting' need' room' = wantI m) (w : World) :
    Calls Try.prog 8 #[.int .i64 a, .int .i64 b] w fun e w' => e = .returned (.bool true) ∧ Below w.heap.size w w' := by
  have HM := Lib.hid hm
  obtain ⟨hm0, hm1⟩ := hm
  have D1 := Lib.hid (fun w => dec11 t' tw' mo' d' ad' asked' waiting' need' room' w)
  rw [hd] at D1
  generalize hW : wantI m = W at D1
  have HW := Lib.hid hW
  have HA := Lib.hid ha
  have HB := Lib.hid hb
  have K1 := Lib.hid C1
  have K2 := Lib.hid C2
  clear hd hW ha hb C1 C2
  go_enter Try.func8, Try.ntmps8
  go_wp2_with fail
  refine (works_true _).mono ?_
  rintro e w1 ⟨rfl, hb1⟩
  go_wp2_with fail
  rw [HA.out, HB.out]
  refine (K1.out _).mono ?_
  rintro e w2 ⟨rfl, hb2⟩
  go_wp2_with fail
  refine (K2.out _).mono ?_
  rintro e w3 ⟨rfl, hb3⟩
  go_wp2_with fail
  have hz2 := hb2.size
  have hz3 := hb3.size
  simp at hz2
  have t2 : w1.heap.size < w2.heap.size := by omega
  have t3 : w1.heap.size < w3.heap.size := by omega
  have t4 : w1.heap.size ≠ w3.heap.size := by omega
  have B0 : Bk (w3.alloc (.cells #[.bool t', .bool tw', .bool mo', .bool d', .bool ad', .int .i64 asked', .int .i64 waiting', .int .i64 need', .int .i64 room'] 26)) w1.heap.size wantC 22 := (((Bk.new w1 wantC 22).below hb2 (by simp)).below hb3 t2).alloc _
  have B1 : Bk (w3.alloc (.cells #[.bool t', .bool tw', .bool mo', .bool d', .bool ad', .int .i64 asked', .int .i64 waiting', .int .i64 need', .int .i64 room'] 26)) w3.heap.size #[.bool t', .bool tw', .bool mo', .bool d', .bool ad', .int .i64 asked', .int .i64 waiting', .int .i64 need', .int .i64 room'] 26 := Bk.new _ _ _
  have bel : Below w.heap.size w (w3.alloc (.cells #[.bool t', .bool tw', .bool mo', .bool d', .bool ad', .int .i64 asked', .int .i64 waiting', .int .i64 need', .int .i64 room'] 26)) :=
    (below_step (below_step ((below_step (Below.refl _ w) hb1).alloc hb1.size _) hb2) hb3).alloc (Nat.le_trans hb1.size (Nat.le_of_lt t3)) _
  have sz1 : w1.heap.size < (w3.alloc (.cells #[.bool t', .bool tw', .bool mo', .bool d', .bool ad', .int .i64 asked', .int .i64 waiting', .int .i64 need', .int .i64 room'] 26)).drew.heap.size := by show w1.heap.size < (w3.alloc _).heap.size; simp; omega
  have sz3 : w3.heap.size < (w3.alloc (.cells #[.bool t', .bool tw', .bool mo', .bool d', .bool ad', .int .i64 asked', .int .i64 waiting', .int .i64 need', .int .i64 room'] 26)).drew.heap.size := by show w3.heap.size < (w3.alloc _).heap.size; simp
  generalize w3.alloc (.cells #[.bool t', .bool tw', .bool mo', .bool d', .bool ad', .int .i64 asked', .int .i64 waiting', .int .i64 need', .int .i64 room'] 26) = w4 at *
  generalize w3.heap.size = G3 at *
  generalize w1.heap.size = G1 at *
  have HB4 := Lib.hid bel
  have B0d := B0.drew
  have B1d := B1.drew
  have S1 := Lib.hid sz1
  have S3 := Lib.hid sz3
  clear hb1 hb2 hb3 hz2 hz3 t2 t3 bel sz1 sz3
  go_region_held3 (fun w' => w'.cell? ⟨G3, 0, none⟩ = some (.bool t') ∧ w'.cell? ⟨G3, 1, none⟩ = some (.bool tw') ∧ w'.cell? ⟨G3, 2, none⟩ = some (.bool mo') ∧ w'.cell? ⟨G3, 3, none⟩ = some (.bool d') ∧ w'.cell? ⟨G3, 4, none⟩ = some (.bool ad') ∧ w'.cell? ⟨G3, 5, none⟩ = some (.int .i64 asked') ∧ w'.cell? ⟨G3, 6, none⟩ = some (.int .i64 waiting') ∧ w'.cell? ⟨G3, 7, none⟩ = some (.int .i64 need') ∧ w'.cell? ⟨G3, 8, none⟩ = some (.int .i64 room') ∧ w'.cell? ⟨G1, m.toNat, none⟩ = some (.int .i64 W))
    (first | exact held10 HM.out HW.out B0 B1 | exact held10 HM.out HW.out (B0d.below hb5 S1.out) (B1d.below hb5 S3.out) | exact held10 HM.out HW.out ((B0d.below hb5 S1.out).below hb6 (Nat.lt_of_lt_of_le S1.out hb5.size)) ((B1d.below hb5 S3.out).below hb6 (Nat.lt_of_lt_of_le S3.out hb5.size)))
    (first | (go_at_call 12; refine (to12 _ _ _ _ _ _ _ _ _ _).mono ?_; rintro e w5 ⟨rfl, hb5⟩) | (go_at_call 11; refine (D1.out _).mono ?_; rintro e w6 ⟨rfl, hb6⟩))
  all_goals
    go_wp2
    go_ret
    exact ⟨ret_bool (by simp), below_step (below_step HB4.out.drew hb5) hb6⟩
theorem one_walk (a b : Int) (w : World) :
    Calls Try.prog 8 #[.int .i64 a, .int .i64 b] w fun e w' => e = .returned (.bool true) ∧ Below w.heap.size w w' := by
  have hA := small8 a
  have hB := small8 b
  have hd := one_pl _ _ hA hB
  refine one_at a b _ _ rfl rfl (if wrap64 ((IntKind.u64.wrap b).tmod 8) < wrap64 ((IntKind.u64.wrap a).tmod 8) then wrap64 ((IntKind.u64.wrap b).tmod 8) else wrap64 ((IntKind.u64.wrap a).tmod 8)) ?_ rfl _ _ _ _ _ _ _ _ _ _ _ _ _ _ _ _ _ _ (fun w => worse_c _ _ _ _ _ _ _ _ _ _ w) (fun w => worse_c _ _ _ _ _ _ _ _ _ _ w) hd w
  · split <;> assumption
end Go.Proofs.Ytkmpjdffhbokdaa.awk
