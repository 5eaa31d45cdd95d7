/- AdmitNeeds: the walk. -/
import Derived.Test.YtkmpjdffhbokdaaNeed
import Derived.Test.YtkmpjdffhbokdaaBlk
import Derived.Deep.RegionHeld3
import Derived.Deep.DrawnRows
namespace Go.Proofs.Ytkmpjdffhbokdaa.ask
open Go.ChangeShapes Go.WideShapes Go.ChangeAt Go.RowKit K Fl ldx cfg
set_option linter.unusedVariables false
set_option linter.unusedSimpArgs false
theorem infoInt : (Try.prog.info? 3).map (fun i => (i.zero, i.size, i.bytes)) = some (some (.int .i64 0), 1, 8) := by kernel_rfl
/-- Cells that read as a list. -/
def ints (xs : List Int) : List Value := xs.map (Value.int .i64)
theorem ints_at {xs : List Int} {j : Nat} {u : Value} (h : (ints xs)[j]? = some u) : j < xs.length ∧ u = .int .i64 (xs.getD j 0) := by
  unfold ints at h
  rw [List.getElem?_map] at h
  cases hj : xs[j]? with
  | none => rw [hj] at h; cases h
  | some v =>
    rw [hj] at h
    simp only [Option.map_some, Option.some.injEq] at h
    obtain ⟨hlt, hv⟩ := List.getElem?_eq_some_iff.1 hj
    refine ⟨hlt, ?_⟩
    rw [List.getD_eq_getElem?_getD, hj, ← h]; rfl
theorem held17 {D H L V Hd E K W k : Int} {p : Option Addr} {n c : Nat} {len stop seed topk : Int} {heat : Nat} {beams pen : Int} {b0 b1 : Nat} {w' : World}
    (h0 : Bk w' b0 #[.int .i64 D, .int .i64 H, .int .i64 L, .int .i64 V, .int .i64 Hd, .int .i64 E, .int .i64 K, .int .i64 W] 33)
    (h1 : Bk w' b1 #[.int .i64 k, .slice p n c, .int .i64 len, .int .i64 stop, .int .u64 seed, .int .i64 topk, .float .f64 heat, .int .i64 beams, .int .i64 pen] 38) :
    w'.cell? ⟨b0, 0, none⟩ = some (.int .i64 D) ∧ w'.cell? ⟨b0, 1, none⟩ = some (.int .i64 H) ∧ w'.cell? ⟨b0, 2, none⟩ = some (.int .i64 L) ∧ w'.cell? ⟨b0, 3, none⟩ = some (.int .i64 V) ∧ w'.cell? ⟨b0, 4, none⟩ = some (.int .i64 Hd) ∧ w'.cell? ⟨b0, 5, none⟩ = some (.int .i64 E) ∧ w'.cell? ⟨b0, 6, none⟩ = some (.int .i64 K) ∧ w'.cell? ⟨b0, 7, none⟩ = some (.int .i64 W) ∧ w'.cell? ⟨b1, 0, none⟩ = some (.int .i64 k) ∧ w'.cell? ⟨b1, 1, none⟩ = some (.slice p n c) ∧ w'.cell? ⟨b1, 2, none⟩ = some (.int .i64 len) ∧ w'.cell? ⟨b1, 3, none⟩ = some (.int .i64 stop) ∧ w'.cell? ⟨b1, 4, none⟩ = some (.int .u64 seed) ∧ w'.cell? ⟨b1, 5, none⟩ = some (.int .i64 topk) ∧ w'.cell? ⟨b1, 6, none⟩ = some (.float .f64 heat) ∧ w'.cell? ⟨b1, 7, none⟩ = some (.int .i64 beams) ∧ w'.cell? ⟨b1, 8, none⟩ = some (.int .i64 pen) :=
  ⟨h0.cell 0 _ rfl, h0.cell 1 _ rfl, h0.cell 2 _ rfl, h0.cell 3 _ rfl, h0.cell 4 _ rfl, h0.cell 5 _ rfl, h0.cell 6 _ rfl, h0.cell 7 _ rfl, h1.cell 0 _ rfl, h1.cell 1 _ rfl, h1.cell 2 _ rfl, h1.cell 3 _ rfl, h1.cell 4 _ rfl, h1.cell 5 _ rfl, h1.cell 6 _ rfl, h1.cell 7 _ rfl, h1.cell 8 _ rfl⟩
theorem needs_ok (D H L V Hd E K W : Int) (k : Int) (b o : Nat) (n cap : Nat) (len stop seed topk : Int) (heat : Nat) (beams pen : Int) (xs : List Int) (w : World) (hr : Rd w (some ⟨b, o, none⟩) n xs) (hn0 : 0 < n)
   (weights : Int) (hw2 : weights ≤ 1099511627776) (hn : n ≤ 1000) (z : Int)
   (hc : ∀ (p : Option Addr) (cap : Nat) w, Rd w p n xs → Calls Try.prog 14 #[cfgV D H L V Hd E K W, askV k p n cap len stop seed topk heat beams pen, .int .i64 weights] w fun e w' => e = .returned (.int .i64 z) ∧ Below w.heap.size w w')
   (hf : ∀ (p : Option Addr) (cap : Nat) w, Rd w p n xs → Calls Try.prog 15 #[cfgV D H L V Hd E K W, askV k p n cap len stop seed topk heat beams pen, .int .i64 weights] w fun e w' => e = .returned (.int .i64 z) ∧ Below w.heap.size w w') :
    Calls Try.prog 5 #[cfgV D H L V Hd E K W, askV k (some ⟨b, o, none⟩) n cap len stop seed topk heat beams pen, .int .i64 weights] w fun e w' => e = .returned (.bool true) ∧ Below w.heap.size w w' := by
  have hn1 : (n : Int) ≤ 1000 := by omega
  obtain ⟨i0, hi0, hz0, hz1, hz2⟩ := info_parts infoInt
  obtain ⟨hl, hm, hcell⟩ := hr
  obtain ⟨b', o', he, hbl, hcc⟩ := hcell hn0
  obtain ⟨rfl, rfl⟩ : b = b' ∧ o = o' := by simpa using he
  have HC := Lib.hid hc
  have HF := Lib.hid hf
  have HL := Lib.hid hl
  have HCC := Lib.hid hcc
  have HCELL := Lib.hid hcell
  have Hi := Lib.hid hi0
  clear hc hf hl hcc hcell he hi0
  go_enter Try.func5, Try.ntmps5
  go_wp2_with (at_builtin; refine wpList_append_lies _ rfl _ _ 34 rfl (w.heap.size + 2) 3 i0 (.int .i64 0) 1 8 Try.underlying34 Hi.out hz0 hz1 hz2 rfl (by omega) (.slice (some ⟨w.heap.size + 1 + 1, 0, none⟩) 0 0) 0 [] (by rfl) ?own ⟨b, o, none⟩ n cap (ints xs) (by rfl) ?hl ?hnews ?h1 hn0 ?h63 ?hby ?hbase (w.heap.size + 3) ?hH ?_)
  case own => exact ⟨by simp, .inr ⟨w.heap.size + 1 + 1, 0, #[], rfl, by omega, Bk.new' _ _ _ _ (by simp), by omega, by simp [maxLen], by simp, by simp⟩⟩
  case hl => simp [ints, HL.out]
  case hnews =>
    intro j u hu
    obtain ⟨hj, rfl⟩ := ints_at hu
    rw [HL.out] at hj
    have e1 : (⟨b, o, none⟩ : Addr).add j = ⟨b, o + j, none⟩ := by unfold Addr.add; split <;> simp_all
    rw [e1]
    have hb : Below w.heap.size w (((w.alloc (.cells #[.int .i64 D, .int .i64 H, .int .i64 L, .int .i64 V, .int .i64 Hd, .int .i64 E, .int .i64 K, .int .i64 W] 33)).alloc (.cells #[.int .i64 k, .slice (some ⟨b, o, none⟩) n cap, .int .i64 len, .int .i64 stop, .int .u64 seed, .int .i64 topk, .float .f64 heat, .int .i64 beams, .int .i64 pen] 38)).alloc (.cells #[] 3)) := (((Below.refl _ _).alloc (Nat.le_refl _) _).alloc (by simp) _).alloc (by simp; omega) _
    exact (hb.cell (p := ⟨b, o + j, none⟩) hbl).trans (HCC.out j hj)
  case h1 => intro u hu; obtain ⟨x, _, rfl⟩ := List.mem_map.1 hu; rfl
  case h63 => simp only [maxLen]; omega
  case hby => omega
  case hbase => simp
  case hH => simp
  intro g c w1 hown1 hgrow hat hlt
  have hwz : w.heap.size + 3 ≤ w1.heap.size := by have := hgrow.size; simp at this; omega
  have B0 : Bk w1 w.heap.size #[.int .i64 D, .int .i64 H, .int .i64 L, .int .i64 V, .int .i64 Hd, .int .i64 E, .int .i64 K, .int .i64 W] 33 := (((Bk.new w _ _).alloc _).alloc _).grown hgrow (by simp [Value.ownBlock]; omega)
  have B1 : Bk w1 (w.heap.size + 1) #[.int .i64 k, .slice (some ⟨b, o, none⟩) n cap, .int .i64 len, .int .i64 stop, .int .u64 seed, .int .i64 topk, .float .f64 heat, .int .i64 beams, .int .i64 pen] 38 := ((Bk.new' _ _ _ _ (by simp)).alloc _).grown hgrow (by simp [Value.ownBlock])
  have hgb : w.heap.size + 2 ≤ g := by
    rcases hat with h | h
    · simp [Value.ownBlock] at h; omega
    · omega
  have bel1 : Below w.heap.size w w1 := by
    have e0 : Below w.heap.size w (((w.alloc (.cells #[.int .i64 D, .int .i64 H, .int .i64 L, .int .i64 V, .int .i64 Hd, .int .i64 E, .int .i64 K, .int .i64 W] 33)).alloc (.cells #[.int .i64 k, .slice (some ⟨b, o, none⟩) n cap, .int .i64 len, .int .i64 stop, .int .u64 seed, .int .i64 topk, .float .f64 heat, .int .i64 beams, .int .i64 pen] 38)).alloc (.cells #[] 3)) := (((Below.refl _ _).alloc (Nat.le_refl _) _).alloc (by simp) _).alloc (by simp; omega) _
    exact e0.grown hgrow (by simp; omega) (fun r hr => by simp [Value.ownBlock] at hr; omega)
  have c1 := B1.cell 1 _ rfl
  have f1 := B1.free 1
  have hcx : ∀ j, j < n → w1.cell? ⟨g, j, none⟩ = some (.int .i64 (xs.getD j 0)) := by
    intro j hj
    have := hown1.cells (g := g) rfl j (.int .i64 (xs.getD j 0)) (by
      unfold ints
      rw [List.getElem?_map, List.getD_eq_getElem?_getD, List.getElem?_eq_getElem (by rw [HL.out]; exact hj)]
      rfl)
    have ha : (⟨g, 0, none⟩ : Addr).add j = ⟨g, 0 + j, none⟩ := by unfold Addr.add; split <;> simp_all
    rw [ha, Nat.zero_add] at this
    exact this
  have C0 := B0.other ⟨w.heap.size + 1, 1, none⟩ (.slice (some ⟨g, 0, none⟩) n c) (by simp)
  have C1 := B1.set 1 (.slice (some ⟨g, 0, none⟩) n c)
  have bel2 : Below w.heap.size w (w1.setCell ⟨w.heap.size + 1, 1, none⟩ (.slice (some ⟨g, 0, none⟩) n c)) := bel1.setCell (by simp) _
  have hrd : Rd (w1.setCell ⟨w.heap.size + 1, 1, none⟩ (.slice (some ⟨g, 0, none⟩) n c)) (some ⟨g, 0, none⟩) n xs := by
    refine ⟨HL.out, by omega, fun _ => ⟨g, 0, rfl, by simpa [World.setCell] using hlt, fun j hj => ?_⟩⟩
    rw [Nat.zero_add, World.cell?_of_block (w := w1) (Below.heap_setCell w1 _ _ g (by simp; omega))]
    exact hcx j hj
  have hsz : w.heap.size + 3 ≤ (w1.setCell ⟨w.heap.size + 1, 1, none⟩ (.slice (some ⟨g, 0, none⟩) n c)).heap.size := by simpa [World.setCell] using hwz
  have HRD := Lib.hid hrd
  have HB := Lib.hid bel2
  have HS := Lib.hid hsz
  have HC0 := Lib.hid C0
  have HC1 := Lib.hid C1
  clear hown1 hgrow hat hlt B0 B1 bel1 hcx hrd bel2 hsz C0 C1 hgb
  go_wp2
  have HC0' := HC0.out
  have HC1' := HC1.out
  have HS' := HS.out
  generalize w1.setCell ⟨w.heap.size + 1, 1, none⟩ (.slice (some ⟨g, 0, none⟩) n c) = w2 at *
  clear HC0 HC1
  have s0 : w.heap.size < w2.drew.heap.size := by show w.heap.size < w2.heap.size; omega
  have s1 : w.heap.size + 1 < w2.drew.heap.size := by show w.heap.size + 1 < w2.heap.size; omega
  have HC0d := HC0'.drew
  have HC1d := HC1'.drew
  have S0 := Lib.hid s0
  have S1 := Lib.hid s1
  clear s0 s1
  go_region_held3 (fun w' => w'.cell? ⟨w.heap.size, 0, none⟩ = some (.int .i64 D) ∧ w'.cell? ⟨w.heap.size, 1, none⟩ = some (.int .i64 H) ∧ w'.cell? ⟨w.heap.size, 2, none⟩ = some (.int .i64 L) ∧ w'.cell? ⟨w.heap.size, 3, none⟩ = some (.int .i64 V) ∧ w'.cell? ⟨w.heap.size, 4, none⟩ = some (.int .i64 Hd) ∧ w'.cell? ⟨w.heap.size, 5, none⟩ = some (.int .i64 E) ∧ w'.cell? ⟨w.heap.size, 6, none⟩ = some (.int .i64 K) ∧ w'.cell? ⟨w.heap.size, 7, none⟩ = some (.int .i64 W) ∧ w'.cell? ⟨w.heap.size + 1, 0, none⟩ = some (.int .i64 k) ∧ w'.cell? ⟨w.heap.size + 1, 1, none⟩ = some (.slice (some ⟨g, 0, none⟩) n c) ∧ w'.cell? ⟨w.heap.size + 1, 2, none⟩ = some (.int .i64 len) ∧ w'.cell? ⟨w.heap.size + 1, 3, none⟩ = some (.int .i64 stop) ∧ w'.cell? ⟨w.heap.size + 1, 4, none⟩ = some (.int .u64 seed) ∧ w'.cell? ⟨w.heap.size + 1, 5, none⟩ = some (.int .i64 topk) ∧ w'.cell? ⟨w.heap.size + 1, 6, none⟩ = some (.float .f64 heat) ∧ w'.cell? ⟨w.heap.size + 1, 7, none⟩ = some (.int .i64 beams) ∧ w'.cell? ⟨w.heap.size + 1, 8, none⟩ = some (.int .i64 pen))
    (first | exact held17 HC0' HC1' | exact held17 (HC0d.below hb1 S0.out) (HC1d.below hb1 S1.out) | exact held17 ((HC0d.below hb1 S0.out).below hb2 (Nat.lt_of_lt_of_le S0.out hb1.size)) ((HC1d.below hb1 S1.out).below hb2 (Nat.lt_of_lt_of_le S1.out hb1.size)))
    (first | (go_at_call 14; refine (HC.out _ _ _ ?_).mono ?_; (exact HRD.out.below ((Below.refl _ _).drew)); rintro e w3 ⟨rfl, hb1⟩) | (go_at_call 15; refine (HF.out _ _ _ ?_).mono ?_; (exact (HRD.out.below ((Below.refl _ _).drew)).below hb1); rintro e w4 ⟨rfl, hb2⟩))
  go_wp2
  go_ret
  exact ⟨ret_bool (by simp), below_step (below_step HB.out.drew hb1) hb2⟩
end Go.Proofs.Ytkmpjdffhbokdaa.ask
