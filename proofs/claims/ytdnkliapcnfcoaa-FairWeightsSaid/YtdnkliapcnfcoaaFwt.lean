/- FairWeights: the walk. -/
import Derived.Test.YtdnkliapcnfcoaaPc
import Derived.Deep.RegionHeld3
import Derived.Laws.OwnMore
namespace Go.Proofs.Ytdnkliapcnfcoaa.fair
open Go.ChangeShapes Go.WideShapes Go.ChangeAt Go.RowKit K
set_option linter.unusedVariables false
set_option linter.unusedSimpArgs false
theorem row_cell {w : World} {t : TypeId} {g off m cap : Nat} {own : Option Nat} {cl : List Int} (h : Row w t 1 (.slice (some ⟨g, off, none⟩) m cap) own m (encI cl)) (i : Nat) (x : Int) (hx : cl[i]? = some x) : w.cell? ⟨g, off + i, none⟩ = some (.int .i64 x) := by
  have hl := h.1
  rw [encI_length] at hl
  have hi : i < cl.length := (List.getElem?_eq_some_iff.1 hx).1
  obtain ⟨b, o, c, cs, e, _, _, _, hbk, _, hcs⟩ := h.pos (by omega)
  cases e
  refine hbk.cell _ _ ?_
  rw [hcs i (by omega)]
  simp [encI, hx]
/-- At first. -/
def RelA (W wr : World) (p n sb g m off cap : Nat) (Z : Array Value) (ws cl : List Int) (j k : Nat) (T : Int) : Prop :=
  ∃ S, Lay S n ws j k T ∧ OneF W.heap.size (fun b => b = sb ∨ b = g) wr p S ∧ Row wr 3 1 (.slice (some ⟨g, off, none⟩) m cap) (some g) m (encI cl) ∧ Bk wr sb Z 3 ∧ Below W.heap.size W wr ∧ (1 ≤ T ∧ T ≤ 10000)
/-- Then. -/
def RelC (W wr : World) (p n sb g m off cap Mb : Nat) (ws cl : List Int) (j : Nat) (T : Int) : Prop :=
  ∃ S sv f csS, Wts S n ws sv f ((2 * n + j : Nat) : Int) j T ∧ OneF W.heap.size (fun b => b = sb ∨ b = g ∨ b = Mb) wr p S ∧ Row wr 3 1 (.slice (some ⟨g, off, none⟩) m cap) (some g) m (encI cl) ∧ Bk wr sb csS 3 ∧ (∀ i, i < n → csS[i]? = some (.int .i64 (sv i))) ∧ MapII wr Mb (2 * n + j) f ∧ Below W.heap.size W wr
set_option maxRecDepth 100000 in
theorem weights_none (W : World) (p : Option Addr) (c : Nat) (p2 : Option Addr) (n2 c2 : Nat) (a2 : Int) :
    Calls Try.prog 3 #[.slice p 0 c, .slice p2 n2 c2, .int .i64 a2] W fun e w' => e = .returned (.bool true) ∧ Below W.heap.size W w' := by
  obtain ⟨i0, hi0, hz0, hz1, hz2⟩ := info_parts infoInt
  go_enter Try.func3, Try.ntmps3
  go_wp2_with fail
  refine (works_true _).mono ?_
  rintro e W0 ⟨rfl, hbW⟩
  have HBW := Lib.hid hbW
  clear hbW
  go_wp2_with (at_builtin; refine wpList_append_nothing rfl (.tmp 30) (.tmp 31) 22 rfl 3 i0 Try.underlying22 hi0 ⟨W0.heap.size, 0, none⟩ 0 0 (Nat.le_refl _) rfl p c rfl ?_)
  refine (new_short _ _ 0 _ (.inl (by omega))).mono ?_
  rintro e w1 ⟨rfl, hb1⟩
  have HB1 := Lib.hid ((HBW.out.alloc HBW.out.size (.cells #[] 3)).trans (hb1.mono (by have := HBW.out.size; simp; omega)))
  clear hb1
  go_wp2
  go_ret
  exact ⟨rfl, HB1.out⟩
set_option maxHeartbeats 16000000 in
set_option maxRecDepth 100000 in
theorem weights_walk (W : World) (pb po n c : Nat) (ws : List Int) (hl : ws.length = n) (hn0 : 0 < n) (hn : n * 8 ≤ 140737488355328) (hw : Ints W (some ⟨pb, po, none⟩) ws) (p2 : Option Addr) (n2 c2 : Nat) (xs2 : List Int) (hl2 : xs2.length = n2) (hm2 : n2 ≤ 9223372036854775807) (hw2 : Ints W p2 xs2) (a2 : Int) :
    Calls Try.prog 3 #[.slice (some ⟨pb, po, none⟩) n c, .slice p2 n2 c2, .int .i64 a2] W fun e w' => e = .returned (.bool true) ∧ Below W.heap.size W w' := by
  obtain ⟨i0, hi0, hz0, hz1, hz2⟩ := info_parts infoInt
  have HL := Lib.hid hl
  have HW := Lib.hid hw
  have HL2 := Lib.hid hl2
  have HW2 := Lib.hid hw2
  clear hl hw hl2 hw2
  go_enter Try.func3, Try.ntmps3
  go_wp2_with fail
  refine (works_true _).mono ?_
  rintro e W0 ⟨rfl, hbW⟩
  have HBW := Lib.hid hbW
  have SRC := Lib.hid ((HW.out.below hbW).below ((Below.refl _ W0).alloc (Nat.le_refl _) (.cells #[] 3))).src
  have hsW := hbW.size
  clear hbW
  go_wp2_with (at_builtin; refine wpList_append_fresh rfl (.tmp 30) (.tmp 31) 22 rfl 3 i0 _ 1 Try.underlying22 hi0 hz0 hz1 rfl ⟨W0.heap.size, 0, none⟩ rfl ⟨pb, po, none⟩ n c (encI ws) rfl (by unfold encI; rw [List.length_map, HL.out, Nat.mul_one]) SRC.out hn0 (by rw [hz2]; omega) (by unfold maxLen; omega) ?_; intro cp cs hcp1 hcp2 hsz hcs; have HCS := Lib.hid hcs; clear hcs)
  obtain ⟨w0, hw0⟩ : ∃ w0, w0 = ((W0.alloc (.cells #[] 3)).alloc (.cells cs 3)).drew := ⟨_, rfl⟩
  rw [← hw0]
  have BK0 : Bk w0 (W0.heap.size + 1) cs 3 := by rw [hw0]; exact (Bk.new' _ _ _ _ (by simp)).drew
  have BW0 : Below W.heap.size W w0 := by rw [hw0]; exact ((HBW.out.alloc hsW _).alloc (by simp; omega) _).drew
  have I0 : Ints w0 (some ⟨W0.heap.size + 1, 0, none⟩) ws := by
    intro j x hx
    refine ⟨_, _, rfl, BK0.lt, BK0.cell _ _ ?_⟩
    rw [Nat.zero_add, HCS.out j (by have := (List.getElem?_eq_some_iff.1 hx).1; have := HL.out; omega)]
    simp [encI, hx]
  have NC := Lib.hid (new_c w0 _ cp n ws HL.out I0)
  have HB0 := Lib.hid BW0
  clear hw0 BK0 BW0 I0 HCS SRC
  go_wp2_with fail
  refine NC.out.mono ?_
  rintro e w1 ⟨hb1, hcase⟩
  have HB1 := Lib.hid (HB0.out.trans (hb1.mono HB0.out.size))
  have hz1' : W.heap.size ≤ w0.heap.size := HB0.out.size
  rcases hcase with ⟨hbad, rfl⟩ | ⟨hok, rfl, L, hL⟩
  · clear hb1 hbad
    go_wp2
    go_ret
    exact ⟨rfl, HB1.out⟩
  have hn4 : n ≤ 4 := by have := hL.few; have e : (FS.new ws).n = ws.length := rfl; have := HL.out; omega
  have HOK := Lib.hid hok
  generalize hp : w0.heap.size = p at *
  obtain ⟨Z, hZ⟩ : ∃ Z, Z = madeCells (Value.int .i64 0).cells (((n : Int)).toNat * i0.size) := ⟨_, rfl⟩
  have HZ : Hid (∀ k, k < n → Z[k]? = some (.int .i64 0)) := by
    intro k hk
    rw [hZ, hz1]
    simp [madeCells, Value.cells, hk, Nat.mod_one]
  have hmk : ∀ w, (Instr.makeSlice 22 (.int .i64 (n : Int)) (.int .i64 (n : Int))).run Try.prog w = .ok (.slice (some ⟨w.heap.size, 0, none⟩) n n) (w.alloc (.cells Z 3)) := by
    intro w
    have h := run_make (P := Try.prog) w 22 3 i0 _ Try.underlying22 hi0 hz0 .i64 .i64 (n : Int) (n : Int) (by omega) (Int.le_refl _) (by rw [hz2]; omega) (by omega)
    rw [← hZ] at h
    simpa using h
  have hs1 := HB1.out.size
  have HO1 := Lib.hid ((OneF.made (X := fun _ => False) hz1' hL (fun b hb => hb.elim)).wider (Y := fun b => b = w1.heap.size) ((Below.refl _ w1).alloc (Nat.le_refl _) (.cells Z 3)) (fun b hb => .inr (by simp; omega)))
  have HS1 : Hid (Bk (w1.alloc (.cells Z 3)) w1.heap.size Z 3) := Bk.new _ _ _
  have HB2 := Lib.hid (HB1.out.alloc hs1 (.cells Z 3))
  obtain ⟨sb, hsb⟩ : ∃ sb, sb = w1.heap.size := ⟨_, rfl⟩
  have hsb0 : W.heap.size ≤ sb := by rw [hsb]; exact hs1
  clear hb1 hok hL hp hZ
  go_wp2_with fail
  rw [← hsb]
  rw [← hsb] at HO1 HS1
  generalize w1.alloc (.cells Z 3) = w2 at *
  clear hsb
  have PR := Lib.hid (price_c w2 p2 n2 c2 xs2 HL2.out hm2 (HW2.out.below HB2.out))
  refine PR.out.mono ?_
  rintro e w3 ⟨v, cl, rfl, ⟨g, hg, hrow⟩, hc1, hc51, hall, hb3⟩
  obtain ⟨g', off, cap, csv, rfl, hg', hnc, hcap, -⟩ := hrow.pos (by omega)
  cases hg'
  generalize hm : cl.length = m at *
  have HM := Lib.hid hm
  have HALL := Lib.hid hall
  have hmz : ((m : Int) == 0) = false := by rw [beq_eq_false_iff_ne]; omega
  have hm1 : (1 : Int) ≤ (m : Int) := by omega
  have hg0 : W.heap.size ≤ g := Nat.le_trans HB2.out.size hg
  have hgl := hrow.lt g rfl
  have hsbl := HS1.out.lt
  have hgs : g ≠ sb := by omega
  have hcapz : cap ≤ 9223372036854775807 := hcap
  have HA0 : Hid (RelA W w3 p n sb g m off cap Z ws cl 0 0 1) :=
    ⟨_, by have := lay_new ws HOK.out; rw [HL.out] at this; exact this, HO1.out.wider hb3 (fun b hb => by
      rcases hb with rfl | rfl
      · exact .inl rfl
      · exact .inr ⟨hg, hgl⟩), hrow, HS1.out.below hb3 hsbl, HB2.out.trans (hb3.mono HB2.out.size), by omega⟩
  clear hm hall hrow hb3 hmk
  have hcost : Hid (∀ (w : World) (id : Nat), Row w 3 1 (.slice (some ⟨g, off, none⟩) m cap) (some g) m (encI cl) → ∃ cc, w.cell? ⟨g, off + id % m, none⟩ = some (.int .i64 cc) ∧ 1 ≤ cc ∧ cc ≤ 10000) := by
    intro w id hr
    have hlt : id % m < cl.length := by rw [HM.out]; exact Nat.mod_lt _ (by omega)
    exact ⟨cl[id % m], row_cell hr _ _ (List.getElem?_eq_getElem hlt), HALL.out _ (List.getElem_mem hlt)⟩
  go_wp2
  go_loopw [9, 10, 13] (fun d t i wr => ∃ (j : Nat) (T : Int), j ≤ n ∧ d = .int .i64 ((2 * j : Nat) : Int) ∧ t = .int .i64 T ∧ i = .int .i64 j ∧ Hid (RelA W wr p n sb g m off cap Z ws cl j 0 T)) (fun _ _ i _ => n - (intOf i).toNat)
  case atStart => exact ⟨0, 1, Nat.zero_le _, rfl, rfl, rfl, HA0⟩
  case round =>
    obtain ⟨j, T, hj, rfl, rfl, rfl, REL⟩ := hrel
    obtain ⟨wo, rfl⟩ : ∃ wo : World, wo = wr := ⟨_, rfl⟩
    by_cases hlt : j < n
    · have hjz : (j : Int) < (n : Int) := by omega
      go_wp2
      go_loopw [9, 10, 14] (fun d t i wr => ∃ (k : Nat) (T : Int), k ≤ 2 ∧ d = .int .i64 ((2 * j + k : Nat) : Int) ∧ t = .int .i64 T ∧ i = .int .i64 k ∧ Hid (RelA W wr p n sb g m off cap Z ws cl j k T)) (fun _ _ i _ => 2 - (intOf i).toNat)
      case atStart => exact ⟨0, T, by omega, rfl, rfl, rfl, REL⟩
      case round =>
        obtain ⟨k, T, hk, rfl, rfl, rfl, REL⟩ := hrel
        obtain ⟨wq, rfl⟩ : ∃ wq : World, wq = wr := ⟨_, rfl⟩
        by_cases hlt2 : k < 2
        · have hkz : (k : Int) < 2 := by omega
          obtain ⟨S, hLay, hO, hR, hS, hB, hT⟩ := REL.out
          obtain ⟨cc, hcell, hcc1, hcc2⟩ := hcost.out wq (2 * j + k) hR
          obtain ⟨S1, e1, hLay1⟩ := hLay.step hlt hlt2 cc ⟨hcc1, hcc2⟩
          have hmx := mx_cases T cc
          have A1 := Lib.hid (hO.add hB.size hLay.good j ((2 * j + k : Nat) : Int) cc e1)
          have HR := Lib.hid hR
          have HS := Lib.hid hS
          have HB := Lib.hid hB
          have HLay1 := Lib.hid hLay1
          have hidb : 2 * j + k ≤ 100 := by omega
          clear hLay hO hR hS hB e1 hLay1
          generalize hid : 2 * j + k = idn at *
          have HID := Lib.hid hid
          clear hid
          have hidz : (0 : Int) ≤ (idn : Int) := by omega
          have hq1 : (0 : Int) ≤ (idn : Int) % (m : Int) := Int.emod_nonneg _ (by omega)
          have hq2 : (idn : Int) % (m : Int) < (m : Int) := Int.emod_lt_of_pos _ (by omega)
          generalize hTT : mx T cc = T2 at *
          have HTT := Lib.hid hTT
          clear hTT
          have finA : ∀ (T2' : Int) (w5 : World), T2' = T2 → OneF W.heap.size (fun b => b = sb ∨ b = g) w5 p S1 → Below W.heap.size wq w5 → (∀ b, b = sb ∨ b = g → w5.heap[b]? = wq.heap[b]?) → RelA W w5 p n sb g m off cap Z ws cl j (k + 1) T2' := by
            rintro T2' w5 rfl h1 h2 h3
            exact ⟨S1, HLay1.out, h1, HR.out.keep (fun b hb => h3 b (.inr (Option.some.inj hb).symm)), (h3 sb (.inl rfl)).trans HS.out, HB.out.trans h2, by omega⟩
          have FINA := Lib.hid finA
          clear finA
          rcases hmx with ⟨hmx, hT2⟩ | ⟨hmx, hT2⟩
          all_goals
            have HT2 := Lib.hid hT2
            clear hT2
            go_wp2_with fail
            refine A1.out.mono ?_
            rintro e w5 ⟨rfl, h1, h2, h3⟩
            have hfa := Lib.hid (FINA.out _ w5 HT2.out.symm h1 h2 h3)
            clear h1 h2 h3
            go_wp2
            exact ⟨⟨k + 1, _, by omega, by rw [show 2 * j + (k + 1) = idn + 1 by have := HID.out; omega]; go_num, rfl, by go_num, hfa⟩, by simp [intOf]; omega⟩
        · have hkz : ¬ (k : Int) < 2 := by omega
          obtain rfl : k = 2 := by omega
          obtain ⟨S, hLay, hO, hR, hS, hB, hT⟩ := REL.out
          have hfa : Hid (RelA W wq p n sb g m off cap Z ws cl (j + 1) 0 T) := ⟨S, hLay.roll, hO, hR, hS, hB, hT⟩
          clear hLay hO hR hS hB
          go_wp2
          exact ⟨⟨j + 1, T, by omega, by rw [show 2 * (j + 1) = 2 * j + 2 by omega], rfl, by go_num, hfa⟩, by simp [intOf]; omega⟩
    · have hjz : ¬ (j : Int) < (n : Int) := by omega
      obtain rfl : j = n := by omega
      obtain ⟨S, hLay, hO, hR, hS, hB, hT⟩ := REL.out
      have hmm := @run_makeMap Try.prog
      have hBal : Below wo.heap.size wo (wo.alloc (.map #[] 0)) := (Below.refl _ wo).alloc (Nat.le_refl _) _
      obtain ⟨Mb, hMb⟩ : ∃ Mb, Mb = wo.heap.size := ⟨_, rfl⟩
      have HOX := Lib.hid (hO.wider (Y := fun b => b = sb ∨ b = g ∨ b = Mb) hBal (fun b hb => by
        rcases hb with hb | hb | hb
        · exact .inl (.inl hb)
        · exact .inl (.inr hb)
        · right; simp; omega))
      have HMX : Hid (MapII (wo.alloc (.map #[] 0)) Mb 0 (half 0)) := by
        rw [hMb]
        have e : half 0 = fun _ => none := by funext x; unfold half; rw [if_neg (by omega)]
        rw [e]; exact MapII.made wo
      have HRX := Lib.hid (hR.chg (Chg.of_below (F := fun _ => False) hBal rfl) (fun _ _ hf => hf))
      have HSX := Lib.hid (hS.below hBal hS.lt)
      have HBX := Lib.hid (hB.trans (hBal.mono hB.size))
      have HWX := Lib.hid (hLay.wts hT)
      have hmz0 : W.heap.size ≤ Mb := by rw [hMb]; exact hB.size
      have hmg : Mb ≠ g := by have := hR.lt g rfl; omega
      have hms : Mb ≠ sb := by have := hS.lt; omega
      clear hLay hO hR hS hB hBal REL
      go_wp2
      rw [← hMb]
      clear hMb
      generalize wo.alloc (.map #[] 0) = wm at *
      go_loopw [17] (fun i wr => ∃ i0 : Nat, i0 ≤ 2 * j ∧ i = .int .i64 i0 ∧ Hid (MapII wr Mb i0 (half i0) ∧ Chg (fun b => b = Mb) wm wr)) (fun i _ => 2 * j - (intOf i).toNat)
      case atStart => exact ⟨0, Nat.zero_le _, rfl, Lib.hid ⟨HMX.out, Chg.refl _ _⟩⟩
      case round =>
        obtain ⟨i1, hi1, rfl, MR⟩ := hrel
        obtain ⟨wq, rfl⟩ : ∃ wq : World, wq = wr := ⟨_, rfl⟩
        by_cases hlt3 : i1 < 2 * j
        · have hiz : (i1 : Int) < ((2 * j : Nat) : Int) := by omega
          have hiz0 : (0 : Int) ≤ (i1 : Int) := by omega
          have hi100 : i1 ≤ 100 := by omega
          have hsplit : Hid (∀ f : Int → Option Int, (f = fun y => if y = (i1 : Int) then some ((i1 : Int) / 2) else half i1 y) → f = half (i1 + 1)) := by
            rintro f rfl
            funext y
            unfold half
            by_cases e : y = (i1 : Int)
            · subst e; rw [if_pos rfl, if_pos ⟨by omega, by omega⟩]
            · rw [if_neg e]
              by_cases e2 : 0 ≤ y ∧ y < (i1 : Int)
              · rw [if_pos e2, if_pos ⟨by omega, by omega⟩]
              · rw [if_neg e2, if_neg (by omega)]
          go_wp2_with (at_mapUpdate; refine wpList_update_ii rfl (.tmp 83) (.tmp 84) (.tmp 86) rfl Mb _ _ rfl MR.out.1 (by unfold maxLen; omega) (i1 : Int) ((i1 : Int) / 2) rfl rfl (by unfold okI; omega) (by unfold okI; omega) ?_; intro w5 hF5 hg5; have HF5 := Lib.hid hF5; have HG5 := Lib.hid hg5; clear hF5 hg5)
          refine ⟨⟨i1 + 1, by omega, by go_num, Lib.hid ⟨?_, MR.out.2.trans (Chg.of_grown (F := fun b => b = Mb) HG5.out (fun b hb => Option.some.inj hb)) (fun b hb => .inl hb)⟩⟩, by simp [intOf]; omega⟩
          rw [← hsplit.out _ rfl]; exact HF5.out
        · have hiz : ¬ (i1 : Int) < ((2 * j : Nat) : Int) := by omega
          obtain rfl : i1 = 2 * j := by omega
          obtain ⟨hF, hC⟩ := MR.out
          have HC0 : Hid (RelC W wq p j sb g m off cap Mb ws cl 0 T) := by
            refine ⟨S, fun _ => 0, half (2 * j), Z, HWX.out, ?_, ?_, ?_, HZ.out, hF, ?_⟩
            · obtain ⟨L, q1, q2, q3⟩ := HOX.out
              exact ⟨L, q1.chg hC (fun b hf hx => (q3 b (.inr (.inr hx))).2 hf), q2, fun b hb => ⟨Nat.lt_of_lt_of_le (q3 b hb).1 hC.size, (q3 b hb).2⟩⟩
            · exact HRX.out.chg hC (fun b hb e => by cases hb; exact hmg e.symm)
            · exact hC.bk HSX.out (fun e => hms e.symm)
            · exact HBX.out.trans (hC.below (fun b hb => by subst hb; exact hmz0) HBX.out.size)
          clear hF hC
          go_wp2
          go_loopw [9, 10, 18] (fun d t i wr => ∃ (k : Nat) (T : Int), k ≤ 150 ∧ d = .int .i64 ((2 * j + k : Nat) : Int) ∧ t = .int .i64 T ∧ i = .int .i64 k ∧ Hid (RelC W wr p j sb g m off cap Mb ws cl k T)) (fun _ _ i _ => 150 - (intOf i).toNat)
          case atStart => exact ⟨0, T, by omega, rfl, rfl, rfl, HC0⟩
          case round =>
            obtain ⟨k, T, hk, rfl, rfl, rfl, REL⟩ := hrel
            obtain ⟨wr2, rfl⟩ : ∃ wr2 : World, wr2 = wr := ⟨_, rfl⟩
            obtain ⟨v0, v1, v2⟩ := um_bd a2 150 (by omega) (by omega)
            by_cases hlt4 : (k : Int) < wrap64 ((IntKind.u64.wrap a2).tmod 150)
            · obtain ⟨S, sv, f, csS, hW, hO, hR, hS, hsv, hF, hB⟩ := REL.out
              obtain ⟨cc, hccell, hcc1, hcc2⟩ : ∃ cc, (∀ w : World, Row w 3 1 (.slice (some ⟨g, off, none⟩) m cap) (some g) m (encI cl) → w.cell? ⟨g, off + (2 * j + k) % m, none⟩ = some (.int .i64 cc)) ∧ 1 ≤ cc ∧ cc ≤ 10000 := by
                have hlt : (2 * j + k) % m < cl.length := by rw [HM.out]; exact Nat.mod_lt _ (by omega)
                exact ⟨cl[(2 * j + k) % m], fun w hr => row_cell hr _ _ (List.getElem?_eq_getElem hlt), HALL.out _ (List.getElem_mem hlt)⟩
              have HCC := Lib.hid hccell
              obtain ⟨b, x, cx, S1, S2, hb, hnx, hcx1, hcx2, hx0, hx1, hfx, had, hg1, hW2⟩ := hW.step hn0 cc ⟨hcc1, hcc2⟩
              have hmx := mx_cases T cc
              have hT := hW.top
              have hsvb := hW.sv0 b hb
              have hk150 : k < 150 := by omega
              have hbz : (b : Int) < (j : Int) := by omega
              have hbz0 : (0 : Int) ≤ (b : Int) := by omega
              have A1 := Lib.hid (hO.next hB.size hW.good (by omega) hnx)
              have HR := Lib.hid hR
              have HS := Lib.hid hS
              have HSV := Lib.hid hsv
              have HF := Lib.hid hF
              have HB := Lib.hid hB
              have HAD := Lib.hid had
              have HG1 := Lib.hid hg1
              have HFX := Lib.hid hfx
              have hsvb2 : sv b ≤ 1500000 := by omega
              have hsvb1 := hsvb.1
              have hidb : 2 * j + k ≤ 1000 := by omega
              clear hW hO hR hS hsv hF hB hnx had hg1 hfx hsvb hccell
              generalize hid : 2 * j + k = idn at *
              have HID := Lib.hid hid
              clear hid
              have hidz : (0 : Int) ≤ (idn : Int) := by omega
              have hq1 : (0 : Int) ≤ (idn : Int) % (m : Int) := Int.emod_nonneg _ (by omega)
              have hq2 : (idn : Int) % (m : Int) < (m : Int) := Int.emod_lt_of_pos _ (by omega)
              rcases hmx with ⟨hmx, hT2⟩ | ⟨hmx, hT2⟩
              · clear v0 v1 v2
                rw [hT2] at hW2
                have HWT2 := Lib.hid hW2
                clear hT2 hW2
                go_wp2_with fail
                refine A1.out.mono ?_
                rintro e w4 ⟨rfl, h1, h2, h3⟩
                have HO4 := Lib.hid h1
                have HB4 := Lib.hid (HB.out.trans h2)
                have hB4 := (h3 sb (.inl rfl)).trans HS.out
                have HS4 : Hid (Bk w4 sb csS 3) := hB4
                have HR4 := Lib.hid (HR.out.keep (fun b hb => h3 b (.inr (.inl (Option.some.inj hb).symm))))
                have hF4 := HF.out.keep (h3 Mb (.inr (.inr rfl)))
                have HF4 := Lib.hid hF4
                have hlk := hF4.lookup_ok x b ⟨by omega, by omega⟩ HFX.out
                have hcs := HS4.out.cell b _ (HSV.out b hb)
                have hfs := HS4.out.free b
                have hsz4 : sb < w4.heap.size := HS4.out.lt
                clear h1 h2 h3 hB4 hF4
                have c45 : Chg (fun k => k = sb) w4 (w4.setCell ⟨sb, b, none⟩ (.int .i64 (sv b + cx))) := Chg.setCell (F := fun k => k = sb) (Chg.refl _ _) _ _ (.inl rfl)
                have HF5 : Hid (MapII (w4.setCell ⟨sb, b, none⟩ (.int .i64 (sv b + cx))) Mb idn f) := HF4.out.keep (c45.block Mb HF4.out.lt hms)
                have HS5 : Hid (Bk (w4.setCell ⟨sb, b, none⟩ (.int .i64 (sv b + cx))) sb (csS.setIfInBounds b (.int .i64 (sv b + cx))) 3) := HS4.out.set _ _
                have HO5 := Lib.hid (HO4.out.chg (c45.mono (fun k hk => .inl hk)))
                have HR5 := Lib.hid (HR4.out.chg c45 (fun b hb e => by cases hb; exact hgs e))
                have HB5 := Lib.hid (HB4.out.trans (c45.below (fun b hb => by subst hb; exact hsb0) HB4.out.size))
                clear c45
                go_wp2_with (at_mapUpdate; refine wpList_update_ii rfl (.tmp 128) (.tmp 129) (.tmp 130) rfl Mb _ _ rfl HF5.out (by unfold maxLen; omega) (idn : Int) (b : Int) rfl rfl (by unfold okI; omega) (by unfold okI; omega) ?_; intro w6 hF6 hg6; have HF6 := Lib.hid hF6; have c56 : Chg (fun k => k = Mb) _ w6 := Chg.of_grown hg6 (fun b hb => Option.some.inj hb); have HS6 := Lib.hid (c56.bk HS5.out (fun e => hms e.symm)); have HO6 := Lib.hid (HO5.out.chg (c56.mono (fun k hk => .inr (.inr hk)))); have hR6 := HR5.out.chg c56 (fun b hb e => by cases hb; exact hmg e.symm); have HR6 := Lib.hid hR6; have HB6 := Lib.hid (HB5.out.trans (c56.below (fun b hb => by subst hb; exact hmz0) HB5.out.size)); have hcl6 : w6.cell? ⟨g, off + idn % m, none⟩ = some (.int .i64 cc) := HCC.out w6 hR6; clear hF6 hg6 c56 hR6)
                refine (HO6.out.add HB6.out.size HG1.out b (idn : Int) cc HAD.out).mono ?_
                rintro e w7 ⟨rfl, h1, h2, h3⟩
                have HB7 := Lib.hid (HB6.out.trans h2)
                have HS7 : Hid (Bk w7 sb (csS.setIfInBounds b (.int .i64 (sv b + cx))) 3) := (h3 sb (.inl rfl)).trans HS6.out
                have hbl : b < csS.size := (Array.getElem?_eq_some_iff.1 (HSV.out b hb)).1
                have HSV7 : Hid (∀ i, i < j → (csS.setIfInBounds b (.int .i64 (sv b + cx)))[i]? = some (.int .i64 (upd sv b (sv b + cx) i))) := by
                  intro i hi
                  by_cases e : i = b
                  · subst e; rw [upd_at, Array.getElem?_setIfInBounds_self_of_lt hbl]
                  · rw [upd_ne _ _ _ _ e, Array.getElem?_setIfInBounds_ne (Ne.symm e)]; exact HSV.out i hi
                have HREL7 : Hid (RelC W w7 p j sb g m off cap Mb ws cl (k + 1) cc) := by
                  refine ⟨S2, upd sv b (sv b + cx), setM f idn b, _, ?_, h1, HR6.out.keep (fun b hb => h3 b (.inr (.inl (Option.some.inj hb).symm))), HS7.out, HSV7.out, ?_, HB7.out⟩
                  · have := HWT2.out
                    rw [show ((2 * j + (k + 1) : Nat) : Int) = (idn : Int) + 1 by have := HID.out; omega]; exact this
                  · rw [show 2 * j + (k + 1) = idn + 1 by have := HID.out; omega]
                    exact HF6.out.keep (h3 Mb (.inr (.inr rfl)))
                have HWI := Lib.hid (HW.out.below HB7.out)
                clear h1 h2 h3 hcs hfs hlk hcl6
                go_wp2
                go_loopw [25] (fun a wr => ∃ a' : Nat, a' ≤ j ∧ a = .int .i64 a' ∧ Hid (Below w7.heap.size w7 wr)) (fun a _ => j - (intOf a).toNat)
                case atStart => exact ⟨0, Nat.zero_le _, rfl, Lib.hid (Below.refl _ _)⟩
                case round =>
                  obtain ⟨a', ha', rfl, BL⟩ := hrel
                  obtain ⟨w8, rfl⟩ : ∃ w8 : World, w8 = wr := ⟨_, rfl⟩
                  by_cases hlta : a' < j
                  · have haz : (a' : Int) < (j : Int) := by omega
                    have haz0 : (0 : Int) ≤ (a' : Int) := by omega
                    go_wp2
                    go_loopw [26] (fun a wr => ∃ b' : Nat, b' ≤ j ∧ a = .int .i64 b' ∧ Hid (Below w7.heap.size w7 wr)) (fun a _ => j - (intOf a).toNat)
                    case atStart => exact ⟨0, Nat.zero_le _, rfl, BL⟩
                    case round =>
                      obtain ⟨b', hb', rfl, BL2⟩ := hrel
                      obtain ⟨w9, rfl⟩ : ∃ w9 : World, w9 = wr := ⟨_, rfl⟩
                      by_cases hltb : b' < j
                      · have hbz2 : (b' : Int) < (j : Int) := by omega
                        have hbz20 : (0 : Int) ≤ (b' : Int) := by omega
                        have hS9 := HS7.out.below BL2.out HS7.out.lt
                        have hI9 := HWI.out.below BL2.out
                        have hla : a' < ws.length := by rw [HL.out]; exact hlta
                        have hlb : b' < ws.length := by rw [HL.out]; exact hltb
                        obtain ⟨_, _, ee, _, wca⟩ := hI9 a' ws[a'] (List.getElem?_eq_getElem hla)
                        cases ee
                        obtain ⟨_, _, ee, _, wcb⟩ := hI9 b' ws[b'] (List.getElem?_eq_getElem hlb)
                        cases ee
                        have sca := hS9.cell a' _ (HSV7.out a' hlta)
                        have scb := hS9.cell b' _ (HSV7.out b' hltb)
                        have hga : ws.getD a' 0 = ws[a'] := by simp [List.getD, hla]
                        have hgb : ws.getD b' 0 = ws[b'] := by simp [List.getD, hlb]
                        have wa1 : 1 ≤ ws[a'] ∧ ws[a'] ≤ 16 := by rw [← hga, ← HWT2.out.wt a' hlta]; exact HWT2.out.good.wt a' (by rw [HWT2.out.nn]; exact hlta)
                        have wb1 : 1 ≤ ws[b'] ∧ ws[b'] ≤ 16 := by rw [← hgb, ← HWT2.out.wt b' hltb]; exact HWT2.out.good.wt b' (by rw [HWT2.out.nn]; exact hltb)
                        have sa1 := HWT2.out.sv0 a' hlta
                        have sb1 := HWT2.out.sv0 b' hltb
                        have hT3 := HWT2.out.top
                        have hlaw := HWT2.out.law a' b' hlta hltb
                        rw [hga, hgb] at hlaw
                        generalize ws[a'] = wa at *
                        generalize ws[b'] = wb at *
                        generalize upd sv b (sv b + cx) a' = sa at *
                        generalize upd sv b (sv b + cx) b' = sbv at *
                        obtain ⟨mm, hmin⟩ : ∃ mm, (if wb < wa then wb else wa) = mm := ⟨_, rfl⟩
                        have hmm1 : 1 ≤ mm ∧ mm ≤ 16 ∧ mm ≤ wa := by rw [← hmin]; split <;> omega
                        have hlaw := hlaw mm ⟨by omega, hmm1.2.2⟩
                        have p1 : 0 ≤ sa * wb := Int.mul_nonneg (by omega) (by omega)
                        have p2' : sa * wb ≤ 1510000 * 16 := Int.mul_le_mul (by omega) wb1.2 (by omega) (by omega)
                        have p3 : 0 ≤ sbv * wa := Int.mul_nonneg (by omega) (by omega)
                        have p4 : sbv * wa ≤ 1510000 * 16 := Int.mul_le_mul (by omega) wa1.2 (by omega) (by omega)
                        have p5 : (sa * wb - sbv * wa) * mm ≤ (1510000 * 16) * 16 := by
                          have h1 : (sa * wb - sbv * wa) * mm ≤ (1510000 * 16) * mm := Int.mul_le_mul_of_nonneg_right (by omega) (by omega)
                          omega
                        have p6 : -((1510000 * 16) * 16) ≤ (sa * wb - sbv * wa) * mm := by
                          have h1 : (-(1510000 * 16)) * mm ≤ (sa * wb - sbv * wa) * mm := Int.mul_le_mul_of_nonneg_right (by omega) (by omega)
                          omega
                        have p7 : 0 ≤ 2 * (cc) * wa := Int.mul_nonneg (by omega) (by omega)
                        have p8 : 2 * (cc) * wa ≤ 20000 * 16 := Int.mul_le_mul (by omega) wa1.2 (by omega) (by omega)
                        have p9 : 0 ≤ 2 * (cc) * wa * wb := Int.mul_nonneg p7 (by omega)
                        have p10 : 2 * (cc) * wa * wb ≤ (20000 * 16) * 16 := Int.mul_le_mul p8 wb1.2 (by omega) (by omega)
                        have q1 : IntKind.i64.wrap (sa * wb) = sa * wb := by rw [IntKind.wrap_i64]; omega
                        have q2 : IntKind.i64.wrap (sbv * wa) = sbv * wa := by rw [IntKind.wrap_i64]; omega
                        have q3 : IntKind.i64.wrap (sa * wb - sbv * wa) = sa * wb - sbv * wa := by rw [IntKind.wrap_i64]; omega
                        have q4 : IntKind.i64.wrap ((sa * wb - sbv * wa) * mm) = (sa * wb - sbv * wa) * mm := by rw [IntKind.wrap_i64]; omega
                        have q5 : IntKind.i64.wrap (2 * (cc)) = 2 * (cc) := by rw [IntKind.wrap_i64]; omega
                        have q6 : IntKind.i64.wrap (2 * (cc) * wa) = 2 * (cc) * wa := by rw [IntKind.wrap_i64]; omega
                        have q7 : IntKind.i64.wrap (2 * (cc) * wa * wb) = 2 * (cc) * wa * wb := by rw [IntKind.wrap_i64]; omega
                        have hd : decide (2 * (cc) * wa * wb < (sa * wb - sbv * wa) * mm) = false := by
                          rw [decide_eq_false_iff_not]; omega
                        clear p1 p2' p3 p4 p5 p6 p7 p8 p9 p10 hlaw hga hgb hS9 hI9 hmm1
                        go_wp2
                        go_region_held3 (fun w' => w'.cell? ⟨sb, a', none⟩ = some (.int .i64 sa) ∧ w'.cell? ⟨pb, po + b', none⟩ = some (.int .i64 wb) ∧ w'.cell? ⟨sb, b', none⟩ = some (.int .i64 sbv) ∧ w'.cell? ⟨pb, po + a', none⟩ = some (.int .i64 wa)) (go_keep) (fail)
                        all_goals
                          clear q1 q2 q3 q4 q5 q6 q7 hmin
                          go_wp2
                          exact ⟨⟨b' + 1, by omega, by go_num, Lib.hid (BL2.out.drew)⟩, by simp [intOf]; omega⟩
                      · have hbz2 : ¬ (b' : Int) < (j : Int) := by omega
                        go_wp2
                        exact ⟨⟨a' + 1, by omega, by go_num, BL2⟩, by simp [intOf]; omega⟩
                  · have haz : ¬ (a' : Int) < (j : Int) := by omega
                    obtain ⟨S9, sv9, f9, cs9, hW9, hO9, hR9, hS9, hsv9, hF9, hB9⟩ := HREL7.out
                    have hfin : Hid (RelC W w8 p j sb g m off cap Mb ws cl (k + 1) cc) :=
                      ⟨S9, sv9, f9, cs9, hW9, hO9.below BL.out, hR9.chg (Chg.of_below (F := fun _ => False) BL.out rfl) (fun _ _ hf => hf), hS9.below BL.out hS9.lt, hsv9, hF9.below BL.out hF9.lt, hB9.trans (BL.out.mono hB9.size)⟩
                    clear hW9 hO9 hR9 hS9 hsv9 hF9 hB9
                    go_wp2
                    exact ⟨⟨k + 1, cc, by omega, by rw [show 2 * j + (k + 1) = idn + 1 by have := HID.out; omega]; go_num, rfl, by go_num, hfin⟩, by simp [intOf]; omega⟩
              · clear v0 v1 v2
                rw [hT2] at hW2
                have HWT2 := Lib.hid hW2
                clear hT2 hW2
                go_wp2_with fail
                refine A1.out.mono ?_
                rintro e w4 ⟨rfl, h1, h2, h3⟩
                have HO4 := Lib.hid h1
                have HB4 := Lib.hid (HB.out.trans h2)
                have hB4 := (h3 sb (.inl rfl)).trans HS.out
                have HS4 : Hid (Bk w4 sb csS 3) := hB4
                have HR4 := Lib.hid (HR.out.keep (fun b hb => h3 b (.inr (.inl (Option.some.inj hb).symm))))
                have hF4 := HF.out.keep (h3 Mb (.inr (.inr rfl)))
                have HF4 := Lib.hid hF4
                have hlk := hF4.lookup_ok x b ⟨by omega, by omega⟩ HFX.out
                have hcs := HS4.out.cell b _ (HSV.out b hb)
                have hfs := HS4.out.free b
                have hsz4 : sb < w4.heap.size := HS4.out.lt
                clear h1 h2 h3 hB4 hF4
                have c45 : Chg (fun k => k = sb) w4 (w4.setCell ⟨sb, b, none⟩ (.int .i64 (sv b + cx))) := Chg.setCell (F := fun k => k = sb) (Chg.refl _ _) _ _ (.inl rfl)
                have HF5 : Hid (MapII (w4.setCell ⟨sb, b, none⟩ (.int .i64 (sv b + cx))) Mb idn f) := HF4.out.keep (c45.block Mb HF4.out.lt hms)
                have HS5 : Hid (Bk (w4.setCell ⟨sb, b, none⟩ (.int .i64 (sv b + cx))) sb (csS.setIfInBounds b (.int .i64 (sv b + cx))) 3) := HS4.out.set _ _
                have HO5 := Lib.hid (HO4.out.chg (c45.mono (fun k hk => .inl hk)))
                have HR5 := Lib.hid (HR4.out.chg c45 (fun b hb e => by cases hb; exact hgs e))
                have HB5 := Lib.hid (HB4.out.trans (c45.below (fun b hb => by subst hb; exact hsb0) HB4.out.size))
                clear c45
                go_wp2_with (at_mapUpdate; refine wpList_update_ii rfl (.tmp 128) (.tmp 129) (.tmp 130) rfl Mb _ _ rfl HF5.out (by unfold maxLen; omega) (idn : Int) (b : Int) rfl rfl (by unfold okI; omega) (by unfold okI; omega) ?_; intro w6 hF6 hg6; have HF6 := Lib.hid hF6; have c56 : Chg (fun k => k = Mb) _ w6 := Chg.of_grown hg6 (fun b hb => Option.some.inj hb); have HS6 := Lib.hid (c56.bk HS5.out (fun e => hms e.symm)); have HO6 := Lib.hid (HO5.out.chg (c56.mono (fun k hk => .inr (.inr hk)))); have hR6 := HR5.out.chg c56 (fun b hb e => by cases hb; exact hmg e.symm); have HR6 := Lib.hid hR6; have HB6 := Lib.hid (HB5.out.trans (c56.below (fun b hb => by subst hb; exact hmz0) HB5.out.size)); have hcl6 : w6.cell? ⟨g, off + idn % m, none⟩ = some (.int .i64 cc) := HCC.out w6 hR6; clear hF6 hg6 c56 hR6)
                refine (HO6.out.add HB6.out.size HG1.out b (idn : Int) cc HAD.out).mono ?_
                rintro e w7 ⟨rfl, h1, h2, h3⟩
                have HB7 := Lib.hid (HB6.out.trans h2)
                have HS7 : Hid (Bk w7 sb (csS.setIfInBounds b (.int .i64 (sv b + cx))) 3) := (h3 sb (.inl rfl)).trans HS6.out
                have hbl : b < csS.size := (Array.getElem?_eq_some_iff.1 (HSV.out b hb)).1
                have HSV7 : Hid (∀ i, i < j → (csS.setIfInBounds b (.int .i64 (sv b + cx)))[i]? = some (.int .i64 (upd sv b (sv b + cx) i))) := by
                  intro i hi
                  by_cases e : i = b
                  · subst e; rw [upd_at, Array.getElem?_setIfInBounds_self_of_lt hbl]
                  · rw [upd_ne _ _ _ _ e, Array.getElem?_setIfInBounds_ne (Ne.symm e)]; exact HSV.out i hi
                have HREL7 : Hid (RelC W w7 p j sb g m off cap Mb ws cl (k + 1) T) := by
                  refine ⟨S2, upd sv b (sv b + cx), setM f idn b, _, ?_, h1, HR6.out.keep (fun b hb => h3 b (.inr (.inl (Option.some.inj hb).symm))), HS7.out, HSV7.out, ?_, HB7.out⟩
                  · have := HWT2.out
                    rw [show ((2 * j + (k + 1) : Nat) : Int) = (idn : Int) + 1 by have := HID.out; omega]; exact this
                  · rw [show 2 * j + (k + 1) = idn + 1 by have := HID.out; omega]
                    exact HF6.out.keep (h3 Mb (.inr (.inr rfl)))
                have HWI := Lib.hid (HW.out.below HB7.out)
                clear h1 h2 h3 hcs hfs hlk hcl6
                go_wp2
                go_loopw [25] (fun a wr => ∃ a' : Nat, a' ≤ j ∧ a = .int .i64 a' ∧ Hid (Below w7.heap.size w7 wr)) (fun a _ => j - (intOf a).toNat)
                case atStart => exact ⟨0, Nat.zero_le _, rfl, Lib.hid (Below.refl _ _)⟩
                case round =>
                  obtain ⟨a', ha', rfl, BL⟩ := hrel
                  obtain ⟨w8, rfl⟩ : ∃ w8 : World, w8 = wr := ⟨_, rfl⟩
                  by_cases hlta : a' < j
                  · have haz : (a' : Int) < (j : Int) := by omega
                    have haz0 : (0 : Int) ≤ (a' : Int) := by omega
                    go_wp2
                    go_loopw [26] (fun a wr => ∃ b' : Nat, b' ≤ j ∧ a = .int .i64 b' ∧ Hid (Below w7.heap.size w7 wr)) (fun a _ => j - (intOf a).toNat)
                    case atStart => exact ⟨0, Nat.zero_le _, rfl, BL⟩
                    case round =>
                      obtain ⟨b', hb', rfl, BL2⟩ := hrel
                      obtain ⟨w9, rfl⟩ : ∃ w9 : World, w9 = wr := ⟨_, rfl⟩
                      by_cases hltb : b' < j
                      · have hbz2 : (b' : Int) < (j : Int) := by omega
                        have hbz20 : (0 : Int) ≤ (b' : Int) := by omega
                        have hS9 := HS7.out.below BL2.out HS7.out.lt
                        have hI9 := HWI.out.below BL2.out
                        have hla : a' < ws.length := by rw [HL.out]; exact hlta
                        have hlb : b' < ws.length := by rw [HL.out]; exact hltb
                        obtain ⟨_, _, ee, _, wca⟩ := hI9 a' ws[a'] (List.getElem?_eq_getElem hla)
                        cases ee
                        obtain ⟨_, _, ee, _, wcb⟩ := hI9 b' ws[b'] (List.getElem?_eq_getElem hlb)
                        cases ee
                        have sca := hS9.cell a' _ (HSV7.out a' hlta)
                        have scb := hS9.cell b' _ (HSV7.out b' hltb)
                        have hga : ws.getD a' 0 = ws[a'] := by simp [List.getD, hla]
                        have hgb : ws.getD b' 0 = ws[b'] := by simp [List.getD, hlb]
                        have wa1 : 1 ≤ ws[a'] ∧ ws[a'] ≤ 16 := by rw [← hga, ← HWT2.out.wt a' hlta]; exact HWT2.out.good.wt a' (by rw [HWT2.out.nn]; exact hlta)
                        have wb1 : 1 ≤ ws[b'] ∧ ws[b'] ≤ 16 := by rw [← hgb, ← HWT2.out.wt b' hltb]; exact HWT2.out.good.wt b' (by rw [HWT2.out.nn]; exact hltb)
                        have sa1 := HWT2.out.sv0 a' hlta
                        have sb1 := HWT2.out.sv0 b' hltb
                        have hT3 := HWT2.out.top
                        have hlaw := HWT2.out.law a' b' hlta hltb
                        rw [hga, hgb] at hlaw
                        generalize ws[a'] = wa at *
                        generalize ws[b'] = wb at *
                        generalize upd sv b (sv b + cx) a' = sa at *
                        generalize upd sv b (sv b + cx) b' = sbv at *
                        obtain ⟨mm, hmin⟩ : ∃ mm, (if wb < wa then wb else wa) = mm := ⟨_, rfl⟩
                        have hmm1 : 1 ≤ mm ∧ mm ≤ 16 ∧ mm ≤ wa := by rw [← hmin]; split <;> omega
                        have hlaw := hlaw mm ⟨by omega, hmm1.2.2⟩
                        have p1 : 0 ≤ sa * wb := Int.mul_nonneg (by omega) (by omega)
                        have p2' : sa * wb ≤ 1510000 * 16 := Int.mul_le_mul (by omega) wb1.2 (by omega) (by omega)
                        have p3 : 0 ≤ sbv * wa := Int.mul_nonneg (by omega) (by omega)
                        have p4 : sbv * wa ≤ 1510000 * 16 := Int.mul_le_mul (by omega) wa1.2 (by omega) (by omega)
                        have p5 : (sa * wb - sbv * wa) * mm ≤ (1510000 * 16) * 16 := by
                          have h1 : (sa * wb - sbv * wa) * mm ≤ (1510000 * 16) * mm := Int.mul_le_mul_of_nonneg_right (by omega) (by omega)
                          omega
                        have p6 : -((1510000 * 16) * 16) ≤ (sa * wb - sbv * wa) * mm := by
                          have h1 : (-(1510000 * 16)) * mm ≤ (sa * wb - sbv * wa) * mm := Int.mul_le_mul_of_nonneg_right (by omega) (by omega)
                          omega
                        have p7 : 0 ≤ 2 * (T) * wa := Int.mul_nonneg (by omega) (by omega)
                        have p8 : 2 * (T) * wa ≤ 20000 * 16 := Int.mul_le_mul (by omega) wa1.2 (by omega) (by omega)
                        have p9 : 0 ≤ 2 * (T) * wa * wb := Int.mul_nonneg p7 (by omega)
                        have p10 : 2 * (T) * wa * wb ≤ (20000 * 16) * 16 := Int.mul_le_mul p8 wb1.2 (by omega) (by omega)
                        have q1 : IntKind.i64.wrap (sa * wb) = sa * wb := by rw [IntKind.wrap_i64]; omega
                        have q2 : IntKind.i64.wrap (sbv * wa) = sbv * wa := by rw [IntKind.wrap_i64]; omega
                        have q3 : IntKind.i64.wrap (sa * wb - sbv * wa) = sa * wb - sbv * wa := by rw [IntKind.wrap_i64]; omega
                        have q4 : IntKind.i64.wrap ((sa * wb - sbv * wa) * mm) = (sa * wb - sbv * wa) * mm := by rw [IntKind.wrap_i64]; omega
                        have q5 : IntKind.i64.wrap (2 * (T)) = 2 * (T) := by rw [IntKind.wrap_i64]; omega
                        have q6 : IntKind.i64.wrap (2 * (T) * wa) = 2 * (T) * wa := by rw [IntKind.wrap_i64]; omega
                        have q7 : IntKind.i64.wrap (2 * (T) * wa * wb) = 2 * (T) * wa * wb := by rw [IntKind.wrap_i64]; omega
                        have hd : decide (2 * (T) * wa * wb < (sa * wb - sbv * wa) * mm) = false := by
                          rw [decide_eq_false_iff_not]; omega
                        clear p1 p2' p3 p4 p5 p6 p7 p8 p9 p10 hlaw hga hgb hS9 hI9 hmm1
                        go_wp2
                        go_region_held3 (fun w' => w'.cell? ⟨sb, a', none⟩ = some (.int .i64 sa) ∧ w'.cell? ⟨pb, po + b', none⟩ = some (.int .i64 wb) ∧ w'.cell? ⟨sb, b', none⟩ = some (.int .i64 sbv) ∧ w'.cell? ⟨pb, po + a', none⟩ = some (.int .i64 wa)) (go_keep) (fail)
                        all_goals
                          clear q1 q2 q3 q4 q5 q6 q7 hmin
                          go_wp2
                          exact ⟨⟨b' + 1, by omega, by go_num, Lib.hid (BL2.out.drew)⟩, by simp [intOf]; omega⟩
                      · have hbz2 : ¬ (b' : Int) < (j : Int) := by omega
                        go_wp2
                        exact ⟨⟨a' + 1, by omega, by go_num, BL2⟩, by simp [intOf]; omega⟩
                  · have haz : ¬ (a' : Int) < (j : Int) := by omega
                    obtain ⟨S9, sv9, f9, cs9, hW9, hO9, hR9, hS9, hsv9, hF9, hB9⟩ := HREL7.out
                    have hfin : Hid (RelC W w8 p j sb g m off cap Mb ws cl (k + 1) T) :=
                      ⟨S9, sv9, f9, cs9, hW9, hO9.below BL.out, hR9.chg (Chg.of_below (F := fun _ => False) BL.out rfl) (fun _ _ hf => hf), hS9.below BL.out hS9.lt, hsv9, hF9.below BL.out hF9.lt, hB9.trans (BL.out.mono hB9.size)⟩
                    clear hW9 hO9 hR9 hS9 hsv9 hF9 hB9
                    go_wp2
                    exact ⟨⟨k + 1, T, by omega, by rw [show 2 * j + (k + 1) = idn + 1 by have := HID.out; omega]; go_num, rfl, by go_num, hfin⟩, by simp [intOf]; omega⟩
            · obtain ⟨S, sv, f, csS, hW, hO, hR, hS, hsv, hF, hB⟩ := REL.out
              have HBX := Lib.hid hB
              clear hW hO hR hS hsv hF hB
              go_wp2
              go_ret
              exact ⟨rfl, HBX.out⟩
end Go.Proofs.Ytdnkliapcnfcoaa.fair
