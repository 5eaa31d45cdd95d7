/- aviaryref21.New. -/
import Derived.Test.YtdnkliapcnfcoaaRx
import Derived.Laws.OwnMore
namespace Go.Proofs.Ytdnkliapcnfcoaa.fair
open Go.ChangeShapes Go.WideShapes Go.ChangeAt Go.RowKit K
set_option linter.unusedVariables false
set_option linter.unusedSimpArgs false
theorem infoInt : (Try.prog.info? 3).map (fun i => (i.zero, i.size, i.bytes)) = some (some (.int .i64 0), 1, 8) := by kernel_rfl
def RS.new (ws : List Int) : RS := ⟨ws.length, fun i => ws.getD i 0, fun _ => 0, [], 0⟩
def encI (ws : List Int) : List Value := ws.map (Value.int .i64)
theorem Ints.src {w : World} {p : Option Addr} {ws : List Int} (h : Ints w p ws) : Src w p (encI ws) := by
  intro j u hu
  unfold encI at hu
  rw [List.getElem?_map, Option.map_eq_some_iff] at hu
  obtain ⟨x, hx, rfl⟩ := hu
  obtain ⟨b, off, rfl, hb, hc⟩ := h j x hx
  refine ⟨_, rfl, ?_⟩
  have hadd : (⟨b, off, none⟩ : Addr).add j = ⟨b, off + j, none⟩ := by unfold Addr.add; split <;> simp_all
  rw [hadd]; exact hc
theorem step_make_full {P : Program} {w : World} {ops : Array Oper} {o : Oper} {a : Act} {K : Act → World → Prop} {Q : Exit → Act → World → Prop} {E : Prop} (hgd : o.guard = none) (l c : Operand) (t : TypeId) (hop : o.op = Op.makeSlice t l c)
    (e : TypeId) (i : TypeInfo) (z : Value) (size : Nat) (h1 : P.underlying t = some (.slice e)) (h2 : P.info? e = some i) (h3 : i.zero = some z) (h4 : i.size = size)
    (kl kc : IntKind) (n : Nat) (hl : a.eval l = .int kl (n : Int)) (hc : a.eval c = .int kc (n : Int)) (b2 : i.bytes * n ≤ 281474976710656) (b3 : n ≤ maxLen)
    (hK : ∀ w', w'.ownsRow 0 e size (.slice (some ⟨w.heap.size, 0, none⟩) n n) n (madeCells z.cells (n * size)).toList → w.grownBy w' none → K (a.put o.dst (.slice (some ⟨w.heap.size, 0, none⟩) n n)) w') :
    if Region.wanted o (yielded ops a.tmps) = true then Oper.wp P o a w K Q else E := by
  have hw : Region.wanted o (yielded ops a.tmps) = true := by simp [Region.wanted, hgd]
  rw [if_pos hw]
  obtain ⟨w', hrun, r1, r2⟩ := run_make_full (P := P) w 0 t e i z size h1 h2 h3 h4 kl kc n b2 b3 (Nat.zero_le _)
  unfold Oper.wp
  simp [execOp, hop, hl, hc, hrun, Result.andThen]
  exact hK w' r1 r2
/-- Made anew: the cells are zeros. -/
theorem made_cells {w : World} {g n : Nat} {t : TypeId} (hn : 0 < n) (h : w.ownsRow 0 t 1 (.slice (some ⟨g, 0, none⟩) n n) n (madeCells #[.int .i64 0] (n * 1)).toList) : ∃ cs, Bk w g cs t ∧ ∀ i, i < n → cs[i]? = some (.int .i64 0) := by
  rcases h.2 with ⟨h0, _⟩ | ⟨g', cap, cur, hv, _, hg, _, _, hsz, htk⟩
  · cases h0
  · cases hv
    refine ⟨cur, hg, fun i hi => ?_⟩
    have : (cur.toList.take (n * 1))[i]? = (madeCells #[.int .i64 0] (n * 1)).toList[i]? := by rw [htk]
    rw [List.getElem?_take, if_pos (by omega), Array.getElem?_toList, Array.getElem?_toList] at this
    rw [this]
    simp [madeCells, hi, Nat.mod_one]
/-- Behind New: refused, or made anew. -/
def RMade (w : World) (ws : List Int) (e : Ending) (w' : World) : Prop :=
  Below w.heap.size w w' ∧ ((wOk ws = false ∧ e = .returned (.tuple #[.pointer none, .int .i64 20])) ∨
    (wOk ws = true ∧ ∃ p L, e = .returned (.tuple #[.pointer (some ⟨p, 0, none⟩), .int .i64 0]) ∧ RR w' p (RS.new ws) L (fun b => w.heap.size ≤ b)))
theorem rnew_short (w : World) (p : Option Addr) (n c : Nat) (h : n < 1 ∨ 4 < n) :
    Calls Try.prog 13 #[.slice p n c] w fun e w' => e = .returned (.tuple #[.pointer none, .int .i64 20]) ∧ Below w.heap.size w w' := by
  rcases h with h | h
  · obtain rfl : n = 0 := by omega
    go_enter Try.func13, Try.ntmps13
    go_wp2
    go_loop [4, 5] (fun k s => k = .bool false ∧ s = .int .i64 0) (fun _ _ => 0)
    case atStart => exact ⟨rfl, rfl⟩
    case round =>
      obtain ⟨rfl, rfl⟩ := hrel
      go_wp2
      go_ret2
      exact ⟨rfl, Below.refl _ _⟩
  · have h1 : (1 : Int) ≤ (n : Int) := by omega
    have h2 : ¬ (n : Int) ≤ 4 := by omega
    have h3 : (0 : Int) < (n : Int) := by omega
    have h4 : 0 < n := by omega
    have hd : decide ((n : Int) ≤ 4) = false := by simpa using h2
    go_enter Try.func13, Try.ntmps13
    go_wp2
    go_loop [4, 5] (fun k s => k = .bool false ∧ s = .int .i64 0) (fun _ _ => 0)
    case atStart => exact ⟨rfl, rfl⟩
    case round =>
      obtain ⟨rfl, rfl⟩ := hrel
      go_wp2
      go_ret2
      exact ⟨rfl, Below.refl _ _⟩
theorem allTake {ws : List Int} {j : Nat} {x : Int} (hx : ws[j]? = some x) : (ws.take (j + 1)).all wGood = ((ws.take j).all wGood && wGood x) := by
  rw [take_succ_of hx, List.all_append]; simp
theorem rnew_done (w W : World) (ws : List Int) (n : Nat) (hl : ws.length = n) (h1 : 1 ≤ n) (h4 : n ≤ 4) (hok : wOk ws = true) (p bw bc cw cc : Nat) (cs Z : Array Value) (hb : Below w.heap.size w W)
    (hp : Bk W p #[.slice (some ⟨bw, 0, none⟩) n cw, .slice (some ⟨bc, 0, none⟩) n cc, .slice none 0 0, .int .i64 0] 63) (hw : Bk W bw cs 3) (hc : Bk W bc Z 3)
    (n1 : p ≠ bw) (n2 : p ≠ bc) (n3 : bw ≠ bc) (l1 : w.heap.size ≤ p) (l2 : w.heap.size ≤ bw) (l3 : w.heap.size ≤ bc)
    (hcs : ∀ j, j < n * 1 → cs[j]? = (encI ws)[j]?) (hZ : ∀ k, k < n → Z[k]? = some (.int .i64 0)) :
    RMade w ws (.returned (.tuple #[.pointer (some ⟨p, 0, none⟩), .int .i64 0])) W := by
  subst hl
  refine ⟨hb, .inr ⟨hok, p, ⟨bw, bc, cw, cc, cs, Z, .slice none 0 0, none⟩, rfl, ⟨hp, h4, h1, Nat.zero_le _, hw, hc, fun i hi => ?_, fun i hi => hZ i hi, Row.nil _ _ _, n1, n2, n3, ⟨by simp, by simp, by simp⟩, l1, l2, l3, fun b hb => by simp at hb⟩⟩⟩
  have hi : i < ws.length := hi
  show cs[i]? = some (.int .i64 (ws.getD i 0))
  rw [hcs i (by omega)]
  simp [encI, hi]
set_option maxHeartbeats 2000000 in
theorem rnew_at (w : World) (p : Option Addr) (c : Nat) (ws : List Int) (n : Nat) (hl : ws.length = n) (hw : Ints w p ws) (h1 : 1 ≤ n) (h4 : n ≤ 4) :
    Calls Try.prog 13 #[.slice p n c] w (RMade w ws) := by
  obtain ⟨i0, hi0, hz0, hz1, hz2⟩ := info_parts infoInt
  have HL := Lib.hid hl
  have HW := Lib.hid hw
  have g1 : (1 : Int) ≤ (n : Int) := by omega
  have g2 : (n : Int) ≤ 4 := by omega
  have hok : wOk ws = ws.all wGood := by
    unfold wOk
    rw [show decide (1 ≤ ws.length) = true by simpa using (by omega : 1 ≤ ws.length), show decide (ws.length ≤ 4) = true by simpa using (by omega : ws.length ≤ 4)]
    simp
  have HOK := Lib.hid hok
  clear hl hw hok
  go_enter Try.func13, Try.ntmps13
  go_wp2
  go_loop [4, 5] (fun b s => ∃ j : Nat, j ≤ n ∧ s = .int .i64 j ∧ b = .bool ((ws.take j).all wGood)) (fun _ s => n - (intOf s).toNat)
  case atStart => exact ⟨0, Nat.zero_le _, rfl, by simp⟩
  case round =>
    obtain ⟨j, hj, rfl, rfl⟩ := hrel
    by_cases hlt : j < n
    · have hltz : (j : Int) < (n : Int) := by omega
      have hjz : (0 : Int) ≤ (j : Int) := by omega
      cases hb : (ws.take j).all wGood
      · have hF : wOk ws = false := by
          rw [HOK.out]
          cases hh : ws.all wGood
          · rfl
          · rw [List.all_eq_true] at hh
            rw [← hb]; symm
            rw [List.all_eq_true]
            exact fun x hx => hh x (List.mem_of_mem_take hx)
        have HF := Lib.hid hF
        clear hF
        go_wp2
        go_ret2
        exact ⟨Below.refl _ _, .inl ⟨HF.out, rfl⟩⟩
      · obtain ⟨x, hx⟩ : ∃ x, ws[j]? = some x := ⟨_, List.getElem?_eq_getElem (by rw [HL.out]; exact hlt)⟩
        obtain ⟨bb, off, rfl, hbl, hcx⟩ := HW.out j x hx
        have HA := allTake hx
        rw [hb, Bool.true_and] at HA
        have HA := Lib.hid HA
        clear hx hb
        by_cases hx1 : 1 ≤ x
        · by_cases hx2 : x ≤ 16
          · have HG : Hid (wGood x = true) := by show _ = _; simp [wGood, hx1, hx2]
            go_wp2
            exact ⟨⟨j + 1, by omega, by go_num, by rw [HA.out, HG.out]⟩, by simp [intOf]; omega⟩
          · have HG : Hid (wGood x = false) := by show _ = _; simp [wGood, hx2]
            have hx3 : 16 < x := by omega
            clear hx2
            go_wp2
            exact ⟨⟨j + 1, by omega, by go_num, by rw [HA.out, HG.out]; simp; omega⟩, by simp [intOf]; omega⟩
        · have HG : Hid (wGood x = false) := by show _ = _; simp [wGood, hx1]
          have hx3 : x < 1 := by omega
          clear hx1
          go_wp2
          exact ⟨⟨j + 1, by omega, by go_num, by rw [HA.out, HG.out]⟩, by simp [intOf]; omega⟩
    · have hltz : ¬ (j : Int) < (n : Int) := by omega
      obtain rfl : j = n := by omega
      have ht : ws.take j = ws := by rw [← HL.out, List.take_length]
      rw [ht]
      cases hb : ws.all wGood
      · have HF : Hid (wOk ws = false) := HOK.out.trans hb
        clear hb
        go_wp2
        go_ret2
        exact ⟨Below.refl _ _, .inl ⟨HF.out, rfl⟩⟩
      · have HF : Hid (wOk ws = true) := HOK.out.trans hb
        clear hb
        obtain ⟨x, hx⟩ : ∃ x, ws[0]? = some x := ⟨_, List.getElem?_eq_getElem (by rw [HL.out]; exact h1)⟩
        obtain ⟨bb, off, rfl, hbl, hcx⟩ := HW.out 0 x hx
        have S0 := HW.out.src
        have SRC : Hid (∀ w'', Below w.heap.size w w'' → Src w'' (some ⟨bb, off, none⟩) (encI ws)) := by
          intro w'' h j u hu
          obtain ⟨ad, e1, e2⟩ := S0 j u hu
          cases e1
          refine ⟨_, rfl, ?_⟩
          have hb : ((⟨bb, off, none⟩ : Addr).add j).block = bb := by unfold Addr.add; split <;> rfl
          exact (World.cell?_of_block (h.block _ (by rw [hb]; exact hbl))).trans e2
        obtain ⟨Z, hZ⟩ : ∃ Z, Z = madeCells (Value.int .i64 0).cells (((j : Int)).toNat * i0.size) := ⟨_, rfl⟩
        have HZ : Hid (∀ k, k < j → Z[k]? = some (.int .i64 0)) := by
          intro k hk
          rw [hZ, hz1]
          simp [madeCells, Value.cells, hk, Nat.mod_one]
        have hmk : ∀ w, (Instr.makeSlice 22 (.int .i64 (j : Int)) (.int .i64 (j : Int))).run Try.prog w = .ok (.slice (some ⟨w.heap.size, 0, none⟩) j j) (w.alloc (.cells Z 3)) := by
          intro w
          have h := run_make (P := Try.prog) w 22 3 i0 _ Try.underlying22 hi0 hz0 .i64 .i64 (j : Int) (j : Int) (by omega) (Int.le_refl _) (by rw [hz2]; omega) (by omega)
          rw [← hZ] at h
          simpa using h
        clear hx hcx g1 g2 S0 hZ
        go_wp2_with fail
        go_region_held3 (fun _ => True) (trivial) ((refine step_append_fresh rfl (.tmp 37) (.tmp 38) 22 rfl 3 i0 _ 1 Try.underlying22 hi0 hz0 hz1 rfl _ (by rfl) ⟨bb, off, none⟩ _ c (encI ws) (by rfl) (by unfold encI; rw [List.length_map, HL.out, Nat.mul_one]) (SRC.out _ (by repeat (first | exact Below.refl _ _ | refine Below.drew ?_ | refine Below.alloc ?_ (by simp <;> omega) _))) (by omega) (by rw [hz2]; omega) (by unfold maxLen; omega) ?_; intro cp cs hcp1 hcp2 hsz hcs; have HCS := Lib.hid hcs; clear hcs))
        all_goals
          go_wp2
          go_ret2
          refine rnew_done w _ ws j HL.out h1 h4 HF.out _ _ _ cp j cs Z (by repeat (first | exact Below.refl _ _ | refine Below.drew ?_ | refine Below.alloc ?_ (by simp <;> omega) _)) (by repeat (first | exact Bk.new' _ _ _ _ (by simp) | refine Bk.alloc ?_ _ | refine Bk.drew ?_)) (by repeat (first | exact Bk.new' _ _ _ _ (by simp) | refine Bk.alloc ?_ _ | refine Bk.drew ?_)) (by repeat (first | exact Bk.new' _ _ _ _ (by simp) | refine Bk.alloc ?_ _ | refine Bk.drew ?_)) (by omega) (by omega) (by omega) (by omega) (by omega) (by omega) HCS.out HZ.out
theorem rnew_c (w : World) (p : Option Addr) (c n : Nat) (ws : List Int) (hl : ws.length = n) (hw : Ints w p ws) :
    Calls Try.prog 13 #[.slice p n c] w (RMade w ws) := by
  by_cases h1 : 1 ≤ n ∧ n ≤ 4
  · exact rnew_at w p c ws n hl hw h1.1 h1.2
  · refine (rnew_short w p n c (by omega)).mono fun e w' hp => ⟨hp.2, .inl ⟨?_, hp.1⟩⟩
    unfold wOk
    rw [Bool.and_eq_false_iff, Bool.and_eq_false_iff]
    left
    simp only [decide_eq_false_iff_not]
    omega
end Go.Proofs.Ytdnkliapcnfcoaa.fair
