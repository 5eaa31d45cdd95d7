/- fair.New. -/
import Derived.Test.YtdnkliapcnfcoaaFc
import Derived.Deep.AppendLies
namespace Go.Proofs.Ytdnkliapcnfcoaa.fair
open Go.ChangeShapes Go.WideShapes Go.ChangeAt Go.RowKit K
set_option linter.unusedVariables false
set_option linter.unusedSimpArgs false
/-- The cells of a slice of ints. -/
def Ints (w : World) (p : Option Addr) (q : List Int) : Prop :=
  ∀ j x, q[j]? = some x → ∃ b off, p = some ⟨b, off, none⟩ ∧ b < w.heap.size ∧ w.cell? ⟨b, off + j, none⟩ = some (.int .i64 x)
theorem Ints.below {w w' : World} {p : Option Addr} {q : List Int} (h : Ints w p q) (hb : Below w.heap.size w w') : Ints w' p q := by
  intro j x hx
  obtain ⟨b, off, h1, h2, h3⟩ := h j x hx
  exact ⟨b, off, h1, Nat.lt_of_lt_of_le h2 hb.size, (hb.cell (p := ⟨b, off + j, none⟩) h2).trans h3⟩
def wGood (x : Int) : Bool := decide (1 ≤ x) && decide (x ≤ 16)
def wOk (ws : List Int) : Bool := decide (1 ≤ ws.length) && decide (ws.length ≤ 4) && ws.all wGood
def FS.new (ws : List Int) : FS := ⟨ws.length, fun i => ws.getD i 0, fun _ => 0, fun _ => [], 0⟩
def encT (ws : List Int) : List Value := ws.flatMap fun x => [.int .i64 x, .int .i64 0, .slice none 0 0]
theorem encT_snoc (l : List Int) (x : Int) : encT (l ++ [x]) = encT l ++ [.int .i64 x, .int .i64 0, .slice none 0 0] := by simp [encT]
theorem encT_length (l : List Int) : (encT l).length = l.length * 3 := by
  induction l with
  | nil => rfl
  | cons x l ih => simp only [encT, List.flatMap_cons, List.length_append, List.length_cons, List.length_nil] at ih ⊢; omega
theorem encT_get (l : List Int) (j : Nat) (hj : j < l.length) : (encT l)[j * 3]? = some (.int .i64 (l.getD j 0)) ∧ (encT l)[j * 3 + 1]? = some (.int .i64 0) ∧ (encT l)[j * 3 + 2]? = some (.slice none 0 0) := by
  induction l generalizing j with
  | nil => simp at hj
  | cons y l ih =>
    have e : encT (y :: l) = .int .i64 y :: .int .i64 0 :: .slice none 0 0 :: encT l := rfl
    cases j with
    | zero => exact ⟨rfl, rfl, rfl⟩
    | succ j =>
      have := ih j (by simpa using hj)
      rw [e, show (j + 1) * 3 = j * 3 + 1 + 1 + 1 by omega]
      simpa using this
theorem infoTen : (Try.prog.info? 54).map (fun i => (i.zero, i.size, i.bytes)) = some (some (.agg #[.int .i64 0, .int .i64 0, .slice none 0 0]), 3, 40) := by kernel_rfl
theorem new_short (w : World) (p : Option Addr) (n c : Nat) (h : n < 1 ∨ 4 < n) :
    Calls Try.prog 8 #[.slice p n c] w fun e w' => e = .returned (.tuple #[.pointer none, .int .i64 20]) ∧ Below w.heap.size w w' := by
  rcases h with h | h
  · obtain rfl : n = 0 := by omega
    go_enter Try.func8, Try.ntmps8
    go_wp2
    go_ret2
    exact ⟨rfl, Below.refl _ _⟩
  · have h1 : ¬ (n : Int) < 1 := by omega
    have h2 : (4 : Int) < (n : Int) := by omega
    go_enter Try.func8, Try.ntmps8
    go_wp2
    go_ret2
    exact ⟨rfl, Below.refl _ _⟩
/-- The tenants so far. -/
def NewRel (w wr : World) (ws : List Int) (k : Nat) : Prop :=
  Below w.heap.size w wr ∧ ∃ v, Bk wr w.heap.size #[v, .int .i64 0] 51 ∧ wr.ownsRow (w.heap.size + 1) 54 3 v k (encT (ws.take k))
def NewPost (w : World) (ws : List Int) (i : Nat) (e : Ending) (w' : World) : Prop :=
  if i < ws.length then e = .returned (.tuple #[.pointer none, .int .i64 20]) ∧ Below w.heap.size w w'
  else e = .returned (.tuple #[.pointer (some ⟨w.heap.size, 0, none⟩), .int .i64 0]) ∧ Below w.heap.size w w' ∧ NewRel w w' ws ws.length
set_option maxHeartbeats 2000000 in
theorem new_at (w : World) (p : Option Addr) (c : Nat) (ws : List Int) (n : Nat) (hl : ws.length = n) (hw : Ints w p ws) (h1 : 1 ≤ n) (h4 : n ≤ 4) (i : Nat) (hi : i ≤ n) (hgood : ∀ k x, k < i → ws[k]? = some x → wGood x = true) (hbad : ∀ x, ws[i]? = some x → wGood x = false) :
    Calls Try.prog 8 #[.slice p n c] w (NewPost w ws i) := by
  obtain ⟨i0, hi0, hz0, hz1, hz2⟩ := info_parts infoTen
  have HL := Lib.hid hl
  have HW := Lib.hid hw
  have HG := Lib.hid hgood
  have HB := Lib.hid hbad
  have g1 : ¬ (n : Int) < 1 := by omega
  have g2 : ¬ (4 : Int) < (n : Int) := by omega
  clear hl hw hgood hbad
  go_enter Try.func8, Try.ntmps8
  go_wp2
  go_loopw [19] (fun s wr => ∃ j : Nat, j ≤ i ∧ s = .int .i64 j ∧ Hid (NewRel w wr ws j)) (fun s _ => n - (intOf s).toNat)
  case atStart => exact ⟨0, Nat.zero_le _, rfl, Lib.hid ⟨(Below.refl _ _).alloc (Nat.le_refl _) _, .slice none 0 0, Bk.new _ _ _, World.ownsRow_nil _ _ _ _⟩⟩
  case round =>
    obtain ⟨j, hj, rfl, REL⟩ := hrel
    by_cases hlt : j < n
    · have hltz : (j : Int) < (n : Int) := by omega
      have hjz : (0 : Int) ≤ (j : Int) := by omega
      obtain ⟨x, hx⟩ : ∃ x, ws[j]? = some x := ⟨_, List.getElem?_eq_getElem (by rw [HL.out]; exact hlt)⟩
      obtain ⟨bw, v, hbk, hown⟩ := REL.out
      obtain ⟨bb, off, rfl, hbl, hcx⟩ := HW.out.below bw j x hx
      have HX := Lib.hid hx
      have hsz := hbk.lt
      by_cases hji : j < i
      · have hgd := HG.out j x hji hx
        simp only [wGood, Bool.and_eq_true, decide_eq_true_eq] at hgd
        obtain ⟨hx1, hx2⟩ := hgd
        have hcv : wr.cell? ⟨w.heap.size, 0, none⟩ = some v := hbk.cell 0 _ rfl
        have HBK := Lib.hid hbk
        have HBW := Lib.hid bw
        have HOW : Hid (∀ k, v.ownBlock = some k → w.heap.size + 1 ≤ k) := fun k hk => (hown.lt k hk).1
        have HO := Lib.hid (hown.alloc (.cells #[.int .i64 x, .int .i64 0, .slice none 0 0] 54))
        clear hbk bw hown hx
        go_wp2_with (at_builtin; refine wpList_append_lies _ rfl (.tmp 33) (.tmp 36) 49 rfl (w.heap.size + 1) 54 i0 _ 3 40 Try.underlying49 hi0 hz0 hz1 hz2 rfl (by decide) v j (encT (ws.take j)) rfl HO.out ⟨wr.heap.size, 0, none⟩ 1 1 [.int .i64 x, .int .i64 0, .slice none 0 0] rfl rfl (World.news_of_block (cs := #[.int .i64 x, .int .i64 0, .slice none 0 0]) (heap_alloc_new wr _)) (by simp [Value.oneCell']) (by omega) (by unfold maxLen; omega) (by omega) (by simp; omega) _ rfl ?_; intro g cp w2 hown2 hgrow hat hlt2; have B2 := ((HBK.out.alloc (.cells #[.int .i64 x, .int .i64 0, .slice none 0 0] 54)).grown hgrow (fun e => absurd (HOW.out _ e.symm) (by omega))); have hc2 : w2.cell? ⟨w.heap.size, 0, none⟩ = some v := B2.cell 0 _ rfl; have hf2 := B2.free 0; have HB2 := Lib.hid B2; have HO2 := Lib.hid hown2; have HG2 := Lib.hid hgrow; clear B2 hown2 hgrow hat hlt2)
        refine ⟨⟨j + 1, by omega, by go_num, ?_⟩, by simp [intOf]; omega⟩
        refine Lib.hid ⟨(((HBW.out.alloc (by omega) _).grown HG2.out (by simp; omega) (fun k hk => by have := HOW.out k hk; omega)).setCell (Nat.le_refl _) _), _, HB2.out.set 0 _, ?_⟩
        have ht : ws.take (j + 1) = ws.take j ++ [x] := by
          have := HX.out
          rw [List.take_succ_eq_append_getElem (List.getElem?_eq_some_iff.1 this).1, (List.getElem?_eq_some_iff.1 this).2]
        rw [ht, encT_snoc]
        exact ownsRow_setCell_below HO2.out (Nat.lt_succ_self _) _
      · obtain rfl : j = i := by omega
        have hgd := HB.out x hx
        have HBW := Lib.hid bw
        have HE : Hid (NewPost w ws j (.returned (.tuple #[.pointer none, .int .i64 20])) wr) := by
          unfold NewPost; rw [HL.out, if_pos hlt]; exact ⟨rfl, bw⟩
        clear hbk bw hown hx
        by_cases hx1 : x < 1
        · go_wp2
          go_ret2
          exact HE.out
        · have hx2 : 16 < x := by
            simp only [wGood, Bool.and_eq_false_iff, decide_eq_false_iff_not] at hgd; omega
          have hx3 : 1 ≤ x := by omega
          clear hgd hx1
          go_wp2
          go_ret2
          exact HE.out
    · have hltz : ¬ (j : Int) < (n : Int) := by omega
      obtain rfl : j = n := by omega
      obtain rfl : j = i := by omega
      have HE : Hid (NewPost w ws j (.returned (.tuple #[.pointer (some ⟨w.heap.size, 0, none⟩), .int .i64 0])) wr) := by
        unfold NewPost; rw [HL.out, if_neg hlt]; exact ⟨rfl, REL.out.1, REL.out⟩
      go_wp2
      go_ret2
      exact HE.out
theorem new_fr (w w' : World) (ws : List Int) (h1 : 1 ≤ ws.length) (h4 : ws.length ≤ 4) (h : NewRel w w' ws ws.length) : ∃ L, FR w' w.heap.size (FS.new ws) L (fun b => w.heap.size ≤ b) := by
  obtain ⟨hb, v, hbk, hown⟩ := h
  rw [List.take_length] at hown
  rcases hown.2 with ⟨_, h0⟩ | ⟨g, cap, cur, rfl, hbg, hg, hn, hcap, hsz, htk⟩
  · omega
  · have hget : ∀ k x, k < ws.length * 3 → (encT ws)[k]? = x → cur[k]? = x := by
      intro k x hk hx
      rw [← htk, List.getElem?_take, if_pos hk, Array.getElem?_toList] at hx
      exact hx
    refine ⟨⟨g, cap, cur, fun _ => .slice none 0 0, fun _ => none⟩, ⟨hbk, hg, ?_, h4, fun i hi => ?_, fun i hi => ?_, fun i hi => ?_, fun i hi => Row.nil _ _ _, ?_, fun i hi => ⟨by simp, by simp⟩, fun i j _ _ _ b hb => by simp at hb, Nat.le_refl _, ?_, fun i b _ hb => by simp at hb⟩⟩
    · show ws.length * 3 ≤ cur.size
      rw [hsz]; exact Nat.mul_le_mul_right 3 hn
    · exact hget _ _ (by have : i < ws.length := hi; omega) (encT_get ws i hi).1
    · exact hget _ _ (by have : i < ws.length := hi; omega) (encT_get ws i hi).2.1
    · exact hget _ _ (by have : i < ws.length := hi; omega) (encT_get ws i hi).2.2
    · show w.heap.size ≠ g
      omega
    · show w.heap.size ≤ g
      omega
/-- The first that is no weight. -/
theorem wOk_at (ws : List Int) : ∃ i, i ≤ ws.length ∧ (∀ k x, k < i → ws[k]? = some x → wGood x = true) ∧ (∀ x, ws[i]? = some x → wGood x = false) ∧ (ws.all wGood = true ↔ i = ws.length) := by
  induction ws with
  | nil => exact ⟨0, Nat.le_refl _, fun k x hk => absurd hk (Nat.not_lt_zero _), by simp, by simp⟩
  | cons y ws ih =>
    cases hy : wGood y
    · refine ⟨0, Nat.zero_le _, fun k x hk => absurd hk (Nat.not_lt_zero _), ?_, by simp [hy]⟩
      intro x hx; simp at hx; subst hx; exact hy
    · obtain ⟨i, h1, h2, h3, h4⟩ := ih
      refine ⟨i + 1, by simpa using h1, ?_, by simpa using h3, by simp [hy, h4]⟩
      intro k x hk hx
      cases k with
      | zero => simp at hx; subst hx; exact hy
      | succ k => exact h2 k x (by omega) (by simpa using hx)
/-- Behind New: refused, or made anew. -/
def MadePost (w : World) (ws : List Int) (e : Ending) (w' : World) : Prop :=
  Below w.heap.size w w' ∧ ((wOk ws = false ∧ e = .returned (.tuple #[.pointer none, .int .i64 20])) ∨
    (wOk ws = true ∧ e = .returned (.tuple #[.pointer (some ⟨w.heap.size, 0, none⟩), .int .i64 0]) ∧ ∃ L, FR w' w.heap.size (FS.new ws) L (fun b => w.heap.size ≤ b)))
theorem new_c (w : World) (p : Option Addr) (c n : Nat) (ws : List Int) (hl : ws.length = n) (hw : Ints w p ws) :
    Calls Try.prog 8 #[.slice p n c] w (MadePost w ws) := by
  by_cases h1 : 1 ≤ n ∧ n ≤ 4
  · obtain ⟨i, hi, hg, hb, hall⟩ := wOk_at ws
    refine (new_at w p c ws n hl hw h1.1 h1.2 i (hl ▸ hi) hg hb).mono fun e w' hp => ?_
    unfold NewPost at hp
    split at hp
    next hlt =>
      refine ⟨hp.2, .inl ⟨?_, hp.1⟩⟩
      unfold wOk
      have : ws.all wGood = false := by
        cases hh : ws.all wGood
        · rfl
        · have := hall.1 hh; omega
      rw [this, Bool.and_false]
    next hge =>
      refine ⟨hp.2.1, .inr ⟨?_, hp.1, new_fr w w' ws (by omega) (by omega) hp.2.2⟩⟩
      unfold wOk
      rw [hall.2 (by omega)]
      simp; omega
  · refine (new_short w p n c (by omega)).mono fun e w' hp => ⟨hp.2, .inl ⟨?_, hp.1⟩⟩
    unfold wOk
    rw [Bool.and_eq_false_iff, Bool.and_eq_false_iff]
    left
    simp only [decide_eq_false_iff_not]
    omega
theorem good_new (ws : List Int) (h : wOk ws = true) (B : Int) (hB : 0 ≤ B) : Good (FS.new ws) B := by
  simp only [wOk, Bool.and_eq_true, decide_eq_true_eq, List.all_eq_true] at h
  obtain ⟨⟨h1, h2⟩, h3⟩ := h
  refine ⟨h2, fun i hi => by show 0 ≤ 16; omega, fun i hi => ?_, fun i hi => ⟨Int.le_refl _, hB⟩, ⟨Int.le_refl _, hB⟩, fun i hi x hx => absurd hx (List.not_mem_nil)⟩
  have hi : i < ws.length := hi
  have := h3 (ws[i]) (List.getElem_mem hi)
  simp only [wGood, Bool.and_eq_true, decide_eq_true_eq] at this
  show 1 ≤ ws.getD i 0 ∧ ws.getD i 0 ≤ 16
  simpa [List.getD, hi] using this
end Go.Proofs.Ytdnkliapcnfcoaa.fair
