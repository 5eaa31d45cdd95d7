/- aviaryref21.Fair: how it lies in the heap; is, Clock, Waiting, at. -/
import Derived.Test.YtdnkliapcnfcoaaFe
namespace Go.Proofs.Ytdnkliapcnfcoaa.fair
open Go.ChangeShapes Go.WideShapes Go.ChangeAt Go.RowKit K
set_option linter.unusedVariables false
set_option linter.unusedSimpArgs false
/-- The reference: weights, clocks, what waits (tenant, id, cost), the time. -/
structure RS where
  n : Nat
  wt : Nat → Int
  ck : Nat → Int
  l : List (Int × Int × Int)
  now : Int
def encL (l : List (Int × Int × Int)) : List Value := l.flatMap fun x => [.int .i64 x.1, .int .i64 x.2.1, .int .i64 x.2.2]
theorem encL_append (a b : List (Int × Int × Int)) : encL (a ++ b) = encL a ++ encL b := by simp [encL]
theorem encL_length (l : List (Int × Int × Int)) : (encL l).length = l.length * 3 := by
  induction l with
  | nil => rfl
  | cons x l ih => simp only [encL, List.flatMap_cons, List.length_append, List.length_cons, List.length_nil] at ih ⊢; omega
theorem encL_get (l : List (Int × Int × Int)) (j : Nat) (x : Int × Int × Int) (h : l[j]? = some x) : (encL l)[j * 3]? = some (.int .i64 x.1) ∧ (encL l)[j * 3 + 1]? = some (.int .i64 x.2.1) ∧ (encL l)[j * 3 + 2]? = some (.int .i64 x.2.2) := by
  induction l generalizing j with
  | nil => simp at h
  | cons y l ih =>
    have e : encL (y :: l) = .int .i64 y.1 :: .int .i64 y.2.1 :: .int .i64 y.2.2 :: encL l := rfl
    cases j with
    | zero => simp at h; subst h; exact ⟨rfl, rfl, rfl⟩
    | succ j =>
      have := ih j (by simpa using h)
      rw [e, show (j + 1) * 3 = j * 3 + 1 + 1 + 1 by omega]
      simpa using this
theorem encL_drop (l : List (Int × Int × Int)) (j : Nat) : encL (l.drop j) = (encL l).drop (j * 3) := by
  induction l generalizing j with
  | nil => simp [encL]
  | cons x l ih =>
    cases j with
    | zero => simp
    | succ j =>
      have e : encL (x :: l) = .int .i64 x.1 :: .int .i64 x.2.1 :: .int .i64 x.2.2 :: encL l := rfl
      rw [e, show (j + 1) * 3 = j * 3 + 1 + 1 + 1 by omega]
      simpa using ih j
theorem encL_take (l : List (Int × Int × Int)) (j : Nat) : encL (l.take j) = (encL l).take (j * 3) := by
  induction l generalizing j with
  | nil => simp [encL]
  | cons x l ih =>
    cases j with
    | zero => simp [encL]
    | succ j =>
      have e : ∀ m, encL (x :: m) = .int .i64 x.1 :: .int .i64 x.2.1 :: .int .i64 x.2.2 :: encL m := fun _ => rfl
      rw [show (j + 1) * 3 = j * 3 + 1 + 1 + 1 by omega, List.take_succ_cons, e, e, List.take_succ_cons, List.take_succ_cons, List.take_succ_cons, ih j]
theorem encL_one (l : List (Int × Int × Int)) : ∀ u ∈ encL l, u.oneCell' = true := by
  intro u hu
  unfold encL at hu
  obtain ⟨x, _, hx⟩ := List.mem_flatMap.1 hu
  simp at hx
  rcases hx with rfl | rfl | rfl <;> rfl
structure RL where
  bw : Nat
  bc : Nat
  capw : Nat
  capc : Nat
  csw : Array Value
  csc : Array Value
  v : Value
  own : Option Nat
structure RR (w : World) (p : Nat) (S : RS) (L : RL) (F : Nat → Prop) : Prop where
  head : Bk w p #[.slice (some ⟨L.bw, 0, none⟩) S.n L.capw, .slice (some ⟨L.bc, 0, none⟩) S.n L.capc, L.v, .int .i64 S.now] 63
  few : S.n ≤ 4
  pos : 1 ≤ S.n
  short : S.l.length ≤ 1000
  wts : Bk w L.bw L.csw 3
  cks : Bk w L.bc L.csc 3
  c0 : ∀ i, i < S.n → L.csw[i]? = some (.int .i64 (S.wt i))
  c1 : ∀ i, i < S.n → L.csc[i]? = some (.int .i64 (S.ck i))
  row : Row w 43 3 L.v L.own S.l.length (encL S.l)
  ne1 : p ≠ L.bw
  ne2 : p ≠ L.bc
  ne3 : L.bw ≠ L.bc
  ne4 : L.own ≠ some p ∧ L.own ≠ some L.bw ∧ L.own ≠ some L.bc
  fp : F p
  fw : F L.bw
  fc : F L.bc
  fo : ∀ b, L.own = some b → F b
namespace RR
variable {w w' : World} {p : Nat} {S : RS} {L : RL} {F G : Nat → Prop}
theorem mono (h : RR w p S L F) (hG : ∀ b, F b → G b) : RR w p S L G :=
  ⟨h.head, h.few, h.pos, h.short, h.wts, h.cks, h.c0, h.c1, h.row, h.ne1, h.ne2, h.ne3, h.ne4, hG _ h.fp, hG _ h.fw, hG _ h.fc, fun b hb => hG _ (h.fo b hb)⟩
theorem chg (h : RR w p S L F) (hc : Chg G w w') (hd : ∀ b, F b → ¬ G b) : RR w' p S L F :=
  ⟨hc.bk h.head (hd _ h.fp), h.few, h.pos, h.short, hc.bk h.wts (hd _ h.fw), hc.bk h.cks (hd _ h.fc), h.c0, h.c1, h.row.chg hc (fun b hb => hd b (h.fo b hb)), h.ne1, h.ne2, h.ne3, h.ne4, h.fp, h.fw, h.fc, h.fo⟩
theorem below (h : RR w p S L F) (hb : Below w.heap.size w w') : RR w' p S L F := h.chg (G := fun _ => False) (Chg.of_below hb rfl) (fun _ _ hf => hf)
theorem h0 (h : RR w p S L F) : w.cell? ⟨p, 0, none⟩ = some (.slice (some ⟨L.bw, 0, none⟩) S.n L.capw) := h.head.cell 0 _ rfl
theorem h1 (h : RR w p S L F) : w.cell? ⟨p, 1, none⟩ = some (.slice (some ⟨L.bc, 0, none⟩) S.n L.capc) := h.head.cell 1 _ rfl
theorem h3 (h : RR w p S L F) : w.cell? ⟨p, 3, none⟩ = some (.int .i64 S.now) := h.head.cell 3 _ rfl
theorem form (h : RR w p S L F) : ∃ a c, L.v = .slice a S.l.length c := h.row.form
theorem h2 (h : RR w p S L F) : w.cell? ⟨p, 2, none⟩ = some L.v := h.head.cell 2 _ rfl
theorem w0 (h : RR w p S L F) (i : Nat) (hi : i < S.n) : w.cell? ⟨L.bw, i, none⟩ = some (.int .i64 (S.wt i)) := h.wts.cell _ _ (h.c0 i hi)
theorem k0 (h : RR w p S L F) (i : Nat) (hi : i < S.n) : w.cell? ⟨L.bc, i, none⟩ = some (.int .i64 (S.ck i)) := h.cks.cell _ _ (h.c1 i hi)
end RR
/-- The items' cells. -/
def Itm (w : World) (p : Option Addr) (q : List (Int × Int × Int)) : Prop :=
  ∀ j x, q[j]? = some x → ∃ b off, p = some ⟨b, off, none⟩ ∧ b < w.heap.size ∧ w.cell? ⟨b, off + j * 3, none⟩ = some (.int .i64 x.1) ∧ w.cell? ⟨b, off + j * 3 + 1, none⟩ = some (.int .i64 x.2.1) ∧ w.cell? ⟨b, off + j * 3 + 2, none⟩ = some (.int .i64 x.2.2)
theorem Itm.of_row {w : World} {own : Option Nat} {p : Option Addr} {c : Nat} {q : List (Int × Int × Int)} {t : TypeId} (h : Row w t 3 (.slice p q.length c) own q.length (encL q)) : Itm w p q := by
  intro j x hx
  have hj : j < q.length := (List.getElem?_eq_some_iff.1 hx).1
  obtain ⟨b, off, cap, cs, h1, h2, h3, h4, h5, h6, h7⟩ := h.pos (by omega)
  obtain ⟨e1, e2, e3⟩ := encL_get q j x hx
  cases h1
  refine ⟨b, off, rfl, h5.lt, h5.cell _ _ ?_, h5.cell _ _ ?_, h5.cell _ _ ?_⟩
  · rw [h7 (j * 3) (by omega)]; exact e1
  · rw [Nat.add_assoc, h7 (j * 3 + 1) (by omega)]; exact e2
  · rw [Nat.add_assoc, h7 (j * 3 + 2) (by omega)]; exact e3
theorem RR.itm {w : World} {p : Nat} {S : RS} {L : RL} {F : Nat → Prop} (h : RR w p S L F) : ∃ a c, L.v = .slice a S.l.length c ∧ w.cell? ⟨p, 2, none⟩ = some (.slice a S.l.length c) ∧ Itm w a S.l := by
  obtain ⟨a, c, e⟩ := h.form
  exact ⟨a, c, e, e ▸ h.h2, Itm.of_row (e ▸ h.row)⟩
def RS.isB (S : RS) (t : Int) : Bool := decide (0 ≤ t) && decide (t < S.n)
theorem is_c (p : Nat) (S : RS) (L : RL) (F : Nat → Prop) (w : World) (h : RR w p S L F) (t : Int) :
    Calls Try.prog 24 #[.pointer (some ⟨p, 0, none⟩), .int .i64 t] w fun e w' => e = .returned (.bool (S.isB t)) ∧ w = w' := by
  have h0 := h.h0
  clear h
  unfold RS.isB
  generalize S.n = n at *
  by_cases h1 : 0 ≤ t
  · by_cases h2 : t < n
    · go_enter Try.func24, Try.ntmps24
      go_wp2
      go_ret
      exact ⟨ret_bool (by simp [h1, h2]), rfl⟩
    · go_enter Try.func24, Try.ntmps24
      go_wp2
      go_ret
      exact ⟨ret_bool (by simp [h1, h2]), rfl⟩
  · go_enter Try.func24, Try.ntmps24
    go_wp2
    go_ret
    exact ⟨ret_bool (by simp; omega), rfl⟩
def RS.clock (S : RS) (n : Int) : Int := if 0 ≤ n ∧ n < S.n then S.ck n.toNat else 0
theorem rclock_c (p : Nat) (S : RS) (L : RL) (F : Nat → Prop) (w : World) (h : RR w p S L F) (n : Int) :
    Calls Try.prog 20 #[.pointer (some ⟨p, 0, none⟩), .int .i64 n] w fun e w' => e = .returned (.int .i64 (S.clock n)) ∧ w = w' := by
  have IS := Lib.hid (is_c p S L F w h n)
  by_cases hn : 0 ≤ n ∧ n < S.n
  · obtain ⟨i, rfl⟩ : ∃ i : Nat, n = i := ⟨n.toNat, by omega⟩
    have hi : i < S.n := by omega
    have hk := h.k0 i hi
    have h1 := h.h1
    have hb : S.isB i = true := by simp [RS.isB]; omega
    rw [hb] at IS
    have hw : S.clock i = S.ck i := by unfold RS.clock; rw [if_pos hn]; simp
    rw [hw]
    have hiz : (i : Int) < (S.n : Int) := by omega
    clear h hw hn hb
    go_enter Try.func20, Try.ntmps20
    go_wp2_with fail
    refine IS.out.mono ?_
    rintro e w' ⟨rfl, rfl⟩
    go_wp2
    go_ret
    exact ⟨rfl, rfl⟩
  · have hb : S.isB n = false := by
      cases hh : S.isB n
      · rfl
      · simp only [RS.isB, Bool.and_eq_true, decide_eq_true_eq] at hh; exact absurd hh hn
    rw [hb] at IS
    have hw : S.clock n = 0 := by unfold RS.clock; rw [if_neg hn]
    rw [hw]
    clear h hw hn hb
    go_enter Try.func20, Try.ntmps20
    go_wp2_with fail
    refine IS.out.mono ?_
    rintro e w' ⟨rfl, rfl⟩
    go_wp2
    go_ret
    exact ⟨rfl, rfl⟩
def cntL (l : List (Int × Int × Int)) (t : Int) : Nat := (l.filter fun x => x.1 == t).length
theorem cntL_snoc (l : List (Int × Int × Int)) (x : Int × Int × Int) (t : Int) : cntL (l ++ [x]) t = cntL l t + if x.1 == t then 1 else 0 := by
  unfold cntL
  rw [List.filter_append, List.length_append]
  cases h : x.1 == t <;> simp [h]
theorem cntL_le (l : List (Int × Int × Int)) (t : Int) : cntL l t ≤ l.length := List.length_filter_le _ _
theorem take_succ_of {α : Type} {l : List α} {j : Nat} {x : α} (h : l[j]? = some x) : l.take (j + 1) = l.take j ++ [x] := by
  rw [List.take_succ_eq_append_getElem (List.getElem?_eq_some_iff.1 h).1, (List.getElem?_eq_some_iff.1 h).2]
set_option maxHeartbeats 1000000 in
theorem rwaiting_c (p : Nat) (S : RS) (L : RL) (F : Nat → Prop) (w : World) (h : RR w p S L F) (t : Int) :
    Calls Try.prog 18 #[.pointer (some ⟨p, 0, none⟩), .int .i64 t] w fun e w' => e = .returned (.int .i64 (cntL S.l t)) ∧ w = w' := by
  obtain ⟨a, c, hv, h2, hit⟩ := h.itm
  have hs := h.short
  have HI := Lib.hid hit
  clear h hv hit
  generalize hl : S.l = l at *
  clear hl
  generalize hn : l.length = n at *
  have HN := Lib.hid hn
  clear hn
  go_enter Try.func18, Try.ntmps18
  go_wp2
  go_loop [5, 6] (fun m s => ∃ j : Nat, j ≤ n ∧ s = .int .i64 j ∧ m = .int .i64 (cntL (l.take j) t)) (fun _ s => n - (intOf s).toNat)
  case atStart => exact ⟨0, Nat.zero_le _, rfl, rfl⟩
  case round =>
    obtain ⟨j, hj, rfl, rfl⟩ := hrel
    have hle := cntL_le (l.take j) t
    rw [List.length_take] at hle
    by_cases hlt : j < n
    · have hltz : (j : Int) < (n : Int) := by omega
      have hjz : (0 : Int) ≤ (j : Int) := by omega
      obtain ⟨x, hx⟩ : ∃ x, l[j]? = some x := ⟨_, List.getElem?_eq_getElem (by rw [HN.out]; exact hlt)⟩
      obtain ⟨b, off, rfl, hb, c0, c1, c2⟩ := HI.out j x hx
      have hs := Lib.hid ((congrArg (cntL · t) (take_succ_of hx)).trans (cntL_snoc _ _ _))
      obtain ⟨x0, x1, x2⟩ := x
      simp only at hs
      have hm1 : cntL (l.take j) t ≤ 1000 := by omega
      generalize cntL (l.take j) t = m at *
      clear hx hle c1 c2
      cases he : x0 == t
      · have HS := hs.out
        rw [he] at HS
        have HS := Lib.hid HS
        clear hs
        go_wp2
        exact ⟨⟨j + 1, by omega, by go_num, by rw [HS.out]; rfl⟩, by simp [intOf]; omega⟩
      · have HS := hs.out
        rw [he] at HS
        have HS := Lib.hid HS
        clear hs
        go_wp2
        exact ⟨⟨j + 1, by omega, by go_num, by rw [HS.out]; rfl⟩, by simp [intOf]; omega⟩
    · have hltz : ¬ (j : Int) < (n : Int) := by omega
      obtain rfl : j = n := by omega
      have ht : l.take j = l := by rw [← HN.out, List.take_length]
      rw [ht]
      go_wp2
      go_ret
      exact ⟨rfl, rfl⟩
def atL (l : List (Int × Int × Int)) (id : Int) : Nat := l.findIdx fun x => x.2.1 == id
def atI (l : List (Int × Int × Int)) (id : Int) : Int := if atL l id < l.length then atL l id else -1
set_option maxHeartbeats 1000000 in
theorem at_c (p : Nat) (S : RS) (L : RL) (F : Nat → Prop) (w : World) (h : RR w p S L F) (id : Int) :
    Calls Try.prog 25 #[.pointer (some ⟨p, 0, none⟩), .int .i64 id] w fun e w' => e = .returned (.int .i64 (atI S.l id)) ∧ w = w' := by
  obtain ⟨a, c, hv, h2, hit⟩ := h.itm
  have hs := h.short
  have HI := Lib.hid hit
  clear h hv hit
  generalize hl : S.l = l at *
  clear hl
  generalize hn : l.length = n at *
  have HN := Lib.hid hn
  clear hn
  go_enter Try.func25, Try.ntmps25
  go_wp2
  go_loop [5] (fun s => ∃ j : Nat, j ≤ n ∧ s = .int .i64 j ∧ Hid (∀ k x, k < j → l[k]? = some x → (x.2.1 == id) = false)) (fun s => n - (intOf s).toNat)
  case atStart => exact ⟨0, Nat.zero_le _, rfl, Lib.hid (fun k y hk => absurd hk (Nat.not_lt_zero _))⟩
  case round =>
    obtain ⟨j, hj, rfl, A⟩ := hrel
    by_cases hlt : j < n
    · have hltz : (j : Int) < (n : Int) := by omega
      have hjz : (0 : Int) ≤ (j : Int) := by omega
      obtain ⟨x, hx⟩ : ∃ x, l[j]? = some x := ⟨_, List.getElem?_eq_getElem (by rw [HN.out]; exact hlt)⟩
      obtain ⟨b, off, rfl, hb, c0, c1, c2⟩ := HI.out j x hx
      obtain ⟨x0, x1, x2⟩ := x
      have HX := Lib.hid hx
      clear hx c0 c2
      cases he : x1 == id
      · have HE := Lib.hid he
        go_wp2
        refine ⟨⟨j + 1, by omega, by go_num, Lib.hid fun k y hk hy => ?_⟩, by simp [intOf]; omega⟩
        by_cases e : k = j
        · subst e
          have := HX.out
          rw [hy] at this
          cases this
          exact HE.out
        · exact A.out k y (by omega) hy
      · have hfin : atI l id = j := by
          have hf : atL l id = j := by
            unfold atL
            have hj' : j < l.length := by rw [HN.out]; exact hlt
            rw [List.findIdx_eq hj']
            refine ⟨?_, fun k hk => A.out k _ hk (List.getElem?_eq_getElem (by omega))⟩
            rw [(List.getElem?_eq_some_iff.1 HX.out).2]; exact he
          unfold atI
          rw [hf, HN.out, if_pos hlt]
        have HF := Lib.hid hfin
        clear hfin
        go_wp2
        go_ret
        exact ⟨ret_int HF.out.symm, rfl⟩
    · have hltz : ¬ (j : Int) < (n : Int) := by omega
      have hfin : atI l id = -1 := by
        unfold atI
        rw [if_neg]
        have : atL l id = l.length := by
          unfold atL
          rw [List.findIdx_eq_length]
          intro x hx
          obtain ⟨k, hk, rfl⟩ := List.mem_iff_getElem.1 hx
          exact A.out k _ (by have := HN.out; omega) (List.getElem?_eq_getElem hk)
        omega
      have HF := Lib.hid hfin
      clear hfin
      go_wp2
      go_ret
      exact ⟨ret_int HF.out.symm, rfl⟩
end Go.Proofs.Ytdnkliapcnfcoaa.fair
