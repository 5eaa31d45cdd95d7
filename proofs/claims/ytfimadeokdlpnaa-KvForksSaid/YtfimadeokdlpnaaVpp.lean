/- KvPages. -/
import Derived.Test.YtfimadeokdlpnaaVkk
namespace Go.Proofs.Ytfimadeokdlpnaa.kv
open Go.ChangeShapes Go.WideShapes Go.ChangeAt Go.RowKit K
set_option linter.unusedVariables false
set_option linter.unusedSimpArgs false
theorem Own.count {tag : ByteArray} {N m : Nat} {S : List Pg} (h : Own tag N m S) (hm : m ≤ N) : countOf S tag = m := by
  unfold countOf
  have hl := h.len
  rw [← List.take_append_drop m S, List.countP_append, List.countP_eq_length.2, List.countP_eq_zero.2]
  · simp [hl]; omega
  · intro x hx
    obtain ⟨i, hi, rfl⟩ := List.mem_iff_getElem.1 hx
    have := h.pg (m + i) _ (by rw [← List.getElem?_drop]; exact List.getElem?_eq_getElem hi)
    rw [if_neg (by omega)] at this
    simp only [List.getElem_drop] at this ⊢
    simp [cnt, this]
  · intro x hx
    obtain ⟨i, hi, rfl⟩ := List.mem_iff_getElem.1 hx
    have hi2 : i < m := by rw [List.length_take] at hi; omega
    have := h.pg i ((S.take m)[i]) (by have h1 := List.getElem?_eq_getElem hi; rw [List.getElem?_take, if_pos hi2] at h1; exact h1)
    rw [if_pos hi2] at this
    simp only [List.getElem_take] at this ⊢
    simp [cnt, this.1, this.2]
theorem Solo.mod {tag : ByteArray} {W N n m : Nat} {S : List Pg} {Q : Sq} (h : Solo tag W N n m S Q) : (n % (32 / W) = 0 ↔ ¬ n < m * (32 / W)) := by
  have h1 := h.lo
  have h2 := h.hi
  generalize 32 / W = P at *
  constructor
  · intro e hlt
    obtain ⟨q, hq⟩ := Nat.dvd_of_mod_eq_zero e
    rw [hq, Nat.mul_comm P q] at hlt h2
    have h3 : q < m := Nat.lt_of_mul_lt_mul_right hlt
    have h4 := Nat.mul_le_mul_right P (show q + 1 ≤ m by omega)
    rw [Nat.add_mul] at h4
    omega
  · intro hn
    have e : n = m * P := by omega
    rw [e, Nat.mul_mod_left]
theorem Solo.pages {tag : ByteArray} {W N n m : Nat} {S : List Pg} {Q : Sq} (h : Solo tag W N n m S Q) (hP : 1 ≤ 32 / W) : (n + 32 / W - 1) / (32 / W) = m := by
  have h1 := h.lo
  have h2 := h.hi
  generalize 32 / W = P at *
  exact Nat.div_eq_of_lt_le (by omega) (by rw [Nat.add_mul]; omega)
theorem Solo.nle {tag : ByteArray} {W N n m : Nat} {S : List Pg} {Q : Sq} (h : Solo tag W N n m S Q) : n ≤ N * (32 / W) := Nat.le_trans h.lo (Nat.mul_le_mul_right _ h.le)
theorem Many.size {B : Nat} {w : World} {p b : Nat} {S : List Pg} {L : List Ent} (h : Many B w p b S L) : B ≤ w.heap.size := Nat.le_trans h.pB (Nat.le_of_lt h.pool.head.lt)
theorem bstep {B : Nat} {w wr w4 : World} (h : Below B w wr) (hb : Below wr.heap.size wr w4) (hB : B ≤ wr.heap.size) : Below B w w4 := h.trans (hb.mono hB)
namespace SoloAt
variable {B p b s0 W N n : Nat} {w wr w4 : World}
theorem drewN (h : SoloAt B p b s0 W N w wr n) (k : Nat) : SoloAt B p b s0 W N w (wr.drewN k) n := by
  obtain ⟨y, m, S, hM, hys, hSo, hBw⟩ := h
  exact ⟨y, m, S, hM.drewN k, hys, hSo, belowDrewN hBw k⟩
theorem below (h : SoloAt B p b s0 W N w wr n) (hb : Below wr.heap.size wr w4) : SoloAt B p b s0 W N w w4 n := by
  obtain ⟨y, m, S, hM, hys, hSo, hBw⟩ := h
  exact ⟨y, m, S, hM.below hb, hys, hSo, bstep hBw hb hM.size⟩
theorem need (h : SoloAt B p b s0 W N w wr n) : Calls Try.prog 10 #[.pointer (some ⟨s0, 0, none⟩)] wr fun e w' => e = .returned (.int .i64 ((if n % (32 / W) = 0 then 1 else 0 : Nat) : Int)) ∧ ∃ m, w' = wr.drewN m := by
  obtain ⟨y, m, S, hM, hys, hSo, hBw⟩ := h
  have := hM.need_c (i := 0) (x := y) rfl
  rw [hys] at this
  refine this.mono ?_
  rintro e w' ⟨rfl, h2⟩
  refine ⟨?_, h2⟩
  have e1 := hSo.mod
  have e2 := hSo.need
  by_cases ho : n < m * (32 / W)
  · rw [if_pos ho] at e2
    rw [if_neg (fun e => e1.1 e ho), e2]
  · rw [if_neg ho] at e2
    rw [if_pos (e1.2 ho), e2]
theorem append (h : SoloAt B p b s0 W N w wr n) (hW : 1 ≤ W ∧ W ≤ 32) (hn : n < 1000) (hb : Below wr.heap.size wr w4) (xs : List Int) (hx : xs.length = W) (g f c : Nat) (ha : Args w4 g f xs) (hg : wr.heap.size ≤ g) :
    Calls Try.prog 11 #[.pointer (some ⟨s0, 0, none⟩), .slice (some ⟨g, f, none⟩) W c] w4 fun e w' => (n < N * (32 / W) ∧ e = .returned (.int .i64 0) ∧ SoloAt B p b s0 W N w w' (n + 1)) ∨ (¬ n < N * (32 / W) ∧ e = .returned (.int .i64 6) ∧ SoloAt B p b s0 W N w w' n) := by
  obtain ⟨y, m, S, hM, hys, hSo, hBw⟩ := h
  have hB4 := bstep hBw hb hM.size
  have hM4 := hM.below hb
  by_cases hlt : n < N * (32 / W)
  · obtain ⟨S2, Q2, m2, hap, hSo2⟩ := hSo.append hlt xs
    have AP := (hM.below hb).append_c (i := 0) (x := y) rfl hM4.size hSo.own.small (by rw [hSo.seq]; exact hn) W (by rw [hSo.seq]) xs hx Q2 hap g f c ha (hM.notFoot (i := 0) rfl hg)
    rw [hys] at AP
    refine AP.mono ?_
    rintro e w5 ⟨rfl, y2, hM2, hy2s, hy2Q, hb5⟩
    exact .inl ⟨hlt, rfl, y2, m2, S2, hM2, hy2s, by rw [hy2Q]; exact hSo2, hB4.trans hb5⟩
  · have AP := (hM.below hb).appendNo_c (i := 0) (x := y) rfl W (by rw [hSo.seq]) xs (hSo.full (by omega) xs) (some ⟨g, f, none⟩) c
    rw [hys] at AP
    refine AP.mono ?_
    rintro e w5 ⟨rfl, hb5⟩
    exact .inr ⟨hlt, rfl, y, m, S, (hM.below hb).below hb5, hys, hSo, bstep hB4 hb5 hM4.size⟩
theorem len (h : SoloAt B p b s0 W N w wr n) : Calls Try.prog 13 #[.pointer (some ⟨s0, 0, none⟩)] wr fun e w' => e = .returned (.int .i64 n) ∧ wr = w' := by
  obtain ⟨y, m, S, hM, hys, hSo, hBw⟩ := h
  have := len_c y.s p y.Q y.v y.own wr (hM.one 0 y rfl).seq
  rw [hys, show y.Q.len = n by rw [hSo.seq]] at this
  exact this
theorem first (h : SoloAt B p b s0 W N w wr n) : Calls Try.prog 16 #[.pointer (some ⟨s0, 0, none⟩)] wr fun e w' => e = .returned (.int .i64 0) ∧ wr = w' := by
  obtain ⟨y, m, S, hM, hys, hSo, hBw⟩ := h
  have := first_c y.s p y.Q y.v y.own wr (hM.one 0 y rfl).seq
  rw [hys, show y.Q.first = 0 by rw [hSo.seq]] at this
  exact this
theorem pages (h : SoloAt B p b s0 W N w wr n) (hP : 1 ≤ 32 / W) : Calls Try.prog 14 #[.pointer (some ⟨s0, 0, none⟩)] wr fun e w' => e = .returned (.slice (some ⟨wr.heap.size, 0, none⟩) (((n + 32 / W - 1) / (32 / W) : Nat)) (((n + 32 / W - 1) / (32 / W) : Nat))) ∧ SoloAt B p b s0 W N w w' n := by
  obtain ⟨y, m, S, hM, hys, hSo, hBw⟩ := h
  have := pages_c y.s p y.Q y.v y.own wr (hM.one 0 y rfl).seq
  rw [hys, show y.Q.pages.length = m by rw [hSo.seq]; simp] at this
  refine this.mono ?_
  rintro e w5 ⟨rfl, -, hb5⟩
  rw [hSo.pages hP]
  exact ⟨rfl, y, m, S, hM.below hb5, hys, hSo, bstep hBw hb5 hM.size⟩
theorem count (h : SoloAt B p b s0 W N w wr n) (hP : 1 ≤ 32 / W) : Calls Try.prog 15 #[.pointer (some ⟨p, 0, none⟩), .string { data := #[114] }] wr fun e w' => e = .returned (.int .i64 ((n + 32 / W - 1) / (32 / W) : Nat)) ∧ wr = w' := by
  obtain ⟨y, m, S, hM, hys, hSo, hBw⟩ := h
  have := count_c p b S wr hM.pool { data := #[114] }
  rw [hSo.own.count hSo.le] at this
  rw [hSo.pages hP]
  exact this
end SoloAt
set_option maxHeartbeats 4000000 in
set_option maxRecDepth 100000 in
theorem pages_walk (w : World) (a0 a1 a2 : Int) (h0 : okI a0) (h1 : okI a1) (h2 : okI a2) :
    Calls Try.prog 3 #[.int .i64 a0, .int .i64 a1, .int .i64 a2] w fun e w' => e = .returned (.bool true) ∧ Below w.heap.size w w' := by
  go_enter Try.func3, Try.ntmps3
  go_wp2_with fail
  refine (works_c _).mono ?_
  rintro e w1 ⟨rfl, hb1⟩
  have HB1 := Lib.hid hb1
  clear hb1
  go_wp2_with fail
  obtain ⟨u0, u1, u2⟩ := um_bd a0 32 (by omega) (by omega)
  obtain ⟨v0, v1, v2⟩ := um_bd a1 60 (by omega) (by omega)
  obtain ⟨x0, x1, x2⟩ := um_bd a2 20 (by omega) (by omega)
  generalize ht0 : wrap64 (1 + wrap64 ((IntKind.u64.wrap a0).tmod 32)) = wt at *
  generalize ht1 : wrap64 ((IntKind.u64.wrap a1).tmod 60) = rr at *
  generalize ht2 : wrap64 (1 + wrap64 ((IntKind.u64.wrap a2).tmod 20)) = nn at *
  obtain ⟨W, rfl⟩ : ∃ W : Nat, wt = W := ⟨wt.toNat, by omega⟩
  obtain ⟨r, rfl⟩ : ∃ r : Nat, rr = r := ⟨rr.toNat, by omega⟩
  obtain ⟨N, rfl⟩ : ∃ n : Nat, nn = n := ⟨nn.toNat, by omega⟩
  have hW : 1 ≤ W ∧ W ≤ 32 := by omega
  have hr : r < 60 := by omega
  have hN : 1 ≤ N ∧ N ≤ 20 := by omega
  clear u0 u1 u2 v0 v1 v2 x0 x1 x2 ht0 ht1 ht2
  refine (new_c N (by omega) (by omega) w1).mono ?_
  rintro e w2 ⟨p, b, rfl, hp, hb, hpB, hbB⟩
  have HP := Lib.hid hp
  have HB2 := Lib.hid (below_step HB1.out hb)
  have KN := Lib.hid (knew_c p w2 { data := #[114] } tagR_ne W hW.1 hW.2)
  clear hp hb
  have hs1 := HB1.out.size
  have hs2 := HB2.out.size
  have hpl := HP.out.head.lt
  have hbl := HP.out.lt
  go_wp2_with fail
  refine KN.out.mono ?_
  rintro e w3 ⟨rfl, hs, hb3⟩
  have HM0 : Hid (SoloAt w.heap.size p b w2.heap.size W N w w3 0) :=
    ⟨_, 0, _, Many.start (HP.out.below hb3) (by omega) (by omega) hs hs2 (by omega) (by omega), rfl, Solo.start _ W N hW, below_step HB2.out hb3⟩
  clear KN HP HB1 HB2 hs hb3 hpB hbB hpl hbl hs1
  generalize hs0 : w2.heap.size = s0 at *
  clear hs0
  have hper : 1 ≤ 32 / W := (Nat.le_div_iff_mul_le (by omega)).2 (by omega)
  have hp32 : 32 / W ≤ 32 := Nat.div_le_self _ _
  obtain ⟨P, hP⟩ : ∃ P, 32 / W = P := ⟨_, rfl⟩
  have e0 : (32 : Int) / (W : Int) = (P : Int) := by rw [← hP]; rfl
  have e1 : ((W : Int) == 0) = false := by rw [beq_eq_false_iff_ne]; omega
  have e2 : ((P : Int) == 0) = false := by rw [beq_eq_false_iff_ne]; omega
  go_wp2_with fail
  rw [e0]
  go_loopw [12, 13] (fun s12 s13 wr => ∃ n k : Nat, k ≤ r ∧ n ≤ k ∧ s12 = .int .i64 n ∧ s13 = .int .i64 k ∧ Hid (SoloAt w.heap.size p b s0 W N w wr n)) (fun _ s13 _ => r - (intOf s13).toNat)
  case atStart => exact ⟨0, 0, by omega, by omega, rfl, rfl, HM0⟩
  case round =>
    obtain ⟨n, k, hk, hnk, rfl, rfl, HK⟩ := hrel
    by_cases hkr : k < r
    · have hkz : (k : Int) < (r : Int) := by omega
      have e6 : (n : Int) % (P : Int) = ((n % P : Nat) : Int) := rfl
      have hw1 := wrap_mul N P (by omega) (by omega)
      have e7 : (N : Int) * (P : Int) = ((N * P : Nat) : Int) := by simp
      have hNP : N * P ≤ 640 := Nat.mul_le_mul hN.2 (show P ≤ 32 by omega)
      have NDL := HK.out.need
      rw [hP] at NDL
      have AP : ∀ (j : Nat) (w4 : World) (g f c : Nat), Below (wr.drewN j).heap.size (wr.drewN j) w4 → Args w4 g f (rowN W k) → (wr.drewN j).heap.size ≤ g → _ := fun j w4 g f c hb ha hg => (HK.out.drewN j).append hW (by omega) hb (rowN W k) (rowN_length _ _) g f c ha hg
      rw [hP] at AP
      have HAP := Lib.hid AP
      clear AP
      generalize n % P = nP at *
      generalize N * P = NP at *
      have wS1 : IntKind.i64.wrap ((n : Int) + 1 + (P : Int)) = (n : Int) + 1 + (P : Int) := by unfold IntKind.wrap; simp [IntKind.signed, IntKind.bits]; omega
      have wS2 : IntKind.i64.wrap ((n : Int) + 1 + (P : Int) - 1) = (n : Int) + 1 + (P : Int) - 1 := by unfold IntKind.wrap; simp [IntKind.signed, IntKind.bits]; omega
      have wS3 : IntKind.i64.wrap ((n : Int) + (P : Int)) = (n : Int) + (P : Int) := by unfold IntKind.wrap; simp [IntKind.signed, IntKind.bits]; omega
      have wS4 : IntKind.i64.wrap ((n : Int) + (P : Int) - 1) = (n : Int) + (P : Int) - 1 := by unfold IntKind.wrap; simp [IntKind.signed, IntKind.bits]; omega
      have wn : IntKind.i64.wrap ((n : Int) + 1) = (n : Int) + 1 := by unfold IntKind.wrap; simp [IntKind.signed, IntKind.bits]; omega
      have hM1 : (n + 1 + P - 1) / P ≤ 1000 := Nat.le_trans (Nat.div_le_self _ _) (by omega)
      have hM0 : (n + P - 1) / P ≤ 1000 := Nat.le_trans (Nat.div_le_self _ _) (by omega)
      have e9 : ((n : Int) + 1 + (P : Int) - 1) / (P : Int) = (((n + 1 + P - 1) / P : Nat) : Int) := by rw [show (n : Int) + 1 + (P : Int) - 1 = ((n + 1 + P - 1 : Nat) : Int) by omega]; rfl
      have e10 : ((n : Int) + (P : Int) - 1) / (P : Int) = (((n + P - 1) / P : Nat) : Int) := by rw [show (n : Int) + (P : Int) - 1 = ((n + P - 1 : Nat) : Int) by omega]; rfl
      have hPne : ¬ P = 0 := by omega
      have e9t : ((n : Int) + 1 + (P : Int) - 1).tdiv (P : Int) = (((n + 1 + P - 1) / P : Nat) : Int) := (Int.tdiv_eq_ediv_of_nonneg (by omega)).trans e9
      have e10t : ((n : Int) + (P : Int) - 1).tdiv (P : Int) = (((n + P - 1) / P : Nat) : Int) := (Int.tdiv_eq_ediv_of_nonneg (by omega)).trans e10
      have CT1 : Hid (∀ w6, SoloAt w.heap.size p b s0 W N w w6 (n + 1) → _) := fun w6 h => h.count hper
      have CT0 : Hid (∀ w6, SoloAt w.heap.size p b s0 W N w w6 n → _) := fun w6 h => h.count hper
      have PG1 : Hid (∀ w6, SoloAt w.heap.size p b s0 W N w w6 (n + 1) → _) := fun w6 h => h.pages hper
      have PG0 : Hid (∀ w6, SoloAt w.heap.size p b s0 W N w w6 n → _) := fun w6 h => h.pages hper
      rw [hP] at CT1 CT0 PG1 PG0
      generalize (n + 1 + P - 1) / P = M1 at *
      generalize (n + P - 1) / P = M0 at *
      have wM1 : IntKind.i64.wrap (M1 : Int) = (M1 : Int) := by unfold IntKind.wrap; simp [IntKind.signed, IntKind.bits]; omega
      have wM0 : IntKind.i64.wrap (M0 : Int) = (M0 : Int) := by unfold IntKind.wrap; simp [IntKind.signed, IntKind.bits]; omega
      by_cases hz : nP = 0
      · subst hz
        go_wp2_with fail
        refine NDL.mono ?_
        rintro e w' ⟨rfl, j, rfl⟩
        go_wp2_with fail
        refine (lrow_c W k hW (by omega) (wr.drewN j)).mono ?_
        rintro e w4 ⟨g, f, cp, rfl, ha, hg, hb4⟩
        have AP := HAP.out j w4 g f cp hb4 ha hg
        clear ha hg hb4
        go_wp2_with fail
        refine AP.mono ?_
        rintro e w5 (⟨hlt, rfl, hS5⟩ | ⟨hlt, rfl, hS5⟩)
        · have hltz : (n : Int) < (NP : Int) := Int.ofNat_lt.2 hlt
          have HS5 := Lib.hid hS5
          clear hS5 AP
          have LN : Hid (∀ w6, SoloAt w.heap.size p b s0 W N w w6 (n + 1) → _) := fun w6 h => h.len
          have HSD : Hid (SoloAt w.heap.size p b s0 W N w w5.drew (n + 1)) := HS5.out.drewN 1
          clear hlt
          go_wp2
          go_region_held3 (fun w' => Hid (SoloAt w.heap.size p b s0 W N w w' (n + 1))) (first | assumption | go_keep) (first
            | (go_at_call 13; (with_reducible refine (LN.out _ HSD.out).mono ?_); rintro e w' ⟨rfl, rfl⟩)
            | (go_at_call 14; (with_reducible refine (PG1.out _ HSD.out).mono ?_); rintro e w6 ⟨rfl, hs6⟩; have HS6 := Lib.hid hs6; clear hs6)
            | (go_at_call 15; (with_reducible refine (CT1.out _ HS6.out).mono ?_); rintro e w' ⟨rfl, rfl⟩))
          go_wp2
          exact ⟨⟨n + 1, k + 1, by omega, by omega, by go_num, by go_num, HS6⟩, by simp [intOf]; omega⟩
        · have hltz : (NP : Int) ≤ (n : Int) := Int.ofNat_le.2 (Nat.not_lt.1 hlt)
          have HS5 := Lib.hid hS5
          clear hS5 AP
          have LN : Hid (∀ w6, SoloAt w.heap.size p b s0 W N w w6 (n) → _) := fun w6 h => h.len
          have HSD : Hid (SoloAt w.heap.size p b s0 W N w w5.drew (n)) := HS5.out.drewN 1
          clear hlt
          go_wp2
          go_region_held3 (fun w' => Hid (SoloAt w.heap.size p b s0 W N w w' (n))) (first | assumption | go_keep) (first
            | (go_at_call 13; (with_reducible refine (LN.out _ HSD.out).mono ?_); rintro e w' ⟨rfl, rfl⟩)
            | (go_at_call 14; (with_reducible refine (PG0.out _ HSD.out).mono ?_); rintro e w6 ⟨rfl, hs6⟩; have HS6 := Lib.hid hs6; clear hs6)
            | (go_at_call 15; (with_reducible refine (CT0.out _ HS6.out).mono ?_); rintro e w' ⟨rfl, rfl⟩))
          go_wp2
          exact ⟨⟨n, k + 1, by omega, by omega, rfl, by go_num, HS6⟩, by simp [intOf]; omega⟩
      · have hzI : ((nP : Int) == 0) = false := by rw [beq_eq_false_iff_ne]; omega
        have hzN : ¬ (nP : Int) = 0 := by omega
        rw [if_neg hz] at NDL
        go_wp2_with fail
        refine NDL.mono ?_
        rintro e w' ⟨rfl, j, rfl⟩
        go_wp2_with fail
        refine (lrow_c W k hW (by omega) (wr.drewN j)).mono ?_
        rintro e w4 ⟨g, f, cp, rfl, ha, hg, hb4⟩
        have AP := HAP.out j w4 g f cp hb4 ha hg
        clear ha hg hb4
        go_wp2_with fail
        refine AP.mono ?_
        rintro e w5 (⟨hlt, rfl, hS5⟩ | ⟨hlt, rfl, hS5⟩)
        · have hltz : (n : Int) < (NP : Int) := Int.ofNat_lt.2 hlt
          have HS5 := Lib.hid hS5
          clear hS5 AP
          have LN : Hid (∀ w6, SoloAt w.heap.size p b s0 W N w w6 (n + 1) → _) := fun w6 h => h.len
          have HSD : Hid (SoloAt w.heap.size p b s0 W N w w5.drew (n + 1)) := HS5.out.drewN 1
          clear hlt
          go_wp2
          go_region_held3 (fun w' => Hid (SoloAt w.heap.size p b s0 W N w w' (n + 1))) (first | assumption | go_keep) (first
            | (go_at_call 13; (with_reducible refine (LN.out _ HSD.out).mono ?_); rintro e w' ⟨rfl, rfl⟩)
            | (go_at_call 14; (with_reducible refine (PG1.out _ HSD.out).mono ?_); rintro e w6 ⟨rfl, hs6⟩; have HS6 := Lib.hid hs6; clear hs6)
            | (go_at_call 15; (with_reducible refine (CT1.out _ HS6.out).mono ?_); rintro e w' ⟨rfl, rfl⟩))
          go_wp2
          exact ⟨⟨n + 1, k + 1, by omega, by omega, by go_num, by go_num, HS6⟩, by simp [intOf]; omega⟩
        · have hltz : (NP : Int) ≤ (n : Int) := Int.ofNat_le.2 (Nat.not_lt.1 hlt)
          have HS5 := Lib.hid hS5
          clear hS5 AP
          have LN : Hid (∀ w6, SoloAt w.heap.size p b s0 W N w w6 (n) → _) := fun w6 h => h.len
          have HSD : Hid (SoloAt w.heap.size p b s0 W N w w5.drew (n)) := HS5.out.drewN 1
          clear hlt
          go_wp2
          go_region_held3 (fun w' => Hid (SoloAt w.heap.size p b s0 W N w w' (n))) (first | assumption | go_keep) (first
            | (go_at_call 13; (with_reducible refine (LN.out _ HSD.out).mono ?_); rintro e w' ⟨rfl, rfl⟩)
            | (go_at_call 14; (with_reducible refine (PG0.out _ HSD.out).mono ?_); rintro e w6 ⟨rfl, hs6⟩; have HS6 := Lib.hid hs6; clear hs6)
            | (go_at_call 15; (with_reducible refine (CT0.out _ HS6.out).mono ?_); rintro e w' ⟨rfl, rfl⟩))
          go_wp2
          exact ⟨⟨n, k + 1, by omega, by omega, rfl, by go_num, HS6⟩, by simp [intOf]; omega⟩
    · obtain rfl : k = r := by omega
      have FI := Lib.hid HK.out.first
      obtain ⟨-, -, -, -, -, -, hBw⟩ := HK.out
      have HBW := Lib.hid hBw
      clear hBw
      go_wp2_with fail
      refine FI.out.mono ?_
      rintro e w' ⟨rfl, rfl⟩
      go_wp2
      go_ret
      exact ⟨rfl, HBW.out⟩
end Go.Proofs.Ytfimadeokdlpnaa.kv
