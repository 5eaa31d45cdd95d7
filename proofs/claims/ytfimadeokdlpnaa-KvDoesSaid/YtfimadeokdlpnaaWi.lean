/- The reference's sequences: Append refused; what stands behind the making of room. -/
import Derived.Test.YtfimadeokdlpnaaWh
import Derived.Deep.CutRange
namespace Go.Proofs.Ytfimadeokdlpnaa.kv
open Go.ChangeShapes Go.WideShapes Go.ChangeAt Go.RowKit K
set_option linter.unusedVariables false
set_option linter.unusedSimpArgs false
variable (s r rb : Nat) (S : List Pg) (c : Nat → Nat) (Q : Sq) (v : Value) (own : Option Nat) (w : World)
set_option maxRecDepth 100000 in
theorem rappend_shape (h : RQ w s r Q v own) (a : Option Addr) (n cc : Nat) (hn : n ≠ Q.width) : Calls Try.prog 19 #[.pointer (some ⟨s, 0, none⟩), .slice a n cc] w fun e w' => e = .returned (.int .i64 21) ∧ w = w' := by
  have h2 := h.c2
  have hz : ((n : Int) == (Q.width : Int)) = false := by rw [beq_eq_false_iff_ne]; omega
  have hz2 : ¬ (n = Q.width) := hn
  clear h
  generalize Q.width = W at *
  go_enter Try.func19, Try.ntmps19
  go_wp2
  go_ret
  exact ⟨rfl, rfl⟩
set_option maxRecDepth 100000 in
theorem rappend_no (h : RQ w s r Q v own) (hp : RP w r rb S c) (hu : Q.isOpen = true → ownersOf S Q.last ≠ 0) (hr : roomOf S Q = none) (a : Option Addr) (cc : Nat) : Calls Try.prog 19 #[.pointer (some ⟨s, 0, none⟩), .slice a Q.width cc] w fun e w' => e = .returned (.int .i64 6) ∧ Below w.heap.size w w' := by
  have hnf : needOf S Q = 1 ∧ freeOf S = 0 := by
    unfold roomOf at hr
    split at hr
    · cases hr
    next hn =>
      split at hr
      next hf => exact ⟨(needOf_le S Q).resolve_left hn, hf⟩
      next => split at hr <;> cases hr
  have ND := Lib.hid (rneed_c s r Q v own w rb S c h hp hu)
  rw [hnf.1] at ND
  have TK2 : Hid (∀ a n, Calls Try.prog 39 #[.pointer (some ⟨r, 0, none⟩), .string Q.tag, .int .i64 1] ((w.drewN a).drewN n) fun e w' => e = .returned (.tuple #[.slice none 0 0, .int .i64 6]) ∧ ∃ m, w' = ((w.drewN a).drewN n).drewN m) := fun a n => rTake_full r rb S c _ ((hp.drewN a).drewN n) Q.tag h.tg hnf.2
  have h0 := h.c0
  have h1 := h.c1
  have h2 := h.c2
  clear h hp hu hr hnf
  generalize Q.width = W at *
  go_enter Try.func19, Try.ntmps19
  go_wp2_with fail
  refine ND.out.mono ?_
  rintro e w0 ⟨rfl, m, rfl⟩
  have TK2 := Lib.hid (TK2.out m)
  have k0 : (w.drewN m).cell? ⟨s, 0, none⟩ = some (.pointer (some ⟨r, 0, none⟩)) := h0
  have k1 : (w.drewN m).cell? ⟨s, 1, none⟩ = some (.string Q.tag) := h1
  have HBW : Hid (Below w.heap.size w (w.drewN m)) := ⟨rfl, rfl, rfl, Nat.le_refl _, fun _ _ => rfl⟩
  clear h0 h1 h2
  generalize w.drewN m = w0 at *
  go_wp2_with fail
  go_quiet ((go_at_call 39; exact Calls.quiet_of (TK2.out _)))
  go_wp2
  go_ret
  exact ⟨rfl, ⟨HBW.out.os, HBW.out.tape, HBW.out.output, HBW.out.size, HBW.out.block⟩⟩
theorem src_one {w : World} {b n : Nat} (hb : Bk w b #[.int .i64 (n : Int)] 3) : Src w (some ⟨b, 0, none⟩) [.int .i64 (n : Int)] := by
  intro j u hu
  rcases j with _ | j
  · refine ⟨_, rfl, ?_⟩
    have hadd : (⟨b, 0, none⟩ : Addr).add 0 = ⟨b, 0, none⟩ := by unfold Addr.add; split <;> simp_all
    rw [hadd]
    have := hb.cell 0 _ rfl
    simp at hu
    rw [← hu]; exact this
  · simp at hu
/-- Behind the making of room. -/
structure QMid (r rb : Nat) (S : List Pg) (c : Nat → Nat) (s : Nat) (own : Option Nat) (w wr : World) (S1 : List Pg) (Q1 : Sq) (c1 : Nat → Nat) (v1 : Value) (own1 : Option Nat) : Prop where
  pool : RP wr r rb S1 c1
  seq : RQ wr s r Q1 v1 own1
  apart : RApart r rb S1 c1 s own1
  foot : ∀ k, RF r rb S1 c1 k → RF r rb S c k ∨ w.heap.size ≤ k
  grow : ∀ k, own1 = some k → own = some k ∨ w.heap.size ≤ k
  chg : Chg (GF r rb S c s own) w wr
theorem QMid.drewN {r rb : Nat} {S : List Pg} {c : Nat → Nat} {s : Nat} {own : Option Nat} {w wr : World} {S1 : List Pg} {Q1 : Sq} {c1 : Nat → Nat} {v1 : Value} {own1 : Option Nat} (h : QMid r rb S c s own w wr S1 Q1 c1 v1 own1) (n : Nat) : QMid r rb S c s own w (wr.drewN n) S1 Q1 c1 v1 own1 :=
  ⟨h.pool.drewN n, h.seq.drewN n, h.apart, h.foot, h.grow, Chg.drewR h.chg n⟩
theorem QMid.step {r rb : Nat} {S : List Pg} {c : Nat → Nat} {s : Nat} {own : Option Nat} {w wr w' : World} {S1 S2 : List Pg} {Q1 : Sq} {c1 : Nat → Nat} {v1 : Value} {own1 : Option Nat} (h : QMid r rb S c s own w wr S1 Q1 c1 v1 own1) {v : Value} {e : Ending} (hp : RPost r rb S1 c1 S2 wr v e w') : ∃ c2, QMid r rb S c s own w w' S2 Q1 c2 v1 own1 := by
  obtain ⟨c2, h1, h2⟩ := hp.pool
  have hz := h.chg.size
  exact ⟨c2, h1, h.seq.chg hp.chg h.apart.s h.apart.o, ⟨fun e => (h2 _ e).elim h.apart.s (fun e => by have := h.seq.head.lt; omega), fun k hk e => (h2 _ e).elim (h.apart.o k hk) (fun e => by have := h.seq.row.lt k hk; omega)⟩,
    fun k hk => (h2 k hk).elim (fun e => h.foot k e) (fun e => .inr (by omega)), h.grow, h.chg.trans hp.chg (fun k hk => (h.foot k hk).elim (fun e => .inl (.inl e)) .inr)⟩
end Go.Proofs.Ytfimadeokdlpnaa.kv
