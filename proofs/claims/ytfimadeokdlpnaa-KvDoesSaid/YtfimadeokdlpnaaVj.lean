/- Several sequences on one pool. -/
import Derived.Test.YtfimadeokdlpnaaVl
namespace Go.Proofs.Ytfimadeokdlpnaa.kv
open Go.ChangeShapes Go.WideShapes Go.ChangeAt Go.RowKit K
set_option linter.unusedVariables false
set_option linter.unusedSimpArgs false
theorem append_some (s p b : Nat) (S : List Pg) (Q : Sq) (v : Value) (own : Option Nat) (w : World) (h : SR w s p Q v own) (hp : PR w p b S) (ha : Apart p b s own) (hS : Small S) (hlen : Q.len < 1000) (xs : List Int) (S' : List Pg) (Q' : Sq) (hr : appendOf S Q xs = some (S', Q')) (rb ro c : Nat) (hx : Args w rb ro xs) (hxl : xs.length = Q.width) (hF : ¬ Foot p b s own rb) :
    Calls Try.prog 11 #[.pointer (some ⟨s, 0, none⟩), .slice (some ⟨rb, ro, none⟩) Q.width c] w (KPost p b s own S' Q' w (.int .i64 0)) := by
  unfold appendOf at hr
  cases hro : roomOf S Q with
  | none => rw [hro] at hr; cases hr
  | some r =>
    obtain ⟨S1, Q1⟩ := r
    rw [hro] at hr
    obtain ⟨rfl, rfl⟩ := Prod.mk.inj (Option.some.inj hr)
    exact append_ok s p b S Q v own w h hp ha hS hlen S1 Q1 hro rb ro c xs hx hxl hF
theorem append_none (s p b : Nat) (S : List Pg) (Q : Sq) (v : Value) (own : Option Nat) (w : World) (h : SR w s p Q v own) (hp : PR w p b S) (xs : List Int) (hr : appendOf S Q xs = none) (a : Option Addr) (c : Nat) : Calls Try.prog 11 #[.pointer (some ⟨s, 0, none⟩), .slice a Q.width c] w fun e w' => e = .returned (.int .i64 6) ∧ Below w.heap.size w w' := by
  unfold appendOf at hr
  cases hro : roomOf S Q with
  | none => exact append_no s p b S Q v own w h hp hro a c
  | some r => rw [hro] at hr; cases hr
/-- A sequence in the heap. -/
structure Ent where
  s : Nat
  Q : Sq
  v : Value
  own : Option Nat
structure Good1 (B : Nat) (w : World) (p b : Nat) (x : Ent) : Prop where
  seq : SR w x.s p x.Q x.v x.own
  apart : Apart p b x.s x.own
  s : B ≤ x.s
  o : ∀ k, x.own = some k → B ≤ k
structure Far (x y : Ent) : Prop where
  ss : x.s ≠ y.s
  os : x.own ≠ some y.s
  oo : ∀ k, x.own = some k → y.own ≠ some k
structure Many (B : Nat) (w : World) (p b : Nat) (S : List Pg) (L : List Ent) : Prop where
  pool : PR w p b S
  pB : B ≤ p
  bB : B ≤ b
  one : ∀ (i : Nat) (x : Ent), L[i]? = some x → Good1 B w p b x
  two : ∀ (i j : Nat) (x y : Ent), i ≠ j → L[i]? = some x → L[j]? = some y → Far x y
namespace Many
variable {B : Nat} {w w' : World} {p b : Nat} {S S' : List Pg} {L : List Ent}
theorem below (h : Many B w p b S L) (hb : Below w.heap.size w w') : Many B w' p b S L :=
  ⟨h.pool.below hb, h.pB, h.bB, fun i x hx => ⟨(h.one i x hx).seq.below hb, (h.one i x hx).apart, (h.one i x hx).s, (h.one i x hx).o⟩, h.two⟩
theorem drewN (h : Many B w p b S L) (m : Nat) : Many B (w.drewN m) p b S L := h.below ⟨rfl, rfl, rfl, Nat.le_refl _, fun _ _ => rfl⟩
/-- A call on one of them. -/
theorem step (h : Many B w p b S L) {i : Nat} {x : Ent} (hx : L[i]? = some x) {Q' : Sq} {r : Value} {e : Ending} (hk : KPost p b x.s x.own S' Q' w r e w') (hB : B ≤ w.heap.size) :
    ∃ y, Many B w' p b S' (L.set i y) ∧ y.s = x.s ∧ y.Q = Q' ∧ Below B w w' := by
  obtain ⟨-, hp, ⟨v', own', hs, ho⟩, hc⟩ := hk
  have hX := h.one i x hx
  have hi := (List.getElem?_eq_some_iff.1 hx).1
  have hpl := h.pool.head.lt
  have hbl := h.pool.lt
  have hy : Good1 B w' p b ⟨x.s, Q', v', own'⟩ := ⟨hs, ⟨hX.apart.sp, hX.apart.sb, fun e => by
      rcases ho _ e with e | e
      · exact hX.apart.op e
      · omega, fun e => by
      rcases ho _ e with e | e
      · exact hX.apart.ob e
      · omega⟩, hX.s, fun k e => by
      rcases ho _ e with e | e
      · exact hX.o k e
      · omega⟩
  have hfar : ∀ (j : Nat) (z : Ent), j ≠ i → L[j]? = some z → Far ⟨x.s, Q', v', own'⟩ z ∧ Far z ⟨x.s, Q', v', own'⟩ := by
    intro j z hj hz
    have f1 := h.two i j x z (Ne.symm hj) hx hz
    have f2 := h.two j i z x hj hz hx
    have hz1 := (h.one j z hz).seq
    have hz2 := hz1.head.lt
    refine ⟨⟨f1.ss, fun e => ?_, fun k e e2 => ?_⟩, ⟨f2.ss, f2.os, fun k e e2 => ?_⟩⟩
    · rcases ho _ e with e | e
      · exact f1.os e
      · omega
    · rcases ho _ e with e | e
      · exact f1.oo k e e2
      · have := hz1.row.lt k e2; omega
    · rcases ho _ e2 with e3 | e3
      · exact f2.oo k e e3
      · have := hz1.row.lt k e; omega
  refine ⟨⟨x.s, Q', v', own'⟩, ⟨hp, h.pB, h.bB, fun j z hz => ?_, fun j k z u hjk hz hu => ?_⟩, rfl, rfl, ?_⟩
  · rw [List.getElem?_set] at hz
    split at hz
    next e =>
      subst e
      cases hz; exact hy
    next e =>
      have hZ := h.one j z hz
      have f1 := h.two i j x z e hx hz
      have f2 := h.two j i z x (Ne.symm e) hz hx
      refine ⟨hZ.seq.chg hc ?_ (fun k hk => ?_), hZ.apart, hZ.s, hZ.o⟩
      · rintro (e | e | e | e)
        · exact hZ.apart.sp e
        · exact hZ.apart.sb e
        · exact f1.ss e.symm
        · exact f1.os e
      · rintro (e | e | e | e)
        · exact hZ.apart.op (by rw [hk, e])
        · exact hZ.apart.ob (by rw [hk, e])
        · exact f2.os (by rw [hk, e])
        · exact f1.oo k e hk
  · rw [List.getElem?_set] at hz hu
    split at hz
    next e =>
      subst e
      cases hz
      rw [if_neg hjk] at hu
      exact (hfar k u (Ne.symm hjk) hu).1
    next e =>
      split at hu
      next e2 =>
        subst e2
        cases hu
        exact (hfar j z hjk hz).2
      next e2 => exact h.two j k z u hjk hz hu
  · exact hc.below (B := B) (fun k e => by
      rcases e with e | e | e | e
      · rw [e]; exact h.pB
      · rw [e]; exact h.bB
      · rw [e]; exact hX.s
      · exact hX.o k e) hB
/-- A fork of one of them. -/
theorem fork (h : Many B w p b S L) {i : Nat} {x : Ent} (hx : L[i]? = some x) {e : Ending} {f : Nat} (hk : FPost p b x.s S' x.Q x.v x.own w e w' f) (hB : B ≤ w.heap.size) :
    ∃ y, Many B w' p b S' (L ++ [y]) ∧ y.s = f ∧ y.Q = x.Q ∧ Below B w w' := by
  obtain ⟨-, hp, hs, ⟨v', g, hn, hg⟩, hc, hf⟩ := hk
  have hpl := h.pool.head.lt
  have hbl := h.pool.lt
  have hZ : ∀ (j : Nat) (z : Ent), L[j]? = some z → Good1 B w' p b z := fun j z hz => by
    have hZ := h.one j z hz
    exact ⟨hZ.seq.chg hc (fun e => e.elim hZ.apart.sp hZ.apart.sb) (fun k hk e => e.elim (fun e => hZ.apart.op (by rw [hk, e])) (fun e => hZ.apart.ob (by rw [hk, e]))), hZ.apart, hZ.s, hZ.o⟩
  have hy : Good1 B w' p b ⟨f, x.Q, v', some g⟩ := ⟨hn, ⟨by show f ≠ p; omega, by show f ≠ b; omega, fun e => by have := Option.some.inj e; omega, fun e => by have := Option.some.inj e; omega⟩, by show B ≤ f; omega, fun k e => by have := Option.some.inj e; omega⟩
  have hfar : ∀ (j : Nat) (z : Ent), L[j]? = some z → Far ⟨f, x.Q, v', some g⟩ z ∧ Far z ⟨f, x.Q, v', some g⟩ := by
    intro j z hz
    have hz1 := (h.one j z hz).seq
    have hz2 := hz1.head.lt
    refine ⟨⟨by show f ≠ z.s; omega, fun e => by have := Option.some.inj e; omega, fun k e e2 => ?_⟩, ⟨by show z.s ≠ f; omega, fun e => ?_, fun k e e2 => ?_⟩⟩
    · have := hz1.row.lt k e2; have := Option.some.inj e; omega
    · have : f < w.heap.size := hz1.row.lt f e; omega
    · have := hz1.row.lt k e; have := Option.some.inj e2; omega
  refine ⟨⟨f, x.Q, v', some g⟩, ⟨hp, h.pB, h.bB, fun j z hz => ?_, fun j k z u hjk hz hu => ?_⟩, rfl, rfl, hc.below (B := B) (fun k e => by
      rcases e with e | e
      · rw [e]; exact h.pB
      · rw [e]; exact h.bB) hB⟩
  · rw [List.getElem?_append] at hz
    split at hz
    · exact hZ j z hz
    · rw [List.getElem?_singleton] at hz
      split at hz
      · cases hz; exact hy
      · cases hz
  · rw [List.getElem?_append] at hz hu
    split at hz
    next hj =>
      split at hu
      next hk => exact h.two j k z u hjk hz hu
      next hk =>
        rw [List.getElem?_singleton] at hu
        split at hu
        · cases hu; exact (hfar j z hz).2
        · cases hu
    next hj =>
      rw [List.getElem?_singleton] at hz
      split at hz
      next hj0 =>
        cases hz
        split at hu
        next hk => exact (hfar k u hu).1
        next hk =>
          rw [List.getElem?_singleton] at hu
          split at hu
          next hk0 => omega
          next => cases hu
      next => cases hz
end Many
end Go.Proofs.Ytfimadeokdlpnaa.kv
