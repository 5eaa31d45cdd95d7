/- The reference's Append on both sides' state. -/
import Derived.Test.YtfimadeokdlpnaaWp
import Derived.Test.YtfimadeokdlpnaaWi4
namespace Go.Proofs.Ytfimadeokdlpnaa.kv
open Go.ChangeShapes Go.WideShapes Go.ChangeAt Go.RowKit K
set_option linter.unusedVariables false
set_option linter.unusedSimpArgs false
theorem RMF.foot {r rb : Nat} {S : List Pg} {c : Nat → Nat} {R : List REnt} {i : Nat} {x : REnt} (hx : R[i]? = some x) : ∀ k, GF r rb S c x.s x.own k → RMF r rb S c R k := by
  rintro k (e | e | e)
  · exact .inl e
  · exact .inr ⟨i, x, hx, .inl e⟩
  · exact .inr ⟨i, x, hx, .inr e⟩
theorem Pair.rappend {B : Nat} {w0 w : World} {p b : Nat} {SL : List Pg} {L : List Ent} {r rb : Nat} {SR : List Pg} {c : Nat → Nat} {Qs : List Sq} {R : List REnt} {ps rs : List Value} {vs : Value} {ks : Nat} {vx : Value} {kx : Nat} {O : Nat → Prop} {wO : World} (h : Pair B w0 w p b SL L r rb SR c Qs R ps rs vs ks vx kx O wO) {k : Nat} {x : REnt} {Q : Sq} (hx : R[k]? = some x) (hQ : Qs[k]? = some Q) (hS : Small SR) (hu : Q.isOpen = true → ownersOf SR Q.last ≠ 0) (hlen : Q.len < 1000) (W : Nat) (hW : Q.width = W) (xs : List Int) (hxl : xs.length = W) (g f cc : Nat) (ha : Args w g f xs) (hg : ¬ RMF r rb SR c R g) :
    Calls Try.prog 19 #[.pointer (some ⟨x.s, 0, none⟩), .slice (some ⟨g, f, none⟩) W cc] w fun e w' =>
      (∃ S' Q', appendOf SR Q xs = some (S', Q') ∧ e = .returned (.int .i64 0) ∧ ∃ c' y, y.s = x.s ∧ Pair B w0 w' p b SL L r rb S' c' (Qs.set k Q') (R.set k y) ps rs vs ks vx kx O wO) ∨
      (appendOf SR Q xs = none ∧ e = .returned (.int .i64 6) ∧ Pair B w0 w' p b SL L r rb SR c Qs R ps rs vs ks vx kx O wO) := by
  subst hW
  have h1 := h.ref.one k x Q hx hQ
  unfold appendOf
  cases hr : roomOf SR Q with
  | none =>
    refine (rappend_no x.s r rb SR c Q x.v x.own w h1.1 h.ref.pool hu hr (some ⟨g, f, none⟩) cc).mono ?_
    rintro e w' ⟨he, hb⟩
    exact .inr ⟨rfl, he, h.below hb⟩
  | some q =>
    obtain ⟨S', Q'⟩ := q
    refine (rappend_ok x.s r rb SR c Q x.v x.own w h1.1 h.ref.pool h1.2 hS hu hlen S' Q' hr g f cc xs ha hxl (fun e => hg (RMF.foot hx _ e))).mono ?_
    intro e w' hp
    obtain ⟨c', y, hM, hys, hC, hgr⟩ := h.ref.step hx hQ hp
    exact .inl ⟨_, _, rfl, hp.ret, c', y, hys, h.right hM hC hgr⟩
end Go.Proofs.Ytfimadeokdlpnaa.kv
