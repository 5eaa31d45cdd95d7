/- The calls on both sides. -/
import Derived.Test.YtfimadeokdlpnaaWo
import Derived.Test.YtfimadeokdlpnaaWm
import Derived.Test.YtfimadeokdlpnaaWz
namespace Go.Proofs.Ytfimadeokdlpnaa.kv
open Go.ChangeShapes Go.WideShapes Go.ChangeAt Go.RowKit K
set_option linter.unusedVariables false
set_option linter.unusedSimpArgs false
namespace Pair
variable {B : Nat} {w0 w w' : World} {p b : Nat} {SL : List Pg} {L : List Ent} {r rb : Nat} {SR : List Pg} {c : Nat → Nat} {Qs : List Sq} {R : List REnt} {ps rs : List Value} {vs : Value} {ks : Nat} {vx : Value} {kx : Nat} {O : Nat → Prop} {wO : World}
/-- Release, on the program's side. -/
theorem release (h : Pair B w0 w p b SL L r rb SR c Qs R ps rs vs ks vx kx O wO) {k : Nat} {x : Ent} (hx : L[k]? = some x) (hS : Small SL) :
    Calls Try.prog 24 #[.pointer (some ⟨x.s, 0, none⟩)] w fun e w' => e = .returned (.tuple #[]) ∧ ∃ y, y.s = x.s ∧ y.Q = { x.Q with pages := [], first := x.Q.len } ∧ Pair B w0 w' p b (dropAll SL x.Q.pages) (L.set k y) r rb SR c Qs R ps rs vs ks vx kx O wO := by
  refine (h.many.release2_c hx hS).mono ?_
  rintro e w' ⟨he, y, hM, hys, hyQ, hB, hC, ho⟩
  exact ⟨he, y, hys, hyQ, h.left hM hB (hC.mono (PMF.foot hx)) (PMF.set hx hys ho)⟩
theorem keep (h : Pair B w0 w p b SL L r rb SR c Qs R ps rs vs ks vx kx O wO) {k : Nat} {x : Ent} (hx : L[k]? = some x) (hS : Small SL) (n m : Int) (hm : (0 ≤ n ∧ m = n) ∨ (n < 0 ∧ m = 0)) (hn : n ≤ 9223372036854775807) :
    Calls Try.prog 22 #[.pointer (some ⟨x.s, 0, none⟩), .int .i64 n] w fun e w' => e = .returned (.tuple #[]) ∧ ∃ y, y.s = x.s ∧ y.Q = { x.Q with pages := (keepOf x.Q.per x.Q.len m SL x.Q.pages x.Q.first).2.1, first := (keepOf x.Q.per x.Q.len m SL x.Q.pages x.Q.first).2.2 } ∧
      Pair B w0 w' p b (keepOf x.Q.per x.Q.len m SL x.Q.pages x.Q.first).1 (L.set k y) r rb SR c Qs R ps rs vs ks vx kx O wO := by
  refine (h.many.keep2_c hx hS n m hm hn).mono ?_
  rintro e w' ⟨he, y, hM, hys, hyQ, hB, hC, ho⟩
  exact ⟨he, y, hys, hyQ, h.left hM hB (hC.mono (PMF.foot hx)) (PMF.set hx hys ho)⟩
theorem fork (h : Pair B w0 w p b SL L r rb SR c Qs R ps rs vs ks vx kx O wO) {k : Nat} {x : Ent} (hx : L[k]? = some x) (hS : Most 900000000 SL) :
    Calls Try.prog 20 #[.pointer (some ⟨x.s, 0, none⟩)] w fun e w' => ∃ y, e = .returned (.pointer (some ⟨y.s, 0, none⟩)) ∧ y.Q = x.Q ∧ Pair B w0 w' p b (shareAll SL x.Q.pages) (L ++ [y]) r rb SR c Qs R ps rs vs ks vx kx O wO := by
  refine (h.many.fork2_c hx hS).mono ?_
  rintro e w' ⟨f, he, y, hM, rfl, hyQ, hB, hC, hf, ho⟩
  exact ⟨y, he, hyQ, h.left hM hB (hC.mono (fun k e => e.elim .inl (fun e => .inr (.inl e)))) (PMF.app hf ho)⟩
theorem append (h : Pair B w0 w p b SL L r rb SR c Qs R ps rs vs ks vx kx O wO) {k : Nat} {x : Ent} (hx : L[k]? = some x) (hS : Small SL) (hlen : x.Q.len < 1000) (W : Nat) (hW : x.Q.width = W) (xs : List Int) (hxl : xs.length = W) (g f cc : Nat) (ha : Args w g f xs) (hg : ¬ PMF p b L g) :
    Calls Try.prog 11 #[.pointer (some ⟨x.s, 0, none⟩), .slice (some ⟨g, f, none⟩) W cc] w fun e w' =>
      (∃ S' Q', appendOf SL x.Q xs = some (S', Q') ∧ e = .returned (.int .i64 0) ∧ ∃ y, y.s = x.s ∧ y.Q = Q' ∧ Pair B w0 w' p b S' (L.set k y) r rb SR c Qs R ps rs vs ks vx kx O wO) ∨
      (appendOf SL x.Q xs = none ∧ e = .returned (.int .i64 6) ∧ Pair B w0 w' p b SL L r rb SR c Qs R ps rs vs ks vx kx O wO) := by
  refine (h.many.append2_c hx hS hlen W hW xs hxl g f cc ha (fun e => hg (PMF.foot hx _ e))).mono ?_
  rintro e w' (⟨S', Q', hr, he, y, hM, hys, hyQ, hB, hC, ho⟩ | ⟨hr, he, hB⟩)
  · exact .inl ⟨S', Q', hr, he, y, hys, hyQ, h.left hM hB (hC.mono (PMF.foot hx)) (PMF.set hx hys ho)⟩
  · exact .inr ⟨hr, he, h.below hB⟩
/-- The reference's side. -/
theorem rrelease (h : Pair B w0 w p b SL L r rb SR c Qs R ps rs vs ks vx kx O wO) {k : Nat} {x : REnt} {Q : Sq} (hx : R[k]? = some x) (hQ : Qs[k]? = some Q) (hS : Small SR) :
    Calls Try.prog 25 #[.pointer (some ⟨x.s, 0, none⟩)] w fun e w' => e = .returned (.tuple #[]) ∧ ∃ c' y, y.s = x.s ∧ Pair B w0 w' p b SL L r rb (dropAll SR Q.pages) c' (Qs.set k { Q with pages := [], first := Q.len }) (R.set k y) ps rs vs ks vx kx O wO := by
  have h1 := h.ref.one k x Q hx hQ
  refine (rrelease_c x.s r rb SR c Q x.v x.own w h1.1 h.ref.pool h1.2 hS).mono ?_
  intro e w' hp
  obtain ⟨c', y, hM, hys, hC, hg⟩ := h.ref.step hx hQ hp
  exact ⟨hp.ret, c', y, hys, h.right hM hC hg⟩
theorem rkeep (h : Pair B w0 w p b SL L r rb SR c Qs R ps rs vs ks vx kx O wO) {k : Nat} {x : REnt} {Q : Sq} (hx : R[k]? = some x) (hQ : Qs[k]? = some Q) (hS : Small SR) (n m : Int) (hm : (0 ≤ n ∧ m = n) ∨ (n < 0 ∧ m = 0)) (hn : n ≤ 9223372036854775807) :
    Calls Try.prog 23 #[.pointer (some ⟨x.s, 0, none⟩), .int .i64 n] w fun e w' => e = .returned (.tuple #[]) ∧ ∃ c' y, y.s = x.s ∧ Pair B w0 w' p b SL L r rb (keepOf Q.per Q.len m SR Q.pages Q.first).1 c' (Qs.set k { Q with pages := (keepOf Q.per Q.len m SR Q.pages Q.first).2.1, first := (keepOf Q.per Q.len m SR Q.pages Q.first).2.2 }) (R.set k y) ps rs vs ks vx kx O wO := by
  have h1 := h.ref.one k x Q hx hQ
  refine (rkeep_c x.s r rb SR c Q x.v x.own w h1.1 h.ref.pool h1.2 hS n m hm hn).mono ?_
  intro e w' hp
  obtain ⟨c', y, hM, hys, hC, hg⟩ := h.ref.step hx hQ hp
  exact ⟨hp.ret, c', y, hys, h.right hM hC hg⟩
theorem rfork (h : Pair B w0 w p b SL L r rb SR c Qs R ps rs vs ks vx kx O wO) {k : Nat} {x : REnt} {Q : Sq} (hx : R[k]? = some x) (hQ : Qs[k]? = some Q) (hS : Most 900000000 SR) :
    Calls Try.prog 21 #[.pointer (some ⟨x.s, 0, none⟩)] w fun e w' => ∃ c' y, e = .returned (.pointer (some ⟨y.s, 0, none⟩)) ∧ Pair B w0 w' p b SL L r rb (shareAll SR Q.pages) c' (Qs ++ [Q]) (R ++ [y]) ps rs vs ks vx kx O wO := by
  have h1 := h.ref.one k x Q hx hQ
  refine (rfork_c x.s r rb SR c Q x.v x.own w h1.1 h.ref.pool h1.2 hS).mono ?_
  rintro e w' ⟨f, hp⟩
  obtain ⟨c', y, hM, hys, hC, hg⟩ := h.ref.fork hx hQ hp
  exact ⟨c', y, by rw [hys]; exact hp.ret, h.right hM hC hg⟩
/-- The law's same. -/
theorem same13 (h : Pair B w0 w p b SL L r rb SL c (L.map (·.Q)) R ps rs vs ks vx kx O wO) {k : Nat} {x : Ent} {y : REnt} (hx : L[k]? = some x) (hy : R[k]? = some y) (hu : x.Q.isOpen = true → ownersOf SL x.Q.last ≠ 0) (i : Int) :
    Calls Try.prog 26 #[.pointer (some ⟨x.s, 0, none⟩), .pointer (some ⟨y.s, 0, none⟩), .int .i64 i] w fun e w' => e = .returned (.bool true) ∧ Pair B w0 w' p b SL L r rb SL c (L.map (·.Q)) R ps rs vs ks vx kx O wO := by
  have hQ : (L.map (·.Q))[k]? = some x.Q := by rw [List.getElem?_map, hx]; rfl
  have h1 := h.ref.one k y x.Q hy hQ
  refine (same13_c x.s p b y.s r rb SL c x.Q x.v y.v x.own y.own w (h.many.one k x hx).seq h.many.pool h1.1 h.ref.pool hu i).mono ?_
  rintro e w' ⟨he, hb⟩
  exact ⟨he, h.below hb⟩
theorem same11 (h : Pair B w0 w p b SL L r rb SL c Qs R ps rs vs ks vx kx O wO) :
    Calls Try.prog 27 #[.pointer (some ⟨p, 0, none⟩), .pointer (some ⟨r, 0, none⟩)] w fun e w' => e = .returned (.bool true) ∧ Pair B w0 w' p b SL L r rb SL c Qs R ps rs vs ks vx kx O wO := by
  refine (same11_c p b r rb SL c w h.many.pool h.ref.pool).mono ?_
  rintro e w' ⟨he, hb⟩
  exact ⟨he, h.below hb⟩
end Pair
end Go.Proofs.Ytfimadeokdlpnaa.kv
