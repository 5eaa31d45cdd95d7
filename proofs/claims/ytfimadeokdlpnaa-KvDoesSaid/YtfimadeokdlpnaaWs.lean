/- KvDoes: what the law itself stores; the loop's relation. Plain lemmas. KvDoes: each act on both sides. -/
import Derived.Test.YtfimadeokdlpnaaWp
import Derived.Test.YtfimadeokdlpnaaWq
namespace Go.Proofs.Ytfimadeokdlpnaa.kv
open Go.ChangeShapes Go.WideShapes Go.ChangeAt Go.RowKit K
set_option linter.unusedVariables false
set_option linter.unusedSimpArgs false
namespace Pair
variable {B : Nat} {w0 w w' : World} {p b : Nat} {SL : List Pg} {L : List Ent} {r rb : Nat} {SR : List Pg} {c : Nat → Nat} {Qs : List Sq} {R : List REnt} {ps rs : List Value} {vs : Value} {ks : Nat} {vx : Value} {kx : Nat} {O : Nat → Prop} {wO : World}
theorem appS (h : Pair B w0 w p b SL L r rb SR c Qs R ps rs vs ks vx kx O wO) {vs' u : Value} {g : Nat} (hr : Row w' 28 1 vs' (some g) (ps.length + 1) (ps ++ [u])) (hg : w.grownBy w' (some ks)) (ho : some ks = some g ∨ g = w.heap.size) :
    Pair B w0 w' p b SL L r rb SR c Qs R (ps ++ [u]) rs vs' g vx kx O wO := by
  have hc : Chg (fun k => k = ks) w w' := Chg.of_grown hg (fun k e => Option.some.inj e)
  have hxl := h.xs.lt kx rfl
  have hB := h.many.size
  refine ⟨h.many.chgP hc (fun k hk e => h.sP.1 (e ▸ hk)), h.ref.chg hc (fun k hk e => h.sR.1 (e ▸ hk)), h.dis, h.low, ?_, h.xs.chg hc (fun k hk => by cases hk; exact fun e => h.ne e.symm), ⟨fun e => ?_, h.sP.2⟩, ⟨fun e => ?_, h.sR.2⟩, ⟨?_, h.kB.2⟩, fun e => ?_, h.bel.trans (hc.below (fun k e => by rw [e]; exact h.kB.1) hB), fun k hk => ?_⟩
  rotate_right
  · obtain ⟨a, e, o1, o2, o3, o4⟩ := h.own k hk
    exact ⟨Nat.lt_of_lt_of_le a hc.size, (hc.block k a o3).trans e, o1, o2, fun f => by
      rcases ho with f2 | f2
      · cases f2; exact o3 f
      · omega, o4⟩
  · rw [List.length_append, List.length_singleton]; exact hr
  · rcases ho with f | f
    · cases f; exact h.sP.1 e
    · have := h.many.lts _ e; omega
  · rcases ho with f | f
    · cases f; exact h.sR.1 e
    · have := h.ref.lt _ e; omega
  · rcases ho with f | f
    · cases f; exact h.kB.1
    · omega
  · rcases ho with f | f
    · cases f; exact h.ne e
    · omega
theorem appX (h : Pair B w0 w p b SL L r rb SR c Qs R ps rs vs ks vx kx O wO) {vx' u : Value} {g : Nat} (hr : Row w' 43 1 vx' (some g) (rs.length + 1) (rs ++ [u])) (hg : w.grownBy w' (some kx)) (ho : some kx = some g ∨ g = w.heap.size) :
    Pair B w0 w' p b SL L r rb SR c Qs R ps (rs ++ [u]) vs ks vx' g O wO := by
  have hc : Chg (fun k => k = kx) w w' := Chg.of_grown hg (fun k e => Option.some.inj e)
  have hsl := h.ss.lt ks rfl
  have hB := h.many.size
  refine ⟨h.many.chgP hc (fun k hk e => h.sP.2 (e ▸ hk)), h.ref.chg hc (fun k hk e => h.sR.2 (e ▸ hk)), h.dis, h.low, h.ss.chg hc (fun k hk => by cases hk; exact h.ne), ?_, ⟨h.sP.1, fun e => ?_⟩, ⟨h.sR.1, fun e => ?_⟩, ⟨h.kB.1, ?_⟩, fun e => ?_, h.bel.trans (hc.below (fun k e => by rw [e]; exact h.kB.2) hB), fun k hk => ?_⟩
  rotate_right
  · obtain ⟨a, e, o1, o2, o3, o4⟩ := h.own k hk
    exact ⟨Nat.lt_of_lt_of_le a hc.size, (hc.block k a o4).trans e, o1, o2, o3, fun f => by
      rcases ho with f2 | f2
      · cases f2; exact o4 f
      · omega⟩
  · rw [List.length_append, List.length_singleton]; exact hr
  · rcases ho with f | f
    · cases f; exact h.sP.2 e
    · have := h.many.lts _ e; omega
  · rcases ho with f | f
    · cases f; exact h.sR.2 e
    · have := h.ref.lt _ e; omega
  · rcases ho with f | f
    · cases f; exact h.kB.2
    · omega
  · rcases ho with f | f
    · cases f; exact h.ne e
    · omega
theorem formS (h : Pair B w0 w p b SL L r rb SR c Qs R ps rs vs ks vx kx O wO) : ∃ f cc, vs = .slice (some ⟨ks, f, none⟩) ps.length cc := by
  rcases h.ss.2 with ⟨_, _, h0⟩ | ⟨b', off, cap, cs, h1, h2, h3, h4, h5, h6, h7⟩
  · cases h0
  · cases h2; exact ⟨off, cap, h1⟩
theorem formX (h : Pair B w0 w p b SL L r rb SR c Qs R ps rs vs ks vx kx O wO) : ∃ f cc, vx = .slice (some ⟨kx, f, none⟩) rs.length cc := by
  rcases h.xs.2 with ⟨_, _, h0⟩ | ⟨b', off, cap, cs, h1, h2, h3, h4, h5, h6, h7⟩
  · cases h0
  · cases h2; exact ⟨off, cap, h1⟩
theorem cellS {f n cc : Nat} (h : Pair B w0 w p b SL L r rb SR c Qs R ps rs (.slice (some ⟨ks, f, none⟩) n cc) ks vx kx O wO) {k : Nat} {u : Value} (hu : ps[k]? = some u) : w.cell? ⟨ks, f + k, none⟩ = some u := by
  rcases h.ss.2 with ⟨_, _, h0⟩ | ⟨b', off, cap, cs, h1, h2, h3, h4, h5, h6, h7⟩
  · cases h0
  · cases h2; cases h1
    have := (List.getElem?_eq_some_iff.1 hu).1
    exact h5.cell _ _ (by rw [h7 k (by omega), hu])
theorem cellX {f n cc : Nat} (h : Pair B w0 w p b SL L r rb SR c Qs R ps rs vs ks (.slice (some ⟨kx, f, none⟩) n cc) kx O wO) {k : Nat} {u : Value} (hu : rs[k]? = some u) : w.cell? ⟨kx, f + k, none⟩ = some u := by
  rcases h.xs.2 with ⟨_, _, h0⟩ | ⟨b', off, cap, cs, h1, h2, h3, h4, h5, h6, h7⟩
  · cases h0
  · cases h2; cases h1
    have := (List.getElem?_eq_some_iff.1 hu).1
    exact h5.cell _ _ (by rw [h7 k (by omega), hu])
end Pair
theorem map_ptrR_set {L : List REnt} {k : Nat} {x y : REnt} (hx : L[k]? = some x) (hs : y.s = x.s) : (L.set k y).map ptrR = L.map ptrR := by
  refine List.ext_getElem? fun j => ?_
  rw [List.getElem?_map, List.getElem?_map, List.getElem?_set]
  by_cases e : k = j
  · subst e
    rw [if_pos rfl, hx, if_pos (List.getElem?_eq_some_iff.1 hx).1]
    unfold ptrR
    simp only [Option.map_some, hs]
  · rw [if_neg e]
theorem RMany.start {w : World} {r rb x : Nat} {S : List Pg} {c : Nat → Nat} {Q : Sq} (hp : RP w r rb S c) (hs : RQ w x r Q (.slice none 0 0) none) (hx : ¬ RF r rb S c x) : RMany w r rb S c [Q] [⟨x, .slice none 0 0, none⟩] := by
  refine ⟨hp, rfl, fun i y P hy hP => ?_, fun i j y z hij hy hz => ?_⟩
  · rw [List.getElem?_singleton] at hy hP
    split at hy
    next e =>
      rw [if_pos e] at hP
      cases hy; cases hP
      exact ⟨hs, hx, fun k hk => by cases hk⟩
    · cases hy
  · rw [List.getElem?_singleton] at hy hz
    split at hy
    · split at hz
      · omega
      · cases hz
    · cases hy
theorem Pair.start {B : Nat} {w0 w : World} {p b s r rb x : Nat} {SL SR : List Pg} {c : Nat → Nat} {Q : Sq} {v : Value} {own : Option Nat} {z : REnt} (hz : z.s = x) (hM : Many B w p b SL [⟨s, Q, v, own⟩]) (hR : RMany w r rb SR c [Q] [z]) (hd : ∀ k, PMF p b [⟨s, Q, v, own⟩] k → ¬ RMF r rb SR c [z] k) (hl : ∀ k, RMF r rb SR c [z] k → B ≤ k) (hb : Below B w0 w) :
    Pair B w0 ((w.alloc (.cells #[.pointer (some ⟨s, 0, none⟩)] 28)).alloc (.cells #[.pointer (some ⟨x, 0, none⟩)] 43)) p b SL [⟨s, Q, v, own⟩] r rb SR c ([(⟨s, Q, v, own⟩ : Ent)].map (·.Q)) [z] ([(⟨s, Q, v, own⟩ : Ent)].map ptrOf) ([z].map ptrR) (.slice (some ⟨w.heap.size, 0, none⟩) 1 1) w.heap.size (.slice (some ⟨w.heap.size + 1, 0, none⟩) 1 1) (w.heap.size + 1) (fun _ => False) w0 := by
  have hB := hM.size
  have hbb : Below w.heap.size w ((w.alloc (.cells #[.pointer (some ⟨s, 0, none⟩)] 28)).alloc (.cells #[.pointer (some ⟨x, 0, none⟩)] 43)) := ((Below.refl _ w).alloc (Nat.le_refl _) _).alloc (by simp) _
  have k1 : Bk ((w.alloc (.cells #[.pointer (some ⟨s, 0, none⟩)] 28)).alloc (.cells #[.pointer (some ⟨x, 0, none⟩)] 43)) w.heap.size #[.pointer (some ⟨s, 0, none⟩)] 28 := Bk.over (Bk.new w _ _) _
  have k2 : Bk ((w.alloc (.cells #[.pointer (some ⟨s, 0, none⟩)] 28)).alloc (.cells #[.pointer (some ⟨x, 0, none⟩)] 43)) (w.heap.size + 1) #[.pointer (some ⟨x, 0, none⟩)] 43 := by
    have := Bk.new (w.alloc (.cells #[.pointer (some ⟨s, 0, none⟩)] 28)) #[.pointer (some ⟨x, 0, none⟩)] 43
    rw [show (w.alloc (.cells #[.pointer (some ⟨s, 0, none⟩)] 28)).heap.size = w.heap.size + 1 by simp] at this
    exact this
  have l1 := hM.lts
  have l2 := hR.lt
  generalize (w.alloc (.cells #[.pointer (some ⟨s, 0, none⟩)] 28)).alloc (.cells #[.pointer (some ⟨x, 0, none⟩)] 43) = W2 at *
  refine ⟨hM.below hbb, hR.below hbb, hd, hl, ?_, ?_, ⟨fun e => ?_, fun e => ?_⟩, ⟨fun e => ?_, fun e => ?_⟩, ⟨hB, by omega⟩, by omega, bstep hb hbb hB, fun k hk => hk.elim⟩
  · refine ⟨rfl, .inr ⟨_, 0, 1, _, rfl, rfl, Nat.le_refl _, by unfold maxLen; omega, k1, by simp, fun j hj => ?_⟩⟩
    obtain rfl : j = 0 := by simp at hj; omega
    simp [ptrOf]
  · refine ⟨rfl, .inr ⟨_, 0, 1, _, rfl, rfl, Nat.le_refl _, by unfold maxLen; omega, k2, by simp, fun j hj => ?_⟩⟩
    obtain rfl : j = 0 := by simp at hj; omega
    simp [ptrR, hz]
  · have := l1 _ e; omega
  · have := l1 _ e; omega
  · have := l2 _ e; omega
  · have := l2 _ e; omega
/-- Both sides' plain state. -/
structure DInv (W N i : Nat) (S : List Pg) (Qs : List Sq) : Prop where
  fam : FamO W N S Qs
  len : ∀ (k : Nat) (Q : Sq), Qs[k]? = some Q → Q.len ≤ i
  cnt : 1 ≤ Qs.length ∧ Qs.length ≤ 6
  hi : i ≤ 60
namespace DInv
variable {W N i : Nat} {S : List Pg} {Qs : List Sq}
theorem most (h : DInv W N i S Qs) : Most 900000000 S := fun x hx => by
  have h1 := h.fam.most i h.len x hx
  have h2 := h.cnt
  have h3 := h.hi
  have h4 : Qs.length * (i + 1) ≤ 6 * 61 := Nat.mul_le_mul h2.2 (by omega)
  omega
theorem small (h : DInv W N i S Qs) : Small S := fun x hx => by have := h.most x hx; omega
theorem more (h : DInv W N i S Qs) (hi : i < 60) : DInv W N (i + 1) S Qs := ⟨h.fam, fun k Q hk => Nat.le_succ_of_le (h.len k Q hk), h.cnt, hi⟩
theorem set {S' : List Pg} (h : DInv W N i S Qs) (hi : i < 60) {k : Nat} {Q : Sq} (hf : FamO W N S' (Qs.set k Q)) (hl : Q.len ≤ i + 1) : DInv W N (i + 1) S' (Qs.set k Q) := by
  refine ⟨hf, fun j P hj => ?_, by rw [List.length_set]; exact h.cnt, hi⟩
  rw [List.getElem?_set] at hj
  split at hj
  · split at hj
    · cases hj; exact hl
    · cases hj
  · exact Nat.le_succ_of_le (h.len j P hj)
theorem append (h : DInv W N i S Qs) (hi : i < 60) {k : Nat} {Q : Sq} (hk : Qs[k]? = some Q) {xs : List Int} {S' : List Pg} {Q' : Sq} (hr : appendOf S Q xs = some (S', Q')) : DInv W N (i + 1) S' (Qs.set k Q') := by
  obtain ⟨h1, h2⟩ := h.fam.append hk xs hr
  have := h.len k Q hk
  exact h.set hi h1 (by omega)
theorem keep (h : DInv W N i S Qs) (hi : i < 60) {k : Nat} {Q : Sq} (hk : Qs[k]? = some Q) (m : Int) (hm : 0 ≤ m) : DInv W N (i + 1) (keepOf Q.per Q.len m S Q.pages Q.first).1 (Qs.set k { Q with pages := (keepOf Q.per Q.len m S Q.pages Q.first).2.1, first := (keepOf Q.per Q.len m S Q.pages Q.first).2.2 }) :=
  h.set hi (h.fam.keep hk m hm) (Nat.le_succ_of_le (h.len k Q hk))
theorem release (h : DInv W N i S Qs) (hi : i < 60) {k : Nat} {Q : Sq} (hk : Qs[k]? = some Q) : DInv W N (i + 1) (dropAll S Q.pages) (Qs.set k { Q with pages := [], first := Q.len }) :=
  h.set hi (h.fam.release hk) (Nat.le_succ_of_le (h.len k Q hk))
theorem fork (h : DInv W N i S Qs) (hi : i < 60) {k : Nat} {Q : Sq} (hk : Qs[k]? = some Q) (h6 : Qs.length < 6) : DInv W N (i + 1) (shareAll S Q.pages) (Qs ++ [Q]) := by
  refine ⟨h.fam.fork hk, fun j P hj => ?_, by rw [List.length_append, List.length_singleton]; omega, hi⟩
  rw [List.getElem?_append] at hj
  split at hj
  · exact Nat.le_succ_of_le (h.len j P hj)
  · rw [List.getElem?_singleton] at hj
    split at hj
    · cases hj; exact Nat.le_succ_of_le (h.len k Q hk)
    · cases hj
theorem start (hW : 1 ≤ W ∧ W ≤ 32) (N : Nat) (tag : ByteArray) : DInv W N 0 (List.replicate N Pg.no) [⟨tag, W, [], 0, 0⟩] := by
  refine ⟨FamO.start hW N tag, fun j P hj => ?_, by simp, by omega⟩
  rw [List.getElem?_singleton] at hj
  split at hj
  · cases hj; exact Nat.le_refl _
  · cases hj
end DInv
/-- The loop's relation. -/
def DAt (B : Nat) (w0 : World) (p b r rb W N i : Nat) (v16 v17 : Value) (wr : World) : Prop :=
  ∃ L R S c ks kx O wO, Pair B w0 wr p b S L r rb S c (L.map (·.Q)) R (L.map ptrOf) (R.map ptrR) v16 ks v17 kx O wO ∧ DInv W N i S (L.map (·.Q))
end Go.Proofs.Ytfimadeokdlpnaa.kv
namespace Go.Proofs.Ytfimadeokdlpnaa.kv
open Go.ChangeShapes Go.WideShapes Go.ChangeAt Go.RowKit K
set_option linter.unusedVariables false
set_option linter.unusedSimpArgs false
theorem map_Q_set {L : List Ent} {k : Nat} {y : Ent} : (L.set k y).map (·.Q) = (L.map (·.Q)).set k y.Q := List.map_set ..
/-- What an Append gives. -/
def AppRes (W : Nat) (S : List Pg) (L : List Ent) (k : Nat) (Q : Sq) (xs : List Int) (ev : Int) (S' : List Pg) (L' : List Ent) : Prop :=
  (xs.length ≠ W ∧ ev = 21 ∧ S' = S ∧ L' = L) ∨ (xs.length = W ∧ appendOf S Q xs = none ∧ ev = 6 ∧ S' = S ∧ L' = L) ∨ (xs.length = W ∧ ∃ Q', appendOf S Q xs = some (S', Q') ∧ ev = 0 ∧ L'.map (·.Q) = (L.map (·.Q)).set k Q')
namespace Pair
variable {B : Nat} {w0 w w' : World} {p b : Nat} {S SL : List Pg} {L L' : List Ent} {r rb : Nat} {SR : List Pg} {c : Nat → Nat} {Qs : List Sq} {R : List REnt} {ps rs : List Value} {vs : Value} {ks : Nat} {vx : Value} {kx : Nat} {O : Nat → Prop} {wO : World} {W N i : Nat}
theorem appendAll (h : Pair B w0 w p b S L r rb SR c Qs R ps rs vs ks vx kx O wO) (D : DInv W N i S (L.map (·.Q))) {k : Nat} {x : Ent} (hx : L[k]? = some x) (xs : List Int) (m : Nat) (hm : xs.length = m) (g f cc : Nat) (ha : Args w g f xs) (hg : ¬ PMF p b L g) :
    Calls Try.prog 11 #[.pointer (some ⟨x.s, 0, none⟩), .slice (some ⟨g, f, none⟩) m cc] w fun e w' => ∃ ev S' L', e = .returned (.int .i64 ev) ∧ Pair B w0 w' p b S' L' r rb SR c Qs R ps rs vs ks vx kx O wO ∧ L'.map ptrOf = L.map ptrOf ∧ AppRes W S L k x.Q xs ev S' L' := by
  have hQk : (L.map (·.Q))[k]? = some x.Q := by rw [List.getElem?_map, hx]; rfl
  have hW := (D.fam.one k x.Q hQk).wid
  have hl := D.len k x.Q hQk
  have hi := D.hi
  subst hm
  by_cases e : xs.length = W
  · rw [e]
    refine (h.append hx D.small (by omega) W hW xs e g f cc ha hg).mono ?_
    rintro er w' (⟨S', Q', hr, rfl, y, hys, hyQ, hP⟩ | ⟨hr, rfl, hP⟩)
    · exact ⟨0, S', L.set k y, rfl, hP, map_ptr_set hx hys, .inr (.inr ⟨e, Q', hr, rfl, by rw [map_Q_set, hyQ]⟩)⟩
    · exact ⟨6, S, L, rfl, hP, rfl, .inr (.inl ⟨e, hr, rfl, rfl, rfl⟩)⟩
  · refine (append_shape x.s p x.Q x.v x.own w (h.many.one k x hx).seq (some ⟨g, f, none⟩) xs.length cc (by rw [hW]; exact e)).mono ?_
    rintro er w' ⟨rfl, rfl⟩
    exact ⟨21, S, L, rfl, h, rfl, .inl ⟨e, rfl, rfl, rfl⟩⟩
theorem rappendAll {S' : List Pg} (h : Pair B w0 w p b S' L' r rb S c (L.map (·.Q)) R ps rs vs ks vx kx O wO) (D : DInv W N i S (L.map (·.Q))) (hi : i < 60) {k : Nat} {x : Ent} {y : REnt} (hx : L[k]? = some x) (hy : R[k]? = some y) (xs : List Int) (m : Nat) (hm : xs.length = m) (g f cc : Nat) (ha : Args w g f xs) (hg : ¬ RMF r rb S c R g) {ev : Int} (hres : AppRes W S L k x.Q xs ev S' L') :
    Calls Try.prog 19 #[.pointer (some ⟨y.s, 0, none⟩), .slice (some ⟨g, f, none⟩) m cc] w fun e w' => e = .returned (.int .i64 ev) ∧ ∃ c' R', Pair B w0 w' p b S' L' r rb S' c' (L'.map (·.Q)) R' ps rs vs ks vx kx O wO ∧ R'.map ptrR = R.map ptrR ∧ DInv W N (i + 1) S' (L'.map (·.Q)) := by
  have hQk : (L.map (·.Q))[k]? = some x.Q := by rw [List.getElem?_map, hx]; rfl
  have hW := (D.fam.one k x.Q hQk).wid
  have hl := D.len k x.Q hQk
  subst hm
  rcases hres with ⟨e, rfl, rfl, rfl⟩ | ⟨e, hn, rfl, rfl, rfl⟩ | ⟨e, Q', hs, rfl, hL⟩
  · refine (rappend_shape y.s r x.Q y.v y.own w (h.ref.one k y x.Q hy hQk).1 (some ⟨g, f, none⟩) xs.length cc (by rw [hW]; exact e)).mono ?_
    rintro er w' ⟨rfl, rfl⟩
    exact ⟨rfl, c, R, h, rfl, D.more hi⟩
  · rw [e]
    refine (h.rappend hy hQk D.small (fun ho => D.fam.last hQk ho) (by omega) W hW xs e g f cc ha hg).mono ?_
    rintro er w' (⟨S2, Q2, hr, -⟩ | ⟨-, rfl, hP⟩)
    · rw [hn] at hr; cases hr
    · exact ⟨rfl, c, R, hP, rfl, D.more hi⟩
  · rw [e]
    refine (h.rappend hy hQk D.small (fun ho => D.fam.last hQk ho) (by omega) W hW xs e g f cc ha hg).mono ?_
    rintro er w' (⟨S2, Q2, hr, rfl, c', z, hzs, hP⟩ | ⟨hr, -⟩)
    · rw [hs] at hr
      obtain ⟨rfl, rfl⟩ := Prod.mk.inj (Option.some.inj hr)
      rw [← hL] at hP
      exact ⟨rfl, c', R.set k z, hP, map_ptrR_set hy hzs, by rw [hL]; exact D.append hi hQk hs⟩
    · rw [hs] at hr; cases hr
/-- What a Keep leaves of the plain state. -/
def KeepRes (S : List Pg) (L : List Ent) (k : Nat) (Q : Sq) (m : Int) (S' : List Pg) (L' : List Ent) : Prop :=
  S' = (keepOf Q.per Q.len m S Q.pages Q.first).1 ∧ L'.map (·.Q) = (L.map (·.Q)).set k { Q with pages := (keepOf Q.per Q.len m S Q.pages Q.first).2.1, first := (keepOf Q.per Q.len m S Q.pages Q.first).2.2 }
theorem keepAll (h : Pair B w0 w p b S L r rb SR c Qs R ps rs vs ks vx kx O wO) (D : DInv W N i S (L.map (·.Q))) {k : Nat} {x : Ent} (hx : L[k]? = some x) (n m : Int) (hm : (0 ≤ n ∧ m = n) ∨ (n < 0 ∧ m = 0)) (hn : n ≤ 9223372036854775807) :
    Calls Try.prog 22 #[.pointer (some ⟨x.s, 0, none⟩), .int .i64 n] w fun e w' => e = .returned (.tuple #[]) ∧ ∃ S' L', Pair B w0 w' p b S' L' r rb SR c Qs R ps rs vs ks vx kx O wO ∧ L'.map ptrOf = L.map ptrOf ∧ KeepRes S L k x.Q m S' L' := by
  refine (h.keep hx D.small n m hm hn).mono ?_
  rintro er w' ⟨rfl, y, hys, hyQ, hP⟩
  exact ⟨rfl, _, L.set k y, hP, map_ptr_set hx hys, rfl, by rw [map_Q_set, hyQ]⟩
theorem rkeepAll {S' : List Pg} (h : Pair B w0 w p b S' L' r rb S c (L.map (·.Q)) R ps rs vs ks vx kx O wO) (D : DInv W N i S (L.map (·.Q))) (hi : i < 60) {k : Nat} {x : Ent} {y : REnt} (hx : L[k]? = some x) (hy : R[k]? = some y) (n m : Int) (hm : (0 ≤ n ∧ m = n) ∨ (n < 0 ∧ m = 0)) (hn : n ≤ 9223372036854775807) (hres : KeepRes S L k x.Q m S' L') :
    Calls Try.prog 23 #[.pointer (some ⟨y.s, 0, none⟩), .int .i64 n] w fun e w' => e = .returned (.tuple #[]) ∧ ∃ c' R', Pair B w0 w' p b S' L' r rb S' c' (L'.map (·.Q)) R' ps rs vs ks vx kx O wO ∧ R'.map ptrR = R.map ptrR ∧ DInv W N (i + 1) S' (L'.map (·.Q)) := by
  have hQk : (L.map (·.Q))[k]? = some x.Q := by rw [List.getElem?_map, hx]; rfl
  obtain ⟨rfl, hL⟩ := hres
  refine (h.rkeep hy hQk D.small n m hm hn).mono ?_
  rintro er w' ⟨rfl, c', z, hzs, hP⟩
  rw [← hL] at hP
  exact ⟨rfl, c', R.set k z, hP, map_ptrR_set hy hzs, by rw [hL]; exact D.keep hi hQk m (by omega)⟩
def RelRes (S : List Pg) (L : List Ent) (k : Nat) (Q : Sq) (S' : List Pg) (L' : List Ent) : Prop :=
  S' = dropAll S Q.pages ∧ L'.map (·.Q) = (L.map (·.Q)).set k { Q with pages := [], first := Q.len }
theorem releaseAll (h : Pair B w0 w p b S L r rb SR c Qs R ps rs vs ks vx kx O wO) (D : DInv W N i S (L.map (·.Q))) {k : Nat} {x : Ent} (hx : L[k]? = some x) :
    Calls Try.prog 24 #[.pointer (some ⟨x.s, 0, none⟩)] w fun e w' => e = .returned (.tuple #[]) ∧ ∃ S' L', Pair B w0 w' p b S' L' r rb SR c Qs R ps rs vs ks vx kx O wO ∧ L'.map ptrOf = L.map ptrOf ∧ RelRes S L k x.Q S' L' := by
  refine (h.release hx D.small).mono ?_
  rintro er w' ⟨rfl, y, hys, hyQ, hP⟩
  exact ⟨rfl, _, L.set k y, hP, map_ptr_set hx hys, rfl, by rw [map_Q_set, hyQ]⟩
theorem rreleaseAll {S' : List Pg} (h : Pair B w0 w p b S' L' r rb S c (L.map (·.Q)) R ps rs vs ks vx kx O wO) (D : DInv W N i S (L.map (·.Q))) (hi : i < 60) {k : Nat} {x : Ent} {y : REnt} (hx : L[k]? = some x) (hy : R[k]? = some y) (hres : RelRes S L k x.Q S' L') :
    Calls Try.prog 25 #[.pointer (some ⟨y.s, 0, none⟩)] w fun e w' => e = .returned (.tuple #[]) ∧ ∃ c' R', Pair B w0 w' p b S' L' r rb S' c' (L'.map (·.Q)) R' ps rs vs ks vx kx O wO ∧ R'.map ptrR = R.map ptrR ∧ DInv W N (i + 1) S' (L'.map (·.Q)) := by
  have hQk : (L.map (·.Q))[k]? = some x.Q := by rw [List.getElem?_map, hx]; rfl
  obtain ⟨rfl, hL⟩ := hres
  refine (h.rrelease hy hQk D.small).mono ?_
  rintro er w' ⟨rfl, c', z, hzs, hP⟩
  rw [← hL] at hP
  exact ⟨rfl, c', R.set k z, hP, map_ptrR_set hy hzs, by rw [hL]; exact D.release hi hQk⟩
theorem forkAll (h : Pair B w0 w p b S L r rb SR c Qs R ps rs vs ks vx kx O wO) (D : DInv W N i S (L.map (·.Q))) {k : Nat} {x : Ent} (hx : L[k]? = some x) :
    Calls Try.prog 20 #[.pointer (some ⟨x.s, 0, none⟩)] w fun e w' => ∃ y, e = .returned (.pointer (some ⟨y.s, 0, none⟩)) ∧ y.Q = x.Q ∧ Pair B w0 w' p b (shareAll S x.Q.pages) (L ++ [y]) r rb SR c Qs R ps rs vs ks vx kx O wO := h.fork hx D.most
theorem rforkAll {z : Ent} (h : Pair B w0 w p b (shareAll S z.Q.pages) (L ++ [z]) r rb S c (L.map (·.Q)) R ps rs vs ks vx kx O wO) (D : DInv W N i S (L.map (·.Q))) (hi : i < 60) (h6 : L.length < 6) {k : Nat} {x : Ent} {y : REnt} (hx : L[k]? = some x) (hy : R[k]? = some y) (hz : z.Q = x.Q) :
    Calls Try.prog 21 #[.pointer (some ⟨y.s, 0, none⟩)] w fun e w' => ∃ y', e = .returned (.pointer (some ⟨y'.s, 0, none⟩)) ∧ ∃ c', Pair B w0 w' p b (shareAll S z.Q.pages) (L ++ [z]) r rb (shareAll S z.Q.pages) c' ((L ++ [z]).map (·.Q)) (R ++ [y']) ps rs vs ks vx kx O wO ∧ DInv W N (i + 1) (shareAll S z.Q.pages) ((L ++ [z]).map (·.Q)) := by
  have hQk : (L.map (·.Q))[k]? = some x.Q := by rw [List.getElem?_map, hx]; rfl
  have e : (L ++ [z]).map (·.Q) = L.map (·.Q) ++ [x.Q] := by rw [List.map_append, List.map_singleton, hz]
  rw [e]
  rw [hz] at h ⊢
  refine (h.rfork hy hQk D.most).mono ?_
  rintro er w' ⟨c', y', rfl, hP⟩
  exact ⟨y', rfl, c', hP, D.fork hi hQk (by rw [List.length_map]; exact h6)⟩
end Pair
end Go.Proofs.Ytfimadeokdlpnaa.kv
