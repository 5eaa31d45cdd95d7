/- Several of the reference's sequences on one pool. Both sides in one world, and the law's own slices beside them. -/
import Derived.Test.YtfimadeokdlpnaaWh
import Derived.Test.YtfimadeokdlpnaaWl
namespace Go.Proofs.Ytfimadeokdlpnaa.kv
open Go.ChangeShapes Go.WideShapes Go.ChangeAt Go.RowKit K
set_option linter.unusedVariables false
set_option linter.unusedSimpArgs false
structure REnt where
  s : Nat
  v : Value
  own : Option Nat
/-- Their blocks, with the pool's. -/
def RMF (r rb : Nat) (S : List Pg) (c : Nat → Nat) (L : List REnt) (k : Nat) : Prop := RF r rb S c k ∨ ∃ (i : Nat) (x : REnt), L[i]? = some x ∧ (k = x.s ∨ x.own = some k)
structure RMany (w : World) (r rb : Nat) (S : List Pg) (c : Nat → Nat) (Qs : List Sq) (L : List REnt) : Prop where
  pool : RP w r rb S c
  len : L.length = Qs.length
  one : ∀ (i : Nat) (x : REnt) (Q : Sq), L[i]? = some x → Qs[i]? = some Q → RQ w x.s r Q x.v x.own ∧ RApart r rb S c x.s x.own
  two : ∀ (i j : Nat) (x y : REnt), i ≠ j → L[i]? = some x → L[j]? = some y → x.s ≠ y.s ∧ x.own ≠ some y.s ∧ ∀ k, x.own = some k → y.own ≠ some k
namespace RMany
variable {w w' : World} {r rb : Nat} {S S' : List Pg} {c : Nat → Nat} {Qs : List Sq} {L : List REnt} {G : Nat → Prop}
theorem ex (h : RMany w r rb S c Qs L) {i : Nat} {x : REnt} (hx : L[i]? = some x) : ∃ Q, Qs[i]? = some Q := by
  have := (List.getElem?_eq_some_iff.1 hx).1
  exact ⟨_, List.getElem?_eq_getElem (by rw [← h.len]; exact this)⟩
theorem lt (h : RMany w r rb S c Qs L) : ∀ k, RMF r rb S c L k → k < w.heap.size := by
  rintro k (e | ⟨i, x, hx, e⟩)
  · exact h.pool.lt k e
  · obtain ⟨Q, hQ⟩ := h.ex hx
    have hs := (h.one i x Q hx hQ).1
    rcases e with e | e
    · rw [e]; exact hs.head.lt
    · exact hs.row.lt k e
theorem chg (h : RMany w r rb S c Qs L) (hc : Chg G w w') (hG : ∀ k, RMF r rb S c L k → ¬ G k) : RMany w' r rb S c Qs L :=
  ⟨h.pool.chg hc (fun k hk => hG k (.inl hk)), h.len, fun i x Q hx hQ => ⟨(h.one i x Q hx hQ).1.chg hc (hG _ (.inr ⟨i, x, hx, .inl rfl⟩)) (fun k hk => hG k (.inr ⟨i, x, hx, .inr hk⟩)), (h.one i x Q hx hQ).2⟩, h.two⟩
theorem below (h : RMany w r rb S c Qs L) (hb : Below w.heap.size w w') : RMany w' r rb S c Qs L := h.chg (G := fun _ => False) (Chg.of_below hb rfl) (fun _ _ => id)
theorem drewN (h : RMany w r rb S c Qs L) (n : Nat) : RMany (w.drewN n) r rb S c Qs L := h.below ⟨rfl, rfl, rfl, Nat.le_refl _, fun _ _ => rfl⟩
/-- Behind a call on one of them. -/
theorem step (h : RMany w r rb S c Qs L) {i : Nat} {x : REnt} {Q Q' : Sq} (hx : L[i]? = some x) (hQ : Qs[i]? = some Q) {v : Value} {e : Ending} (hp : QPost r rb S c x.s x.own S' Q' w v e w') :
    ∃ c' y, RMany w' r rb S' c' (Qs.set i Q') (L.set i y) ∧ y.s = x.s ∧ Chg (RMF r rb S c L) w w' ∧ ∀ k, RMF r rb S' c' (L.set i y) k → RMF r rb S c L k ∨ w.heap.size ≤ k := by
  obtain ⟨c', v', own', h1, h2, h3, h4, h5⟩ := hp.ex
  have hil := (List.getElem?_eq_some_iff.1 hx).1
  have hQl := (List.getElem?_eq_some_iff.1 hQ).1
  have hX := h.one i x Q hx hQ
  have get : ∀ j, (L.set i ⟨x.s, v', own'⟩)[j]? = if j = i then some ⟨x.s, v', own'⟩ else L[j]? := fun j => by
    rw [List.getElem?_set]
    by_cases e : i = j
    · rw [if_pos e, if_pos hil, if_pos e.symm]
    · rw [if_neg e, if_neg (fun h => e h.symm)]
  have getQ : ∀ j, (Qs.set i Q')[j]? = if j = i then some Q' else Qs[j]? := fun j => by
    rw [List.getElem?_set]
    by_cases e : i = j
    · rw [if_pos e, if_pos hQl, if_pos e.symm]
    · rw [if_neg e, if_neg (fun h => e h.symm)]
  have hlts : ∀ (j : Nat) (y : REnt), L[j]? = some y → y.s < w.heap.size := fun j y hy => h.lt _ (.inr ⟨j, y, hy, .inl rfl⟩)
  have hlto : ∀ (j : Nat) (y : REnt) (k : Nat), L[j]? = some y → y.own = some k → k < w.heap.size := fun j y k hy hk => h.lt _ (.inr ⟨j, y, hy, .inr hk⟩)
  refine ⟨c', ⟨x.s, v', own'⟩, ⟨h1, by rw [List.length_set, List.length_set, h.len], fun j y P hy hP => ?_, fun j1 j2 y1 y2 hne hy1 hy2 => ?_⟩, rfl, hp.chg.mono (fun k hk => ?_), fun k hk => ?_⟩
  · rw [get] at hy
    rw [getQ] at hP
    by_cases e : j = i
    · rw [if_pos e] at hy hP
      cases hy; cases hP
      exact ⟨h2, h3⟩
    · rw [if_neg e] at hy hP
      have hY := h.one j y P hy hP
      have t1 := h.two j i y x e hy hx
      have t2 := h.two i j x y (Ne.symm e) hx hy
      refine ⟨hY.1.chg hp.chg ?_ (fun k hk => ?_), ⟨fun hf => ?_, fun k hk hf => ?_⟩⟩
      · rintro (f | f | f)
        · exact hY.2.s f
        · exact t1.1 f
        · exact t2.2.1 f
      · rintro (f | f | f)
        · exact hY.2.o k hk f
        · exact t1.2.1 (by rw [hk, f])
        · exact t2.2.2 k f hk
      · rcases h4 _ hf with f | f
        · exact hY.2.s f
        · have := hlts j y hy; omega
      · rcases h4 _ hf with f | f
        · exact hY.2.o k hk f
        · have := hlto j y k hy hk; omega
  · rw [get] at hy1 hy2
    by_cases e1 : j1 = i
    · rw [if_pos e1] at hy1
      rw [if_neg (fun e => hne (e1.trans e.symm))] at hy2
      cases hy1
      have t := h.two i j2 x y2 (fun e => hne (e1.trans e)) hx hy2
      refine ⟨t.1, fun e => ?_, fun k e e' => ?_⟩
      · rcases h5 _ e with f | f
        · exact t.2.1 f
        · have := hlts j2 y2 hy2; omega
      · rcases h5 _ e with f | f
        · exact t.2.2 k f e'
        · have := hlto j2 y2 k hy2 e'; omega
    · rw [if_neg e1] at hy1
      by_cases e2 : j2 = i
      · rw [if_pos e2] at hy2
        cases hy2
        have t := h.two j1 i y1 x e1 hy1 hx
        refine ⟨t.1, t.2.1, fun k e e' => ?_⟩
        rcases h5 _ e' with f | f
        · exact t.2.2 k e f
        · have := hlto j1 y1 k hy1 e; omega
      · rw [if_neg e2] at hy2
        exact h.two j1 j2 y1 y2 hne hy1 hy2
  · rcases hk with f | f | f
    · exact .inl f
    · exact .inr ⟨i, x, hx, .inl f⟩
    · exact .inr ⟨i, x, hx, .inr f⟩
  · rcases hk with f | ⟨j, y, hy, f⟩
    · exact (h4 k f).elim (fun f => .inl (.inl f)) .inr
    · rw [get] at hy
      by_cases e : j = i
      · rw [if_pos e] at hy
        cases hy
        rcases f with f | f
        · exact .inl (.inr ⟨i, x, hx, .inl f⟩)
        · exact (h5 k f).elim (fun f => .inl (.inr ⟨i, x, hx, .inr f⟩)) .inr
      · rw [if_neg e] at hy
        exact .inl (.inr ⟨j, y, hy, f⟩)
/-- Behind a fork of one of them. -/
theorem fork (h : RMany w r rb S c Qs L) {i : Nat} {x : REnt} {Q : Sq} (hx : L[i]? = some x) (hQ : Qs[i]? = some Q) {e : Ending} {f : Nat} (hp : FQPost r rb S c x.s S' Q x.v x.own w e w' f) :
    ∃ c' y, RMany w' r rb S' c' (Qs ++ [Q]) (L ++ [y]) ∧ y.s = f ∧ Chg (RMF r rb S c L) w w' ∧ ∀ k, RMF r rb S' c' (L ++ [y]) k → RMF r rb S c L k ∨ w.heap.size ≤ k := by
  obtain ⟨c', v', g, hA, h1, h2, h3, h4⟩ := hp.ex
  have hlt := hp.lt
  have hlts : ∀ (j : Nat) (y : REnt), L[j]? = some y → y.s < w.heap.size := fun j y hy => h.lt _ (.inr ⟨j, y, hy, .inl rfl⟩)
  have hlto : ∀ (j : Nat) (y : REnt) (k : Nat), L[j]? = some y → y.own = some k → k < w.heap.size := fun j y k hy hk => h.lt _ (.inr ⟨j, y, hy, .inr hk⟩)
  have get : ∀ (j : Nat) (y : REnt), (L ++ [(⟨f, v', some g⟩ : REnt)])[j]? = some y → (L[j]? = some y ∧ j < L.length) ∨ (j = L.length ∧ y = ⟨f, v', some g⟩) := fun j y hy => by
    rw [List.getElem?_append] at hy
    split at hy
    next e => exact .inl ⟨hy, e⟩
    next e =>
      rw [List.getElem?_singleton] at hy
      split at hy
      next e2 => cases hy; exact .inr ⟨by omega, rfl⟩
      · cases hy
  refine ⟨c', ⟨f, v', some g⟩, ⟨hA.pool, by simp [h.len], fun j y P hy hP => ?_, fun j1 j2 y1 y2 hne hy1 hy2 => ?_⟩, rfl, hA.chg.mono (fun k hk => .inl hk), fun k hk => ?_⟩
  · rcases get j y hy with ⟨hy', hj⟩ | ⟨hj, rfl⟩
    · rw [List.getElem?_append_left (by rw [← h.len]; exact hj)] at hP
      have hY := h.one j y P hy' hP
      exact ⟨hY.1.chg hA.chg hY.2.s hY.2.o, hA.apart hY.1 hY.2⟩
    · rw [hj, List.getElem?_append_right (by rw [h.len]; exact Nat.le_refl _), h.len, Nat.sub_self] at hP
      cases hP
      exact ⟨h2, h3⟩
  · rcases get j1 y1 hy1 with ⟨hy1', hj1⟩ | ⟨hj1, rfl⟩
    · rcases get j2 y2 hy2 with ⟨hy2', hj2⟩ | ⟨hj2, rfl⟩
      · exact h.two j1 j2 y1 y2 hne hy1' hy2'
      · have a1 := hlts j1 y1 hy1'
        refine ⟨by show y1.s ≠ f; omega, fun e => ?_, fun k e e' => ?_⟩
        · have := hlto j1 y1 f hy1' e; omega
        · have := hlto j1 y1 k hy1' e
          have := Option.some.inj e'; omega
    · rcases get j2 y2 hy2 with ⟨hy2', hj2⟩ | ⟨hj2, rfl⟩
      · have a1 := hlts j2 y2 hy2'
        refine ⟨by show f ≠ y2.s; omega, fun e => ?_, fun k e e' => ?_⟩
        · have := Option.some.inj e; omega
        · have := hlto j2 y2 k hy2' e'
          have := Option.some.inj e; omega
      · omega
  · rcases hk with e | ⟨j, y, hy, e⟩
    · exact (hA.foot k e).elim (fun e => .inl (.inl e)) .inr
    · rcases get j y hy with ⟨hy', hj⟩ | ⟨hj, rfl⟩
      · exact .inl (.inr ⟨j, y, hy', e⟩)
      · rcases e with e | e
        · have e : k = f := e
          exact .inr (by omega)
        · have := Option.some.inj e
          exact .inr (by omega)
end RMany
end Go.Proofs.Ytfimadeokdlpnaa.kv
namespace Go.Proofs.Ytfimadeokdlpnaa.kv
open Go.ChangeShapes Go.WideShapes Go.ChangeAt Go.RowKit K
set_option linter.unusedVariables false
set_option linter.unusedSimpArgs false
/-- The blocks of the program's pool and sequences. -/
def PMF (p b : Nat) (L : List Ent) (k : Nat) : Prop := k = p ∨ k = b ∨ ∃ (i : Nat) (x : Ent), L[i]? = some x ∧ (k = x.s ∨ x.own = some k)
theorem PMF.foot {p b : Nat} {L : List Ent} {i : Nat} {x : Ent} (hx : L[i]? = some x) : ∀ k, Foot p b x.s x.own k → PMF p b L k := by
  rintro k (e | e | e | e)
  · exact .inl e
  · exact .inr (.inl e)
  · exact .inr (.inr ⟨i, x, hx, .inl e⟩)
  · exact .inr (.inr ⟨i, x, hx, .inr e⟩)
theorem PMF.set {w : World} {p b : Nat} {L : List Ent} {i : Nat} {x y : Ent} (hx : L[i]? = some x) (hs : y.s = x.s) (ho : ∀ k, y.own = some k → x.own = some k ∨ w.heap.size ≤ k) : ∀ k, PMF p b (L.set i y) k → PMF p b L k ∨ w.heap.size ≤ k := by
  rintro k (e | e | ⟨j, z, hz, e⟩)
  · exact .inl (.inl e)
  · exact .inl (.inr (.inl e))
  · rw [List.getElem?_set] at hz
    split at hz
    · split at hz
      · cases hz
        rcases e with e | e
        · exact .inl (.inr (.inr ⟨i, x, hx, .inl (e.trans hs)⟩))
        · exact (ho k e).elim (fun e => .inl (.inr (.inr ⟨i, x, hx, .inr e⟩))) .inr
      · cases hz
    · exact .inl (.inr (.inr ⟨j, z, hz, e⟩))
theorem PMF.app {w : World} {p b : Nat} {L : List Ent} {y : Ent} (hs : w.heap.size ≤ y.s) (ho : ∀ k, y.own = some k → w.heap.size ≤ k) : ∀ k, PMF p b (L ++ [y]) k → PMF p b L k ∨ w.heap.size ≤ k := by
  rintro k (e | e | ⟨j, z, hz, e⟩)
  · exact .inl (.inl e)
  · exact .inl (.inr (.inl e))
  · rw [List.getElem?_append] at hz
    split at hz
    · exact .inl (.inr (.inr ⟨j, z, hz, e⟩))
    · rw [List.getElem?_singleton] at hz
      split at hz
      · cases hz
        rcases e with e | e
        · exact .inr (by omega)
        · exact .inr (ho k e)
      · cases hz
theorem Many.lts {B : Nat} {w : World} {p b : Nat} {S : List Pg} {L : List Ent} (h : Many B w p b S L) : ∀ k, PMF p b L k → k < w.heap.size := by
  rintro k (e | e | ⟨i, x, hx, e | e⟩)
  · rw [e]; exact h.pool.head.lt
  · rw [e]; exact h.pool.lt
  · rw [e]; exact (h.one i x hx).seq.head.lt
  · exact (h.one i x hx).seq.row.lt k e
theorem Many.ge {B : Nat} {w : World} {p b : Nat} {S : List Pg} {L : List Ent} (h : Many B w p b S L) : ∀ k, PMF p b L k → B ≤ k := by
  rintro k (e | e | ⟨i, x, hx, e | e⟩)
  · rw [e]; exact h.pB
  · rw [e]; exact h.bB
  · rw [e]; exact (h.one i x hx).s
  · exact (h.one i x hx).o k e
theorem Many.chgP {B : Nat} {w w' : World} {p b : Nat} {S : List Pg} {L : List Ent} {F : Nat → Prop} (h : Many B w p b S L) (hc : Chg F w w') (hF : ∀ k, PMF p b L k → ¬ F k) : Many B w' p b S L :=
  ⟨h.pool.chg hc (hF _ (.inl rfl)) (hF _ (.inr (.inl rfl))), h.pB, h.bB, fun i x hx => ⟨(h.one i x hx).seq.chg hc (hF _ (.inr (.inr ⟨i, x, hx, .inl rfl⟩))) (fun k hk => hF _ (.inr (.inr ⟨i, x, hx, .inr hk⟩))), (h.one i x hx).apart, (h.one i x hx).s, (h.one i x hx).o⟩, h.two⟩
/-- A reference's sequence's pointer. -/
def ptrR (x : REnt) : Value := .pointer (some ⟨x.s, 0, none⟩)
/-- Both sides, and the law's slices. -/
structure Pair (B : Nat) (w0 w : World) (p b : Nat) (SL : List Pg) (L : List Ent) (r rb : Nat) (SR : List Pg) (c : Nat → Nat) (Qs : List Sq) (R : List REnt) (ps rs : List Value) (vs : Value) (ks : Nat) (vx : Value) (kx : Nat) (O : Nat → Prop) (wO : World) : Prop where
  many : Many B w p b SL L
  ref : RMany w r rb SR c Qs R
  dis : ∀ k, PMF p b L k → ¬ RMF r rb SR c R k
  low : ∀ k, RMF r rb SR c R k → B ≤ k
  ss : Row w 28 1 vs (some ks) ps.length ps
  xs : Row w 43 1 vx (some kx) rs.length rs
  sP : ¬ PMF p b L ks ∧ ¬ PMF p b L kx
  sR : ¬ RMF r rb SR c R ks ∧ ¬ RMF r rb SR c R kx
  kB : B ≤ ks ∧ B ≤ kx
  ne : ks ≠ kx
  bel : Below B w0 w
  own : ∀ k, O k → k < w.heap.size ∧ w.heap[k]? = wO.heap[k]? ∧ ¬ PMF p b L k ∧ ¬ RMF r rb SR c R k ∧ k ≠ ks ∧ k ≠ kx
namespace Pair
variable {B : Nat} {w0 w w' : World} {p b : Nat} {SL SL' : List Pg} {L L' : List Ent} {r rb : Nat} {SR SR' : List Pg} {c c' : Nat → Nat} {Qs Qs' : List Sq} {R R' : List REnt} {ps rs : List Value} {vs : Value} {ks : Nat} {vx : Value} {kx : Nat} {O : Nat → Prop} {wO : World}
theorem below (h : Pair B w0 w p b SL L r rb SR c Qs R ps rs vs ks vx kx O wO) (hb : Below w.heap.size w w') : Pair B w0 w' p b SL L r rb SR c Qs R ps rs vs ks vx kx O wO := by
  have hc : Chg (fun _ => False) w w' := Chg.of_below hb rfl
  exact ⟨h.many.below hb, h.ref.below hb, h.dis, h.low, h.ss.chg hc (fun _ _ => id), h.xs.chg hc (fun _ _ => id), h.sP, h.sR, h.kB, h.ne, bstep h.bel hb h.many.size, fun k hk => by
    obtain ⟨a, e, o⟩ := h.own k hk
    exact ⟨Nat.lt_of_lt_of_le a hb.size, (hb.block k a).trans e, o⟩⟩
theorem drewN (h : Pair B w0 w p b SL L r rb SR c Qs R ps rs vs ks vx kx O wO) (n : Nat) : Pair B w0 (w.drewN n) p b SL L r rb SR c Qs R ps rs vs ks vx kx O wO := h.below ⟨rfl, rfl, rfl, Nat.le_refl _, fun _ _ => rfl⟩
/-- Behind a call on the program's side. -/
theorem left (h : Pair B w0 w p b SL L r rb SR c Qs R ps rs vs ks vx kx O wO) (hM : Many B w' p b SL' L') (hb : Below B w w') (hc : Chg (PMF p b L) w w') (hg : ∀ k, PMF p b L' k → PMF p b L k ∨ w.heap.size ≤ k) : Pair B w0 w' p b SL' L' r rb SR c Qs R ps rs vs ks vx kx O wO := by
  have hs := h.ss.lt ks rfl
  have hx := h.xs.lt kx rfl
  have hrl := h.ref.lt
  exact ⟨hM, h.ref.chg hc (fun k hk e => h.dis k e hk), fun k hk e => (hg k hk).elim (fun f => h.dis k f e) (fun f => by have := hrl k e; omega), h.low, h.ss.chg hc (fun k hk => by cases hk; exact h.sP.1), h.xs.chg hc (fun k hk => by cases hk; exact h.sP.2),
    ⟨fun e => (hg _ e).elim h.sP.1 (fun f => by omega), fun e => (hg _ e).elim h.sP.2 (fun f => by omega)⟩, h.sR, h.kB, h.ne, h.bel.trans hb, fun k hk => by
      obtain ⟨a, e, o1, o2⟩ := h.own k hk
      exact ⟨Nat.lt_of_lt_of_le a hc.size, (hc.block k a o1).trans e, fun f => (hg _ f).elim o1 (fun f => by omega), o2⟩⟩
/-- Behind a call on the reference's side. -/
theorem right (h : Pair B w0 w p b SL L r rb SR c Qs R ps rs vs ks vx kx O wO) (hM : RMany w' r rb SR' c' Qs' R') (hc : Chg (RMF r rb SR c R) w w') (hg : ∀ k, RMF r rb SR' c' R' k → RMF r rb SR c R k ∨ w.heap.size ≤ k) : Pair B w0 w' p b SL L r rb SR' c' Qs' R' ps rs vs ks vx kx O wO := by
  have hs := h.ss.lt ks rfl
  have hx := h.xs.lt kx rfl
  have hpl := h.many.lts
  have hB := h.many.size
  exact ⟨h.many.chgP hc (fun k hk e => h.dis k hk e), hM, fun k hk e => (hg k e).elim (fun f => h.dis k hk f) (fun f => by have := hpl k hk; omega), fun k hk => (hg k hk).elim (fun f => h.low k f) (fun f => by omega), h.ss.chg hc (fun k hk => by cases hk; exact h.sR.1), h.xs.chg hc (fun k hk => by cases hk; exact h.sR.2),
    h.sP, ⟨fun e => (hg _ e).elim h.sR.1 (fun f => by omega), fun e => (hg _ e).elim h.sR.2 (fun f => by omega)⟩, h.kB, h.ne, h.bel.trans (hc.below h.low hB), fun k hk => by
      obtain ⟨a, e, o1, o2, o3⟩ := h.own k hk
      exact ⟨Nat.lt_of_lt_of_le a hc.size, (hc.block k a o2).trans e, o1, fun f => (hg _ f).elim o2 (fun f => by omega), o3⟩⟩
/-- Other blocks of the law's own. -/
theorem fresh {O' : Nat → Prop} (h : Pair B w0 w p b SL L r rb SR c Qs R ps rs vs ks vx kx O wO) (hb : Below w.heap.size w w') (hO : ∀ k, O' k → O k ∨ (w.heap.size ≤ k ∧ k < w'.heap.size) ∨ k < B) : Pair B w0 w' p b SL L r rb SR c Qs R ps rs vs ks vx kx O' w' := by
  have h2 := h.below hb
  have hs := h.ss.lt ks rfl
  have hx := h.xs.lt kx rfl
  have hB := h2.many.size
  have hk := h.kB
  refine ⟨h2.many, h2.ref, h2.dis, h2.low, h2.ss, h2.xs, h2.sP, h2.sR, h2.kB, h2.ne, h2.bel, fun k hk => ?_⟩
  rcases hO k hk with e | ⟨e1, e2⟩ | e
  · obtain ⟨a, e, o⟩ := h2.own k e
    exact ⟨a, rfl, o⟩
  · exact ⟨e2, rfl, fun f => by have := h.many.lts _ f; omega, fun f => by have := h.ref.lt _ f; omega, by omega, by omega⟩
  · exact ⟨by omega, rfl, fun f => by have := h.many.ge _ f; omega, fun f => by have := h.low _ f; omega, by omega, by omega⟩
theorem sub {O' : Nat → Prop} (h : Pair B w0 w p b SL L r rb SR c Qs R ps rs vs ks vx kx O wO) (hO : ∀ k, O' k → O k) : Pair B w0 w p b SL L r rb SR c Qs R ps rs vs ks vx kx O' wO :=
  ⟨h.many, h.ref, h.dis, h.low, h.ss, h.xs, h.sP, h.sR, h.kB, h.ne, h.bel, fun k hk => h.own k (hO k hk)⟩
theorem ocell (h : Pair B w0 w p b SL L r rb SR c Qs R ps rs vs ks vx kx O wO) {k j : Nat} (hk : O k) : w.cell? ⟨k, j, none⟩ = wO.cell? ⟨k, j, none⟩ := World.cell?_of_block (h.own k hk).2.1
theorem args (h : Pair B w0 w p b SL L r rb SR c Qs R ps rs vs ks vx kx O wO) {g f : Nat} {xs : List Int} (hg : O g) (ha : Args wO g f xs) : Args w g f xs :=
  ⟨(h.own g hg).1, fun k x hx => (h.ocell hg).trans (ha.cell k x hx)⟩
end Pair
end Go.Proofs.Ytfimadeokdlpnaa.kv
