/- Several sequences on one pool, and what lies beside them. -/
import Derived.Test.YtfimadeokdlpnaaVfd
import Derived.Test.YtfimadeokdlpnaaWy
namespace Go.Proofs.Ytfimadeokdlpnaa.kv
open Go.ChangeShapes Go.WideShapes Go.ChangeAt Go.RowKit K
set_option linter.unusedVariables false
set_option linter.unusedSimpArgs false
namespace Many
variable {B : Nat} {w w' : World} {p b : Nat} {S S' : List Pg} {L : List Ent}
/-- A call on one of them. -/
theorem step2 (h : Many B w p b S L) {i : Nat} {x : Ent} (hx : L[i]? = some x) {Q' : Sq} {r : Value} {e : Ending} (hk : KPost p b x.s x.own S' Q' w r e w') (hB : B ≤ w.heap.size) :
    ∃ y, Many B w' p b S' (L.set i y) ∧ y.s = x.s ∧ y.Q = Q' ∧ Below B w w' ∧ Chg (Foot p b x.s x.own) w w' ∧ ∀ k, y.own = some k → x.own = some k ∨ w.heap.size ≤ k := by
  obtain ⟨-, hp, ⟨v', own', hs, ho⟩, hc⟩ := hk
  have hX := h.one i x hx
  have hi := (List.getElem?_eq_some_iff.1 hx).1
  have hpl := h.pool.head.lt
  have hbl := h.pool.lt
  have hy : Good1 B w' p b ⟨x.s, Q', v', own'⟩ := ⟨hs, ⟨hX.apart.sp, hX.apart.sb, fun e => by
      rcases ho _ e with e | e
      · exact hX.apart.op e
      · omega, fun e => by
      rcases ho _ e with e | e
      · exact hX.apart.ob e
      · omega⟩, hX.s, fun k e => by
      rcases ho _ e with e | e
      · exact hX.o k e
      · omega⟩
  have hfar : ∀ (j : Nat) (z : Ent), j ≠ i → L[j]? = some z → Far ⟨x.s, Q', v', own'⟩ z ∧ Far z ⟨x.s, Q', v', own'⟩ := by
    intro j z hj hz
    have f1 := h.two i j x z (Ne.symm hj) hx hz
    have f2 := h.two j i z x hj hz hx
    have hz1 := (h.one j z hz).seq
    have hz2 := hz1.head.lt
    refine ⟨⟨f1.ss, fun e => ?_, fun k e e2 => ?_⟩, ⟨f2.ss, f2.os, fun k e e2 => ?_⟩⟩
    · rcases ho _ e with e | e
      · exact f1.os e
      · omega
    · rcases ho _ e with e | e
      · exact f1.oo k e e2
      · have := hz1.row.lt k e2; omega
    · rcases ho _ e2 with e3 | e3
      · exact f2.oo k e e3
      · have := hz1.row.lt k e; omega
  refine ⟨⟨x.s, Q', v', own'⟩, ⟨hp, h.pB, h.bB, fun j z hz => ?_, fun j k z u hjk hz hu => ?_⟩, rfl, rfl, ?_, hc, ho⟩
  · rw [List.getElem?_set] at hz
    split at hz
    next e =>
      subst e
      cases hz; exact hy
    next e =>
      have hZ := h.one j z hz
      have f1 := h.two i j x z e hx hz
      have f2 := h.two j i z x (Ne.symm e) hz hx
      refine ⟨hZ.seq.chg hc ?_ (fun k hk => ?_), hZ.apart, hZ.s, hZ.o⟩
      · rintro (e | e | e | e)
        · exact hZ.apart.sp e
        · exact hZ.apart.sb e
        · exact f1.ss e.symm
        · exact f1.os e
      · rintro (e | e | e | e)
        · exact hZ.apart.op (by rw [hk, e])
        · exact hZ.apart.ob (by rw [hk, e])
        · exact f2.os (by rw [hk, e])
        · exact f1.oo k e hk
  · rw [List.getElem?_set] at hz hu
    split at hz
    next e =>
      subst e
      cases hz
      rw [if_neg hjk] at hu
      exact (hfar k u (Ne.symm hjk) hu).1
    next e =>
      split at hu
      next e2 =>
        subst e2
        cases hu
        exact (hfar j z hjk hz).2
      next e2 => exact h.two j k z u hjk hz hu
  · exact hc.below (B := B) (fun k e => by
      rcases e with e | e | e | e
      · rw [e]; exact h.pB
      · rw [e]; exact h.bB
      · rw [e]; exact hX.s
      · exact hX.o k e) hB
/-- A fork of one of them. -/
theorem fork2 (h : Many B w p b S L) {i : Nat} {x : Ent} (hx : L[i]? = some x) {e : Ending} {f : Nat} (hk : FPost p b x.s S' x.Q x.v x.own w e w' f) (hB : B ≤ w.heap.size) :
    ∃ y, Many B w' p b S' (L ++ [y]) ∧ y.s = f ∧ y.Q = x.Q ∧ Below B w w' ∧ Chg (fun k => k = p ∨ k = b) w w' ∧ w.heap.size ≤ f ∧ ∀ k, y.own = some k → w.heap.size ≤ k := by
  obtain ⟨-, hp, hs, ⟨v', g, hn, hg⟩, hc, hf⟩ := hk
  have hpl := h.pool.head.lt
  have hbl := h.pool.lt
  have hZ : ∀ (j : Nat) (z : Ent), L[j]? = some z → Good1 B w' p b z := fun j z hz => by
    have hZ := h.one j z hz
    exact ⟨hZ.seq.chg hc (fun e => e.elim hZ.apart.sp hZ.apart.sb) (fun k hk e => e.elim (fun e => hZ.apart.op (by rw [hk, e])) (fun e => hZ.apart.ob (by rw [hk, e]))), hZ.apart, hZ.s, hZ.o⟩
  have hy : Good1 B w' p b ⟨f, x.Q, v', some g⟩ := ⟨hn, ⟨by show f ≠ p; omega, by show f ≠ b; omega, fun e => by have := Option.some.inj e; omega, fun e => by have := Option.some.inj e; omega⟩, by show B ≤ f; omega, fun k e => by have := Option.some.inj e; omega⟩
  have hfar : ∀ (j : Nat) (z : Ent), L[j]? = some z → Far ⟨f, x.Q, v', some g⟩ z ∧ Far z ⟨f, x.Q, v', some g⟩ := by
    intro j z hz
    have hz1 := (h.one j z hz).seq
    have hz2 := hz1.head.lt
    refine ⟨⟨by show f ≠ z.s; omega, fun e => by have := Option.some.inj e; omega, fun k e e2 => ?_⟩, ⟨by show z.s ≠ f; omega, fun e => ?_, fun k e e2 => ?_⟩⟩
    · have := hz1.row.lt k e2; have := Option.some.inj e; omega
    · have : f < w.heap.size := hz1.row.lt f e; omega
    · have := hz1.row.lt k e; have := Option.some.inj e2; omega
  refine ⟨⟨f, x.Q, v', some g⟩, ⟨hp, h.pB, h.bB, fun j z hz => ?_, fun j k z u hjk hz hu => ?_⟩, rfl, rfl, hc.below (B := B) (fun k e => by
      rcases e with e | e
      · rw [e]; exact h.pB
      · rw [e]; exact h.bB) hB, hc, hf, fun k e => by have := Option.some.inj e; omega⟩
  · rw [List.getElem?_append] at hz
    split at hz
    · exact hZ j z hz
    · rw [List.getElem?_singleton] at hz
      split at hz
      · cases hz; exact hy
      · cases hz
  · rw [List.getElem?_append] at hz hu
    split at hz
    next hj =>
      split at hu
      next hk => exact h.two j k z u hjk hz hu
      next hk =>
        rw [List.getElem?_singleton] at hu
        split at hu
        · cases hu; exact (hfar j z hz).2
        · cases hu
    next hj =>
      rw [List.getElem?_singleton] at hz
      split at hz
      next hj0 =>
        cases hz
        split at hu
        next hk => exact (hfar k u hu).1
        next hk =>
          rw [List.getElem?_singleton] at hu
          split at hu
          next hk0 => omega
          next => cases hu
      next => cases hz
theorem append2_c (h : Many B w p b S L) {i : Nat} {x : Ent} (hx : L[i]? = some x) (hS : Small S) (hlen : x.Q.len < 1000) (W : Nat) (hW : x.Q.width = W) (xs : List Int) (hxl : xs.length = W)
    (rb ro c : Nat) (ha : Args w rb ro xs) (hF : ¬ Foot p b x.s x.own rb) :
    Calls Try.prog 11 #[.pointer (some ⟨x.s, 0, none⟩), .slice (some ⟨rb, ro, none⟩) W c] w fun e w' =>
      (∃ S' Q', appendOf S x.Q xs = some (S', Q') ∧ e = .returned (.int .i64 0) ∧ ∃ y, Many B w' p b S' (L.set i y) ∧ y.s = x.s ∧ y.Q = Q' ∧ Below B w w' ∧ Chg (Foot p b x.s x.own) w w' ∧ ∀ k, y.own = some k → x.own = some k ∨ w.heap.size ≤ k) ∨
      (appendOf S x.Q xs = none ∧ e = .returned (.int .i64 6) ∧ Below w.heap.size w w') := by
  subst hW
  cases hr : appendOf S x.Q xs with
  | none =>
    refine (append_none x.s p b S x.Q x.v x.own w (h.one i x hx).seq h.pool xs hr (some ⟨rb, ro, none⟩) c).mono ?_
    rintro e w' ⟨rfl, hb⟩
    exact .inr ⟨rfl, rfl, hb⟩
  | some r =>
    obtain ⟨S', Q'⟩ := r
    refine (append_some x.s p b S x.Q x.v x.own w (h.one i x hx).seq h.pool (h.one i x hx).apart hS hlen xs S' Q' hr rb ro c ha hxl hF).mono ?_
    intro e w' hk
    exact .inl ⟨S', Q', rfl, hk.ret, h.step2 hx hk h.size⟩
theorem release2_c (h : Many B w p b S L) {i : Nat} {x : Ent} (hx : L[i]? = some x) (hS : Small S) :
    Calls Try.prog 24 #[.pointer (some ⟨x.s, 0, none⟩)] w fun e w' => e = .returned (.tuple #[]) ∧ ∃ y, Many B w' p b (dropAll S x.Q.pages) (L.set i y) ∧ y.s = x.s ∧ y.Q = { x.Q with pages := [], first := x.Q.len } ∧ Below B w w' ∧ Chg (Foot p b x.s x.own) w w' ∧ ∀ k, y.own = some k → x.own = some k ∨ w.heap.size ≤ k := by
  refine (kv.release_c x.s p b S x.Q x.v x.own w (h.one i x hx).seq h.pool (h.one i x hx).apart hS).mono ?_
  intro e w' hk
  exact ⟨hk.ret, h.step2 hx hk h.size⟩
theorem keep2_c (h : Many B w p b S L) {i : Nat} {x : Ent} (hx : L[i]? = some x) (hS : Small S) (n m : Int) (hm : (0 ≤ n ∧ m = n) ∨ (n < 0 ∧ m = 0)) (hn : n ≤ 9223372036854775807) :
    Calls Try.prog 22 #[.pointer (some ⟨x.s, 0, none⟩), .int .i64 n] w fun e w' => e = .returned (.tuple #[]) ∧ ∃ y, Many B w' p b (keepOf x.Q.per x.Q.len m S x.Q.pages x.Q.first).1 (L.set i y) ∧ y.s = x.s ∧
      y.Q = { x.Q with pages := (keepOf x.Q.per x.Q.len m S x.Q.pages x.Q.first).2.1, first := (keepOf x.Q.per x.Q.len m S x.Q.pages x.Q.first).2.2 } ∧ Below B w w' ∧ Chg (Foot p b x.s x.own) w w' ∧ ∀ k, y.own = some k → x.own = some k ∨ w.heap.size ≤ k := by
  refine (kv.keep_c x.s p b S x.Q x.v x.own w (h.one i x hx).seq h.pool (h.one i x hx).apart hS n m hm hn).mono ?_
  intro e w' hk
  exact ⟨hk.ret, h.step2 hx hk h.size⟩
theorem fork2_c (h : Many B w p b S L) {i : Nat} {x : Ent} (hx : L[i]? = some x) (hS : Most 900000000 S) :
    Calls Try.prog 20 #[.pointer (some ⟨x.s, 0, none⟩)] w fun e w' => ∃ f, e = .returned (.pointer (some ⟨f, 0, none⟩)) ∧ ∃ y, Many B w' p b (shareAll S x.Q.pages) (L ++ [y]) ∧ y.s = f ∧ y.Q = x.Q ∧ Below B w w' ∧ Chg (fun k => k = p ∨ k = b) w w' ∧ w.heap.size ≤ f ∧ ∀ k, y.own = some k → w.heap.size ≤ k := by
  refine (kv.fork_c x.s p b S x.Q x.v x.own w (h.one i x hx).seq h.pool (h.one i x hx).apart hS).mono ?_
  rintro e w' ⟨f, hk⟩
  exact ⟨f, hk.ret, h.fork2 hx hk h.size⟩
end Many
/-- A block that no sequence and no pool uses. -/
structure Safe (w : World) (p b : Nat) (L : List Ent) (k : Nat) : Prop where
  lt : k < w.heap.size
  p : k ≠ p
  b : k ≠ b
  s : ∀ (i : Nat) (x : Ent), L[i]? = some x → k ≠ x.s
  o : ∀ (i : Nat) (x : Ent), L[i]? = some x → x.own ≠ some k
namespace Safe
variable {w w' : World} {p b k : Nat} {L : List Ent}
theorem grow (h : Safe w p b L k) (hs : w.heap.size ≤ w'.heap.size) : Safe w' p b L k := ⟨Nat.lt_of_lt_of_le h.lt hs, h.p, h.b, h.s, h.o⟩
theorem foot (h : Safe w p b L k) {i : Nat} {x : Ent} (hx : L[i]? = some x) : ¬ Foot p b x.s x.own k := by
  rintro (e | e | e | e)
  · exact h.p e
  · exact h.b e
  · exact h.s i x hx e
  · exact h.o i x hx e
theorem set (h : Safe w p b L k) {i : Nat} {x y : Ent} (hx : L[i]? = some x) (hs : y.s = x.s) (ho : ∀ k, y.own = some k → x.own = some k ∨ w.heap.size ≤ k) (hz : w.heap.size ≤ w'.heap.size) : Safe w' p b (L.set i y) k := by
  have hlt := h.lt
  refine ⟨Nat.lt_of_lt_of_le h.lt hz, h.p, h.b, fun j z hj => ?_, fun j z hj => ?_⟩
  · rw [List.getElem?_set] at hj
    split at hj
    · split at hj
      · cases hj; rw [hs]; exact h.s i x hx
      · cases hj
    · exact h.s j z hj
  · rw [List.getElem?_set] at hj
    split at hj
    · split at hj
      · cases hj
        intro e
        rcases ho k e with e | e
        · exact h.o i x hx e
        · omega
      · cases hj
    · exact h.o j z hj
theorem app (h : Safe w p b L k) {y : Ent} (hs : w.heap.size ≤ y.s) (ho : ∀ k, y.own = some k → w.heap.size ≤ k) (hz : w.heap.size ≤ w'.heap.size) : Safe w' p b (L ++ [y]) k := by
  have hlt := h.lt
  refine ⟨Nat.lt_of_lt_of_le h.lt hz, h.p, h.b, fun j z hj => ?_, fun j z hj => ?_⟩
  · rw [List.getElem?_append] at hj
    split at hj
    · exact h.s j z hj
    · rw [List.getElem?_singleton] at hj
      split at hj
      · cases hj; omega
      · cases hj
  · rw [List.getElem?_append] at hj
    split at hj
    · exact h.o j z hj
    · rw [List.getElem?_singleton] at hj
      split at hj
      · cases hj
        intro e
        have := ho k e; omega
      · cases hj
end Safe
theorem Many.safe {B : Nat} {w w' : World} {p b k : Nat} {S : List Pg} {L : List Ent} (h : Many B w p b S L) (hk : w.heap.size ≤ k) (hk2 : k < w'.heap.size) : Safe w' p b L k := by
  have h1 := h.pool.head.lt
  have h2 := h.pool.lt
  refine ⟨hk2, by omega, by omega, fun i x hx => ?_, fun i x hx e => ?_⟩
  · have := (h.one i x hx).seq.head.lt; omega
  · have := (h.one i x hx).seq.row.lt k e; omega
theorem Many.chg {B : Nat} {w w' : World} {p b : Nat} {S : List Pg} {L : List Ent} {F : Nat → Prop} (h : Many B w p b S L) (hc : Chg F w w') (hF : ∀ k, F k → Safe w p b L k) : Many B w' p b S L :=
  ⟨h.pool.chg hc (fun e => (hF _ e).p rfl) (fun e => (hF _ e).b rfl), h.pB, h.bB, fun i x hx => ⟨(h.one i x hx).seq.chg hc (fun e => (hF _ e).s i x hx rfl) (fun k hk e => (hF _ e).o i x hx hk), (h.one i x hx).apart, (h.one i x hx).s, (h.one i x hx).o⟩, h.two⟩
/-- A sequence's pointer. -/
def ptrOf (x : Ent) : Value := .pointer (some ⟨x.s, 0, none⟩)
def encL (l : List Nat) : List Value := l.map fun (n : Nat) => .int .i64 (n : Int)
/-- What the law keeps beside: the sequences' pointers, of each the rows' seeds. -/
structure Side (B : Nat) (w : World) (p b : Nat) (L : List Ent) (ps : List Value) (I : List (List Nat)) (vs : Value) (ks : Nat) (vi : Value) (ki : Nat) (rv : List (Value × Option Nat)) : Prop where
  ss : Row w 28 1 vs (some ks) ps.length ps
  ii : Row w 33 1 vi (some ki) I.length (rv.map (·.1))
  sS : Safe w p b L ks
  sI : Safe w p b L ki
  bS : B ≤ ks
  bI : B ≤ ki
  ne : ks ≠ ki
  rl : rv.length = I.length
  rows : ∀ (j : Nat) (l : List Nat) (r : Value × Option Nat), I[j]? = some l → rv[j]? = some r → Row w 2 1 r.1 r.2 l.length (encL l) ∧ ∀ k, r.2 = some k → Safe w p b L k ∧ k ≠ ks ∧ k ≠ ki
namespace Side
variable {B : Nat} {w w' : World} {p b : Nat} {L : List Ent} {ps : List Value} {I : List (List Nat)} {vs : Value} {ks : Nat} {vi : Value} {ki : Nat} {rv : List (Value × Option Nat)}
theorem below (h : Side B w p b L ps I vs ks vi ki rv) (hb : Below w.heap.size w w') : Side B w' p b L ps I vs ks vi ki rv := by
  have hc : Chg (fun _ => False) w w' := Chg.of_below hb rfl
  exact ⟨h.ss.chg hc (fun _ _ => id), h.ii.chg hc (fun _ _ => id), h.sS.grow hb.size, h.sI.grow hb.size, h.bS, h.bI, h.ne, h.rl, fun j l r h1 h2 => ⟨(h.rows j l r h1 h2).1.chg hc (fun _ _ => id), fun k hk => ⟨((h.rows j l r h1 h2).2 k hk).1.grow hb.size, ((h.rows j l r h1 h2).2 k hk).2⟩⟩⟩
theorem drewN (h : Side B w p b L ps I vs ks vi ki rv) (n : Nat) : Side B (w.drewN n) p b L ps I vs ks vi ki rv := h.below ⟨rfl, rfl, rfl, Nat.le_refl _, fun _ _ => rfl⟩
/-- Behind a call on one of the sequences. -/
theorem call (h : Side B w p b L ps I vs ks vi ki rv) {i : Nat} {x y : Ent} (hx : L[i]? = some x) (hs : y.s = x.s) (ho : ∀ k, y.own = some k → x.own = some k ∨ w.heap.size ≤ k) (hc : Chg (Foot p b x.s x.own) w w') : Side B w' p b (L.set i y) ps I vs ks vi ki rv := by
  have hz := hc.size
  refine ⟨h.ss.chg hc (fun k hk => by cases hk; exact h.sS.foot hx), h.ii.chg hc (fun k hk => by cases hk; exact h.sI.foot hx), h.sS.set hx hs ho hz, h.sI.set hx hs ho hz, h.bS, h.bI, h.ne, h.rl, fun j l r h1 h2 => ⟨(h.rows j l r h1 h2).1.chg hc (fun k hk => ((h.rows j l r h1 h2).2 k hk).1.foot hx), fun k hk => ⟨((h.rows j l r h1 h2).2 k hk).1.set hx hs ho hz, ((h.rows j l r h1 h2).2 k hk).2⟩⟩⟩
/-- A new row of seeds in the place of the k-th. -/
theorem put (h : Side B w p b L ps I vs ks vi ki rv) {k g f c : Nat} {l : List Nat} {q : Option Addr} {o : Option Nat} (hvi : vi = .slice (some ⟨ki, f, none⟩) I.length c) (hk : k < I.length) (hr : Row w 2 1 (.slice q l.length g) o l.length (encL l)) (ho : ∀ m, o = some m → Safe w p b L m ∧ m ≠ ks ∧ m ≠ ki) :
    Side B (w.setCell ⟨ki, f + k, none⟩ (.slice q l.length g)) p b L ps (I.set k l) vs ks vi ki (rv.set k (.slice q l.length g, o)) := by
  have hc : Chg (fun m => m = ki) w (w.setCell ⟨ki, f + k, none⟩ (.slice q l.length g)) := (Chg.refl _ w).setCell _ _ (.inl rfl)
  have hz := hc.size
  subst hvi
  refine ⟨h.ss.chg hc (fun m hm e => by cases hm; exact h.ne e), ?_, h.sS.grow hz, h.sI.grow hz, h.bS, h.bI, h.ne, by simp [h.rl], fun j l2 r h1 h2 => ?_⟩
  · have := row_put h.ii k hk (.slice q l.length g)
    rw [List.length_set, List.map_set]
    exact this
  · rw [List.getElem?_set] at h1 h2
    by_cases e : k = j
    · subst e
      rw [if_pos rfl, if_pos hk] at h1
      rw [if_pos rfl, if_pos (by rw [h.rl]; exact hk)] at h2
      cases h1; cases h2
      exact ⟨hr.chg hc (fun m hm e => (ho m hm).2.2 e), fun m hm => ⟨(ho m hm).1.grow hz, (ho m hm).2⟩⟩
    · rw [if_neg e] at h1 h2
      have hj := h.rows j l2 r h1 h2
      exact ⟨hj.1.chg hc (fun m hm e => (hj.2 m hm).2.2 e), fun m hm => ⟨(hj.2 m hm).1.grow hz, (hj.2 m hm).2⟩⟩
/-- Behind a fork: the new sequence's pointer is not yet among them. -/
theorem fork (h : Side B w p b L ps I vs ks vi ki rv) {y : Ent} (hs : w.heap.size ≤ y.s) (ho : ∀ k, y.own = some k → w.heap.size ≤ k) (hc : Chg (fun k => k = p ∨ k = b) w w') : Side B w' p b (L ++ [y]) ps I vs ks vi ki rv := by
  have hz := hc.size
  have nf : ∀ {k : Nat}, Safe w p b L k → ¬ (k = p ∨ k = b) := fun hk e => e.elim hk.p hk.b
  exact ⟨h.ss.chg hc (fun k hk => by cases hk; exact nf h.sS), h.ii.chg hc (fun k hk => by cases hk; exact nf h.sI), h.sS.app hs ho hz, h.sI.app hs ho hz, h.bS, h.bI, h.ne, h.rl, fun j l r h1 h2 => ⟨(h.rows j l r h1 h2).1.chg hc (fun k hk => nf ((h.rows j l r h1 h2).2 k hk).1), fun k hk => ⟨((h.rows j l r h1 h2).2 k hk).1.app hs ho hz, ((h.rows j l r h1 h2).2 k hk).2⟩⟩⟩
theorem lts (h : Side B w p b L ps I vs ks vi ki rv) : ks < w.heap.size ∧ ki < w.heap.size := ⟨h.sS.lt, h.sI.lt⟩
/-- One more pointer. -/
theorem appS (h : Side B w p b L ps I vs ks vi ki rv) {S : List Pg} (hM : Many B w p b S L) {vs' u : Value} {g : Nat} (hr : Row w' 28 1 vs' (some g) (ps.length + 1) (ps ++ [u])) (hg : w.grownBy w' (some ks)) (ho : some ks = some g ∨ g = w.heap.size) :
    Side B w' p b L (ps ++ [u]) I vs' g vi ki rv := by
  have hc : Chg (fun k => k = ks) w w' := Chg.of_grown hg (fun k e => Option.some.inj e)
  have hz := hc.size
  have hgl := hr.lt g rfl
  have hki := h.sI.lt
  have hB := hM.size
  have hbS := h.bS
  have hsg : Safe w' p b L g := by
    rcases ho with e | e
    · cases e; exact h.sS.grow hz
    · exact hM.safe (by omega) hgl
  have hne : ∀ k, k < w.heap.size → k ≠ ks → k ≠ g := fun k h1 h2 => by
    rcases ho with e | e
    · cases e; exact h2
    · omega
  refine ⟨by rw [List.length_append]; exact hr, h.ii.chg hc (fun k hk e => by cases hk; exact h.ne e.symm), hsg, h.sI.grow hz, ?_, h.bI, fun e => hne ki hki (Ne.symm h.ne) e.symm, h.rl, fun j l r h1 h2 => ?_⟩
  · rcases ho with e | e
    · cases e; exact hbS
    · omega
  · have hj := h.rows j l r h1 h2
    exact ⟨hj.1.chg hc (fun k hk e => (hj.2 k hk).2.1 e), fun k hk => ⟨(hj.2 k hk).1.grow hz, hne k (hj.2 k hk).1.lt (hj.2 k hk).2.1, (hj.2 k hk).2.2⟩⟩
/-- One more row of seeds: one that is there already. -/
theorem appI (h : Side B w p b L ps I vs ks vi ki rv) {S : List Pg} (hM : Many B w p b S L) {vi' : Value} {g k : Nat} {l : List Nat} {r : Value × Option Nat} (hl : I[k]? = some l) (hrk : rv[k]? = some r) (hr : Row w' 33 1 vi' (some g) (I.length + 1) (rv.map (·.1) ++ [r.1])) (hg : w.grownBy w' (some ki)) (ho : some ki = some g ∨ g = w.heap.size) :
    Side B w' p b L ps (I ++ [l]) vs ks vi' g (rv ++ [r]) := by
  have hc : Chg (fun k => k = ki) w w' := Chg.of_grown hg (fun k e => Option.some.inj e)
  have hz := hc.size
  have hgl := hr.lt g rfl
  have hks := h.sS.lt
  have hB := hM.size
  have hbI := h.bI
  have hsg : Safe w' p b L g := by
    rcases ho with e | e
    · cases e; exact h.sI.grow hz
    · exact hM.safe (by omega) hgl
  have hne : ∀ k, k < w.heap.size → k ≠ ki → k ≠ g := fun k h1 h2 => by
    rcases ho with e | e
    · cases e; exact h2
    · omega
  have hrow : ∀ (j : Nat) (l : List Nat) (r : Value × Option Nat), I[j]? = some l → rv[j]? = some r → Row w' 2 1 r.1 r.2 l.length (encL l) ∧ ∀ k, r.2 = some k → Safe w' p b L k ∧ k ≠ ks ∧ k ≠ g := fun j l r h1 h2 => by
    have hj := h.rows j l r h1 h2
    exact ⟨hj.1.chg hc (fun k hk e => (hj.2 k hk).2.2 e), fun k hk => ⟨(hj.2 k hk).1.grow hz, (hj.2 k hk).2.1, hne k (hj.2 k hk).1.lt (hj.2 k hk).2.2⟩⟩
  refine ⟨h.ss.chg hc (fun k hk e => by cases hk; exact h.ne e), by rw [List.length_append, List.map_append]; exact hr, h.sS.grow hz, hsg, h.bS, ?_, hne ks hks h.ne, by simp [h.rl], fun j l2 r2 h1 h2 => ?_⟩
  · rcases ho with e | e
    · cases e; exact hbI
    · omega
  · rw [List.getElem?_append] at h1 h2
    rw [h.rl] at h2
    split at h1
    next e => rw [if_pos e] at h2; exact hrow j l2 r2 h1 h2
    next e =>
      rw [if_neg e] at h2
      rw [List.getElem?_singleton] at h1 h2
      split at h1
      next e2 =>
        rw [if_pos e2] at h2
        cases h1; cases h2
        exact hrow k l r hl hrk
      next => cases h1
end Side
end Go.Proofs.Ytfimadeokdlpnaa.kv
