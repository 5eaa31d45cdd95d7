/- works: what its calls give, by reckoning. The calls on one of several sequences. -/
import Derived.Test.YtfimadeokdlpnaaVj
import Derived.KernelRfl
namespace Go.Proofs.Ytfimadeokdlpnaa.kv
open Go.ChangeShapes Go.WideShapes Go.ChangeAt Go.RowKit K
set_option linter.unusedVariables false
def tagR : ByteArray := { data := #[114] }
def stW : Nat → List Pg × Sq
  | 0 => (List.replicate 8 Pg.no, ⟨tagR, 16, [], 0, 0⟩)
  | k + 1 => (appendOf (stW k).1 (stW k).2 (rowN 16 k)).getD (stW k)
def sW4 : List Pg := shareAll (stW 3).1 (stW 3).2.pages
def stW5 : List Pg × Sq := (appendOf sW4 (stW 3).2 (rowN 16 9)).getD (stW 3)
def sW6 : List Pg := dropAll stW5.1 stW5.2.pages
def sW7 : List Pg := dropAll sW6 (stW 3).2.pages
theorem getD_of_some {α : Type} {o : Option α} {d : α} (h : o.isSome = true) : o = some (o.getD d) := by cases o <;> simp_all
theorem stW_0 : (appendOf (stW 0).1 (stW 0).2 (rowN 16 0)).isSome = true := by kernel_rfl
theorem stW_1 : (appendOf (stW 1).1 (stW 1).2 (rowN 16 1)).isSome = true := by kernel_rfl
theorem stW_2 : (appendOf (stW 2).1 (stW 2).2 (rowN 16 2)).isSome = true := by kernel_rfl
theorem stW_5 : (appendOf sW4 (stW 3).2 (rowN 16 9)).isSome = true := by kernel_rfl
theorem needW1 : needOf sW4 (stW 3).2 = 1 := by kernel_rfl
theorem needW5 : needOf stW5.1 (stW 3).2 = 0 := by kernel_rfl
theorem cntW5 : countOf stW5.1 tagR = 3 := by kernel_rfl
theorem rowW2 : rowOf stW5.1 (stW 3).2 2 = rowN 16 2 := by kernel_rfl
theorem rowW3 : rowOf stW5.1 stW5.2 3 = rowN 16 9 := by kernel_rfl
theorem cntW7 : countOf sW7 tagR = 0 := by kernel_rfl
end Go.Proofs.Ytfimadeokdlpnaa.kv
namespace Go.Proofs.Ytfimadeokdlpnaa.kv
open Go.ChangeShapes Go.WideShapes Go.ChangeAt Go.RowKit K
set_option linter.unusedVariables false
set_option linter.unusedSimpArgs false
theorem Small.putRow {S : List Pg} (h : Small S) (pg c : Nat) (xs : List Int) : ∀ k, Small (putRow S pg c xs k)
  | 0 => h
  | k + 1 => (Small.putRow h pg c xs k).put1 _ _ _
theorem Small.room {S S' : List Pg} {Q Q' : Sq} (h : Small S) (hr : roomOf S Q = some (S', Q')) : Small S' := by
  unfold roomOf at hr
  split at hr
  · obtain ⟨rfl, rfl⟩ := Prod.mk.inj (Option.some.inj hr); exact h
  · split at hr
    · cases hr
    · split at hr
      · obtain ⟨rfl, rfl⟩ := Prod.mk.inj (Option.some.inj hr); exact ((h.take1 _).copyTo _ _ _).drop1 _
      · obtain ⟨rfl, rfl⟩ := Prod.mk.inj (Option.some.inj hr); exact h.take1 _
theorem Small.append {S S' : List Pg} {Q Q' : Sq} {xs : List Int} (h : Small S) (hr : appendOf S Q xs = some (S', Q')) : Small S' := by
  unfold appendOf at hr
  cases hro : roomOf S Q with
  | none => rw [hro] at hr; cases hr
  | some r =>
    obtain ⟨S1, Q1⟩ := r
    rw [hro] at hr
    obtain ⟨rfl, rfl⟩ := Prod.mk.inj (Option.some.inj hr)
    exact (h.room hro).putRow _ _ _ _
theorem small_no (n : Nat) : Small (List.replicate n Pg.no) := by
  intro x hx
  rw [List.mem_replicate] at hx
  rw [hx.2]; simp [Pg.no]
theorem Small.most {S : List Pg} {M : Nat} (h : Most M S) (hM : M ≤ 1000000000) : Small S := fun x hx => Nat.le_trans (h x hx) hM
namespace Many
variable {B : Nat} {w w' : World} {p b : Nat} {S S' : List Pg} {L : List Ent}
theorem notFoot (h : Many B w p b S L) {i : Nat} {x : Ent} (hx : L[i]? = some x) {g : Nat} (hg : w.heap.size ≤ g) : ¬ Foot p b x.s x.own g := by
  have hX := (h.one i x hx).seq
  have h1 := h.pool.head.lt
  have h2 := h.pool.lt
  have h3 := hX.head.lt
  rintro (e | e | e | e)
  · omega
  · omega
  · omega
  · have := hX.row.lt g e; omega
theorem append_c (h : Many B w p b S L) {i : Nat} {x : Ent} (hx : L[i]? = some x) (hB : B ≤ w.heap.size) (hS : Small S) (hlen : x.Q.len < 1000) (W : Nat) (hW : x.Q.width = W) (xs : List Int) (hxl : xs.length = W) (Q' : Sq) (hr : appendOf S x.Q xs = some (S', Q'))
    (rb ro c : Nat) (ha : Args w rb ro xs) (hF : ¬ Foot p b x.s x.own rb) :
    Calls Try.prog 11 #[.pointer (some ⟨x.s, 0, none⟩), .slice (some ⟨rb, ro, none⟩) W c] w fun e w' => e = .returned (.int .i64 0) ∧ ∃ y, Many B w' p b S' (L.set i y) ∧ y.s = x.s ∧ y.Q = Q' ∧ Below B w w' := by
  subst hW
  refine (append_some x.s p b S x.Q x.v x.own w (h.one i x hx).seq h.pool (h.one i x hx).apart hS hlen xs S' Q' hr rb ro c ha hxl hF).mono ?_
  intro e w' hk
  exact ⟨hk.ret, h.step hx hk hB⟩
theorem appendNo_c (h : Many B w p b S L) {i : Nat} {x : Ent} (hx : L[i]? = some x) (W : Nat) (hW : x.Q.width = W) (xs : List Int) (hr : appendOf S x.Q xs = none) (a : Option Addr) (c : Nat) :
    Calls Try.prog 11 #[.pointer (some ⟨x.s, 0, none⟩), .slice a W c] w fun e w' => e = .returned (.int .i64 6) ∧ Below w.heap.size w w' := by
  subst hW
  exact append_none x.s p b S x.Q x.v x.own w (h.one i x hx).seq h.pool xs hr a c
theorem release_c (h : Many B w p b S L) {i : Nat} {x : Ent} (hx : L[i]? = some x) (hB : B ≤ w.heap.size) (hS : Small S) :
    Calls Try.prog 24 #[.pointer (some ⟨x.s, 0, none⟩)] w fun e w' => e = .returned (.tuple #[]) ∧ ∃ y, Many B w' p b (dropAll S x.Q.pages) (L.set i y) ∧ y.s = x.s ∧ y.Q = { x.Q with pages := [], first := x.Q.len } ∧ Below B w w' ∧ Chg (Foot p b x.s x.own) w w' := by
  refine (kv.release_c x.s p b S x.Q x.v x.own w (h.one i x hx).seq h.pool (h.one i x hx).apart hS).mono ?_
  intro e w' hk
  obtain ⟨y, h1, h2, h3, h4⟩ := h.step hx hk hB
  exact ⟨hk.ret, y, h1, h2, h3, h4, hk.chg⟩
theorem keep_c (h : Many B w p b S L) {i : Nat} {x : Ent} (hx : L[i]? = some x) (hB : B ≤ w.heap.size) (hS : Small S) (n m : Int) (hm : (0 ≤ n ∧ m = n) ∨ (n < 0 ∧ m = 0)) (hn : n ≤ 9223372036854775807) :
    Calls Try.prog 22 #[.pointer (some ⟨x.s, 0, none⟩), .int .i64 n] w fun e w' => e = .returned (.tuple #[]) ∧ ∃ y, Many B w' p b (keepOf x.Q.per x.Q.len m S x.Q.pages x.Q.first).1 (L.set i y) ∧ y.s = x.s ∧
      y.Q = { x.Q with pages := (keepOf x.Q.per x.Q.len m S x.Q.pages x.Q.first).2.1, first := (keepOf x.Q.per x.Q.len m S x.Q.pages x.Q.first).2.2 } ∧ Below B w w' := by
  refine (kv.keep_c x.s p b S x.Q x.v x.own w (h.one i x hx).seq h.pool (h.one i x hx).apart hS n m hm hn).mono ?_
  intro e w' hk
  exact ⟨hk.ret, h.step hx hk hB⟩
theorem fork_c (h : Many B w p b S L) {i : Nat} {x : Ent} (hx : L[i]? = some x) (hB : B ≤ w.heap.size) (hS : Most 900000000 S) :
    Calls Try.prog 20 #[.pointer (some ⟨x.s, 0, none⟩)] w fun e w' => ∃ f, e = .returned (.pointer (some ⟨f, 0, none⟩)) ∧ ∃ y, Many B w' p b (shareAll S x.Q.pages) (L ++ [y]) ∧ y.s = f ∧ y.Q = x.Q ∧ Below B w w' := by
  refine (kv.fork_c x.s p b S x.Q x.v x.own w (h.one i x hx).seq h.pool (h.one i x hx).apart hS).mono ?_
  rintro e w' ⟨f, hk⟩
  exact ⟨f, hk.ret, h.fork hx hk hB⟩
theorem need_c (h : Many B w p b S L) {i : Nat} {x : Ent} (hx : L[i]? = some x) :
    Calls Try.prog 10 #[.pointer (some ⟨x.s, 0, none⟩)] w fun e w' => e = .returned (.int .i64 (needOf S x.Q)) ∧ ∃ m, w' = w.drewN m := kv.need_c x.s p x.Q x.v x.own w b S (h.one i x hx).seq h.pool
theorem row_c (h : Many B w p b S L) {i : Nat} {x : Ent} (hx : L[i]? = some x) (k : Nat) (h1 : x.Q.first ≤ k) (h2 : k < x.Q.len) :
    Calls Try.prog 28 #[.pointer (some ⟨x.s, 0, none⟩), .int .i64 k] w fun e w' => ∃ g, e = .returned (.tuple #[.slice (some ⟨g, 0, none⟩) x.Q.width x.Q.width, .int .i64 0]) ∧ Vals w' (some ⟨g, 0, none⟩) (rowOf S x.Q k) ∧ Below w.heap.size w w' ∧ w.heap.size ≤ g := by
  refine (kv.row_in x.s p x.Q x.v x.own w b S (h.one i x hx).seq h.pool k h1 h2).mono ?_
  rintro e w' ⟨g, he, hr, hb, hg⟩
  exact ⟨g, he, (Row.args hr (by have := (h.one i x hx).seq.wd; omega)).vals, hb, hg⟩
end Many
theorem Vals.chg {F : Nat → Prop} {w w' : World} {g f : Nat} {xs : List Int} (h : Vals w (some ⟨g, f, none⟩) xs) (hc : Chg F w w') (hF : ¬ F g) : Vals w' (some ⟨g, f, none⟩) xs := fun j x hx => by
  obtain ⟨b, off, h1, h2, h3⟩ := h j x hx
  cases h1
  exact ⟨g, f, rfl, Nat.lt_of_lt_of_le h2 hc.size, (World.cell?_of_block (hc.block g h2 hF)).trans h3⟩
theorem Vals.below {w w' : World} {B : Nat} {a : Option Addr} {xs : List Int} (h : Vals w a xs) (hb : Below w.heap.size w w') : Vals w' a xs := fun j x hx => by
  obtain ⟨b, off, h1, h2, h3⟩ := h j x hx
  exact ⟨b, off, h1, Nat.lt_of_lt_of_le h2 hb.size, (hb.cell (p := ⟨b, off + j, none⟩) h2).trans h3⟩
end Go.Proofs.Ytfimadeokdlpnaa.kv
