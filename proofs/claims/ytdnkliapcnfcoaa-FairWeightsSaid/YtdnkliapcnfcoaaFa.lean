/- fair.Fair: one tenant's row laid anew; Add. -/
import Derived.Test.YtdnkliapcnfcoaaFd
import Derived.BigRegion
import Derived.BigQuiet
import Derived.Deep.QuietTactic
namespace Go.Proofs.Ytdnkliapcnfcoaa.fair
open Go.ChangeShapes Go.WideShapes Go.ChangeAt Go.RowKit K
set_option linter.unusedVariables false
set_option linter.unusedSimpArgs false
def upd {α : Type} (f : Nat → α) (i : Nat) (x : α) : Nat → α := fun k => if k = i then x else f k
theorem upd_at {α : Type} (f : Nat → α) (i : Nat) (x : α) : upd f i x i = x := by simp [upd]
theorem upd_ne {α : Type} (f : Nat → α) (i k : Nat) (x : α) (h : k ≠ i) : upd f i x k = f k := by simp [upd, h]
theorem upd_self {α : Type} (f : Nat → α) (i : Nat) : upd f i (f i) = f := by funext k; unfold upd; split <;> simp_all
/-- A tenant's clock and what waits of it laid anew, and the time. -/
def FS.put (S : FS) (i : Nat) (c : Int) (l : List (Int × Int)) (t : Int) : FS := { S with ck := upd S.ck i c, q := upd S.q i l, now := t }
/-- Behind a call: the answer, the state, where it lies. -/
def Post (S : FS) (w : World) (p : Nat) (F : Nat → Prop) (r : Value) (e : Ending) (w' : World) : Prop :=
  e = .returned r ∧ (∃ L, FR w' p S L (fun b => F b ∨ w.heap.size ≤ b)) ∧ Chg F w w'
theorem Post.same {S : FS} {w w' : World} {p : Nat} {L : FL} {F : Nat → Prop} {r : Value} (h : FR w p S L F) (hb : Below w.heap.size w w') : Post S w p F r (.returned r) w' :=
  ⟨rfl, ⟨L, (h.below hb).mono fun b hf => .inl hf⟩, Chg.of_below hb rfl⟩
theorem FR.put {w w' : World} {p : Nat} {S : FS} {L : FL} {F : Nat → Prop} (h : FR w p S L F) {i : Nat} (hi : i < S.n) (c t : Int) (v' : Value) (own' : Option Nat) (l : List (Int × Int)) (cs' : Array Value)
    (hc : Chg (fun b => b = p ∨ b = L.bt ∨ L.own i = some b) w w')
    (hhead : Bk w' p #[.slice (some ⟨L.bt, 0, none⟩) S.n L.cap, .int .i64 t] 51)
    (hrows : Bk w' L.bt cs' 54)
    (hcs : ∀ k, k ≠ i * 3 + 1 → k ≠ i * 3 + 2 → cs'[k]? = L.cs[k]?) (hsz : cs'.size = L.cs.size) (hc1 : cs'[i * 3 + 1]? = some (.int .i64 c)) (hc2 : cs'[i * 3 + 2]? = some v')
    (hrow : Row w' 60 2 v' own' l.length (encQ l))
    (hown : ∀ b, own' = some b → L.own i = some b ∨ w.heap.size ≤ b) :
    FR w' p (S.put i c l t) ⟨L.bt, L.cap, cs', upd L.vs i v', upd L.own i own'⟩ (fun b => F b ∨ w.heap.size ≤ b) := by
  have hp := h.head.lt
  have ht := h.rows.lt
  have hold : ∀ k, k < S.n → ∀ b, L.own k = some b → b < w.heap.size := fun k hk => (h.row k hk).lt
  refine ⟨hhead, hrows, by rw [hsz]; exact h.size, h.few, fun k hk => ?_, fun k hk => ?_, fun k hk => ?_, fun k hk => ?_, h.ne, fun k hk => ?_, fun k j hk hj hkj b hb => ?_, .inl h.fp, .inl h.ft, fun k b hk hb => ?_⟩
  · show cs'[k * 3]? = _
    rw [hcs _ (by omega) (by omega)]; exact h.c0 k hk
  · show cs'[k * 3 + 1]? = some (.int .i64 (upd S.ck i c k))
    by_cases e : k = i
    · subst e; rw [upd_at]; exact hc1
    · rw [upd_ne _ _ _ _ e, hcs _ (by omega) (by omega)]; exact h.c1 k hk
  · show cs'[k * 3 + 2]? = some (upd L.vs i v' k)
    by_cases e : k = i
    · subst e; rw [upd_at]; exact hc2
    · rw [upd_ne _ _ _ _ e, hcs _ (by omega) (by omega)]; exact h.c2 k hk
  · show Row w' _ 2 (upd L.vs i v' k) (upd L.own i own' k) (upd S.q i l k).length (encQ (upd S.q i l k))
    by_cases e : k = i
    · subst e; simp only [upd_at]; exact hrow
    · simp only [upd_ne _ _ _ _ e]
      refine (h.row k hk).chg hc fun b hb => ?_
      rintro (rfl | rfl | h2)
      · exact (h.ne0 k hk).1 hb
      · exact (h.ne0 k hk).2 hb
      · exact h.ne1 k i hk hi e b hb h2
  · show upd L.own i own' k ≠ some p ∧ upd L.own i own' k ≠ some L.bt
    by_cases e : k = i
    · subst e
      rw [upd_at]
      refine ⟨fun h1 => ?_, fun h1 => ?_⟩
      · rcases hown _ h1 with h2 | h2
        · exact (h.ne0 k hk).1 h2
        · omega
      · rcases hown _ h1 with h2 | h2
        · exact (h.ne0 k hk).2 h2
        · omega
    · rw [upd_ne _ _ _ _ e]; exact h.ne0 k hk
  · change upd L.own i own' k = some b at hb
    show upd L.own i own' j ≠ some b
    intro h1
    by_cases e : k = i
    · subst e
      rw [upd_at] at hb
      rw [upd_ne _ _ _ _ (fun e => hkj e.symm)] at h1
      rcases hown _ hb with h2 | h2
      · exact h.ne1 k j hk hj hkj b h2 h1
      · have := hold j hj b h1; omega
    · rw [upd_ne _ _ _ _ e] at hb
      by_cases e2 : j = i
      · subst e2
        rw [upd_at] at h1
        rcases hown _ h1 with h2 | h2
        · exact h.ne1 k j hk hj hkj b hb h2
        · have := hold k hk b hb; omega
      · rw [upd_ne _ _ _ _ e2] at h1
        exact h.ne1 k j hk hj hkj b hb h1
  · change upd L.own i own' k = some b at hb
    by_cases e : k = i
    · subst e
      rw [upd_at] at hb
      rcases hown _ hb with h2 | h2
      · exact .inl (h.fo k b hk h2)
      · exact .inr h2
    · rw [upd_ne _ _ _ _ e] at hb
      exact .inl (h.fo k b hk hb)
/-- Whose that number is. -/
def FS.has (S : FS) (id : Int) : Bool := (List.range S.n).any fun i => hasQ (S.q i) id
theorem FS.has_no {S : FS} {id : Int} (h : S.has id = false) : ∀ i, i < S.n → hasQ (S.q i) id = false := by
  intro i hi
  unfold FS.has at h
  rw [List.any_eq_false] at h
  simpa using h i (List.mem_range.2 hi)
theorem FS.has_yes {S : FS} {id : Int} (h : S.has id = true) : ∃ i, i < S.n ∧ hasQ (S.q i) id = true ∧ ∀ k, k < i → hasQ (S.q k) id = false := by
  unfold FS.has at h
  obtain ⟨i, hi, hq⟩ := List.any_eq_true.1 h
  replace hi := List.mem_range.1 hi
  clear h
  induction i using Nat.strongRecOn with
  | _ i ih =>
    by_cases hk : ∃ k, k < i ∧ hasQ (S.q k) id = true
    · obtain ⟨k, hk, hq'⟩ := hk
      exact ih k hk hq' (by omega)
    · refine ⟨i, hi, hq, fun k hk' => ?_⟩
      cases h : hasQ (S.q k) id
      · rfl
      · exact absurd ⟨k, hk', h⟩ hk
theorem ptr_eq_none (w : World) (P : Program) : True := trivial
theorem add_range (p : Nat) (S : FS) (L : FL) (F : Nat → Prop) (w : World) (h : FR w p S L F) (n id cost : Int) (hn : (n < 0 ∨ (S.n : Int) ≤ n) ∨ cost < 1 ∨ 10000 < cost) :
    Calls Try.prog 10 #[.pointer (some ⟨p, 0, none⟩), .int .i64 n, .int .i64 id, .int .i64 cost] w (Post S w p F (.int .i64 20)) := by
  by_cases hr : n < 0 ∨ (S.n : Int) ≤ n
  · have FI := Lib.hid (find_out p S L F w h n hr)
    have H := Lib.hid h
    clear h hr hn
    go_enter Try.func10, Try.ntmps10
    go_wp2_with fail
    refine FI.out.mono ?_
    rintro e w' ⟨rfl, rfl⟩
    go_wp2
    go_ret
    exact Post.same H.out (Below.refl _ _)
  · have hr1 : 0 ≤ n := by omega
    have hr2 : n < S.n := by omega
    obtain ⟨i, rfl⟩ : ∃ i : Nat, n = i := ⟨n.toNat, by omega⟩
    have FI := Lib.hid (find_in p S L F w h i (by omega))
    have H := Lib.hid h
    replace hn : cost < 1 ∨ 10000 < cost := by omega
    clear h hr hr1 hr2
    by_cases hlo : cost < 1
    · clear hn
      go_enter Try.func10, Try.ntmps10
      go_wp2_with fail
      refine FI.out.mono ?_
      rintro e w' ⟨rfl, rfl⟩
      go_wp2
      go_ret
      exact Post.same H.out (Below.refl _ _)
    · have hhi : 10000 < cost := by omega
      have hlo' : 1 ≤ cost := by omega
      clear hn hlo
      go_enter Try.func10, Try.ntmps10
      go_wp2_with fail
      refine FI.out.mono ?_
      rintro e w' ⟨rfl, rfl⟩
      go_wp2
      go_ret
      exact Post.same H.out (Below.refl _ _)
theorem add_twice (p : Nat) (S : FS) (L : FL) (F : Nat → Prop) (w : World) (h : FR w p S L F) (hf : Few S) (i : Nat) (hi : i < S.n) (id cost : Int) (h1 : 1 ≤ cost) (h2 : cost ≤ 10000) (hh : S.has id = true) :
    Calls Try.prog 10 #[.pointer (some ⟨p, 0, none⟩), .int .i64 i, .int .i64 id, .int .i64 cost] w (Post S w p F (.int .i64 26)) := by
  have FI := Lib.hid (find_in p S L F w h i hi)
  obtain ⟨k, hk, hy, hno⟩ := FS.has_yes hh
  have PL := Lib.hid (place_yes p S L F w h hf id k hk hy hno)
  have H := Lib.hid h
  clear h hh hno hy hf
  go_enter Try.func10, Try.ntmps10
  go_wp2_with fail
  refine FI.out.mono ?_
  rintro e w' ⟨rfl, rfl⟩
  go_wp2_with fail
  refine PL.out.mono ?_
  rintro e w1 ⟨rfl, hb⟩
  have HB := Lib.hid hb
  clear hb
  go_wp2
  go_ret
  exact Post.same H.out HB.out
theorem add_full (p : Nat) (S : FS) (L : FL) (F : Nat → Prop) (w : World) (h : FR w p S L F) (hf : Few S) (i : Nat) (hi : i < S.n) (id cost : Int) (h1 : 1 ≤ cost) (h2 : cost ≤ 10000) (hh : S.has id = false) (hl : (S.q i).length = 16) :
    Calls Try.prog 10 #[.pointer (some ⟨p, 0, none⟩), .int .i64 i, .int .i64 id, .int .i64 cost] w (Post S w p F (.int .i64 5)) := by
  have FI := Lib.hid (find_in p S L F w h i hi)
  have PL := Lib.hid (place_no p S L F w h hf id (FS.has_no hh))
  obtain ⟨a, c, hc⟩ := h.r2' i hi
  rw [hl] at hc
  have hbt := h.rows.lt
  have H := Lib.hid h
  clear h hh hf hl
  go_enter Try.func10, Try.ntmps10
  go_wp2_with fail
  refine FI.out.mono ?_
  rintro e w' ⟨rfl, rfl⟩
  go_wp2_with fail
  refine PL.out.mono ?_
  rintro e w1 ⟨rfl, hb⟩
  have hc1 := (hb.cell (p := ⟨L.bt, i * 3 + 2, none⟩) hbt).trans hc
  have HB := Lib.hid hb
  clear hb hc
  go_wp2
  go_ret
  exact Post.same H.out HB.out
end Go.Proofs.Ytdnkliapcnfcoaa.fair
