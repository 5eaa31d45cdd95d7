/- The reference's sequences: apart from the pool; Release. -/
import Derived.Test.YtfimadeokdlpnaaWe
namespace Go.Proofs.Ytfimadeokdlpnaa.kv
open Go.ChangeShapes Go.WideShapes Go.ChangeAt Go.RowKit K
set_option linter.unusedVariables false
set_option linter.unusedSimpArgs false
structure RApart (r rb : Nat) (S : List Pg) (c : Nat → Nat) (s : Nat) (own : Option Nat) : Prop where
  s : ¬ RF r rb S c s
  o : ∀ k, own = some k → ¬ RF r rb S c k
/-- The blocks of the pool and of one sequence. -/
def GF (r rb : Nat) (S : List Pg) (c : Nat → Nat) (s : Nat) (own : Option Nat) (k : Nat) : Prop := RF r rb S c k ∨ k = s ∨ own = some k
/-- Behind a call that changes the reference's pool and a sequence. -/
structure QPost (r rb : Nat) (S : List Pg) (c : Nat → Nat) (s : Nat) (own : Option Nat) (S' : List Pg) (Q' : Sq) (w : World) (v : Value) (e : Ending) (w' : World) : Prop where
  ret : e = .returned v
  ex : ∃ c' v' own', RP w' r rb S' c' ∧ RQ w' s r Q' v' own' ∧ RApart r rb S' c' s own' ∧ (∀ k, RF r rb S' c' k → RF r rb S c k ∨ w.heap.size ≤ k) ∧ (∀ k, own' = some k → own = some k ∨ w.heap.size ≤ k)
  chg : Chg (GF r rb S c s own) w w'
/-- The pool, some way on. -/
structure RAt (r rb : Nat) (S : List Pg) (c : Nat → Nat) (w wr : World) (S' : List Pg) (c' : Nat → Nat) : Prop where
  pool : RP wr r rb S' c'
  foot : ∀ k, RF r rb S' c' k → RF r rb S c k ∨ w.heap.size ≤ k
  chg : Chg (RF r rb S c) w wr
theorem RQ.chg' {w w' : World} {s p : Nat} {Q : Sq} {v : Value} {own : Option Nat} {G : Nat → Prop} (h : RQ w s p Q v own) (hc : Chg G w w') (h1 : ¬ G s) (h2 : ∀ b, own = some b → ¬ G b) : RQ w' s p Q v own := h.chg hc h1 h2
theorem Chg.drewR {F : Nat → Prop} {w w' : World} (h : Chg F w w') (n : Nat) : Chg F w (w'.drewN n) := ⟨h.os, h.tape, h.output, h.size, h.block⟩
namespace RAt
variable {r rb : Nat} {S S' S'' : List Pg} {c c' : Nat → Nat} {w wr w' : World}
theorem start (h : RP w r rb S c) : RAt r rb S c w w S c := ⟨h, fun k hk => .inl hk, Chg.refl _ _⟩
theorem step (h : RAt r rb S c w wr S' c') {v : Value} {e : Ending} (hp : RPost r rb S' c' S'' wr v e w') : ∃ c'', RAt r rb S c w w' S'' c'' := by
  obtain ⟨c'', h1, h2⟩ := hp.pool
  have hz := h.chg.size
  exact ⟨c'', h1, fun k hk => by
    rcases h2 k hk with e | e
    · exact h.foot k e
    · exact .inr (by omega), h.chg.trans hp.chg (fun k hk => h.foot k hk)⟩
theorem drewN (h : RAt r rb S c w wr S' c') (n : Nat) : RAt r rb S c w (wr.drewN n) S' c' := ⟨h.pool.drewN n, h.foot, Chg.drewR h.chg n⟩
theorem seq (h : RAt r rb S c w wr S' c') {s : Nat} {Q : Sq} {v : Value} {own : Option Nat} (hq : RQ w s r Q v own) (ha : RApart r rb S c s own) : RQ wr s r Q v own := hq.chg h.chg ha.s ha.o
theorem apart (h : RAt r rb S c w wr S' c') {s : Nat} {Q : Sq} {v : Value} {own : Option Nat} (hq : RQ w s r Q v own) (ha : RApart r rb S c s own) : RApart r rb S' c' s own := by
  refine ⟨fun e => ?_, fun k hk e => ?_⟩
  · rcases h.foot _ e with e | e
    · exact ha.s e
    · have := hq.head.lt; omega
  · rcases h.foot _ e with e | e
    · exact ha.o k hk e
    · have := hq.row.lt k hk; omega
end RAt
variable (s r rb : Nat) (S : List Pg) (c : Nat → Nat) (Q : Sq) (v : Value) (own : Option Nat) (w : World)
set_option maxHeartbeats 2000000 in
theorem rrelease_c (h : RQ w s r Q v own) (hp : RP w r rb S c) (ha : RApart r rb S c s own) (hS : Small S) : Calls Try.prog 25 #[.pointer (some ⟨s, 0, none⟩)] w
    (QPost r rb S c s own (dropAll S Q.pages) { Q with pages := [], first := Q.len } w (.tuple #[])) := by
  obtain ⟨a, cc, hv, h3⟩ := h.c3
  have H := Lib.hid h
  have HP : Hid (∃ c', RAt r rb S c w w (dropAll S (Q.pages.take 0)) c') := ⟨c, RAt.start hp⟩
  have HA := Lib.hid ha
  have HSm := Lib.hid hS
  have hfew := h.few
  have HV := Lib.hid hv
  clear h hp ha hS hv
  generalize hL : Q.pages.length = L at *
  have HL := Lib.hid hL
  clear hL
  go_enter Try.func25, Try.ntmps25
  go_wp2_with fail
  go_loopw [2] (fun s2 wr => ∃ k : Nat, k ≤ L ∧ s2 = .int .i64 k ∧ Hid (∃ c', RAt r rb S c w wr (dropAll S (Q.pages.take k)) c')) (fun s2 _ => L - (intOf s2).toNat)
  case atStart => exact ⟨0, by omega, rfl, HP⟩
  case round =>
    obtain ⟨k, hk, rfl, ⟨c', hAt⟩⟩ := hrel
    have HAt := Lib.hid hAt
    have HSk := Lib.hid (hAt.seq H.out HA.out)
    have hs0 := HSk.out.c0
    have hs3 : wr.cell? ⟨s, 3, none⟩ = some (.slice a L cc) := (HSk.out.head.cell 3 _ rfl).trans (congrArg some HV.out)
    clear hAt HP
    by_cases hkL : k < L
    · have hkz : (k : Int) < (L : Int) := by omega
      have hk0 : (0 : Int) ≤ (k : Int) := by omega
      have hn : Q.pages[k]? = some (Q.pages[k]'(by rw [HL.out]; exact hkL)) := List.getElem?_eq_getElem _
      generalize Q.pages[k]'(by rw [HL.out]; exact hkL) = n at hn
      obtain ⟨g, off, c2, e1, e2, e3, e4, e5, e6⟩ := HSk.out.page hn
      rw [HL.out] at e1
      have := HV.out.symm.trans e1
      cases this
      have DR : Hid (Calls Try.prog 43 #[.pointer (some ⟨r, 0, none⟩), .int .i64 (n : Int)] wr.drew _) := rdrop_c r rb _ c' _ (HAt.out.drewN 1).pool (HSm.out.dropAll _) n
      have HSTP : Hid (∀ e w', RPost r rb (dropAll S (Q.pages.take k)) c' (drop1 (dropAll S (Q.pages.take k)) n) wr.drew (.int .i64 (errOf (dropAll S (Q.pages.take k)) n)) e w' → ∃ c'', RAt r rb S c w w' (dropAll S (Q.pages.take (k + 1))) c'') := fun e w' hp => by
        rw [dropAll_take S Q.pages k n hn]
        exact (HAt.out.drewN 1).step hp
      have HRET : Hid (∀ e w', RPost r rb (dropAll S (Q.pages.take k)) c' (drop1 (dropAll S (Q.pages.take k)) n) wr.drew (.int .i64 (errOf (dropAll S (Q.pages.take k)) n)) e w' → e = .returned (.int .i64 (errOf (dropAll S (Q.pages.take k)) n))) := fun e w' hp => hp.ret
      have HN := Lib.hid hn
      have KEEP : Hid (∀ (w' : World) c'', RAt r rb S c w w' (dropAll S (Q.pages.take (k + 1))) c'' → w'.cell? ⟨s, 0, none⟩ = some (.pointer (some ⟨r, 0, none⟩)) ∧ w'.cell? ⟨s, 3, none⟩ = some (.slice (some ⟨g, off, none⟩) L cc) ∧ w'.cell? ⟨g, off + k, none⟩ = some (.int .i64 (n : Int))) := fun w' c'' hA => by
        have hq := hA.seq H.out HA.out
        refine ⟨hq.c0, (hq.head.cell 3 _ rfl).trans (congrArg some HV.out), ?_⟩
        obtain ⟨g', off', c3, f1, f2, hkc, -⟩ := hq.page HN.out
        have := HV.out.symm.trans f1
        cases this
        exact hkc
      generalize drop1 (dropAll S (Q.pages.take k)) (n : Int) = S2 at *
      generalize errOf (dropAll S (Q.pages.take k)) (n : Int) = er at *
      clear e1 e2 e5 hn
      go_wp2_with fail
      go_region_held3 (fun w' => w'.cell? ⟨s, 0, none⟩ = some (.pointer (some ⟨r, 0, none⟩)) ∧ w'.cell? ⟨s, 3, none⟩ = some (.slice (some ⟨g, off, none⟩) L cc) ∧ w'.cell? ⟨g, off + k, none⟩ = some (.int .i64 (n : Int))) (first | exact ⟨by assumption, by assumption, by assumption⟩ | go_keep)
        ((go_at_call 43; (with_reducible refine DR.out.mono ?_); intro e w' hpost; obtain rfl := HRET.out e w' hpost; obtain ⟨c'', hA⟩ := HSTP.out _ w' hpost; obtain ⟨j0, j3, jc⟩ := KEEP.out w' c'' hA; have HA2 : Hid (∃ c', RAt r rb S c w w' (dropAll S (Q.pages.take (k + 1))) c') := ⟨c'', hA⟩; clear hpost hA))
      go_wp2
      exact ⟨⟨k + 1, by omega, by go_num, HA2⟩, by simp [intOf]; omega⟩
    · obtain rfl : k = L := by omega
      have hkz : ¬ (k : Int) < (k : Int) := by omega
      have h5 := HSk.out.c5
      have hk4 := HSk.out.c4
      have hf3 := HSk.out.head.free 3
      have hf4 := HSk.out.head.free 4
      have HPF : Hid (RAt r rb S c w wr (dropAll S Q.pages) c') := by
        have := HAt.out
        rw [← HL.out, List.take_length] at this
        exact this
      have HAW := Lib.hid (HPF.out.apart H.out HA.out)
      go_wp2
      go_end0
      have hcd : Chg (fun k => k = s) wr ((wr.setCell ⟨s, 3, none⟩ (.slice none 0 0)).setCell ⟨s, 4, none⟩ (.int .i64 Q.len)) := ((Chg.refl (fun k => k = s) wr).setCell _ _ (.inl rfl)).setCell _ _ (.inl rfl)
      refine ⟨rfl, ⟨c', .slice none 0 0, none, HPF.out.pool.chg hcd (fun k hk e => HAW.out.s (e ▸ hk)), ⟨(HSk.out.head.set 3 _).set 4 _, Row.nil _ _ _, by simp, HSk.out.wd, HSk.out.tg, Nat.le_refl _, HSk.out.short, by simp, by simp⟩, ⟨HAW.out.s, fun k hk => by cases hk⟩, HPF.out.foot, fun k hk => by cases hk⟩, ?_⟩
      exact (HPF.out.chg.mono (G := GF r rb S c s own) (fun k e => .inl e)).trans hcd (fun k e => .inl (.inr (.inl e)))
end Go.Proofs.Ytfimadeokdlpnaa.kv
