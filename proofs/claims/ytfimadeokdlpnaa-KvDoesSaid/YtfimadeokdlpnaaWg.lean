/- The reference's sequences: Fork. -/
import Derived.Test.YtfimadeokdlpnaaWf
namespace Go.Proofs.Ytfimadeokdlpnaa.kv
open Go.ChangeShapes Go.WideShapes Go.ChangeAt Go.RowKit K
set_option linter.unusedVariables false
set_option linter.unusedSimpArgs false
theorem RAt.below {r rb : Nat} {S S' : List Pg} {c c' : Nat → Nat} {w wr w' : World} (h : RAt r rb S c w wr S' c') (hb : Below wr.heap.size wr w') : RAt r rb S c w w' S' c' :=
  ⟨h.pool.below hb, h.foot, h.chg.trans (Chg.of_below (F := fun _ => False) hb rfl) (fun _ e => e.elim)⟩
structure FQPost (r rb : Nat) (S : List Pg) (c : Nat → Nat) (s : Nat) (S' : List Pg) (Q : Sq) (v : Value) (own : Option Nat) (w : World) (e : Ending) (w' : World) (f : Nat) : Prop where
  ret : e = .returned (.pointer (some ⟨f, 0, none⟩))
  ex : ∃ c' v' g, RAt r rb S c w w' S' c' ∧ RQ w' s r Q v own ∧ RQ w' f r Q v' (some g) ∧ RApart r rb S' c' f (some g) ∧ w.heap.size ≤ g
  lt : w.heap.size ≤ f
variable (s r rb : Nat) (S : List Pg) (c : Nat → Nat) (Q : Sq) (v : Value) (own : Option Nat) (w : World)
set_option maxHeartbeats 4000000 in
theorem rfork_c (h : RQ w s r Q v own) (hp : RP w r rb S c) (ha : RApart r rb S c s own) (hS : Most 900000000 S) : Calls Try.prog 21 #[.pointer (some ⟨s, 0, none⟩)] w
    fun e w' => ∃ f, FQPost r rb S c s (shareAll S Q.pages) Q v own w e w' f := by
  obtain ⟨i0, hi0, hz0, hz1, hz2⟩ := info_parts infoI
  obtain ⟨a, cc, hv, h3⟩ := h.c3
  have H := Lib.hid h
  have HP : Hid (∃ c', RAt r rb S c w w (shareAll S (Q.pages.take 0)) c') := ⟨c, RAt.start hp⟩
  have HA := Lib.hid ha
  have HSm := Lib.hid hS
  have hfew := h.few
  have HV := Lib.hid hv
  clear h hp ha hS hv
  generalize hL : Q.pages.length = L at *
  have HL := Lib.hid hL
  clear hL
  go_enter Try.func21, Try.ntmps21
  go_wp2_with fail
  go_loopw [3] (fun s2 wr => ∃ k : Nat, k ≤ L ∧ s2 = .int .i64 k ∧ Hid (∃ c', RAt r rb S c w wr (shareAll S (Q.pages.take k)) c')) (fun s2 _ => L - (intOf s2).toNat)
  case atStart => exact ⟨0, by omega, rfl, HP⟩
  case round =>
    obtain ⟨k, hk, rfl, ⟨c', hAt⟩⟩ := hrel
    have HAt := Lib.hid hAt
    have HSk := Lib.hid (hAt.seq H.out HA.out)
    have hs0 := HSk.out.c0
    have hs3 : wr.cell? ⟨s, 3, none⟩ = some (.slice a L cc) := (HSk.out.head.cell 3 _ rfl).trans (congrArg some HV.out)
    clear hAt HP
    by_cases hkL : k < L
    · have hkz : (k : Int) < (L : Int) := by omega
      have hk0 : (0 : Int) ≤ (k : Int) := by omega
      have hn : Q.pages[k]? = some (Q.pages[k]'(by rw [HL.out]; exact hkL)) := List.getElem?_eq_getElem _
      generalize Q.pages[k]'(by rw [HL.out]; exact hkL) = n at hn
      obtain ⟨g, off, c2, e1, e2, e3, e4, e5, e6⟩ := HSk.out.page hn
      rw [HL.out] at e1
      have := HV.out.symm.trans e1
      cases this
      have hbd : Small (shareAll S (Q.pages.take k)) := by
        intro x hx
        have h1 := (HSm.out.shareAll (Q.pages.take k)) x hx
        have h2 : (Q.pages.take k).length ≤ k := by simp [Nat.min_le_left]
        omega
      have DR : Hid (Calls Try.prog 46 #[.pointer (some ⟨r, 0, none⟩), .int .i64 (n : Int)] wr.drew _) := rshare_c r rb _ c' _ (HAt.out.drewN 1).pool hbd n
      have HSTP : Hid (∀ e w', RPost r rb (shareAll S (Q.pages.take k)) c' (share1 (shareAll S (Q.pages.take k)) n) wr.drew (.int .i64 (errOf (shareAll S (Q.pages.take k)) n)) e w' → ∃ c'', RAt r rb S c w w' (shareAll S (Q.pages.take (k + 1))) c'') := fun e w' hp => by
        rw [shareAll_take S Q.pages k n hn]
        exact (HAt.out.drewN 1).step hp
      have HRET : Hid (∀ e w', RPost r rb (shareAll S (Q.pages.take k)) c' (share1 (shareAll S (Q.pages.take k)) n) wr.drew (.int .i64 (errOf (shareAll S (Q.pages.take k)) n)) e w' → e = .returned (.int .i64 (errOf (shareAll S (Q.pages.take k)) n))) := fun e w' hp => hp.ret
      have HN := Lib.hid hn
      have KEEP : Hid (∀ (w' : World) c'', RAt r rb S c w w' (shareAll S (Q.pages.take (k + 1))) c'' → w'.cell? ⟨s, 0, none⟩ = some (.pointer (some ⟨r, 0, none⟩)) ∧ w'.cell? ⟨s, 3, none⟩ = some (.slice (some ⟨g, off, none⟩) L cc) ∧ w'.cell? ⟨g, off + k, none⟩ = some (.int .i64 (n : Int))) := fun w' c'' hA => by
        have hq := hA.seq H.out HA.out
        refine ⟨hq.c0, (hq.head.cell 3 _ rfl).trans (congrArg some HV.out), ?_⟩
        obtain ⟨g', off', c3, f1, f2, hkc, -⟩ := hq.page HN.out
        have := HV.out.symm.trans f1
        cases this
        exact hkc
      generalize share1 (shareAll S (Q.pages.take k)) (n : Int) = S2 at *
      generalize errOf (shareAll S (Q.pages.take k)) (n : Int) = er at *
      clear e1 e2 e5 hn hbd
      go_wp2_with fail
      go_region_held3 (fun w' => w'.cell? ⟨s, 0, none⟩ = some (.pointer (some ⟨r, 0, none⟩)) ∧ w'.cell? ⟨s, 3, none⟩ = some (.slice (some ⟨g, off, none⟩) L cc) ∧ w'.cell? ⟨g, off + k, none⟩ = some (.int .i64 (n : Int))) (first | exact ⟨by assumption, by assumption, by assumption⟩ | go_keep)
        ((go_at_call 46; (with_reducible refine DR.out.mono ?_); intro e w' hpost; obtain rfl := HRET.out e w' hpost; obtain ⟨c'', hA⟩ := HSTP.out _ w' hpost; obtain ⟨j0, j3, jc⟩ := KEEP.out w' c'' hA; have HA2 : Hid (∃ c', RAt r rb S c w w' (shareAll S (Q.pages.take (k + 1))) c') := ⟨c'', hA⟩; clear hpost hA))
      go_wp2
      exact ⟨⟨k + 1, by omega, by go_num, HA2⟩, by simp [intOf]; omega⟩
    · obtain rfl : k = L := by omega
      have hkz : ¬ (k : Int) < (k : Int) := by omega
      have k1 := HSk.out.c1
      have k2 := HSk.out.c2
      have k4 := HSk.out.c4
      have k5 := HSk.out.c5
      have hsl := HSk.out.head.lt
      have HPF : Hid (RAt r rb S c w wr (shareAll S Q.pages) c') := by
        have := HAt.out
        rw [← HL.out, List.take_length] at this
        exact this
      have hgE : wr.grownBy ((wr.alloc (.cells #[] 3)).drew) none := by
        have h := World.grownBy_alloc (w := wr) (.cells #[] 3) none
        exact ⟨h.os, h.tape, h.output, h.size, h.block⟩
      have HE : Hid (Row ((wr.alloc (.cells #[] 3)).drew) 3 1 (.slice (some ⟨wr.heap.size, 0, none⟩) 0 0) (some wr.heap.size) 0 []) := (Row.empty (w := wr)).keep (fun _ _ => rfl)
      have hr0 : Row wr 3 1 (.slice a k cc) own k (encN Q.pages) := by
        have := HSk.out.row
        rw [HV.out, HL.out] at this
        exact this
      have HSRC : Hid (Src ((wr.alloc (.cells #[] 3)).drew) a (encN Q.pages)) := kv.Row.src (hr0.chg (((Chg.refl (fun _ => False) wr).alloc _).drew) (fun _ _ => id))
      have hlen : (encN Q.pages).length = k * 1 := by rw [encN_length, HL.out, Nat.mul_one]
      have HLEN := Lib.hid hlen
      have HONE := Lib.hid (encN_one Q.pages)
      have HK : Hid (∀ (w6 : World) (own1 : Option Nat), ((wr.alloc (.cells #[] 3)).drew).grownBy w6 (some wr.heap.size) → w6.cell? ⟨s, 0, none⟩ = some (.pointer (some ⟨r, 0, none⟩)) ∧ w6.cell? ⟨s, 1, none⟩ = some (.string Q.tag) ∧ w6.cell? ⟨s, 2, none⟩ = some (.int .i64 Q.width) ∧ w6.cell? ⟨s, 3, none⟩ = some (.slice a k cc) ∧ w6.cell? ⟨s, 4, none⟩ = some (.int .i64 Q.first) ∧ w6.cell? ⟨s, 5, none⟩ = some (.int .i64 Q.len)) := fun w6 _ hg => by
        have hb : Below wr.heap.size wr w6 := (((Below.refl _ wr).alloc (Nat.le_refl _) _).drew).grown hg (by simp) (fun k hk => by cases hk; exact Nat.le_refl _)
        have hq := HSk.out.below hb
        exact ⟨hq.c0, hq.c1, hq.c2, (hq.head.cell 3 _ rfl).trans (congrArg some HV.out), hq.c4, hq.c5⟩
      have HGE := Lib.hid hgE
      clear hr0 hlen hgE
      go_wp2_with fail
      go_region_held3 (fun w' => w'.cell? ⟨s, 0, none⟩ = some (.pointer (some ⟨r, 0, none⟩)) ∧ w'.cell? ⟨s, 1, none⟩ = some (.string Q.tag) ∧ w'.cell? ⟨s, 2, none⟩ = some (.int .i64 Q.width) ∧ w'.cell? ⟨s, 3, none⟩ = some (.slice a k cc) ∧ w'.cell? ⟨s, 4, none⟩ = some (.int .i64 Q.first) ∧ w'.cell? ⟨s, 5, none⟩ = some (.int .i64 Q.len))
        (first | exact ⟨by assumption, by assumption, by assumption, by assumption, by assumption, by assumption⟩ | go_keep)
        ((refine step_row_append_any rfl (.tmp 37) (.tmp 41) 35 rfl 3 i0 _ 1 Try.underlying35 hi0 (by assumption) hz1 rfl (by decide) (by omega) (.slice (some ⟨wr.heap.size, 0, none⟩) 0 0) (some wr.heap.size) 0 [] (by simp [Act.eval, Act.put]) HE.out a k cc (encN Q.pages) (by simp [Act.eval, Act.put]) HLEN.out HSRC.out HONE.out (by omega) ?_; intro p1 cp1 w6 own1 hrow1 hgrow1 hown1; simp only [Nat.zero_add, List.nil_append] at hrow1; obtain ⟨j0, j1, j2, j3, j4, j5⟩ := HK.out w6 none hgrow1; have HR1 := Lib.hid hrow1; have HG1 := Lib.hid hgrow1; have HO1 := Lib.hid hown1; clear hrow1 hgrow1 hown1))
      have HB6 : Hid (Below wr.heap.size wr w6) := (((Below.refl _ wr).alloc (Nat.le_refl _) _).drew).grown HG1.out (by simp) (fun k hk => by cases hk; exact Nat.le_refl _)
      go_wp2
      go_ret
      have h6 := HB6.out.size
      have hbx := HB6.out.alloc (o := .cells #[.pointer (some ⟨r, 0, none⟩), .string Q.tag, .int .i64 Q.width, .slice p1 k cp1, .int .i64 Q.first, .int .i64 Q.len] 56) h6
      have hwr := HPF.out.chg.size
      obtain ⟨g1, hg1, hgz⟩ : ∃ g1, own1 = some g1 ∧ wr.heap.size ≤ g1 := by
        rcases HO1.out with e | e
        · exact ⟨_, e, Nat.le_refl _⟩
        · exact ⟨_, e, by simp⟩
      subst hg1
      have hgl := HR1.out.lt g1 rfl
      have hlt := HPF.out.pool.lt
      refine ⟨w6.heap.size, rfl, ⟨c', .slice p1 k cp1, g1, HPF.out.below hbx, HSk.out.below hbx, ⟨Bk.new _ _ _, ?_, fun e => ?_, HSk.out.wd, HSk.out.tg, HSk.out.fl, HSk.out.short, HSk.out.few, HSk.out.fit⟩, ⟨fun e => ?_, fun q hq e => ?_⟩, by omega⟩, by omega⟩
      · show Row _ _ _ _ _ Q.pages.length _
        rw [HL.out]
        exact HR1.out.keep (fun q hq => by cases hq; exact Below.heap_alloc _ _ _ hgl)
      · have := Option.some.inj e; omega
      · have := hlt _ e; omega
      · cases hq
        have := hlt _ e; omega
end Go.Proofs.Ytfimadeokdlpnaa.kv
