/- The pool: Drop, take, Take, Count. -/
import Derived.Test.YtfimadeokdlpnaaVs
import Derived.Test.YtfimadeokdlpnaaRap
namespace Go.Proofs.Ytfimadeokdlpnaa.kv
open Go.ChangeShapes Go.WideShapes Go.ChangeAt Go.RowKit K
set_option linter.unusedVariables false
set_option linter.unusedSimpArgs false
/-- A free page, as the store has it. -/
def noV : Array Value := #[Value.string { data := #[] }, Value.int .i64 0, Value.int .i64 0, Value.int .i64 0, Value.int .i64 0, Value.int .i64 0, Value.int .i64 0, Value.int .i64 0, Value.int .i64 0, Value.int .i64 0, Value.int .i64 0, Value.int .i64 0, Value.int .i64 0, Value.int .i64 0, Value.int .i64 0, Value.int .i64 0, Value.int .i64 0, Value.int .i64 0, Value.int .i64 0, Value.int .i64 0, Value.int .i64 0, Value.int .i64 0, Value.int .i64 0, Value.int .i64 0, Value.int .i64 0, Value.int .i64 0, Value.int .i64 0, Value.int .i64 0, Value.int .i64 0, Value.int .i64 0, Value.int .i64 0, Value.int .i64 0, Value.int .i64 0, Value.int .i64 0]
theorem noV_eq : noV.toList = encG Pg.no := rfl
set_option maxHeartbeats 1000000 in
set_option maxRecDepth 100000 in
theorem drop_c (p b : Nat) (S : List Pg) (w : World) (h : PR w p b S) (n : Int) (hM : ∀ x ∈ S, x.own ≤ 1000000000) :
    Calls Try.prog 48 #[.pointer (some ⟨p, 0, none⟩), .int .i64 n] w (PPost p b (drop1 S n) w (.int .i64 (errOf S n))) := by
  unfold drop1 errOf
  cases hl : look S n with
  | some x =>
    obtain ⟨i, rfl, hx, ho⟩ := look_some hl
    have FI := Lib.hid (find_in p b S w h i x hx ho)
    have hr := h.r1 hx
    have hf := h.free (i * 34 + 1)
    have hlen := h.len hx
    have hm := hM x (List.mem_of_getElem? hx)
    simp only [Int.toNat_natCast]
    by_cases h1 : x.own = 1
    · rw [if_pos h1]
      have H := Lib.hid h
      rw [h1] at hr
      have HX := Lib.hid hx
      have hR1 : Rows (w.setCell ⟨b, i * 34 + 1, none⟩ (.int .i64 0)) b (S.set i { x with own := 0 }) := Rows.one h.rows hx { x with own := 0 } hlen 1 (by omega) _ (fun q hq => by
        rcases q with _ | _ | q
        · rfl
        · rfl
        · rw [if_neg (by omega)]; rfl)
      have hil := (List.getElem?_eq_some_iff.1 hx).1
      have HTH : (w.setCell ⟨b, i * 34 + 1, none⟩ (.int .i64 0)).there b (i * 34) noV.size := hR1.there (by simpa using hil)
      have hR2 := hR1.page (i := i) (by simpa using hil) Pg.no rfl
      rw [List.set_set] at hR2
      have hB2 : Bk ((w.setCell ⟨b, i * 34 + 1, none⟩ (.int .i64 0)).setCells b (i * 34) (encG Pg.no)) p _ 67 := bk_sets_other h.ne _ _ _ (h.head.other _ _ h.ne)
      have hC2 : Chg (fun k => k = p ∨ k = b) w ((w.setCell ⟨b, i * 34 + 1, none⟩ (.int .i64 0)).setCells b (i * 34) (encG Pg.no)) := chg_sets _ _ _ ((Chg.refl _ _).setCell _ _ (.inl (.inr rfl))) (.inr rfl)
      have hfr : freeOf (S.set i Pg.no) = freeOf S + 1 := by rw [freeOf_set Pg.no hx, if_neg ho]; rfl
      have hfle : freeOf S ≤ S.length := List.countP_le_length
      have hfew := h.few
      obtain ⟨W, hW⟩ : ∃ W, (w.setCell ⟨b, i * 34 + 1, none⟩ (.int .i64 0)).setCells b (i * 34) noV.toList = W := ⟨_, rfl⟩
      rw [← noV_eq, hW] at hR2 hB2 hC2
      have HTHH := Lib.hid HTH
      have HWW := Lib.hid hW
      have hb1 := hB2.cell 1 (.int .i64 (freeOf S)) rfl
      have hb2 := hB2.free 1
      have HR := Lib.hid hR2
      have HB := Lib.hid hB2
      have HC := Lib.hid hC2
      have HFR := Lib.hid hfr
      clear hR1 HTH hW hR2 hB2 hC2 hfr
      generalize hfS : freeOf S = fS at *
      have HFS := Lib.hid hfS
      clear h hl hx ho hlen hM hm hfS
      go_enter Try.func48, Try.ntmps48
      go_wp2_with fail
      refine FI.out.mono ?_
      rintro e w' ⟨rfl, rfl⟩
      go_wp2_with ((with_reducible show wpList _ _ _ (Oper.mk _ (Op.store 77 _ _) _ _ _ _ :: _) _ _); refine wpList_store_mid rfl 77 (.tmp 25) (.tmp 24) rfl b (i * 34) noV rfl rfl HTHH.out rfl (by simp [noV, Value.oneCell']) ?_; rw [HWW.out])
      go_ret
      refine ⟨rfl, ⟨?_, HR.out.keep ?_, ?_, H.out.ne⟩, HC.out.setCell _ _ (.inl (.inl rfl))⟩
      · rw [HFR.out, List.length_set]; exact HB.out.set 1 _
      · exact Below.heap_setCell _ _ _ _ (fun e => H.out.ne e.symm)
      · rw [List.length_set]; exact H.out.few
    · rw [if_neg h1]
      have ONE := h.one hx { x with own := x.own - 1 } hlen ⟨fun e => by simp at e; omega, fun e => absurd e ho⟩ 1 (by omega) (.int .i64 ((x.own : Int) - 1)) (fun q hq => by
        rcases q with _ | _ | q
        · rfl
        · show some (Value.int .i64 ((x.own - 1 : Nat) : Int)) = _
          rw [if_pos rfl]; congr 2; omega
        · rw [if_neg (by omega)]; rfl) h.ne
      have HO := Lib.hid ONE
      generalize hS : S.set i { x with own := x.own - 1 } = S' at HO ⊢
      generalize x.own = o at *
      have hz : ((o : Int) - 1 == 0) = false := by rw [beq_eq_false_iff_ne]; omega
      clear h hl hx ONE hlen hM hS
      go_enter Try.func48, Try.ntmps48
      go_wp2_with fail
      refine FI.out.mono ?_
      rintro e w' ⟨rfl, rfl⟩
      go_wp2
      go_ret
      exact ⟨rfl, HO.out.1, HO.out.2⟩
  | none =>
    have FI := Lib.hid (find_none p b S w h n hl)
    have H := Lib.hid h
    clear h hl hM
    go_enter Try.func48, Try.ntmps48
    go_wp2_with fail
    refine FI.out.mono ?_
    rintro e w' ⟨rfl, rfl⟩
    go_wp2
    go_ret
    exact PPost.same H.out
/-- The free page with the least number. -/
def ff (S : List Pg) : Nat := S.findIdx (fun x => x.own == 0)
def Pg.of (tag : ByteArray) : Pg := ⟨tag, 1, List.replicate 32 0⟩
def take1 (S : List Pg) (tag : ByteArray) : List Pg := S.set (ff S) (Pg.of tag)
theorem ff_lt {S : List Pg} (h : 0 < freeOf S) : ff S < S.length := by
  unfold ff
  rw [List.findIdx_lt_length]
  obtain ⟨x, h1, h2⟩ := List.countP_pos_iff.1 h
  exact ⟨x, h1, h2⟩
theorem ff_at {S : List Pg} (h : 0 < freeOf S) : ∃ x, S[ff S]? = some x ∧ x.own = 0 := by
  have hl := ff_lt h
  refine ⟨S[ff S], List.getElem?_eq_getElem hl, ?_⟩
  have e : (S[ff S].own == 0) = true := List.findIdx_getElem (p := fun (x : Pg) => x.own == 0) (w := hl)
  simpa using e
theorem ff_before {S : List Pg} {j : Nat} {x : Pg} (hj : j < ff S) (hx : S[j]? = some x) : x.own ≠ 0 := by
  have := List.not_of_lt_findIdx hj
  obtain ⟨h1, rfl⟩ := List.getElem?_eq_some_iff.1 hx
  simpa using this
def takeV (tag : ByteArray) : Array Value := #[Value.string tag, Value.int .i64 1, Value.int .i64 0, Value.int .i64 0, Value.int .i64 0, Value.int .i64 0, Value.int .i64 0, Value.int .i64 0, Value.int .i64 0, Value.int .i64 0, Value.int .i64 0, Value.int .i64 0, Value.int .i64 0, Value.int .i64 0, Value.int .i64 0, Value.int .i64 0, Value.int .i64 0, Value.int .i64 0, Value.int .i64 0, Value.int .i64 0, Value.int .i64 0, Value.int .i64 0, Value.int .i64 0, Value.int .i64 0, Value.int .i64 0, Value.int .i64 0, Value.int .i64 0, Value.int .i64 0, Value.int .i64 0, Value.int .i64 0, Value.int .i64 0, Value.int .i64 0, Value.int .i64 0, Value.int .i64 0]
theorem takeV_eq (tag : ByteArray) : (takeV tag).toList = encG (Pg.of tag) := rfl
theorem takeV_one (tag : ByteArray) : (takeV tag).all (·.oneCell') = true := by simp [takeV, Value.oneCell']
theorem infoI : (Try.prog.info? 3).map (fun i => (i.zero, i.size, i.bytes)) = some (some (.int .i64 0), 1, 8) := by kernel_rfl
theorem infoL : (Try.prog.info? 2).map (fun i => (i.zero, i.size, i.bytes)) = some (some (.int .i64 0), 1, 8) := by kernel_rfl
theorem mk_int (l c : Nat) (hl : l ≤ c) (hc : c ≤ 1000000) : ∃ Z : Array Value, Z.size = c ∧ (∀ k, k < c → Z[k]? = some (.int .i64 0)) ∧
    ∀ w, (Instr.makeSlice 35 (.int .i64 (l : Int)) (.int .i64 (c : Int))).run Try.prog w = .ok (.slice (some ⟨w.heap.size, 0, none⟩) l c) (w.alloc (.cells Z 3)) := by
  obtain ⟨i0, hi0, hz0, hz1, hz2⟩ := info_parts infoI
  refine ⟨madeCells (Value.int .i64 0).cells (((c : Int)).toNat * i0.size), by rw [hz1]; simp [size_madeCells], fun k hk => by rw [hz1]; simp [madeCells, Value.cells, hk, Nat.mod_one], fun w => ?_⟩
  have h := run_make (P := Try.prog) w 35 3 i0 _ Try.underlying35 hi0 hz0 .i64 .i64 (l : Int) (c : Int) (by omega) (by omega) (by rw [hz2]; omega) (by omega)
  simpa using h
theorem mk_i64 (l c : Nat) (hl : l ≤ c) (hc : c ≤ 1000000) : ∃ Z : Array Value, Z.size = c ∧ (∀ k, k < c → Z[k]? = some (.int .i64 0)) ∧
    ∀ w, (Instr.makeSlice 33 (.int .i64 (l : Int)) (.int .i64 (c : Int))).run Try.prog w = .ok (.slice (some ⟨w.heap.size, 0, none⟩) l c) (w.alloc (.cells Z 2)) := by
  obtain ⟨i0, hi0, hz0, hz1, hz2⟩ := info_parts infoL
  refine ⟨madeCells (Value.int .i64 0).cells (((c : Int)).toNat * i0.size), by rw [hz1]; simp [size_madeCells], fun k hk => by rw [hz1]; simp [madeCells, Value.cells, hk, Nat.mod_one], fun w => ?_⟩
  have h := run_make (P := Try.prog) w 33 2 i0 _ Try.underlying33 hi0 hz0 .i64 .i64 (l : Int) (c : Int) (by omega) (by omega) (by rw [hz2]; omega) (by omega)
  simpa using h
/-- Behind take's page. -/
structure Took (p b : Nat) (S S' : List Pg) (w wr : World) (g f : Nat) (j : Nat) : Prop where
  head : Bk wr p #[.slice (some ⟨b, 0, none⟩) S.length S.length, .int .i64 (freeOf S), .int .i64 0] 67
  rows : Rows wr b S'
  chg : Chg (fun k => k = p ∨ k = b) w wr
  cell : wr.cell? ⟨g, f, none⟩ = some (.int .i64 j)
  glt : g < wr.heap.size
  new : w.heap.size ≤ g
set_option maxHeartbeats 2000000 in
set_option maxRecDepth 100000 in
theorem take_c (p b : Nat) (S : List Pg) (w : World) (h : PR w p b S) (tag : ByteArray) (hp : 0 < freeOf S) :
    Calls Try.prog 63 #[.pointer (some ⟨p, 0, none⟩), .string tag, .int .i64 1] w fun e w' =>
      ∃ g f cp, e = .returned (.slice (some ⟨g, f, none⟩) 1 cp) ∧ PR w' p b (take1 S tag) ∧ Chg (fun k => k = p ∨ k = b) w w' ∧ w'.cell? ⟨g, f, none⟩ = some (.int .i64 (ff S)) ∧ g < w'.heap.size := by
  obtain ⟨i0, hi0, hz0, hz1, hz2⟩ := info_parts infoI
  have H := Lib.hid h
  have HP := Lib.hid hp
  have hl := ff_lt hp
  have hfew := h.few
  obtain ⟨Z, hZ1, hZ2, hmk⟩ := mk_int 0 1 (by omega) (by omega)
  have hH1 := h.below ((Below.refl _ w).alloc (Nat.le_refl _) (.cells Z 3))
  have HB1 : Hid (Bk (w.alloc (.cells Z 3)) w.heap.size Z 3) := Bk.new _ _ _
  have HZ := Lib.hid hZ1
  have hpl := h.head.lt
  have hbl := h.lt
  have hpb := h.ne
  clear h hp hZ1 hZ2
  have hmk' := hmk w
  simp only [Int.natCast_zero, Int.natCast_one] at hmk'
  clear hmk
  obtain ⟨w1, hw1⟩ : ∃ w1, w.alloc (.cells Z 3) = w1 := ⟨_, rfl⟩
  have hs1 : w1.heap.size = w.heap.size + 1 := by rw [← hw1]; simp
  have HC1 : Hid (Chg (fun k => k = p ∨ k = b) w w1) := by rw [← hw1]; exact (Chg.refl _ w).alloc _
  rw [hw1] at hmk' HB1 hH1
  have H1 := Lib.hid hH1
  clear hw1 hH1
  go_enter Try.func63, Try.ntmps63
  go_wp2_with fail
  go_loopw [7, 8] (fun s7 s8 wr => (∃ j : Nat, j ≤ ff S ∧ s8 = .int .i64 j ∧ s7 = .slice (some ⟨w.heap.size, 0, none⟩) 0 1 ∧ wr = w1) ∨ (∃ g f cp, s8 = .int .i64 ((ff S + 1 : Nat) : Int) ∧ s7 = .slice (some ⟨g, f, none⟩) 1 cp ∧ Hid (Took p b S (take1 S tag) w wr g f (ff S)))) (fun _ s8 _ => (ff S + 1) - (intOf s8).toNat)
  case atStart => exact .inl ⟨0, Nat.zero_le _, rfl, rfl, rfl⟩
  case round =>
    rcases hrel with ⟨j, hj, rfl, rfl, rfl⟩ | ⟨g, f, cp, rfl, rfl, HT⟩
    · have h0 := H1.out.h0
      have hjl : (j : Int) < (S.length : Int) := by omega
      have hj0 : (0 : Int) ≤ (j : Int) := by omega
      by_cases hjf : j < ff S
      · have hx : S[j]? = some (S[j]'(by omega)) := List.getElem?_eq_getElem _
        have ho := ff_before hjf hx
        have hr := H1.out.r1 hx
        generalize (S[j]'(by omega)).own = o at ho hr
        have hz : ((o : Int) == 0) = false := by rw [beq_eq_false_iff_ne]; omega
        clear hx
        go_wp2
        exact ⟨.inl ⟨j + 1, by omega, by go_num, rfl, trivial⟩, by simp [intOf]; omega⟩
      · obtain rfl : j = ff S := by omega
        obtain ⟨x, hx, ho⟩ := ff_at HP.out
        have hr := H1.out.r1 hx
        rw [ho] at hr
        have HX := Lib.hid hx
        have hb1 := H1.out.lt
        have HTH : Hid (wr.there b (ff S * 34) (takeV tag).size) := H1.out.rows.there hl
        have HW1 : Rows (wr.setCells b (ff S * 34) (takeV tag).toList) b (take1 S tag) := by rw [takeV_eq]; exact Rows.page H1.out.rows hl (Pg.of tag) rfl
        have HW2 : Bk (wr.setCells b (ff S * 34) (takeV tag).toList) p _ 67 := bk_sets_other hpb _ _ _ H1.out.head
        have HW3 : Bk (wr.setCells b (ff S * 34) (takeV tag).toList) w.heap.size Z 3 := bk_sets_other (by omega) _ _ _ HB1.out
        have HW4 : Chg (fun k => k = p ∨ k = b) w (wr.setCells b (ff S * 34) (takeV tag).toList) := chg_sets _ _ _ HC1.out (.inr rfl)
        obtain ⟨W, hW⟩ : ∃ W, wr.setCells b (ff S * 34) (takeV tag).toList = W := ⟨_, rfl⟩
        rw [hW] at HW1 HW2 HW3 HW4
        have HWW := Lib.hid hW
        have hWs := HW3.lt
        have HROW : Hid (Row (W.alloc (.cells #[.int .i64 (ff S)] 3)) 3 1 (.slice (some ⟨w.heap.size, 0, none⟩) 0 1) (some w.heap.size) 0 []) :=
          ⟨rfl, .inr ⟨w.heap.size, 0, 1, Z, rfl, rfl, by omega, by unfold maxLen; omega, HW3.alloc _, by rw [HZ.out]; omega, fun j hj => by omega⟩⟩
        have HN : Hid (∀ j u, [Value.int .i64 (ff S)][j]? = some u → (W.alloc (.cells #[.int .i64 (ff S)] 3)).cell? ((⟨W.heap.size, 0, none⟩ : Addr).add j) = some u) := by
          intro j u hu
          rcases j with _ | j
          · simp at hu; subst hu
            rw [Addr.add_lit]
            exact (Bk.new W #[.int .i64 (ff S)] 3).cell 0 _ rfl
          · simp at hu
        have HA1 := Lib.hid HW1
        have HA2 := Lib.hid HW2
        have HA4 := Lib.hid HW4
        clear hx hW HW1 HW2 HW3 HW4
        go_wp2_with (first | ((with_reducible show wpList _ _ _ (Oper.mk _ (Op.store 77 _ _) _ _ _ _ :: _) _ _); refine wpList_store_mid rfl 77 (.tmp 33) (.tmp 32) rfl b (ff S * 34) (takeV tag) rfl rfl HTH.out rfl (takeV_one tag) ?_; rw [HWW.out]) | (at_builtin; refine wpList_row_append rfl (.tmp 34) (.tmp 36) 35 rfl 3 i0 _ 1 Try.underlying35 hi0 hz0 hz1 rfl (by decide) (by omega) (.slice (some ⟨w.heap.size, 0, none⟩) 0 1) (some w.heap.size) 0 [] rfl HROW.out ⟨W.heap.size, 0, none⟩ 1 1 [.int .i64 (ff S)] rfl rfl HN.out (by simp [Value.oneCell']) (by omega) (by omega) ?_; intro g f cp w2 hrow hgrow hown; simp only [Nat.zero_add, List.nil_append] at hrow; have HRW := Lib.hid hrow; have HGW := Lib.hid hgrow; have HOW := Lib.hid hown; clear hrow hgrow hown))
        have HT : Hid (Took p b S (take1 S tag) w w2 g f (ff S)) := by
          have hrow := HRW.out
          have hgrow := HGW.out
          have hown := HOW.out
          have hsz := hgrow.size
          simp only [World.size_alloc] at hsz
          have hg1 : w.heap.size ≤ g := by
            rcases hown with e | e
            · have := Option.some.inj e; omega
            · simp at e; omega
          obtain ⟨g', f', cap', cs, e1, e2, _, _, hbk, hfit, hcs⟩ := hrow.pos (by omega)
          cases e1
          refine ⟨(HA2.out.alloc _).grown hgrow (by simp <;> omega), (Rows.keep HA1.out (Below.heap_alloc _ _ _ (by omega))).keep (hgrow.block b (by simp <;> omega) (by simp <;> omega)), ?_, hbk.cell _ _ (hcs 0 (by omega)), hbk.lt, hg1⟩
          exact (HA4.out.alloc _).trans (Chg.of_grown (F := fun k => k = w.heap.size) hgrow (fun k e => Option.some.inj e)) (fun k e => .inr (by omega))
        exact ⟨.inr ⟨g, f, cp, by go_num, rfl, HT⟩, by simp [intOf]⟩
    · have h1 := HT.out.head.cell 1 (.int .i64 (freeOf S)) rfl
      have h2 := HT.out.head.free 1
      have hfle : freeOf S ≤ S.length := List.countP_le_length
      have hf0 := HP.out
      go_wp2
      go_ret
      refine ⟨g, f, cp, rfl, ⟨?_, HT.out.rows.keep ?_, ?_, H.out.ne⟩, HT.out.chg.setCell _ _ (.inl (.inl rfl)), ?_, by simpa [World.setCell] using HT.out.glt⟩
      · have e : freeOf (take1 S tag) = freeOf S - 1 := by
          obtain ⟨x, hx, ho⟩ := ff_at HP.out
          unfold take1
          rw [freeOf_set (Pg.of tag) hx, if_pos ho]
          simp [Pg.of]
        rw [e, show (take1 S tag).length = S.length by simp [take1], show ((freeOf S - 1 : Nat) : Int) = (freeOf S : Int) - 1 by omega]
        exact HT.out.head.set 1 _
      · exact Below.heap_setCell _ _ _ _ (fun e => H.out.ne e.symm)
      · simp [take1]; exact H.out.few
      · have := HT.out.new
        exact (World.cell?_of_block (Below.heap_setCell _ _ _ _ (by show g ≠ p; omega))).trans HT.out.cell
end Go.Proofs.Ytfimadeokdlpnaa.kv
