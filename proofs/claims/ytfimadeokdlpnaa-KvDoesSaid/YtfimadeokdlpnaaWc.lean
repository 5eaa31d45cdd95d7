/- The reference's pool: Free, take, Take. -/
import Derived.Test.YtfimadeokdlpnaaWb
namespace Go.Proofs.Ytfimadeokdlpnaa.kv
open Go.ChangeShapes Go.WideShapes Go.ChangeAt Go.RowKit K
set_option linter.unusedVariables false
set_option linter.unusedSimpArgs false
theorem freeOf_take {S : List Pg} {j : Nat} {x : Pg} (hx : S[j]? = some x) : (S.take (j + 1)).countP (fun x => x.own == 0) = (S.take j).countP (fun x => x.own == 0) + (if x.own = 0 then 1 else 0) := by
  obtain ⟨hj, rfl⟩ := List.getElem?_eq_some_iff.1 hx
  rw [List.take_succ_eq_append_getElem hj, List.countP_append]
  simp [List.countP_cons, List.countP_nil]
variable (r rb : Nat) (S : List Pg) (c : Nat → Nat) (w : World)
set_option maxHeartbeats 1000000 in
theorem rfree_c (h : RP w r rb S c) : Calls Try.prog 51 #[.pointer (some ⟨r, 0, none⟩)] w fun e w' => e = .returned (.int .i64 (freeOf S)) ∧ w = w' := by
  have H := Lib.hid h
  have h0 := h.h0
  have hfew := h.few
  clear h
  go_enter Try.func51, Try.ntmps51
  go_wp2_with fail
  go_loopw [3, 4] (fun s3 s4 wr => ∃ j : Nat, j ≤ S.length ∧ s4 = .int .i64 j ∧ s3 = .int .i64 ((S.take j).countP (fun x => x.own == 0)) ∧ w = wr) (fun _ s4 _ => S.length - (intOf s4).toNat)
  case atStart => exact ⟨0, Nat.zero_le _, rfl, rfl, rfl⟩
  case round =>
    obtain ⟨j, hj, rfl, rfl, rfl⟩ := hrel
    by_cases hjl : j < S.length
    · have hx : S[j]? = some (S[j]'hjl) := List.getElem?_eq_getElem _
      generalize S[j]'hjl = x at hx
      have hr1 := H.out.r1 hx
      have hst := freeOf_take hx
      have hz : (j : Int) < (S.length : Int) := by omega
      have hz0 : (0 : Int) ≤ (j : Int) := by omega
      have hle : (S.take j).countP (fun x => x.own == 0) ≤ S.length := Nat.le_trans List.countP_le_length (by simp; omega)
      clear hx
      generalize (S.take j).countP (fun x => x.own == 0) = q at *
      by_cases ho : x.own = 0
      · rw [if_pos ho] at hst
        have HS := Lib.hid hst
        rw [ho] at hr1
        clear hst
        go_wp2
        exact ⟨⟨j + 1, by omega, by go_num, by rw [HS.out]; go_num, trivial⟩, by simp [intOf]; omega⟩
      · rw [if_neg ho] at hst
        have hzz : ((x.own : Int) == 0) = false := by rw [beq_eq_false_iff_ne]; omega
        have HS := Lib.hid hst
        clear hst
        go_wp2
        exact ⟨⟨j + 1, by omega, by go_num, by rw [HS.out]; rfl, trivial⟩, by simp [intOf]; omega⟩
    · obtain rfl : j = S.length := by omega
      rw [List.take_length] at *
      have hz : ¬ (S.length : Int) < (S.length : Int) := by omega
      go_wp2
      go_ret
      exact ⟨rfl, rfl⟩
theorem zeros_eq {Z : Array Value} (h1 : Z.size = 32) (h2 : ∀ k, k < 32 → Z[k]? = some (.int .i64 0)) : Z = (encI (List.replicate 32 0)).toArray := by
  apply Array.ext
  · simp [h1, encI]
  · intro i hi1 hi2
    have h3 := h2 i (by omega)
    rw [Array.getElem?_eq_getElem hi1] at h3
    have h4 : (encI (List.replicate 32 0)).toArray[i]? = some (.int .i64 0) := by
      rw [List.getElem?_toArray]
      unfold encI
      rw [List.getElem?_map, List.getElem?_replicate, if_pos (by omega)]; rfl
    rw [Array.getElem?_eq_getElem hi2] at h4
    exact (Option.some.inj h3).trans (Option.some.inj h4).symm
theorem RP.r2z {w : World} {r rb : Nat} {S : List Pg} {c : Nat → Nat} (h : RP w r rb S c) {i : Nat} {x : Pg} (hx : S[i]? = some x) (ho : x.own = 0) : w.cell? ⟨rb, i * 3 + 2, none⟩ = some (.slice none 0 0) := by
  obtain ⟨cs, k1, k2, k3⟩ := h.rows
  have := (k3 i x hx).2.2
  unfold cv at this
  rw [if_pos ho] at this
  exact k1.cell _ _ this
theorem RP.take {w : World} {r rb : Nat} {S : List Pg} {c : Nat → Nat} (h : RP w r rb S c) (hf : 0 < freeOf S) (tag : ByteArray) {Z : Array Value} (hZ : Z = (encI (List.replicate 32 0)).toArray) :
    RP ((((w.setCell ⟨rb, ff S * 3, none⟩ (.string tag)).setCell ⟨rb, ff S * 3 + 1, none⟩ (.int .i64 1)).setCell ⟨rb, ff S * 3 + 2, none⟩ (.slice (some ⟨w.heap.size, 0, none⟩) 32 32)).alloc (.cells Z 2)) r rb (take1 S tag) (fun j => if j = ff S then w.heap.size else c j) := by
  obtain ⟨x, hx, ho⟩ := ff_free hf
  obtain ⟨cs, k1, k2, k3⟩ := h.rows
  have hi := (List.getElem?_eq_some_iff.1 hx).1
  have hrl := h.lt r (.inl rfl)
  have hrbl := h.lt rb (.inr (.inl rfl))
  have hcl : ∀ (j : Nat) (z : Pg), S[j]? = some z → z.own ≠ 0 → c j < w.heap.size := fun j z hz hoz => h.lt _ (.inr (.inr ⟨j, z, hz, hoz, rfl⟩))
  have hsz : (((w.setCell ⟨rb, ff S * 3, none⟩ (.string tag)).setCell ⟨rb, ff S * 3 + 1, none⟩ (.int .i64 1)).setCell ⟨rb, ff S * 3 + 2, none⟩ (.slice (some ⟨w.heap.size, 0, none⟩) 32 32)).heap.size = w.heap.size := by simp [World.setCell]
  have hb := Bk.new (((w.setCell ⟨rb, ff S * 3, none⟩ (.string tag)).setCell ⟨rb, ff S * 3 + 1, none⟩ (.int .i64 1)).setCell ⟨rb, ff S * 3 + 2, none⟩ (.slice (some ⟨w.heap.size, 0, none⟩) 32 32)) Z 2
  rw [hsz] at hb
  have h1 := (((k1.set (ff S * 3) (.string tag)).set (ff S * 3 + 1) (.int .i64 1)).set (ff S * 3 + 2) (.slice (some ⟨w.heap.size, 0, none⟩) 32 32)).alloc (.cells Z 2)
  exact h.upd (w' := (((w.setCell ⟨rb, ff S * 3, none⟩ (.string tag)).setCell ⟨rb, ff S * 3 + 1, none⟩ (.int .i64 1)).setCell ⟨rb, ff S * 3 + 2, none⟩ (.slice (some ⟨w.heap.size, 0, none⟩) 32 32)).alloc (.cells Z 2)) (y := Pg.of tag) hx w.heap.size k1
    ((((h.head.other _ _ h.ne).other _ _ h.ne).other _ _ h.ne).alloc _) h1 (by simp)
    (by rw [Array.getElem?_setIfInBounds_ne (by omega), Array.getElem?_setIfInBounds_ne (by omega), Array.getElem?_setIfInBounds_self_of_lt (by first | omega | (simp; omega))]; rfl)
    (by rw [Array.getElem?_setIfInBounds_ne (by omega), Array.getElem?_setIfInBounds_self_of_lt (by first | omega | (simp; omega))]; rfl)
    (by rw [Array.getElem?_setIfInBounds_self_of_lt (by first | omega | (simp; omega))]; rfl)
    (fun k hk => by rw [Array.getElem?_setIfInBounds_ne (by omega), Array.getElem?_setIfInBounds_ne (by omega), Array.getElem?_setIfInBounds_ne (by omega)])
    (fun _ => ⟨by rw [hZ] at hb ⊢; exact hb, by omega, by omega, fun j z hj hz hoz => by have := hcl j z hz hoz; omega⟩)
    (fun j z hj hz hoz => by
      have h3 := (h.cell j z hz hoz).2.2
      rw [Below.heap_alloc _ _ _ (by rw [hsz]; exact hcl j z hz hoz), Below.heap_setCell _ _ _ _ h3, Below.heap_setCell _ _ _ _ h3, Below.heap_setCell _ _ _ _ h3]) (fun e => by cases e) rfl
theorem RP.take_foot {w : World} {r rb : Nat} {S : List Pg} {c : Nat → Nat} (h : RP w r rb S c) (hf : 0 < freeOf S) (tag : ByteArray) : ∀ k, RF r rb (take1 S tag) (fun j => if j = ff S then w.heap.size else c j) k → RF r rb S c k ∨ k = w.heap.size := by
  obtain ⟨x, hx, ho⟩ := ff_free hf
  rintro k (e | e | ⟨j, z, hz, hoz, e⟩)
  · exact .inl (.inl e)
  · exact .inl (.inr (.inl e))
  · unfold take1 at hz
    rw [set_get hx] at hz
    by_cases e2 : j = ff S
    · simp only [if_pos e2] at e; exact .inr e
    · rw [if_neg e2] at hz
      simp only [if_neg e2] at e
      exact .inl (.inr (.inr ⟨j, z, hz, hoz, e⟩))
theorem ff_min {S : List Pg} {j : Nat} {x : Pg} (hj : j < ff S) (hx : S[j]? = some x) : x.own ≠ 0 := by
  have := List.not_of_lt_findIdx (p := fun x : Pg => x.own == 0) hj
  obtain ⟨hlt, rfl⟩ := List.getElem?_eq_some_iff.1 hx
  intro e
  rw [e] at this
  simp at this
/-- Behind the taking of one page. -/
structure Took1 (r rb : Nat) (S : List Pg) (c : Nat → Nat) (tag : ByteArray) (w w' : World) (g f : Nat) : Prop where
  pool : ∃ c', RP w' r rb (take1 S tag) c' ∧ (∀ k, RF r rb (take1 S tag) c' k → RF r rb S c k ∨ w.heap.size ≤ k) ∧ ¬ RF r rb (take1 S tag) c' g
  chg : Chg (RF r rb S c) w w'
  num : w'.cell? ⟨g, f, none⟩ = some (.int .i64 (ff S))
  lt : g < w'.heap.size
  ge : w.heap.size ≤ g
set_option maxHeartbeats 2000000 in
theorem rtake_c (h : RP w r rb S c) (tag : ByteArray) (hf : 0 < freeOf S) : Calls Try.prog 59 #[.pointer (some ⟨r, 0, none⟩), .string tag, .int .i64 1] w fun e w' => ∃ g f cp, e = .returned (.slice (some ⟨g, f, none⟩) 1 cp) ∧ Took1 r rb S c tag w w' g f := by
  obtain ⟨i0, hi0, hz0, hz1, hz2⟩ := info_parts infoI
  obtain ⟨Z, hZ1, hZ2, hmk⟩ := mk_i64 32 32 (Nat.le_refl _) (by omega)
  have hZ := Lib.hid (zeros_eq hZ1 hZ2)
  have hmk : ∀ w, (Instr.makeSlice 33 (.int .i64 32) (.int .i64 32)).run Try.prog w = .ok (.slice (some ⟨w.heap.size, 0, none⟩) 32 32) (w.alloc (.cells Z 2)) := hmk
  have H := Lib.hid h
  have h0 := h.h0
  have hfew := h.few
  have hne := h.ne
  obtain ⟨x, hx, ho⟩ := ff_free hf
  have hfl := (List.getElem?_eq_some_iff.1 hx).1
  have hr1 := h.r1 hx
  rw [ho] at hr1
  have hc0 := h.r0 hx
  have hc2 := h.r2z hx ho
  have hfr0 := h.free (ff S * 3)
  have hfr1 := h.free (ff S * 3 + 1)
  have hfr2 := h.free (ff S * 3 + 2)
  have hrbl := h.lt rb (.inr (.inl rfl))
  have hrl := h.lt r (.inl rfl)
  have HF := Lib.hid hf
  clear h hx hZ1 hZ2 hf
  go_enter Try.func59, Try.ntmps59
  go_wp2_with fail
  go_loopw [7, 8] (fun s7 s8 wr => (∃ j : Nat, j ≤ ff S ∧ s8 = .int .i64 j ∧ s7 = .slice none 0 0 ∧ w = wr) ∨ (s8 = .int .i64 (ff S + 1 : Nat) ∧ ∃ g f cp, s7 = .slice (some ⟨g, f, none⟩) 1 cp ∧ Hid (Took1 r rb S c tag w wr g f))) (fun _ s8 _ => S.length + 1 - (intOf s8).toNat)
  case atStart => exact .inl ⟨0, Nat.zero_le _, rfl, rfl, rfl⟩
  case round =>
    rcases hrel with ⟨j, hj, rfl, rfl, rfl⟩ | ⟨rfl, g, f, cp, rfl, HT⟩
    · by_cases hjl : j < ff S
      · have hx : S[j]? = some (S[j]'(by omega)) := List.getElem?_eq_getElem _
        generalize S[j]'(by omega) = y at hx
        have hry := H.out.r1 hx
        have hyo := ff_min hjl hx
        have hz : (j : Int) < (S.length : Int) := by omega
        have hz0 : (0 : Int) ≤ (j : Int) := by omega
        have hzz : ((y.own : Int) == 0) = false := by rw [beq_eq_false_iff_ne]; omega
        clear hx
        go_wp2
        exact ⟨.inl ⟨j + 1, by omega, by go_num, rfl, trivial⟩, by simp [intOf]; omega⟩
      · obtain rfl : j = ff S := by omega
        have hz : (ff S : Int) < (S.length : Int) := by omega
        have hz0 : (0 : Int) ≤ (ff S : Int) := by omega
        go_wp2_with fail
        have TP := H.out.take HF.out tag hZ.out
        have TF := H.out.take_foot HF.out tag
        have TC : Chg (RF r rb S c) w ((((w.setCell ⟨rb, ff S * 3, none⟩ (.string tag)).setCell ⟨rb, ff S * 3 + 1, none⟩ (.int .i64 1)).setCell ⟨rb, ff S * 3 + 2, none⟩ (.slice (some ⟨w.heap.size, 0, none⟩) 32 32)).alloc (.cells Z 2)) := ((((Chg.refl _ w).setCell _ _ (.inl (.inr (.inl rfl)))).setCell _ _ (.inl (.inr (.inl rfl)))).setCell _ _ (.inl (.inr (.inl rfl)))).alloc _
        have TS : ((((w.setCell ⟨rb, ff S * 3, none⟩ (.string tag)).setCell ⟨rb, ff S * 3 + 1, none⟩ (.int .i64 1)).setCell ⟨rb, ff S * 3 + 2, none⟩ (.slice (some ⟨w.heap.size, 0, none⟩) 32 32)).alloc (.cells Z 2)).heap.size = w.heap.size + 1 := by simp [World.setCell]
        have HTP := Lib.hid TP
        have HTF := Lib.hid TF
        have HTC := Lib.hid TC
        have HTS := Lib.hid TS
        clear TP TF TC TS
        go_region
        all_goals
          generalize (((w.setCell ⟨rb, ff S * 3, none⟩ (.string tag)).setCell ⟨rb, ff S * 3 + 1, none⟩ (.int .i64 1)).setCell ⟨rb, ff S * 3 + 2, none⟩ (.slice (some ⟨w.heap.size, 0, none⟩) 32 32)).alloc (.cells Z 2) = wx at *
          have HTP2 : Hid (RP wx.drew r rb (take1 S tag) (fun j => if j = ff S then w.heap.size else c j)) := HTP.out.drewN 1
          have HTC2 : Hid (Chg (RF r rb S c) w wx.drew) := HTC.out.drew
          have HTS2 : Hid (wx.drew.heap.size = w.heap.size + 1) := HTS.out
          clear HTP HTC HTS
          generalize wx.drew = wy at *
          have HN : Hid (∀ j u, [Value.int .i64 (ff S : Int)][j]? = some u → (wy.alloc (.cells #[.int .i64 (ff S : Int)] 3)).cell? ((⟨wy.heap.size, 0, none⟩ : Addr).add j) = some u) := World.news_of_block (cs := #[.int .i64 (ff S : Int)]) (heap_alloc_new wy _)
          go_wp2_with (at_builtin; refine wpList_row_append rfl (.tmp 42) (.tmp 44) 35 rfl 3 i0 _ 1 Try.underlying35 hi0 (by assumption) hz1 rfl (by decide) (by omega) (.slice none 0 0) none 0 [] rfl (Row.nil _ _ _) ⟨wy.heap.size, 0, none⟩ 1 1 [.int .i64 (ff S : Int)] rfl rfl HN.out (by simp [Value.oneCell']) (by omega) (by omega) ?_; intro g f cp w2 hrow hgrow hown; simp only [Nat.zero_add, List.nil_append] at hrow; have HR := Lib.hid hrow; have HG := Lib.hid hgrow; have HO := Lib.hid hown; clear hrow hgrow hown)
          refine ⟨.inr ⟨by go_num, g, f, cp, rfl, ?_⟩, by simp [intOf]; omega⟩
          have hgs : g = w.heap.size + 2 := by
            rcases HO.out with e | e
            · cases e
            · rw [e]; simp; have := HTS2.out; omega
          have hc2 : Chg (fun _ => False) wy w2 := ((Chg.refl (fun _ => False) wy).alloc _).trans (Chg.of_grown HG.out (fun b e => by cases e)) (fun b h => .inl h)
          have hgl := HR.out.lt g rfl
          refine ⟨⟨_, HTP2.out.chg hc2 (fun _ _ => id), fun k hk => ?_, fun hk => ?_⟩, HTC2.out.trans hc2 (fun b h => h.elim), ?_, hgl, by omega⟩
          · rcases HTF.out k hk with e | e
            · exact .inl e
            · exact .inr (by omega)
          · rcases HTF.out g hk with e | e
            · have := H.out.lt g e; omega
            · omega
          · obtain ⟨b', off, cap, cs, e1, e2, e3, e4, e5, e6, e7⟩ := HR.out.pos (by omega)
            cases e1
            have := e5.cell (f + 0) _ (by rw [e7 0 (by omega)]; rfl)
            exact this
    · obtain ⟨c', hP, hFo, hNg⟩ := HT.out.pool
      have h0w := hP.h0
      rw [take1_len] at h0w
      clear hP hFo hNg h0 hr1 hc0 hc2 hfr0 hfr1 hfr2
      by_cases hq : ff S + 1 < S.length
      · have hqz : (ff S : Int) + 1 < (S.length : Int) := by omega
        go_wp2
        go_ret
        first | exact ⟨g, f, cp, rfl, HT.out⟩ | exact ⟨g, f, ⟨cp, rfl⟩, HT.out⟩
      · have hqz : ¬ (ff S : Int) + 1 < (S.length : Int) := by omega
        go_wp2
        go_ret
        first | exact ⟨g, f, cp, rfl, HT.out⟩ | exact ⟨g, f, ⟨cp, rfl⟩, HT.out⟩
theorem rTake_full (h : RP w r rb S c) (tag : ByteArray) (ht : tag.toList ≠ []) (hf : freeOf S = 0) : Calls Try.prog 39 #[.pointer (some ⟨r, 0, none⟩), .string tag, .int .i64 1] w fun e w' => e = .returned (.tuple #[.slice none 0 0, .int .i64 6]) ∧ ∃ m, w' = w.drewN m := by
  have FR : Hid (∀ n, Calls Try.prog 51 #[.pointer (some ⟨r, 0, none⟩)] (w.drewN n) fun e w' => e = .returned (.int .i64 (freeOf S)) ∧ w.drewN n = w') := fun n => rfree_c r rb S c _ (h.drewN n)
  rw [hf] at FR
  have h1 := h.h1
  have hte : tag.toList.isEmpty = false := by simpa using ht
  clear h
  go_enter Try.func39, Try.ntmps39
  go_wp2_with fail
  go_quiet ((go_at_call 51; exact Calls.quiet_of_same ((FR.out _).mono (fun e w' h => ⟨h.1, h.2.symm⟩))))
  go_wp2
  go_ret2
  exact ⟨rfl, _, rfl⟩
theorem rTake_ok (h : RP w r rb S c) (tag : ByteArray) (ht : tag.toList ≠ []) (hf : 0 < freeOf S) : Calls Try.prog 39 #[.pointer (some ⟨r, 0, none⟩), .string tag, .int .i64 1] w fun e w' => ∃ g f cp, e = .returned (.tuple #[.slice (some ⟨g, f, none⟩) 1 cp, .int .i64 0]) ∧ Took1 r rb S c tag w w' g f := by
  have FR : Hid (∀ n, Calls Try.prog 51 #[.pointer (some ⟨r, 0, none⟩)] (w.drewN n) fun e w' => e = .returned (.int .i64 (freeOf S)) ∧ w.drewN n = w') := fun n => rfree_c r rb S c _ (h.drewN n)
  have TK : Hid (∀ n, Calls Try.prog 59 #[.pointer (some ⟨r, 0, none⟩), .string tag, .int .i64 1] (w.drewN n) fun e w' => ∃ g f cp, e = .returned (.slice (some ⟨g, f, none⟩) 1 cp) ∧ Took1 r rb S c tag w w' g f) := fun n => (rtake_c r rb S c _ (h.drewN n) tag hf).mono fun e w' ⟨g, f, cp, h1, h2⟩ => ⟨g, f, cp, h1, ⟨h2.pool, ⟨h2.chg.os, h2.chg.tape, h2.chg.output, h2.chg.size, h2.chg.block⟩, h2.num, h2.lt, h2.ge⟩⟩
  have h1 := h.h1
  have hfew := h.few
  have hfs : freeOf S ≤ S.length := List.countP_le_length
  have hte : tag.toList.isEmpty = false := by simpa using ht
  generalize hfo : freeOf S = fo at *
  have hz : ¬ (fo : Int) < 1 := by omega
  have hz2 : decide ((fo : Int) < 1) = false := by simp; omega
  have hw1 : IntKind.i64.wrap ((fo : Int) - 0) = (fo : Int) := by unfold IntKind.wrap; simp [IntKind.signed, IntKind.bits]; omega
  have hw2 : IntKind.i64.wrap (fo : Int) = (fo : Int) := by unfold IntKind.wrap; simp [IntKind.signed, IntKind.bits]; omega
  clear h
  go_enter Try.func39, Try.ntmps39
  go_wp2_with fail
  go_quiet ((go_at_call 51; exact Calls.quiet_of_same ((FR.out _).mono (fun e w' h => ⟨h.1, h.2.symm⟩))))
  go_wp2_with fail
  refine (TK.out _).mono ?_
  rintro e w' ⟨g, f, cp, rfl, hT⟩
  have HT := Lib.hid hT
  clear hT
  go_wp2
  go_ret2
  exact ⟨g, f, cp, rfl, HT.out⟩
end Go.Proofs.Ytfimadeokdlpnaa.kv
