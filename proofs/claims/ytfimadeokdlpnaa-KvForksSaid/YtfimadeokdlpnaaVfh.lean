/- KvForks: the walk. -/
import Derived.Test.YtfimadeokdlpnaaVfi
import Derived.Deep.CutRange
import Derived.Deep.CutBlock
import Derived.Deep.RegionHeld3
import Derived.Deep.QuietTactic
import Derived.BigQuiet
namespace Go.Proofs.Ytfimadeokdlpnaa.kv
open Go.ChangeShapes Go.WideShapes Go.ChangeAt Go.RowKit K
set_option linter.unusedVariables false
set_option linter.unusedSimpArgs false
theorem infoSq : (Try.prog.info? 28).map (fun i => (i.zero, i.size, i.bytes)) = some (some (.pointer none), 1, 8) := by kernel_rfl
theorem infoSl : (Try.prog.info? 33).map (fun i => (i.zero, i.size, i.bytes)) = some (some (.slice none 0 0), 1, 24) := by kernel_rfl
theorem Bk.over {w : World} {b : Nat} {cs : Array Value} {t : TypeId} (h : Bk w b cs t) (o : Obj) : Bk (w.alloc o) b cs t := ((Chg.refl (fun _ => False) w).alloc o).bk h id
theorem Mid.start {B : Nat} {w0 w : World} {p b s W : Nat} {x : Ent} (hx : x.Q = ⟨tagR, W, [], 0, 0⟩) (hM : Many B w p b (List.replicate 64 Pg.no) [x]) (hW : 1 ≤ W ∧ W ≤ 32) (hb : Below B w0 w) (hs : x.s = s) :
    Mid B w0 ((w.alloc (.cells #[.pointer (some ⟨s, 0, none⟩)] 28)).alloc (.cells #[.slice none 0 0] 33)) p b W 0 [x] (List.replicate 64 Pg.no) [[]] ([x].map ptrOf) [[]] (.slice (some ⟨w.heap.size, 0, none⟩) 1 1) w.heap.size (.slice (some ⟨w.heap.size + 1, 0, none⟩) 1 1) (w.heap.size + 1) [(.slice none 0 0, none)] := by
  have hB := hM.size
  have hbb : Below w.heap.size w ((w.alloc (.cells #[.pointer (some ⟨s, 0, none⟩)] 28)).alloc (.cells #[.slice none 0 0] 33)) := ((Below.refl _ w).alloc (Nat.le_refl _) _).alloc (by simp) _
  have hsz : ((w.alloc (.cells #[.pointer (some ⟨s, 0, none⟩)] 28)).alloc (.cells #[.slice none 0 0] 33)).heap.size = w.heap.size + 2 := by simp
  have k1 : Bk ((w.alloc (.cells #[.pointer (some ⟨s, 0, none⟩)] 28)).alloc (.cells #[.slice none 0 0] 33)) w.heap.size #[.pointer (some ⟨s, 0, none⟩)] 28 := Bk.over (Bk.new w _ _) _
  have k2 : Bk ((w.alloc (.cells #[.pointer (some ⟨s, 0, none⟩)] 28)).alloc (.cells #[.slice none 0 0] 33)) (w.heap.size + 1) #[.slice none 0 0] 33 := by
    have := Bk.new (w.alloc (.cells #[.pointer (some ⟨s, 0, none⟩)] 28)) #[.slice none 0 0] 33
    rw [show (w.alloc (.cells #[.pointer (some ⟨s, 0, none⟩)] 28)).heap.size = w.heap.size + 1 by simp] at this
    exact this
  have s1 := hM.safe (k := w.heap.size) (w' := (w.alloc (.cells #[.pointer (some ⟨s, 0, none⟩)] 28)).alloc (.cells #[.slice none 0 0] 33)) (Nat.le_refl _) (by omega)
  have s2 := hM.safe (k := w.heap.size + 1) (w' := (w.alloc (.cells #[.pointer (some ⟨s, 0, none⟩)] 28)).alloc (.cells #[.slice none 0 0] 33)) (by omega) (by omega)
  generalize (w.alloc (.cells #[.pointer (some ⟨s, 0, none⟩)] 28)).alloc (.cells #[.slice none 0 0] 33) = W2 at *
  refine ⟨hM.below hbb, by rw [List.map_singleton, hx]; exact Fam.start hW, ⟨?_, ?_, s1, s2, hB, by omega, by omega, rfl, fun j l r h1 h2 => ?_⟩, bstep hb hbb hB, by simp, fun k l hk => ?_, by omega⟩
  · refine ⟨rfl, .inr ⟨_, 0, 1, _, rfl, rfl, Nat.le_refl _, by unfold maxLen; omega, k1, by simp, fun j hj => ?_⟩⟩
    obtain rfl : j = 0 := by simp at hj; omega
    simp [ptrOf, hs]
  · refine ⟨rfl, .inr ⟨_, 0, 1, _, rfl, rfl, Nat.le_refl _, by unfold maxLen; omega, k2, by simp, fun j hj => ?_⟩⟩
    obtain rfl : j = 0 := by simp at hj; omega
    simp
  · rw [List.getElem?_singleton] at h1 h2
    split at h1
    next e =>
      rw [if_pos e] at h2
      cases h1; cases h2
      exact ⟨Row.nil _ _ _, fun k hk => by cases hk⟩
    · cases h1
  · rw [List.getElem?_singleton] at hk
    split at hk
    · cases hk; simp
    · cases hk
theorem Mid.cellS {B : Nat} {w0 w : World} {p b W i : Nat} {L : List Ent} {S : List Pg} {I : List (List Nat)} {ps : List Value} {I0 : List (List Nat)} {ks f n c : Nat} {vi : Value} {ki : Nat} {rv : List (Value × Option Nat)} (h : Mid B w0 w p b W i L S I ps I0 (.slice (some ⟨ks, f, none⟩) n c) ks vi ki rv) {k : Nat} {u : Value} (hu : ps[k]? = some u) : w.cell? ⟨ks, f + k, none⟩ = some u := by
  obtain ⟨f', c', e, hh⟩ := h.seqAt
  cases e
  exact hh k u hu
theorem Mid.cellI {B : Nat} {w0 w : World} {p b W i : Nat} {L : List Ent} {S : List Pg} {I : List (List Nat)} {ps : List Value} {I0 : List (List Nat)} {ki f n c : Nat} {vs : Value} {ks : Nat} {rv : List (Value × Option Nat)} (h : Mid B w0 w p b W i L S I ps I0 vs ks (.slice (some ⟨ki, f, none⟩) n c) ki rv) {k : Nat} {l : List Nat} (hl : I0[k]? = some l) : n = I0.length ∧ (∀ k, w.frozen? ⟨ki, k, none⟩ = false) ∧ ∃ q c o, rv[k]? = some (.slice q l.length c, o) ∧ w.cell? ⟨ki, f + k, none⟩ = some (.slice q l.length c) ∧ Row w 2 1 (.slice q l.length c) o l.length (encL l) := by
  obtain ⟨f', c', e, hf, hh⟩ := h.inAt
  cases e
  exact ⟨rfl, hf, hh k l hl⟩
theorem map_ptr_set {L : List Ent} {k : Nat} {x y : Ent} (hx : L[k]? = some x) (hs : y.s = x.s) : (L.set k y).map ptrOf = L.map ptrOf := by
  refine List.ext_getElem? fun j => ?_
  rw [List.getElem?_map, List.getElem?_map, List.getElem?_set]
  by_cases e : k = j
  · subst e
    rw [if_pos rfl, hx, if_pos (List.getElem?_eq_some_iff.1 hx).1]
    unfold ptrOf
    simp only [Option.map_some, hs]
  · rw [if_neg e]
theorem Mid.putRow2 {B : Nat} {w0 w w' : World} {p b W i : Nat} {L : List Ent} {S : List Pg} {I : List (List Nat)} {ps : List Value} {vs : Value} {ks : Nat} {ki : Nat} {rv : List (Value × Option Nat)} {k s f c g nn : Nat} {l : List Nat} {q : Option Addr} {o : Option Nat} (hnn : nn = I.length) (h : Mid B w0 w p b W i L S (I.set k (l ++ [s])) ps I vs ks (.slice (some ⟨ki, f, none⟩) nn c) ki rv) (hk : k < nn) (hb : Below w.heap.size w w') (hr : Row w' 2 1 (.slice q (l.length + 1) g) o (l.length + 1) (encL l ++ [.int .i64 (s : Int)])) (ho : ∀ m, o = some m → w.heap.size ≤ m) :
    Mid B w0 (w'.setCell ⟨ki, f + k, none⟩ (.slice q (l.length + 1) g)) p b W i L S (I.set k (l ++ [s])) ps (I.set k (l ++ [s])) vs ks (.slice (some ⟨ki, f, none⟩) nn c) ki (rv.set k (.slice q (l.length + 1) g, o)) := by
  subst hnn
  exact h.putRow hk hb hr ho
def FAt (B : Nat) (w0 : World) (p b W i : Nat) (v9 v10 : Value) (wr : World) : Prop := ∃ L S I ks ki rv, Mid B w0 wr p b W i L S I (L.map ptrOf) I v9 ks v10 ki rv
set_option maxHeartbeats 8000000 in
set_option maxRecDepth 100000 in
theorem forks_walk (w : World) (a0 : Int) (h0 : okI a0) (lp : Option Addr) (m lc : Nat) (hm : m ≤ 9223372036854775807) (ops : List KOp) (hol : ops.length = m) (hop : KActs w lp ops) :
    Calls Try.prog 6 #[.int .i64 a0, .slice lp m lc] w fun e w' => e = .returned (.bool true) ∧ Below w.heap.size w w' := by
  obtain ⟨i0, hi0, hz0, hz1, hz2⟩ := info_parts infoL
  obtain ⟨j0, hj0, hy0, hy1, hy2⟩ := info_parts infoSq
  obtain ⟨m0, hm0, hx0, hx1, hx2⟩ := info_parts infoSl
  have HOL := Lib.hid hol
  have HOP := Lib.hid hop
  clear hol hop
  go_enter Try.func6, Try.ntmps6
  go_wp2_with fail
  refine (works_c _).mono ?_
  rintro e w1 ⟨rfl, hb1⟩
  have HB1 := Lib.hid hb1
  clear hb1
  go_wp2_with fail
  obtain ⟨u0, u1, u2⟩ := um_bd a0 32 (by omega) (by omega)
  generalize ht0 : wrap64 (1 + wrap64 ((IntKind.u64.wrap a0).tmod 32)) = wt at *
  obtain ⟨W, rfl⟩ : ∃ W : Nat, wt = W := ⟨wt.toNat, by omega⟩
  have hW : 1 ≤ W ∧ W ≤ 32 := by omega
  clear u0 u1 u2 ht0
  refine (new_c 64 (by omega) (by omega) w1).mono ?_
  rintro e w2 ⟨p, b, rfl, hp, hb, hpB, hbB⟩
  have HP := Lib.hid hp
  have HB2 := Lib.hid (below_step HB1.out hb)
  have KN := Lib.hid (knew_c p w2 { data := #[114] } tagR_ne W hW.1 hW.2)
  clear hp hb
  have hs1 := HB1.out.size
  have hs2 := HB2.out.size
  have hpl := HP.out.head.lt
  have hbl := HP.out.lt
  go_wp2_with fail
  refine KN.out.mono ?_
  rintro e w3 ⟨rfl, hs, hb3⟩
  have HM0 : Hid (FAt w.heap.size w p b W 0 (.slice (some ⟨w3.heap.size, 0, none⟩) 1 1) (.slice (some ⟨w3.heap.size + 1, 0, none⟩) 1 1) ((w3.alloc (.cells #[.pointer (some ⟨w2.heap.size, 0, none⟩)] 28)).alloc (.cells #[.slice none 0 0] 33))) :=
    ⟨_, _, _, _, _, _, Mid.start rfl (Many.start (HP.out.below hb3) (by omega) (by omega) hs hs2 (by omega) (by omega)) hW (below_step HB2.out hb3) rfl⟩
  clear KN HP HB1 HB2 hs hb3 hpB hbB hpl hbl hs1
  generalize hs0 : w2.heap.size = s0 at *
  clear hs0
  go_wp2_with fail
  go_loopw [9, 10, 11] (fun s9 s10 s11 wr => ∃ i : Nat, i ≤ m ∧ i ≤ 40 ∧ s11 = .int .i64 i ∧ Hid (FAt w.heap.size w p b W i s9 s10 wr)) (fun _ _ s11 _ => m - (intOf s11).toNat)
  case atStart => exact ⟨0, by omega, by omega, rfl, HM0⟩
  case round =>
    obtain ⟨i, him, hi40, rfl, HK⟩ := hrel
    obtain ⟨L, S, I, ks, ki, rv, hMid⟩ := HK.out
    obtain ⟨f9, c9, hv9, hc9⟩ := hMid.seqAt
    obtain ⟨f10, c10, hv10, hfz10, hc10⟩ := hMid.inAt
    rw [List.length_map] at hv9
    rw [hMid.eql] at hv10
    subst hv9
    subst hv10
    have hcnt := hMid.cnt
    have HMid := Lib.hid hMid
    have HC9 := Lib.hid hc9
    have HC10 := Lib.hid hc10
    have HFZ := Lib.hid hfz10
    have HLn := Lib.hid (show (L.map ptrOf).length = L.length by simp)
    have hB := hMid.bel.size
    have hks := hMid.side.sS.lt
    have hki := hMid.side.sI.lt
    clear hMid hc9 hc10 hfz10 HK HM0
    obtain ⟨n, hn⟩ : ∃ n, L.length = n := ⟨_, rfl⟩
    rw [hn] at hcnt ⊢
    have hun : IntKind.u64.wrap (n : Int) = (n : Int) := by simp [IntKind.wrap, IntKind.signed, IntKind.bits]; omega
    have hnz : ((n : Int) == 0) = false := by rw [beq_eq_false_iff_ne]; omega
    have hnz2 : ¬ n = 0 := by omega
    by_cases hlt : i < m ∧ i < 40
    · have hkz : (i : Int) < (m : Int) := by omega
      have hkz2 : (i : Int) < 40 := by omega
      have hkz0 : (0 : Int) ≤ (i : Int) := by omega
      obtain ⟨x, hx⟩ : ∃ x, ops[i]? = some x := ⟨_, List.getElem?_eq_getElem (by rw [HOL.out]; exact hlt.1)⟩
      obtain ⟨ob, oo, rfl, hob, c0, c1, c2, c3, hxv, hxl, hok, hok2, -⟩ := HOP.out.below HMid.out.bel i x hx
      obtain ⟨kind, seq, xq, xn, xc, xs, num⟩ := x
      simp only at c0 c1 c2 c3 hok hok2
      obtain ⟨u1, u2, -⟩ := um_bd seq n (by omega) (by omega)
      generalize hkk : wrap64 ((IntKind.u64.wrap seq).tmod n) = kk at *
      obtain ⟨k, rfl⟩ : ∃ k : Nat, kk = k := ⟨kk.toNat, by omega⟩
      have hk : k < n := by omega
      clear hx hxv hxl
      have HX0 : Hid (Mid w.heap.size w (wr.alloc (.cells #[.int .i64 kind, .int .i64 seq, .slice xq xn xc, .int .i64 num] 49)) p b W i L S I (L.map ptrOf) I (.slice (some ⟨ks, f9, none⟩) n c9) ks (.slice (some ⟨ki, f10, none⟩) n c10) ki rv) := by
        have := HMid.out.below ((Below.refl _ wr).alloc (Nat.le_refl _) (.cells #[.int .i64 kind, .int .i64 seq, .slice xq xn xc, .int .i64 num] 49))
        rw [hn] at this
        exact this
      obtain ⟨y, l, hy, hl, -, -⟩ := HMid.out.at_ (k := k) (by omega)
      obtain ⟨q10, cc10, o10, hrv, c10k, hr10⟩ := HC10.out k l hl
      have c9k := HC9.out k (ptrOf y) (by rw [List.getElem?_map, hy]; rfl)
      unfold ptrOf at c9k
      have HY := Lib.hid hy
      have PS : Hid ((L.map ptrOf)[k]? = some (.pointer (some ⟨y.s, 0, none⟩))) := by
        show _ = _
        rw [List.getElem?_map, hy]; rfl
      have HL := Lib.hid hl
      clear hy hl hr10 hrv
      have c9x : (wr.alloc (.cells #[.int .i64 kind, .int .i64 seq, .slice xq xn xc, .int .i64 num] 49)).cell? ⟨ks, f9 + k, none⟩ = some (.pointer (some ⟨y.s, 0, none⟩)) := by
        rw [World.cell?_of_block (w := wr) (Below.heap_alloc wr _ _ hks)]; exact c9k
      have hOB := Lib.hid (Bk.new wr #[.int .i64 kind, .int .i64 seq, .slice xq xn xc, .int .i64 num] 49)
      go_upto_block 2 with fail
      rw [hkk]
      clear c0 c1 c2 c3 c9k c10k hob hks hki hB HOP
      generalize hO : wr.heap.size = O at *
      generalize hwx : wr.alloc (.cells #[.int .i64 kind, .int .i64 seq, .slice xq xn xc, .int .i64 num] 49) = wx at *
      clear HC9 HC10 HFZ HMid hkk
      have HX := HX0
      clear HX0
      have ox3 := hOB.out.cell 3 _ rfl
      go_cut [9, 10] from 48 to 201 (fun s9 s10 wc => Hid (FAt w.heap.size w p b W (i + 1) s9 s10 wc))
      case first =>
        by_cases hk0 : kind = 0
        · subst hk0
          have HXD : Hid (Mid w.heap.size w wx.drew p b W i L S I (L.map ptrOf) I (.slice (some ⟨ks, f9, none⟩) n c9) ks (.slice (some ⟨ki, f10, none⟩) n c10) ki rv) := HX.out.drewN 1
          have LR := Lib.hid (lrow_c W i hW (by omega) wx.drew)
          have AP : Hid (∀ w4 g f c, Below wx.drew.heap.size wx.drew w4 → Args w4 g f (rowN W i) → wx.drew.heap.size ≤ g → Calls Try.prog 11 #[.pointer (some ⟨y.s, 0, none⟩), .slice (some ⟨g, f, none⟩) W c] w4 fun e w'' => ∃ ev : Int, e = .returned (.int .i64 ev) ∧ w''.cell? ⟨ks, f9 + k, none⟩ = some (.pointer (some ⟨y.s, 0, none⟩)) ∧
              ((ev = 0 ∧ ∃ y2 S', y2.s = y.s ∧ Mid w.heap.size w w'' p b W (i + 1) (L.set k y2) S' (I.set k (l ++ [i])) (L.map ptrOf) I (.slice (some ⟨ks, f9, none⟩) n c9) ks (.slice (some ⟨ki, f10, none⟩) n c10) ki rv) ∨ (ev = 6 ∧ Mid w.heap.size w w'' p b W i L S I (L.map ptrOf) I (.slice (some ⟨ks, f9, none⟩) n c9) ks (.slice (some ⟨ki, f10, none⟩) n c10) ki rv))) := fun w4 g f c hb ha hg => by
            refine (HXD.out.append HY.out HL.out hlt.2 hb g f c ha hg).mono ?_
            rintro e w'' (⟨rfl, y2, S', h1, h2⟩ | ⟨rfl, h2⟩)
            · exact ⟨0, rfl, h2.cellS PS.out, .inl ⟨rfl, y2, S', h1, h2⟩⟩
            · exact ⟨6, rfl, h2.cellS PS.out, .inr ⟨rfl, h2⟩⟩
          go_wp2_with fail
          go_region_held3 (fun w' => w'.cell? ⟨ks, f9 + k, none⟩ = some (.pointer (some ⟨y.s, 0, none⟩))) (first | assumption | go_keep) (first
            | (go_at_call 12; (with_reducible refine LR.out.mono ?_); rintro e w4 ⟨g, f, cp, rfl, ha, hg, hb4⟩; have HA := Lib.hid ha; have HG := Lib.hid hg; have HB4 := Lib.hid hb4; have c9y : w4.cell? ⟨ks, f9 + k, none⟩ = some (.pointer (some ⟨y.s, 0, none⟩)) := (hb4.cell (p := ⟨ks, f9 + k, none⟩) HXD.out.side.sS.lt).trans c9x; clear ha hg hb4)
            | (go_at_call 11; (with_reducible refine (AP.out _ _ _ _ HB4.out HA.out HG.out).mono ?_); rintro e w5 ⟨ev, rfl, c9z, hcase⟩; have HCS := Lib.hid hcase; clear hcase))
          have hll : l.length ≤ 40 := Nat.le_trans (HX.out.lens k l HL.out).1 hi40
          rcases HCS.out with ⟨rfl, y2, S', hys, hm5⟩ | ⟨rfl, hm5⟩
          · have HM5 := Lib.hid hm5
            obtain ⟨hnI, hfz5, q, cq, oq, hrv5, c10k5, hr5⟩ := hm5.cellI HL.out
            have hki5 := hm5.side.sI.lt
            have HE : Hid (Row (w5.alloc (.cells #[] 2)) 2 1 (.slice (some ⟨w5.heap.size, 0, none⟩) 0 0) (some w5.heap.size) 0 []) := Row.empty
            have HSRC : Hid (Src (w5.alloc (.cells #[] 2)) q (encL l)) := kv.Row.src (hr5.chg ((Chg.refl (fun _ => False) w5).alloc _) (fun _ _ => id))
            have HNI := Lib.hid hnI
            have HFZ := Lib.hid hfz5
            have HYS := Lib.hid hys
            clear hm5 HCS c9x c9y c9z hfz5 hrv5 hr5 hnI HA HG HB4 AP LR HXD hys
            go_wp2_with (first
              | (at_builtin; refine wpList_row_append_any rfl (.tmp 85) (.tmp 89) 33 rfl 2 i0 _ 1 Try.underlying33 hi0 hz0 hz1 rfl (by decide) (by omega) (.slice (some ⟨w5.heap.size, 0, none⟩) 0 0) (some w5.heap.size) 0 [] rfl HE.out q l.length cq (encL l) rfl (by rw [encL_length, Nat.mul_one]) HSRC.out (encL_one l) (by omega) ?_; intro p1 cp1 w7 own1 hrow1 hgrow1 hown1; simp only [Nat.zero_add, List.nil_append] at hrow1; have HR1 : Hid (Row (w7.alloc (.cells #[.int .i64 (i : Int)] 2)) 2 1 (.slice p1 l.length cp1) own1 l.length (encL l)) := hrow1.chg ((Chg.refl (fun _ => False) w7).alloc _) (fun _ _ => id); have HB7 : Hid (Below w5.heap.size w5 w7) := ((Below.refl _ w5).alloc (Nat.le_refl _) _).grown hgrow1 (by simp) (fun k hk => by cases hk; exact Nat.le_refl _); have HO1 : Hid (∀ k, own1 = some k → w5.heap.size ≤ k) := (fun k hk => by rcases hown1 with e | e <;> rw [e] at hk <;> cases hk <;> simp); have HN : Hid (Src (w7.alloc (.cells #[.int .i64 (i : Int)] 2)) (some ⟨w7.heap.size, 0, none⟩) [.int .i64 (i : Int)]) := (fun j u hu => ⟨_, rfl, World.news_of_block (cs := #[.int .i64 (i : Int)]) (heap_alloc_new w7 _) j u hu⟩); clear hrow1 hgrow1 hown1)
              | (at_builtin; refine wpList_row_append_any rfl (.tmp 90) (.tmp 92) 33 rfl 2 i0 _ 1 Try.underlying33 hi0 hz0 hz1 rfl (by decide) (by omega) (.slice p1 l.length cp1) own1 l.length (encL l) rfl HR1.out (some ⟨w7.heap.size, 0, none⟩) 1 1 [.int .i64 (i : Int)] rfl rfl HN.out (by simp [Value.oneCell']) (by omega) ?_; intro p2 cp2 w9 own2 hrow2 hgrow2 hown2; have HR2 := Lib.hid hrow2; have HB9 : Hid (Below w5.heap.size w5 w9) := (HB7.out.alloc HB7.out.size _).grown hgrow2 (by have := HB7.out.size; simp; omega) HO1.out; have HO2 : Hid (∀ k, own2 = some k → w5.heap.size ≤ k) := (fun k hk => by rcases hown2 with e | e; (exact HO1.out k (e.symm.trans hk)); (rw [e] at hk; cases hk; have := HB7.out.size; simp; omega)); have c10z : w9.cell? ⟨ki, f10 + k, none⟩ = some (.slice q l.length cq) := (HB9.out.cell (p := ⟨ki, f10 + k, none⟩) hki5).trans c10k5; have fz10 : w9.frozen? ⟨ki, f10 + k, none⟩ = false := (HB9.out.frozen (p := ⟨ki, f10 + k, none⟩) hki5).trans (HFZ.out _); clear hrow2 hgrow2 hown2))
            go_meet
            exact ⟨L.set k y2, S', I.set k (l ++ [i]), ks, ki, _, by rw [map_ptr_set HY.out HYS.out]; exact HM5.out.putRow2 HNI.out hk HB9.out HR2.out HO2.out⟩
          · have HM5 := Lib.hid hm5
            clear hm5 HCS c9x c9y c9z HA HG HB4 AP LR HXD
            go_wp2_with fail
            go_meet
            exact ⟨L, S, I, ks, ki, rv, HM5.out.more (by omega) (by omega)⟩
        · by_cases hk1 : kind = 1
          · subst hk1
            by_cases h6 : n < 6
            · have h6z : (n : Int) < 6 := by omega
              have FK : Hid (Calls Try.prog 20 #[.pointer (some ⟨y.s, 0, none⟩)] wx fun e w' => ∃ y2 S', e = .returned (.pointer (some ⟨y2.s, 0, none⟩)) ∧ Mid w.heap.size w w' p b W i (L ++ [y2]) S' (I ++ [l]) (L.map ptrOf) I (.slice (some ⟨ks, f9, none⟩) n c9) ks (.slice (some ⟨ki, f10, none⟩) n c10) ki rv) := HX.out.fork HY.out HL.out (by omega)
              go_wp2_with fail
              refine FK.out.mono ?_
              rintro e w5 ⟨y2, S', rfl, hm5⟩
              have HM6 : Hid (Mid w.heap.size w (w5.alloc (.cells #[.pointer (some ⟨y2.s, 0, none⟩)] 28)) p b W i (L ++ [y2]) S' (I ++ [l]) (L.map ptrOf) I (.slice (some ⟨ks, f9, none⟩) n c9) ks (.slice (some ⟨ki, f10, none⟩) n c10) ki rv) := hm5.below ((Below.refl _ w5).alloc (Nat.le_refl _) _)
              have HRS : Hid (Row (w5.alloc (.cells #[.pointer (some ⟨y2.s, 0, none⟩)] 28)) 28 1 (.slice (some ⟨ks, f9, none⟩) n c9) (some ks) n (L.map ptrOf)) := by
                have := HM6.out.side.ss
                rw [HLn.out, hn] at this
                exact this
              have HN : Hid (∀ j u, [Value.pointer (some ⟨y2.s, 0, none⟩)][j]? = some u → (w5.alloc (.cells #[.pointer (some ⟨y2.s, 0, none⟩)] 28)).cell? ((⟨w5.heap.size, 0, none⟩ : Addr).add j) = some u) := World.news_of_block (cs := #[.pointer (some ⟨y2.s, 0, none⟩)]) (heap_alloc_new w5 _)
              clear hm5 FK c9x
              go_wp2_with (first
                | (at_builtin; refine wpList_row_append rfl (.tmp 100) (.tmp 106) 46 rfl 28 j0 _ 1 Try.underlying46 hj0 hy0 hy1 rfl (by decide) (by omega) (.slice (some ⟨ks, f9, none⟩) n c9) (some ks) n (L.map ptrOf) rfl HRS.out ⟨w5.heap.size, 0, none⟩ 1 1 [.pointer (some ⟨y2.s, 0, none⟩)] rfl rfl HN.out (by simp [Value.oneCell']) (by omega) (by omega) ?_; intro g f cp w7 hrow hgrow hown; have HM7 : Hid (Mid w.heap.size w w7 p b W i (L ++ [y2]) S' (I ++ [l]) (L.map ptrOf ++ [.pointer (some ⟨y2.s, 0, none⟩)]) I (.slice (some ⟨g, f, none⟩) (n + 1) cp) g (.slice (some ⟨ki, f10, none⟩) n c10) ki rv) := HM6.out.appS (by rw [HLn.out, hn]; exact hrow) hgrow hown; clear hrow hgrow hown; obtain ⟨hnI, hfz7, q, cq, oq, hrv7, c10k7, hr7⟩ := HM7.out.cellI HL.out; have HNI := Lib.hid hnI; have HRV := Lib.hid hrv7; have HM8 : Hid (Mid w.heap.size w (w7.alloc (.cells #[.slice q l.length cq] 33)) p b W i (L ++ [y2]) S' (I ++ [l]) (L.map ptrOf ++ [.pointer (some ⟨y2.s, 0, none⟩)]) I (.slice (some ⟨g, f, none⟩) (n + 1) cp) g (.slice (some ⟨ki, f10, none⟩) n c10) ki rv) := HM7.out.below ((Below.refl _ w7).alloc (Nat.le_refl _) _); have HRI : Hid (Row (w7.alloc (.cells #[.slice q l.length cq] 33)) 33 1 (.slice (some ⟨ki, f10, none⟩) n c10) (some ki) n (rv.map (·.1))) := HNI.out ▸ HM8.out.side.ii; have HN2 : Hid (∀ j u, [Value.slice q l.length cq][j]? = some u → (w7.alloc (.cells #[.slice q l.length cq] 33)).cell? ((⟨w7.heap.size, 0, none⟩ : Addr).add j) = some u) := World.news_of_block (cs := #[.slice q l.length cq]) (heap_alloc_new w7 _); clear hfz7 hrv7 hr7 hnI)
                | (at_builtin; refine wpList_row_append rfl (.tmp 108) (.tmp 113) 58 rfl 33 m0 _ 1 Try.underlying58 hm0 hx0 hx1 rfl (by decide) (by omega) (.slice (some ⟨ki, f10, none⟩) n c10) (some ki) n (rv.map (·.1)) rfl HRI.out ⟨w7.heap.size, 0, none⟩ 1 1 [.slice q l.length cq] rfl rfl HN2.out (by simp [Value.oneCell']) (by omega) (by omega) ?_; intro g2 f2 cp2 w9 hrow2 hgrow2 hown2; have HM9 : Hid (Mid w.heap.size w w9 p b W i (L ++ [y2]) S' (I ++ [l]) (L.map ptrOf ++ [.pointer (some ⟨y2.s, 0, none⟩)]) (I ++ [l]) (.slice (some ⟨g, f, none⟩) (n + 1) cp) g (.slice (some ⟨g2, f2, none⟩) (n + 1) cp2) g2 (rv ++ [(.slice q l.length cq, oq)])) := HM8.out.appI HL.out HRV.out (by rw [← HNI.out]; exact hrow2) hgrow2 hown2; clear hrow2 hgrow2 hown2))
              go_meet
              exact ⟨L ++ [y2], S', I ++ [l], g, g2, _, by rw [List.map_append]; exact HM9.out.more (by omega) (by omega)⟩
            · have h6z : ¬ (n : Int) < 6 := by omega
              clear c9x
              go_wp2_with fail
              go_meet
              exact ⟨L, S, I, ks, ki, rv, HX.out.more (by omega) (by omega)⟩
          · by_cases hk2 : kind = 2
            · subst hk2
              have KP : Hid (∀ j, Calls Try.prog 22 #[.pointer (some ⟨y.s, 0, none⟩), .int .i64 num] (wx.drewN j) fun e w' => e = .returned (.tuple #[]) ∧ ∃ y2 S', y2.s = y.s ∧ Mid w.heap.size w w' p b W i (L.set k y2) S' I (L.map ptrOf) I (.slice (some ⟨ks, f9, none⟩) n c9) ks (.slice (some ⟨ki, f10, none⟩) n c10) ki rv) := fun j => (HX.out.drewN j).keep HY.out HL.out num hok.2
              have KP1 : Hid (Calls Try.prog 22 #[.pointer (some ⟨y.s, 0, none⟩), .int .i64 num] wx.drew fun e w' => e = .returned (.tuple #[]) ∧ ∃ y2 S', y2.s = y.s ∧ Mid w.heap.size w w' p b W i (L.set k y2) S' I (L.map ptrOf) I (.slice (some ⟨ks, f9, none⟩) n c9) ks (.slice (some ⟨ki, f10, none⟩) n c10) ki rv) := KP.out 1
              go_wp2_with fail
              go_region_with ((go_at_call 22; (with_reducible refine KP1.out.mono ?_); rintro e w5 ⟨rfl, y2, S', hys, hm5⟩; have HM5 := Lib.hid hm5; have HYS := Lib.hid hys; clear hm5 hys))
              all_goals
                go_wp2_with fail
                go_meet
                exact ⟨L.set k y2, S', I, ks, ki, rv, by rw [map_ptr_set HY.out HYS.out]; exact HM5.out.more (by omega) (by omega)⟩
            · by_cases hk3 : kind = 3
              · subst hk3
                have RL := Lib.hid (HX.out.release HY.out HL.out)
                go_wp2_with fail
                refine RL.out.mono ?_
                rintro e w5 ⟨rfl, y2, S', hys, -, hm5⟩
                have HM5 := Lib.hid hm5
                have HYS := Lib.hid hys
                clear hm5 hys
                go_wp2_with fail
                go_meet
                exact ⟨L.set k y2, S', I, ks, ki, rv, by rw [map_ptr_set HY.out HYS.out]; exact HM5.out.more (by omega) (by omega)⟩
              · clear c9x
                go_wp2_with fail
                go_meet
                exact ⟨L, S, I, ks, ki, rv, HX.out.more (by omega) (by omega)⟩
      case rest =>
        obtain ⟨L2, S2, I2, ks2, ki2, rv2, hMid2⟩ := hcut.out
        clear hcut HX HL HY PS hOB hO hwx c9x ox3
        obtain ⟨f9', c9', hv9, -⟩ := hMid2.seqAt
        obtain ⟨f10', c10', hv10, -, -⟩ := hMid2.inAt
        rw [List.length_map] at hv9
        rw [hMid2.eql] at hv10
        subst hv9
        subst hv10
        have hcnt2 := hMid2.cnt
        obtain ⟨n2, hn2⟩ : ∃ n2, L2.length = n2 := ⟨_, rfl⟩
        rw [hn2] at hMid2 hcnt2 ⊢
        have HM2 := Lib.hid hMid2
        clear hMid2
        go_wp2_with fail
        go_loopw [14] (fun s14 wr => ∃ j : Nat, j ≤ n2 ∧ s14 = .int .i64 j ∧ Hid (Mid w.heap.size w wr p b W (i + 1) L2 S2 I2 (L2.map ptrOf) I2 (.slice (some ⟨ks2, f9', none⟩) n2 c9') ks2 (.slice (some ⟨ki2, f10', none⟩) n2 c10') ki2 rv2)) (fun s14 _ => n2 - (intOf s14).toNat)
        case atStart => exact ⟨0, by omega, rfl, HM2⟩
        case round =>
          obtain ⟨j, hj, rfl, HJ⟩ := hrel
          clear HM2
          by_cases hjn : j < n2
          · have hjz : (j : Int) < (n2 : Int) := by omega
            have hjz0 : (0 : Int) ≤ (j : Int) := by omega
            obtain ⟨y, l, hy, hl, -, hq⟩ := HJ.out.at_ (k := j) (by omega)
            have PS : Hid ((L2.map ptrOf)[j]? = some (.pointer (some ⟨y.s, 0, none⟩))) := by
              show _ = _
              rw [List.getElem?_map, hy]; rfl
            have HY := Lib.hid hy
            have HL := Lib.hid hl
            have hF : y.Q.first ≤ l.length := by have := hq.fl; rw [hq.len] at this; exact this
            have hlens := HJ.out.lens j l hl
            have hll : l.length ≤ 40 := by omega
            have HSD := Lib.hid hlens.2
            obtain ⟨-, -, q, cq, oq, hrv, c10, hr⟩ := HJ.out.cellI hl
            have c9 := HJ.out.cellS PS.out
            have LN : Hid (∀ n, Calls Try.prog 13 #[.pointer (some ⟨y.s, 0, none⟩)] (World.drewN _ n) fun e w' => e = .returned (.int .i64 l.length) ∧ World.drewN _ n = w') := fun n => (HJ.out.drewN n).len_c HY.out HL.out
            have FC : Hid (∀ n, Calls Try.prog 16 #[.pointer (some ⟨y.s, 0, none⟩)] (World.drewN _ n) fun e w' => e = .returned (.int .i64 y.Q.first) ∧ World.drewN _ n = w') := fun n => (HJ.out.drewN n).first_c HY.out
            clear hy hl hq hlens hrv hr
            obtain ⟨F, hFe⟩ : ∃ F, y.Q.first = F := ⟨_, rfl⟩
            have HFe := Lib.hid hFe
            rw [hFe] at hF FC
            have hFz : decide ((F : Int) < 0) = false := by simp
            clear hFe
            go_wp2_with fail
            go_quiet (first
              | (go_at_call 13; exact Calls.quiet_of_same ((LN.out _).mono (fun e w' h => ⟨h.1, h.2.symm⟩)))
              | (go_at_call 16; exact Calls.quiet_of_same ((FC.out _).mono (fun e w' h => ⟨h.1, h.2.symm⟩))))
            go_wp2_with fail
            refine (FC.out _).mono ?_
            rintro e w7 ⟨rfl, rfl⟩
            have HJ2 := Lib.hid (HJ.out.drewN nq)
            clear LN FC HJ c9 c10 hFz
            go_wp2_with fail
            go_loopw [15] (fun s15 wr => ∃ e : Nat, F ≤ e ∧ e ≤ l.length ∧ s15 = .int .i64 e ∧ Hid (Mid w.heap.size w wr p b W (i + 1) L2 S2 I2 (L2.map ptrOf) I2 (.slice (some ⟨ks2, f9', none⟩) n2 c9') ks2 (.slice (some ⟨ki2, f10', none⟩) n2 c10') ki2 rv2)) (fun s15 _ => l.length - (intOf s15).toNat)
            case atStart => exact ⟨F, Nat.le_refl _, hF, rfl, HJ2⟩
            case round =>
              obtain ⟨z, hFz, hzl, rfl, HZ⟩ := hrel
              clear HJ2
              obtain ⟨-, -, q, cq, oq, hrv, c10, hr⟩ := HZ.out.cellI HL.out
              have c9 := HZ.out.cellS PS.out
              by_cases hzn : z < l.length
              · have hzz : (z : Int) < (l.length : Int) := by omega
                have hzz0 : (0 : Int) ≤ (z : Int) := by omega
                obtain ⟨s, hs⟩ : ∃ s, l[z]? = some s := ⟨_, List.getElem?_eq_getElem hzn⟩
                have hs40 : s < 40 := HSD.out s (List.mem_of_getElem? hs)
                obtain ⟨gq, fq, hq, hgq, hcq⟩ := seed_at hr hs
                subst hq
                have RC : Hid (Calls Try.prog 28 #[.pointer (some ⟨y.s, 0, none⟩), .int .i64 z] wr _) := HZ.out.row_c HY.out HL.out (by rw [HFe.out]; exact hFz) hs
                have hks2 := HZ.out.side.sS.lt
                have hki2 := HZ.out.side.sI.lt
                clear hrv hr hs
                go_wp2_with fail
                refine RC.out.mono ?_
                rintro e w8 ⟨g, rfl, hv, hb8, hg⟩
                have HV := Lib.hid hv
                have HZ8 : Hid (Mid w.heap.size w w8 p b W (i + 1) L2 S2 I2 (L2.map ptrOf) I2 (.slice (some ⟨ks2, f9', none⟩) n2 c9') ks2 (.slice (some ⟨ki2, f10', none⟩) n2 c10') ki2 rv2) := HZ.out.below hb8
                have c10y : w8.cell? ⟨ki2, f10' + j, none⟩ = some (.slice (some ⟨gq, fq, none⟩) l.length cq) := (hb8.cell (p := ⟨ki2, f10' + j, none⟩) hki2).trans c10
                have hcqy : w8.cell? ⟨gq, fq + z, none⟩ = some (.int .i64 s) := (hb8.cell (p := ⟨gq, fq + z, none⟩) hgq).trans hcq
                have LR := Lib.hid (lrow_c W s hW (by omega) w8)
                clear hv hb8 hg c9 c10 hcq HZ RC
                go_wp2_with fail
                refine LR.out.mono ?_
                rintro e w9 ⟨g9, f9, cp9, rfl, ha9, hg9, hb9⟩
                have SM : Hid (Calls Try.prog 29 #[.slice (some ⟨g, 0, none⟩) W W, .slice (some ⟨g9, f9, none⟩) W cp9] w9 fun e w' => e = .returned (.bool true) ∧ ∃ m, w' = w9.drewN m) := by
                  have := same_c (some ⟨g, 0, none⟩) (some ⟨g9, f9, none⟩) W cp9 (rowN W s) (rowN W s) w9 (HV.out.below (B := 0) hb9) ha9.vals (by rw [rowN_length]; omega)
                  rw [rowN_length, decide_eq_true rfl] at this
                  exact this
                have HZ9 : Hid (Mid w.heap.size w w9 p b W (i + 1) L2 S2 I2 (L2.map ptrOf) I2 (.slice (some ⟨ks2, f9', none⟩) n2 c9') ks2 (.slice (some ⟨ki2, f10', none⟩) n2 c10') ki2 rv2) := HZ8.out.below hb9
                clear ha9 hg9 hb9 LR HZ8 HV c10y hcqy
                go_wp2_with fail
                refine SM.out.mono ?_
                rintro e w10 ⟨rfl, m10, rfl⟩
                have HZ10 := Lib.hid (HZ9.out.drewN m10)
                clear SM HZ9
                go_wp2
                exact ⟨⟨z + 1, by omega, by omega, by go_num, HZ10⟩, by simp [intOf]; omega⟩
              · obtain rfl : z = l.length := by omega
                have hzz : ¬ (l.length : Int) < (l.length : Int) := by omega
                clear hrv hr
                go_wp2
                exact ⟨⟨j + 1, by omega, by go_num, HZ⟩, by simp [intOf]; omega⟩
          · obtain rfl : j = n2 := by omega
            have hjz : ¬ (j : Int) < (j : Int) := by omega
            go_wp2
            exact ⟨⟨i + 1, by omega, by omega, by go_num, ⟨L2, S2, I2, ks2, ki2, rv2, HJ.out⟩⟩, by simp [intOf]; omega⟩
    · have hex : (¬ (i : Int) < (m : Int)) ∨ ((i : Int) < (m : Int) ∧ ¬ (i : Int) < 40) := by omega
      have PSn : Hid (∀ j, j < n → ∃ y, L[j]? = some y ∧ (L.map ptrOf)[j]? = some (.pointer (some ⟨y.s, 0, none⟩))) := fun j hj => by
        have e : L[j]? = some (L[j]'(by omega)) := List.getElem?_eq_getElem _
        exact ⟨_, e, by rw [List.getElem?_map, e]; rfl⟩
      rw [hn] at HMid
      have HREL : Hid (∃ L' S', L'.length = n ∧ L'.map ptrOf = L.map ptrOf ∧ (∀ j x, j < 0 → L'[j]? = some x → x.Q.pages = []) ∧ Mid w.heap.size w wr p b W i L' S' I (L.map ptrOf) I (.slice (some ⟨ks, f9, none⟩) n c9) ks (.slice (some ⟨ki, f10, none⟩) n c10) ki rv) := ⟨L, S, hn, rfl, fun j x h => absurd h (by omega), HMid.out⟩
      clear HC9 HC10 HFZ HMid hks hki hB hlt
      rcases hex with hez | ⟨hez, hez2⟩
      all_goals
        go_wp2_with fail
        go_loopw [18] (fun s18 wr => ∃ k : Nat, k ≤ n ∧ s18 = .int .i64 k ∧ Hid (∃ L' S', L'.length = n ∧ L'.map ptrOf = L.map ptrOf ∧ (∀ j x, j < k → L'[j]? = some x → x.Q.pages = []) ∧ Mid w.heap.size w wr p b W i L' S' I (L.map ptrOf) I (.slice (some ⟨ks, f9, none⟩) n c9) ks (.slice (some ⟨ki, f10, none⟩) n c10) ki rv)) (fun s18 _ => n - (intOf s18).toNat)
        case atStart => exact ⟨0, by omega, rfl, HREL⟩
        case round =>
          obtain ⟨k, hk, rfl, HK⟩ := hrel
          clear HREL
          obtain ⟨L', S', hl1, hl2, hl3, hMk⟩ := HK.out
          by_cases hkn : k < n
          · have hkz : (k : Int) < (n : Int) := by omega
            have hkz0 : (0 : Int) ≤ (k : Int) := by omega
            obtain ⟨y, l, hy, hl, -, -⟩ := hMk.at_ (k := k) (by omega)
            have hps : (L.map ptrOf)[k]? = some (.pointer (some ⟨y.s, 0, none⟩)) := by
              rw [← hl2, List.getElem?_map, hy]; rfl
            have c9k := hMk.cellS hps
            have RL := Lib.hid (hMk.release hy hl)
            have HY := Lib.hid hy
            have HL1 := Lib.hid hl1
            have HL2 := Lib.hid hl2
            have HL3 := Lib.hid hl3
            clear hy hl hps hMk hl1 hl2 hl3 HK
            go_wp2_with fail
            refine RL.out.mono ?_
            rintro e w5 ⟨rfl, y2, S2, hys, hyp, hm5⟩
            have HREL2 : Hid (∃ L' S', L'.length = n ∧ L'.map ptrOf = L.map ptrOf ∧ (∀ j x, j < k + 1 → L'[j]? = some x → x.Q.pages = []) ∧ Mid w.heap.size w w5 p b W i L' S' I (L.map ptrOf) I (.slice (some ⟨ks, f9, none⟩) n c9) ks (.slice (some ⟨ki, f10, none⟩) n c10) ki rv) :=
              ⟨L'.set k y2, S2, by rw [List.length_set]; exact HL1.out, by rw [map_ptr_set HY.out hys]; exact HL2.out, fun j x hj hx => by
                rw [List.getElem?_set] at hx
                by_cases e : k = j
                · rw [if_pos e] at hx
                  split at hx
                  · cases hx; exact hyp
                  · cases hx
                · rw [if_neg e] at hx
                  exact HL3.out j x (by omega) hx, hm5⟩
            clear hm5 hys hyp RL c9k
            go_wp2
            exact ⟨⟨k + 1, by omega, by go_num, HREL2⟩, by simp [intOf]; omega⟩
          · obtain rfl : k = n := by omega
            have hkz : ¬ (k : Int) < (k : Int) := by omega
            obtain ⟨hfree, hcount⟩ := hMk.fam.done (fun j Q hj => by
              rw [List.getElem?_map] at hj
              cases hx : L'[j]? with
              | none => rw [hx] at hj; cases hj
              | some x =>
                rw [hx] at hj
                cases hj
                exact hl3 j x (by rw [← hl1]; exact (List.getElem?_eq_some_iff.1 hx).1) hx)
            have SZ := Lib.hid (sizes_c p b S' wr hMk.many.pool)
            rw [hfree] at SZ
            have HMk := Lib.hid hMk
            have HCT := Lib.hid hcount
            clear hMk hl1 hl2 hl3 hfree hcount HK
            go_wp2_with fail
            refine SZ.out.mono ?_
            rintro e w5 ⟨rfl, hb5⟩
            have CT : Hid (Calls Try.prog 15 #[.pointer (some ⟨p, 0, none⟩), .string { data := #[114] }] w5 fun e w' => e = .returned (.int .i64 0) ∧ w5 = w') := by
              have := count_c p b S' w5 (HMk.out.below hb5).many.pool tagR
              rw [HCT.out] at this
              exact this
            have HBZ := Lib.hid ((HMk.out.below hb5).bel)
            clear hb5 SZ HMk
            go_wp2_with fail
            refine CT.out.mono ?_
            rintro e w' ⟨rfl, rfl⟩
            go_wp2
            go_ret
            exact ⟨rfl, HBZ.out⟩
end Go.Proofs.Ytfimadeokdlpnaa.kv
