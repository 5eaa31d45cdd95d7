/- KvDoes: the walk. -/
import Derived.Test.YtfimadeokdlpnaaWs
import Derived.Test.YtfimadeokdlpnaaWt
namespace Go.Proofs.Ytfimadeokdlpnaa.kv
open Go.ChangeShapes Go.WideShapes Go.ChangeAt Go.RowKit K
set_option linter.unusedVariables false
set_option linter.unusedSimpArgs false
theorem infoRq : (Try.prog.info? 43).map (fun i => (i.zero, i.size, i.bytes)) = some (some (.pointer none), 1, 8) := by kernel_rfl
theorem DAt.start {w w1 w2 w3 w4 : World} {p b r rb W N : Nat} {tag : ByteArray} (hW : 1 ≤ W ∧ W ≤ 32)
    (hp : PR w1 p b (List.replicate N Pg.no)) (h1 : Below w.heap.size w w1) (hpB : w.heap.size ≤ p) (hbB : w.heap.size ≤ b)
    (hr : RP w2 r rb (List.replicate N Pg.no) (fun _ => 0)) (h2 : Below w1.heap.size w1 w2) (hrB : w1.heap.size ≤ r) (hrb : w1.heap.size ≤ rb)
    (hs : SR w3 w2.heap.size p ⟨tag, W, [], 0, 0⟩ (.slice none 0 0) none) (h3 : Below w2.heap.size w2 w3)
    (hx : RQ w4 w3.heap.size r ⟨tag, W, [], 0, 0⟩ (.slice none 0 0) none) (h4 : Below w3.heap.size w3 w4) :
    DAt w.heap.size w p b r rb W N 0 (.slice (some ⟨w4.heap.size, 0, none⟩) 1 1) (.slice (some ⟨w4.heap.size + 1, 0, none⟩) 1 1) ((w4.alloc (.cells #[.pointer (some ⟨w2.heap.size, 0, none⟩)] 28)).alloc (.cells #[.pointer (some ⟨w3.heap.size, 0, none⟩)] 43)) := by
  have z1 := h1.size
  have z2 := h2.size
  have z3 := h3.size
  have z4 := h4.size
  have e1 := hp.head.lt
  have e2 := hp.lt
  have e3 : r < w2.heap.size := hr.head.lt
  have e4 : rb < w2.heap.size := hr.lt rb (.inr (.inl rfl))
  have e5 := hs.head.lt
  have e6 := hx.head.lt
  have hM : Many w.heap.size w4 p b (List.replicate N Pg.no) [⟨w2.heap.size, ⟨tag, W, [], 0, 0⟩, .slice none 0 0, none⟩] := by
    refine Many.start (((hp.below h2).below h3).below h4) hpB hbB (hs.below h4) (by omega) (by omega) (by omega)
  have hRF : ∀ k, RF r rb (List.replicate N Pg.no) (fun _ => 0) k → k = r ∨ k = rb := by
    rintro k (e | e | ⟨i, x, hx, ho, -⟩)
    · exact .inl e
    · exact .inr e
    · rw [List.getElem?_replicate] at hx
      split at hx
      · cases hx; exact absurd rfl ho
      · cases hx
  have hR : RMany w4 r rb (List.replicate N Pg.no) (fun _ => 0) [⟨tag, W, [], 0, 0⟩] [⟨w3.heap.size, .slice none 0 0, none⟩] := by
    refine RMany.start ((hr.below h3).below h4) hx (fun e => ?_)
    rcases hRF _ e with e | e <;> omega
  have hRM : ∀ k, RMF r rb (List.replicate N Pg.no) (fun _ => 0) [⟨w3.heap.size, .slice none 0 0, none⟩] k → k = r ∨ k = rb ∨ k = w3.heap.size := by
    rintro k (e | ⟨i, x, hx, e⟩)
    · exact (hRF k e).elim .inl (fun e => .inr (.inl e))
    · rw [List.getElem?_singleton] at hx
      split at hx
      · cases hx
        rcases e with e | e
        · exact .inr (.inr e)
        · cases e
      · cases hx
  refine ⟨_, _, _, _, _, _, _, _, Pair.start rfl hM hR (fun k hk e => ?_) (fun k e => ?_) (bstep (bstep (bstep h1 h2 z1) h3 (by omega)) h4 (by omega)), DInv.start hW N tag⟩
  · have := hRM k e
    rcases hk with f | f | ⟨i, x, hx, f⟩
    · omega
    · omega
    · rw [List.getElem?_singleton] at hx
      split at hx
      · cases hx
        rcases f with f | f
        · have f : k = w2.heap.size := f
          omega
        · cases f
      · cases hx
  · rcases hRM k e with e | e | e <;> omega
theorem DAt.open {B : Nat} {w0 wr : World} {p b r rb W N i : Nat} {v16 v17 : Value} (h : DAt B w0 p b r rb W N i v16 v17 wr) : ∃ (L : List Ent) (R : List REnt) (S : List Pg) (c : Nat → Nat) (n ks f9 c9 kx f10 c10 : Nat) (O : Nat → Prop) (wO : World),
    v16 = .slice (some ⟨ks, f9, none⟩) n c9 ∧ v17 = .slice (some ⟨kx, f10, none⟩) n c10 ∧ L.length = n ∧ R.length = n ∧ 1 ≤ n ∧ n ≤ 6 ∧
    Pair B w0 wr p b S L r rb S c (L.map (·.Q)) R (L.map ptrOf) (R.map ptrR) (.slice (some ⟨ks, f9, none⟩) n c9) ks (.slice (some ⟨kx, f10, none⟩) n c10) kx O wO ∧ DInv W N i S (L.map (·.Q)) := by
  obtain ⟨L, R, S, c, ks, kx, O, wO, hP, hD⟩ := h
  obtain ⟨f9, c9, hv9⟩ := hP.formS
  obtain ⟨f10, c10, hv10⟩ := hP.formX
  have hl : R.length = L.length := by rw [hP.ref.len, List.length_map]
  have hc := hD.cnt
  rw [List.length_map] at hv9 hv10 hc
  rw [hl] at hv10
  subst hv9 hv10
  exact ⟨L, R, S, c, L.length, ks, f9, c9, kx, f10, c10, O, wO, rfl, rfl, rfl, hl, hc.1, hc.2, hP, hD⟩
theorem Args.src {w : World} {g f : Nat} {ys : List Int} (h : Args w g f ys) : Src w (some ⟨g, f, none⟩) (encI ys) := by
  intro j u hu
  obtain ⟨x, hx, rfl⟩ : ∃ x, ys[j]? = some x ∧ u = .int .i64 x := by
    unfold encI at hu
    rw [List.getElem?_map] at hu
    cases e : ys[j]? with
    | none => rw [e] at hu; cases hu
    | some x => rw [e] at hu; cases hu; exact ⟨x, rfl, rfl⟩
  refine ⟨_, rfl, ?_⟩
  have hadd : (⟨g, f, none⟩ : Addr).add j = ⟨g, f + j, none⟩ := by unfold Addr.add; split <;> simp_all
  rw [hadd]
  exact h.cell j x hx
theorem Args.new {w : World} {t : TypeId} {cs : Array Value} {ys : List Int} (hc : ∀ j, j < ys.length * 1 → cs[j]? = (encI ys)[j]?) : Args (w.alloc (.cells cs t)) w.heap.size 0 ys := by
  have hk := Bk.new w cs t
  refine ⟨hk.lt, fun j u hu => ?_⟩
  have hj := (List.getElem?_eq_some_iff.1 hu).1
  rw [Nat.zero_add]
  refine hk.cell j _ ?_
  rw [hc j (by omega)]
  unfold encI
  rw [List.getElem?_map, hu]; rfl
set_option maxHeartbeats 8000000 in
set_option maxRecDepth 100000 in
theorem does_walk (w : World) (a0 a1 : Int) (h0 : okI a0) (h1 : okI a1) (tag : ByteArray) (lp : Option Addr) (m lc : Nat) (hm : m ≤ 9223372036854775807) (ops : List KOp) (hol : ops.length = m) (hop : KActs w lp ops) (hsz : ∀ (j : Nat) (x : KOp), ops[j]? = some x → x.n * 8 ≤ reachBytes) :
    Calls Try.prog 4 #[.int .i64 a0, .int .i64 a1, .string tag, .slice lp m lc] w fun e w' => e = .returned (.bool true) ∧ Below w.heap.size w w' := by
  obtain ⟨i0, hi0, hz0, hz1, hz2⟩ := info_parts infoL
  obtain ⟨j0, hj0, hy0, hy1, hy2⟩ := info_parts infoSq
  obtain ⟨m0, hm0, hx0, hx1, hx2⟩ := info_parts infoRq
  have HOL := Lib.hid hol
  have HOP := Lib.hid hop
  have HSZ := Lib.hid hsz
  clear hol hop hsz
  go_enter Try.func4, Try.ntmps4
  go_wp2_with fail
  obtain ⟨u0, u1, u2⟩ := um_bd a0 20 (by omega) (by omega)
  generalize ht0 : wrap64 (1 + wrap64 ((IntKind.u64.wrap a0).tmod 20)) = wt at *
  obtain ⟨N, rfl⟩ : ∃ N : Nat, wt = N := ⟨wt.toNat, by omega⟩
  have hN : 1 ≤ N ∧ N ≤ 20 := by omega
  clear u0 u1 u2 ht0
  refine (new_c N (by omega) (by omega) w).mono ?_
  rintro e w1 ⟨p, b, rfl, hp, hb1, hpB, hbB⟩
  have HP := Lib.hid hp
  have HB1 := Lib.hid hb1
  have RN := Lib.hid (r11new_c N (by omega) (by omega) w1)
  clear hp hb1
  go_wp2_with fail
  refine RN.out.mono ?_
  rintro e w2 ⟨r, rb, rfl, hr, hb2, hrB, hrb⟩
  have HR := Lib.hid hr
  have HB2 := Lib.hid hb2
  clear hr hb2 RN
  by_cases hgood : tag.toList ≠ [] ∧ 1 ≤ a1 ∧ a1 ≤ 32
  · obtain ⟨htag, hW1, hW2⟩ := hgood
    obtain ⟨W, rfl⟩ : ∃ W : Nat, a1 = W := ⟨a1.toNat, by omega⟩
    have hW : 1 ≤ W ∧ W ≤ 32 := by omega
    have HTAG := Lib.hid htag
    have KN := Lib.hid (knew_c p w2 tag htag W hW.1 hW.2)
    clear htag
    go_wp2_with fail
    refine KN.out.mono ?_
    rintro e w3 ⟨rfl, hs, hb3⟩
    have HS := Lib.hid hs
    have HB3 := Lib.hid hb3
    have XN := Lib.hid (r13new_c r w3 tag HTAG.out W hW.1 hW.2)
    clear hs hb3 KN
    go_wp2_with fail
    refine XN.out.mono ?_
    rintro e w4 ⟨rfl, hx, hb4⟩
    have HD0 := Lib.hid (DAt.start hW HP.out HB1.out hpB hbB HR.out HB2.out hrB hrb HS.out HB3.out hx hb4)
    clear hx hb4 XN HP HB1 HR HB2 HS HB3 hpB hbB hrB hrb
    generalize hs0 : w2.heap.size = s0 at *
    generalize hs1 : w3.heap.size = s1 at *
    clear hs0 hs1
    go_wp2_with fail
    go_loopw [16, 17, 18] (fun s16 s17 s18 wr => ∃ i : Nat, i ≤ m ∧ i ≤ 60 ∧ s18 = .int .i64 i ∧ Hid (DAt w.heap.size w p b r rb W N i s16 s17 wr)) (fun _ _ s18 _ => m - (intOf s18).toNat)
    case atStart => exact ⟨0, by omega, by omega, rfl, HD0⟩
    case round =>
      obtain ⟨i, him, hi60, rfl, HK⟩ := hrel
      clear HD0
      obtain ⟨L, R, S, c, n, ks, f9, c9, kx, f10, c10, O0, wO0, rfl, rfl, hLn, hRn, hn1, hn6, hPr, hDI⟩ := HK.out.open
      have HPr := Lib.hid hPr
      have HDI := Lib.hid hDI
      have HLn := Lib.hid hLn
      have HRn := Lib.hid hRn
      have hks := hPr.ss.lt ks rfl
      have hkx := hPr.xs.lt kx rfl
      have hBs := hPr.bel.size
      clear hPr hDI HK hLn hRn
      have hun : IntKind.u64.wrap (n : Int) = (n : Int) := by simp [IntKind.wrap, IntKind.signed, IntKind.bits]; omega
      have hnz : ((n : Int) == 0) = false := by rw [beq_eq_false_iff_ne]; omega
      have hnz2 : ¬ n = 0 := by omega
      by_cases hlt : i < m ∧ i < 60
      · have hkz : (i : Int) < (m : Int) := by omega
        have hkz2 : (i : Int) < 60 := by omega
        have hkz0 : (0 : Int) ≤ (i : Int) := by omega
        obtain ⟨x, hx⟩ : ∃ x, ops[i]? = some x := ⟨_, List.getElem?_eq_getElem (by rw [HOL.out]; exact hlt.1)⟩
        have hxz := HSZ.out i x hx
        have hxv0 : Vals w x.q x.xs := by
          obtain ⟨_, _, _, _, _, _, _, _, h, _⟩ := HOP.out i x hx
          exact h
        obtain ⟨ob, oo, rfl, hob, c0, c1, c2, c3, hxv, hxl, hok, hok2, -⟩ := HOP.out.below HPr.out.bel i x hx
        obtain ⟨kind, seq, xq, xn, xc, xs, num⟩ := x
        simp only at c0 c1 c2 c3 hok hok2 hxz hxv0 hxv hxl
        have HXZ := Lib.hid hxz
        have HXV0 := Lib.hid hxv0
        have HXV := Lib.hid hxv
        have HXL := Lib.hid hxl
        obtain ⟨u1, u2, -⟩ := um_bd seq n (by omega) (by omega)
        generalize hkk : wrap64 ((IntKind.u64.wrap seq).tmod n) = kk at *
        obtain ⟨k, rfl⟩ : ∃ k : Nat, kk = k := ⟨kk.toNat, by omega⟩
        have hk : k < n := by omega
        clear hx hxv hxl hxz hxv0
        have HX0 : Hid (Pair w.heap.size w (wr.alloc (.cells #[.int .i64 kind, .int .i64 seq, .slice xq xn xc, .int .i64 num] 49)) p b S L r rb S c (L.map (·.Q)) R (L.map ptrOf) (R.map ptrR) (.slice (some ⟨ks, f9, none⟩) n c9) ks (.slice (some ⟨kx, f10, none⟩) n c10) kx (fun j => j = wr.heap.size) (wr.alloc (.cells #[.int .i64 kind, .int .i64 seq, .slice xq xn xc, .int .i64 num] 49))) :=
          HPr.out.fresh ((Below.refl _ wr).alloc (Nat.le_refl _) _) (fun j hj => .inr (.inl ⟨by omega, by subst hj; simp⟩))
        obtain ⟨y, hy⟩ : ∃ y, L[k]? = some y := ⟨_, List.getElem?_eq_getElem (by rw [HLn.out]; exact hk)⟩
        obtain ⟨z, hz⟩ : ∃ z, R[k]? = some z := ⟨_, List.getElem?_eq_getElem (by rw [HRn.out]; exact hk)⟩
        have PS : Hid ((L.map ptrOf)[k]? = some (.pointer (some ⟨y.s, 0, none⟩))) := by
          show _ = _
          rw [List.getElem?_map, hy]; rfl
        have PX : Hid ((R.map ptrR)[k]? = some (.pointer (some ⟨z.s, 0, none⟩))) := by
          show _ = _
          rw [List.getElem?_map, hz]; rfl
        have HY := Lib.hid hy
        have HZ := Lib.hid hz
        clear hy hz
        have HXV2 := Lib.hid (HXV.out.below (B := 0) ((Below.refl _ wr).alloc (Nat.le_refl _) (.cells #[.int .i64 kind, .int .i64 seq, .slice xq xn xc, .int .i64 num] 49)))
        have c9x : (wr.alloc (.cells #[.int .i64 kind, .int .i64 seq, .slice xq xn xc, .int .i64 num] 49)).cell? ⟨ks, f9 + k, none⟩ = some (.pointer (some ⟨y.s, 0, none⟩)) := HX0.out.cellS PS.out
        have c10x : (wr.alloc (.cells #[.int .i64 kind, .int .i64 seq, .slice xq xn xc, .int .i64 num] 49)).cell? ⟨kx, f10 + k, none⟩ = some (.pointer (some ⟨z.s, 0, none⟩)) := HX0.out.cellX PX.out
        have hOB := Lib.hid (Bk.new wr #[.int .i64 kind, .int .i64 seq, .slice xq xn xc, .int .i64 num] 49)
        go_upto_block 2 with fail
        rw [hkk]
        clear c0 c1 c2 c3 hob HOP HSZ HPr HXV
        have hOs : w.heap.size ≤ wr.heap.size := hBs
        have hksO : ks ≠ wr.heap.size := by omega
        have hkxO : kx ≠ wr.heap.size := by omega
        clear hks hkx hBs
        generalize hO : wr.heap.size = Ob at *
        generalize hwx : wr.alloc (.cells #[.int .i64 kind, .int .i64 seq, .slice xq xn xc, .int .i64 num] 49) = wx at *
        clear hkk
        have HX := HX0
        clear HX0
        have ox2 := hOB.out.cell 2 _ rfl
        have ox3 := hOB.out.cell 3 _ rfl
        have HO3 := Lib.hid ox3
        go_cut [16, 17, 21, 22] from 82 to 200 (fun s16 s17 s21 s22 wc => Hid (∃ (L : List Ent) (R : List REnt) (S : List Pg) (c : Nat → Nat) (ks kx : Nat) (wO : World), Pair w.heap.size w wc p b S L r rb S c (L.map (·.Q)) R (L.map ptrOf) (R.map ptrR) s16 ks s17 kx (fun j => j = Ob) wO ∧ DInv W N (i + 1) S (L.map (·.Q)) ∧ k < L.length ∧ wO.cell? ⟨Ob, 3, none⟩ = some (.int .i64 num)))
        case first =>
          by_cases hk0 : kind = 0
          · subst hk0
            go_upto_if 112 with fail
            go_cut [21] from 82 to 200 (fun s21 wc => ∃ (g f cp rm : Nat) (ys : List Int), s21 = .slice (some ⟨g, f, none⟩) rm cp ∧ 0 < rm ∧ rm * 8 ≤ 140737488355328 ∧ Hid (ys.length = rm ∧ Args wc g f ys ∧ Pair w.heap.size w wc p b S L r rb S c (L.map (·.Q)) R (L.map ptrOf) (R.map ptrR) (.slice (some ⟨ks, f9, none⟩) n c9) ks (.slice (some ⟨kx, f10, none⟩) n c10) kx (fun j => j = Ob ∨ j = g) wc ∧ wc.cell? ⟨Ob, 3, none⟩ = some (.int .i64 num)))
            case first =>
              by_cases hxn : xn = 0
              · subst hxn
                have LR := Lib.hid (lrow_c W i hW (by omega) wx)
                clear ox2
                go_wp2_with fail
                refine LR.out.mono ?_
                rintro e w4 ⟨g, f, cp, rfl, ha, hg, hb4⟩
                have HA4 := Lib.hid ha
                have HB4 := Lib.hid hb4
                have HG4 := Lib.hid hg
                clear ha hg hb4
                go_wp2_with fail
                go_meet
                refine ⟨g, f, cp, W, rowN W i, rfl, by omega, by omega, rowN_length W i, HA4.out, HX.out.fresh HB4.out (fun j hj => ?_), ?_⟩
                · rcases hj with e | e
                  · exact .inl e
                  · exact .inr (.inl ⟨by rw [e]; exact HG4.out, by rw [e]; exact HA4.out.lt⟩)
                · exact (HB4.out.cell (p := ⟨Ob, 3, none⟩) hOB.out.lt).trans HO3.out
              · have hxz : ((xn : Int) == 0) = false := by rw [beq_eq_false_iff_ne]; omega
                have hxz2 : ¬ (xn : Int) = 0 := by omega
                obtain ⟨x0, hx0⟩ : ∃ x0, xs[0]? = some x0 := ⟨_, List.getElem?_eq_getElem (by have := HXL.out; omega)⟩
                obtain ⟨b0, off0, rfl, hb0, -⟩ := HXV0.out 0 x0 hx0
                clear hx0
                go_wp2_with fail
                go_meet
                refine ⟨b0, off0, xc, xn, xs, rfl, by omega, ?_, HXL.out, ⟨?_, fun j u hu => ?_⟩, HX.out.fresh (Below.refl _ _) (fun j hj => ?_), HO3.out⟩
                · have := HXZ.out
                  unfold reachBytes at this
                  omega
                · have := HX.out.bel.size
                  omega
                · obtain ⟨b1, off1, he, -, hc⟩ := HXV2.out j u hu
                  cases he
                  exact hc
                · rcases hj with e | e
                  · exact .inl e
                  · exact .inr (.inr (by rw [e]; exact hb0))
            case rest =>
              obtain ⟨g, f, cp, rm, ys, rfl, hrm, hrb, hcc⟩ := hcut
              obtain ⟨hyl, hya, hpp, ho3⟩ := hcc.out
              have HYL := Lib.hid hyl
              have HYA := Lib.hid hya
              have HPP := Lib.hid hpp
              have HO4 := Lib.hid ho3
              have c9w : wc.cell? ⟨ks, f9 + k, none⟩ = some (.pointer (some ⟨y.s, 0, none⟩)) := hpp.cellS PS.out
              have c10w : wc.cell? ⟨kx, f10 + k, none⟩ = some (.pointer (some ⟨z.s, 0, none⟩)) := hpp.cellX PX.out
              clear hyl hya hpp ho3 hcc c9x c10x ox2 ox3 HX hOB hO hwx HXV0 HXV2 HXZ HXL
              have AP : Hid (∀ (w4 : World) (g2 cc : Nat), Below wc.heap.size wc w4 → Args w4 g2 0 ys → wc.heap.size ≤ g2 → Calls Try.prog 11 #[.pointer (some ⟨y.s, 0, none⟩), .slice (some ⟨g2, 0, none⟩) rm cc] w4 fun e w' => ∃ ev : Int, e = .returned (.int .i64 ev) ∧ w'.cell? ⟨ks, f9 + k, none⟩ = some (.pointer (some ⟨y.s, 0, none⟩)) ∧ w'.cell? ⟨kx, f10 + k, none⟩ = some (.pointer (some ⟨z.s, 0, none⟩)) ∧
                  ∃ S' L', Pair w.heap.size w w' p b S' L' r rb S c (L.map (·.Q)) R (L.map ptrOf) (R.map ptrR) (.slice (some ⟨ks, f9, none⟩) n c9) ks (.slice (some ⟨kx, f10, none⟩) n c10) kx (fun j => j = Ob ∨ j = g) wc ∧ L'.map ptrOf = L.map ptrOf ∧ AppRes W S L k y.Q ys ev S' L') := by
                intro w4 g2 cc hb4 ha4 hg2
                refine ((HPP.out.below hb4).appendAll HDI.out HY.out ys rm HYL.out g2 0 cc ha4 (fun e => ?_)).mono ?_
                · have := HPP.out.many.lts _ e; omega
                · rintro e w' ⟨ev, S', L', he, hp, hm, hr⟩
                  exact ⟨ev, he, hp.cellS PS.out, hp.cellX PX.out, S', L', hp, hm, hr⟩
              have RAP : Hid (∀ (w5 : World) (ev : Int) (S' : List Pg) (L' : List Ent), Pair w.heap.size w w5 p b S' L' r rb S c (L.map (·.Q)) R (L.map ptrOf) (R.map ptrR) (.slice (some ⟨ks, f9, none⟩) n c9) ks (.slice (some ⟨kx, f10, none⟩) n c10) kx (fun j => j = Ob ∨ j = g) wc → L'.map ptrOf = L.map ptrOf → AppRes W S L k y.Q ys ev S' L' →
                  Calls Try.prog 19 #[.pointer (some ⟨z.s, 0, none⟩), .slice (some ⟨g, f, none⟩) rm cp] w5 fun e w' => e = .returned (.int .i64 ev) ∧ w'.cell? ⟨ks, f9 + k, none⟩ = some (.pointer (some ⟨y.s, 0, none⟩)) ∧ w'.cell? ⟨kx, f10 + k, none⟩ = some (.pointer (some ⟨z.s, 0, none⟩)) ∧
                    ∃ c' R', Pair w.heap.size w w' p b S' L' r rb S' c' (L'.map (·.Q)) R' (L'.map ptrOf) (R'.map ptrR) (.slice (some ⟨ks, f9, none⟩) n c9) ks (.slice (some ⟨kx, f10, none⟩) n c10) kx (fun j => j = Ob ∨ j = g) wc ∧ DInv W N (i + 1) S' (L'.map (·.Q))) := by
                intro w5 ev S' L' hp hm hr
                refine (hp.rappendAll HDI.out hlt.2 HY.out HZ.out ys rm HYL.out g f cp (hp.args (.inr rfl) HYA.out) (hp.own g (.inr rfl)).2.2.2.1 hr).mono ?_
                rintro e w' ⟨he, c', R', hp', hm', hd'⟩
                refine ⟨he, hp'.cellS PS.out, hp'.cellX PX.out, c', R', ?_, hd'⟩
                rw [hm, hm']; exact hp'
              have HSRC : Hid (∀ w', Below wc.heap.size wc w' → Src w' (some ⟨g, f, none⟩) (encI ys)) := fun w' hb => Args.src ⟨Nat.lt_of_lt_of_le HYA.out.lt hb.size, fun j u hu => (hb.cell (p := ⟨g, f + j, none⟩) HYA.out.lt).trans (HYA.out.cell j u hu)⟩
              have B1 : Hid (Below wc.heap.size wc (wc.alloc (.cells #[] 2)).drew) := ((Below.refl _ wc).alloc (Nat.le_refl _) _).drew
              have hks := HPP.out.ss.lt ks rfl
              have hkx := HPP.out.xs.lt kx rfl
              have hkn : (k : Int) < (n : Int) := by omega
              have hk0 : (0 : Int) ≤ (k : Int) := by omega
              have hln : (encI ys).length = rm * 1 := by
                have := HYL.out
                unfold encI
                rw [List.length_map]; omega
              have hby8 : rm * i0.bytes ≤ 140737488355328 := by rw [hz2]; exact hrb
              have hrml : rm ≤ maxLen := by unfold maxLen; omega
              go_wp2_with fail
              go_region_held3 (fun w' => w'.cell? ⟨ks, f9 + k, none⟩ = some (.pointer (some ⟨y.s, 0, none⟩)) ∧ w'.cell? ⟨kx, f10 + k, none⟩ = some (.pointer (some ⟨z.s, 0, none⟩))) (first | exact ⟨by assumption, by assumption⟩ | go_keep) (first
                | (refine step_append_fresh rfl (.tmp 120) (.tmp 121) 33 rfl 2 i0 _ 1 Try.underlying33 hi0 hz0 hz1 rfl ⟨wc.heap.size, 0, none⟩ (by simp [Act.eval, Act.put]) ⟨g, f, none⟩ rm cp (encI ys) (by simp [Act.eval, Act.put]) hln (HSRC.out _ B1.out) hrm hby8 hrml ?_; intro cc cs q1 q2 q3 q4; have HB4 : Hid (Below wc.heap.size wc (((wc.alloc (.cells #[] 2)).alloc (.cells cs 2)).drew.drew)) := ((((Below.refl _ wc).alloc (Nat.le_refl _) _).alloc (by simp) _).drew).drew; have HA4 : Hid (Args (((wc.alloc (.cells #[] 2)).alloc (.cells cs 2)).drew.drew) (wc.heap.size + 1) 0 ys) := (by have hh := Args.new (w := wc.alloc (.cells #[] 2)) (t := 2) (cs := cs) (ys := ys) (by rw [HYL.out]; exact q4); rw [show (wc.alloc (.cells #[] 2)).heap.size = wc.heap.size + 1 by simp] at hh; exact ⟨hh.lt, hh.cell⟩); have c9y : (((wc.alloc (.cells #[] 2)).alloc (.cells cs 2)).drew.drew).cell? ⟨ks, f9 + k, none⟩ = some (.pointer (some ⟨y.s, 0, none⟩)) := (HB4.out.cell (p := ⟨ks, f9 + k, none⟩) hks).trans c9w; have c10y : (((wc.alloc (.cells #[] 2)).alloc (.cells cs 2)).drew.drew).cell? ⟨kx, f10 + k, none⟩ = some (.pointer (some ⟨z.s, 0, none⟩)) := (HB4.out.cell (p := ⟨kx, f10 + k, none⟩) hkx).trans c10w; clear q1 q2 q3 q4)
                | (go_at_call 11; (with_reducible refine (AP.out _ _ _ HB4.out HA4.out (Nat.le_succ _)).mono ?_); rintro e w5 ⟨ev, rfl, c9z, c10z, S5, L5, hp5, hm5, hr5⟩; have HP5 := Lib.hid hp5; have HM5 := Lib.hid hm5; have HR5 := Lib.hid hr5; clear hp5 hm5 hr5)
                | (go_at_call 19; (with_reducible refine (RAP.out _ _ _ _ HP5.out HM5.out HR5.out).mono ?_); rintro e w6 ⟨rfl, c9t, c10t, c6, R6, hp6, hd6⟩; have HP6 := Lib.hid hp6; have HD6 := Lib.hid hd6; clear hp6 hd6))
              go_wp2_with fail
              go_meet
              refine ⟨L5, R6, S5, c6, ks, kx, wc, HP6.out.sub (fun j hj => .inl hj), HD6.out, ?_, HO4.out⟩
              · have := congrArg List.length HM5.out
                rw [List.length_map, List.length_map, HLn.out] at this
                omega
          · by_cases hk1 : kind = 1
            · subst hk1
              clear ox2 ox3
              by_cases h6 : n < 6
              · have h6z : (n : Int) < 6 := by omega
                have FK := Lib.hid (HX.out.forkAll HDI.out HY.out)
                have hkn : (k : Int) < (n : Int) := by omega
                have hk0' : (0 : Int) ≤ (k : Int) := by omega
                go_wp2_with fail
                refine FK.out.mono ?_
                rintro e w5 ⟨y2, rfl, hq2, hp5⟩
                rw [← hq2] at hp5
                have HQ2 := Lib.hid hq2
                have HP5 := Lib.hid hp5
                have c10y : w5.cell? ⟨kx, f10 + k, none⟩ = some (.pointer (some ⟨z.s, 0, none⟩)) := hp5.cellX PX.out
                have hkx5 := hp5.xs.lt kx rfl
                have hlp : (L.map ptrOf).length = n := by rw [List.length_map, HLn.out]
                have hrp : (R.map ptrR).length = n := by rw [List.length_map, HRn.out]
                have HLP := Lib.hid hlp
                have HRP := Lib.hid hrp
                clear hp5 hq2 FK c9x c10x hlp hrp
                have BA : Hid (Below w5.heap.size w5 (w5.alloc (.cells #[.pointer (some ⟨y2.s, 0, none⟩)] 28)).drew) := ((Below.refl _ w5).alloc (Nat.le_refl _) _).drew
                have HP6 := Lib.hid (HP5.out.below BA.out)
                have HRS : Hid (Row (w5.alloc (.cells #[.pointer (some ⟨y2.s, 0, none⟩)] 28)).drew 28 1 (.slice (some ⟨ks, f9, none⟩) n c9) (some ks) n (L.map ptrOf)) := by
                  have := HP6.out.ss
                  rw [HLP.out] at this
                  exact this
                have HN : Hid (∀ j u, [Value.pointer (some ⟨y2.s, 0, none⟩)][j]? = some u → (w5.alloc (.cells #[.pointer (some ⟨y2.s, 0, none⟩)] 28)).drew.cell? ((⟨w5.heap.size, 0, none⟩ : Addr).add j) = some u) := World.news_of_block (cs := #[.pointer (some ⟨y2.s, 0, none⟩)]) (heap_alloc_new w5 _)
                have S7 : Hid (∀ (w7 : World) (g1 f1 cp1 : Nat), Row w7 28 1 (.slice (some ⟨g1, f1, none⟩) (n + 1) cp1) (some g1) (n + 1) (L.map ptrOf ++ [.pointer (some ⟨y2.s, 0, none⟩)]) → (w5.alloc (.cells #[.pointer (some ⟨y2.s, 0, none⟩)] 28)).drew.grownBy w7 (some ks) → (some ks = some g1 ∨ g1 = (w5.alloc (.cells #[.pointer (some ⟨y2.s, 0, none⟩)] 28)).drew.heap.size) →
                    w7.cell? ⟨kx, f10 + k, none⟩ = some (.pointer (some ⟨z.s, 0, none⟩)) ∧ Calls Try.prog 21 #[.pointer (some ⟨z.s, 0, none⟩)] w7 fun e w8 => ∃ z2, e = .returned (.pointer (some ⟨z2.s, 0, none⟩)) ∧ ∃ c8, Pair w.heap.size w w8 p b (shareAll S y2.Q.pages) (L ++ [y2]) r rb (shareAll S y2.Q.pages) c8 ((L ++ [y2]).map (·.Q)) (R ++ [z2]) (L.map ptrOf ++ [.pointer (some ⟨y2.s, 0, none⟩)]) (R.map ptrR) (.slice (some ⟨g1, f1, none⟩) (n + 1) cp1) g1 (.slice (some ⟨kx, f10, none⟩) n c10) kx (fun j => j = Ob) wx ∧ DInv W N (i + 1) (shareAll S y2.Q.pages) ((L ++ [y2]).map (·.Q))) := by
                  intro w7 g1 f1 cp1 hrow hgrow hown
                  have h7 := HP6.out.appS (vs' := .slice (some ⟨g1, f1, none⟩) (n + 1) cp1) (u := .pointer (some ⟨y2.s, 0, none⟩)) (g := g1) (by rw [HLP.out]; exact hrow) hgrow hown
                  refine ⟨h7.cellX PX.out, ?_⟩
                  have h8 := h7.rforkAll HDI.out hlt.2 (by rw [HLn.out]; exact h6) HY.out HZ.out HQ2.out
                  exact h8
                have ST : Hid (∀ (w8 w9 : World) (z2 : REnt) (c8 : Nat → Nat) (vs1 : Value) (g1 g2 f2 cp2 : Nat), Pair w.heap.size w w8 p b (shareAll S y2.Q.pages) (L ++ [y2]) r rb (shareAll S y2.Q.pages) c8 ((L ++ [y2]).map (·.Q)) (R ++ [z2]) (L.map ptrOf ++ [.pointer (some ⟨y2.s, 0, none⟩)]) (R.map ptrR) vs1 g1 (.slice (some ⟨kx, f10, none⟩) n c10) kx (fun j => j = Ob) wx →
                    Row w9 43 1 (.slice (some ⟨g2, f2, none⟩) (n + 1) cp2) (some g2) (n + 1) (R.map ptrR ++ [.pointer (some ⟨z2.s, 0, none⟩)]) → (w8.alloc (.cells #[.pointer (some ⟨z2.s, 0, none⟩)] 43)).grownBy w9 (some kx) → (some kx = some g2 ∨ g2 = (w8.alloc (.cells #[.pointer (some ⟨z2.s, 0, none⟩)] 43)).heap.size) →
                    Pair w.heap.size w w9 p b (shareAll S y2.Q.pages) (L ++ [y2]) r rb (shareAll S y2.Q.pages) c8 ((L ++ [y2]).map (·.Q)) (R ++ [z2]) ((L ++ [y2]).map ptrOf) ((R ++ [z2]).map ptrR) vs1 g1 (.slice (some ⟨g2, f2, none⟩) (n + 1) cp2) g2 (fun j => j = Ob) wx) := by
                  intro w8 w9 z2 c8 vs1 g1 g2 f2 cp2 h8 hrow hgrow hown
                  have h9 := (h8.below ((Below.refl _ w8).alloc (Nat.le_refl _) (.cells #[.pointer (some ⟨z2.s, 0, none⟩)] 43))).appX (vx' := .slice (some ⟨g2, f2, none⟩) (n + 1) cp2) (u := .pointer (some ⟨z2.s, 0, none⟩)) (g := g2) (by rw [HRP.out]; exact hrow) hgrow hown
                  rw [List.map_append (f := ptrOf), List.map_append (f := ptrR)]
                  exact h9
                have HRX : Hid (∀ (w8 : World) (z2 : REnt) (c8 : Nat → Nat) (vs1 : Value) (g1 : Nat), Pair w.heap.size w w8 p b (shareAll S y2.Q.pages) (L ++ [y2]) r rb (shareAll S y2.Q.pages) c8 ((L ++ [y2]).map (·.Q)) (R ++ [z2]) (L.map ptrOf ++ [.pointer (some ⟨y2.s, 0, none⟩)]) (R.map ptrR) vs1 g1 (.slice (some ⟨kx, f10, none⟩) n c10) kx (fun j => j = Ob) wx →
                    Row (w8.alloc (.cells #[.pointer (some ⟨z2.s, 0, none⟩)] 43)) 43 1 (.slice (some ⟨kx, f10, none⟩) n c10) (some kx) n (R.map ptrR)) := by
                  intro w8 z2 c8 vs1 g1 h8
                  have hh := (h8.below ((Below.refl _ w8).alloc (Nat.le_refl _) (.cells #[.pointer (some ⟨z2.s, 0, none⟩)] 43))).xs
                  rw [HRP.out] at hh
                  exact hh
                have HN2 : Hid (∀ (w8 : World) (z2 : REnt) (j : Nat) (u : Value), [Value.pointer (some ⟨z2.s, 0, none⟩)][j]? = some u → (w8.alloc (.cells #[.pointer (some ⟨z2.s, 0, none⟩)] 43)).cell? ((⟨w8.heap.size, 0, none⟩ : Addr).add j) = some u) := fun w8 z2 => World.news_of_block (cs := #[.pointer (some ⟨z2.s, 0, none⟩)]) (heap_alloc_new w8 _)
                clear HP5 HP6 BA
                go_wp2_with fail
                go_region_law (first
                  | (refine step_row_append rfl (.tmp 143) (.tmp 145) 46 rfl 28 j0 _ 1 Try.underlying46 hj0 hy0 hy1 rfl (by decide) (by omega) (.slice (some ⟨ks, f9, none⟩) n c9) (some ks) n (L.map ptrOf) (by simp [Act.eval, Act.put]) HRS.out ⟨w5.heap.size, 0, none⟩ 1 1 [.pointer (some ⟨y2.s, 0, none⟩)] (by simp [Act.eval, Act.put]) rfl HN.out (by simp [Value.oneCell']) (by omega) (by omega) ?_; intro g1 f1 cp1 w7 hrow hgrow hown; obtain ⟨c10z, h7⟩ := S7.out w7 g1 f1 cp1 hrow hgrow hown; have RF := Lib.hid h7; clear hrow hgrow hown h7)
                  | (go_simp; go_at_call 21; (with_reducible refine RF.out.mono ?_); rintro e w8 ⟨z2, rfl, c8, hp8, hd8⟩; have HP8 := Lib.hid hp8; have HD8 := Lib.hid hd8; clear hp8 hd8; (try dsimp only))
                  | (refine step_row_append rfl (.tmp 147) (.tmp 153) 47 rfl 43 m0 _ 1 Try.underlying47 hm0 hx0 hx1 rfl (by decide) (by omega) (.slice (some ⟨kx, f10, none⟩) n c10) (some kx) n (R.map ptrR) (by simp [Act.eval, Act.put]) (HRX.out w8 z2 c8 _ g1 HP8.out) ⟨w8.heap.size, 0, none⟩ 1 1 [.pointer (some ⟨z2.s, 0, none⟩)] (by simp [Act.eval, Act.put]) rfl (HN2.out w8 z2) (by simp [Value.oneCell']) (by omega) (by omega) ?_; intro g2 f2 cp2 w9 hrow2 hgrow2 hown2; have HPT := Lib.hid (ST.out w8 w9 z2 c8 _ g1 g2 f2 cp2 HP8.out hrow2 hgrow2 hown2); clear hrow2 hgrow2 hown2))
                all_goals
                  go_wp2_with fail
                  go_meet
                  exact ⟨L ++ [y2], R ++ [z2], _, c8, g1, g2, wx, HPT.out, HD8.out, by rw [List.length_append, HLn.out]; omega, HO3.out⟩
              · have h6z : ¬ (n : Int) < 6 := by omega
                clear c9x c10x
                go_wp2_with fail
                go_meet
                exact ⟨L, R, S, c, ks, kx, wx, HX.out, HDI.out.more hlt.2, by rw [HLn.out]; exact hk, HO3.out⟩
            · by_cases hk2 : kind = 2
              · subst hk2
                clear ox2
                obtain ⟨mm, hmm⟩ : ∃ mm : Int, (0 ≤ num ∧ mm = num) ∨ (num < 0 ∧ mm = 0) := by
                  by_cases e : 0 ≤ num
                  · exact ⟨num, .inl ⟨e, rfl⟩⟩
                  · exact ⟨0, .inr ⟨by omega, rfl⟩⟩
                have HMM := Lib.hid hmm
                clear hmm
                have KP : Hid (Calls Try.prog 22 #[.pointer (some ⟨y.s, 0, none⟩), .int .i64 num] wx.drew fun e w' => e = .returned (.tuple #[]) ∧ ∃ S' L', Pair w.heap.size w w' p b S' L' r rb S c (L.map (·.Q)) R (L.map ptrOf) (R.map ptrR) (.slice (some ⟨ks, f9, none⟩) n c9) ks (.slice (some ⟨kx, f10, none⟩) n c10) kx (fun j => j = Ob) wx ∧ L'.map ptrOf = L.map ptrOf ∧ Pair.KeepRes S L k y.Q mm S' L') := (HX.out.drewN 1).keepAll HDI.out HY.out num mm HMM.out hok.2
                go_wp2_with fail
                go_region_with ((go_at_call 22; (with_reducible refine KP.out.mono ?_); rintro e w5 ⟨rfl, S5, L5, hp5, hm5, hr5⟩; have HP5 := Lib.hid hp5; have HM5 := Lib.hid hm5; have HR5 := Lib.hid hr5; clear hp5 hm5 hr5))
                all_goals
                  have c10y : w5.cell? ⟨kx, f10 + k, none⟩ = some (.pointer (some ⟨z.s, 0, none⟩)) := HP5.out.cellX PX.out
                  have ox3y : w5.cell? ⟨Ob, 3, none⟩ = some (.int .i64 num) := (HP5.out.ocell rfl).trans HO3.out
                  have RK : Hid (Calls Try.prog 23 #[.pointer (some ⟨z.s, 0, none⟩), .int .i64 num] w5.drew fun e w' => e = .returned (.tuple #[]) ∧ ∃ c' R', Pair w.heap.size w w' p b S5 L5 r rb S5 c' (L5.map (·.Q)) R' (L.map ptrOf) (R.map ptrR) (.slice (some ⟨ks, f9, none⟩) n c9) ks (.slice (some ⟨kx, f10, none⟩) n c10) kx (fun j => j = Ob) wx ∧ R'.map ptrR = R.map ptrR ∧ DInv W N (i + 1) S5 (L5.map (·.Q))) := (HP5.out.drewN 1).rkeepAll HDI.out hlt.2 HY.out HZ.out num mm HMM.out hok.2 HR5.out
                  clear c9x c10x ox3 KP
                  go_wp2_with fail
                  go_region_with ((go_at_call 23; (with_reducible refine RK.out.mono ?_); rintro e w6 ⟨rfl, c6, R6, hp6, hm6, hd6⟩; have HP6 := Lib.hid hp6; have HM6 := Lib.hid hm6; have HD6 := Lib.hid hd6; clear hp6 hm6 hd6))
                  all_goals
                    go_wp2_with fail
                    go_meet
                    refine ⟨L5, R6, S5, c6, ks, kx, wx, ?_, HD6.out, ?_, HO3.out⟩
                    · rw [HM5.out, HM6.out]; exact HP6.out
                    · have := congrArg List.length HM5.out
                      rw [List.length_map, List.length_map, HLn.out] at this
                      omega
              · by_cases hk3 : kind = 3
                · subst hk3
                  have RL := Lib.hid (HX.out.releaseAll HDI.out HY.out)
                  clear ox2 ox3
                  go_wp2_with fail
                  refine RL.out.mono ?_
                  rintro e w5 ⟨rfl, S5, L5, hp5, hm5, hr5⟩
                  have HP5 := Lib.hid hp5
                  have HM5 := Lib.hid hm5
                  have HR5 := Lib.hid hr5
                  clear hp5 hm5 hr5
                  have c10y : w5.cell? ⟨kx, f10 + k, none⟩ = some (.pointer (some ⟨z.s, 0, none⟩)) := HP5.out.cellX PX.out
                  have RR := Lib.hid (HP5.out.rreleaseAll HDI.out hlt.2 HY.out HZ.out HR5.out)
                  clear c9x c10x RL
                  go_wp2_with fail
                  refine RR.out.mono ?_
                  rintro e w6 ⟨rfl, c6, R6, hp6, hm6, hd6⟩
                  have HP6 := Lib.hid hp6
                  have HM6 := Lib.hid hm6
                  have HD6 := Lib.hid hd6
                  clear hp6 hm6 hd6
                  go_wp2_with fail
                  go_meet
                  refine ⟨L5, R6, S5, c6, ks, kx, wx, ?_, HD6.out, ?_, HO3.out⟩
                  · rw [HM5.out, HM6.out]; exact HP6.out
                  · have := congrArg List.length HM5.out
                    rw [List.length_map, List.length_map, HLn.out] at this
                    omega
                · clear c9x c10x ox2 ox3
                  go_wp2_with fail
                  go_meet
                  exact ⟨L, R, S, c, ks, kx, wx, HX.out, HDI.out.more hlt.2, by rw [HLn.out]; exact hk, HO3.out⟩
        case rest =>
          obtain ⟨L2, R2, S2, c2, ks2, kx2, wO2, hp2, hd2, hk2, hO2⟩ := hcut.out
          have HO2 := Lib.hid hO2
          clear hO2 HO3
          clear hcut HX HY HZ PS PX hOB hO hwx c9x c10x ox2 ox3 HDI HLn HRn HXV0 HXV2 HXZ HXL hksO hkxO
          obtain ⟨f9', c9', hv9⟩ := hp2.formS
          obtain ⟨f10', c10', hv10⟩ := hp2.formX
          rw [List.length_map] at hv9 hv10
          subst hv9
          subst hv10
          have hRl : R2.length = L2.length := by rw [hp2.ref.len, List.length_map]
          obtain ⟨n2, hn2⟩ : ∃ n2, L2.length = n2 := ⟨_, rfl⟩
          rw [hRl] at hp2 ⊢
          rw [hn2] at hp2 hRl hk2 ⊢
          obtain ⟨y, hy⟩ : ∃ y, L2[k]? = some y := ⟨_, List.getElem?_eq_getElem (by rw [hn2]; exact hk2)⟩
          obtain ⟨z, hz⟩ : ∃ z, R2[k]? = some z := ⟨_, List.getElem?_eq_getElem (by rw [hRl]; exact hk2)⟩
          have PS : Hid ((L2.map ptrOf)[k]? = some (.pointer (some ⟨y.s, 0, none⟩))) := by
            show _ = _
            rw [List.getElem?_map, hy]; rfl
          have PX : Hid ((R2.map ptrR)[k]? = some (.pointer (some ⟨z.s, 0, none⟩))) := by
            show _ = _
            rw [List.getElem?_map, hz]; rfl
          have HU : Hid (y.Q.isOpen = true → ownersOf S2 y.Q.last ≠ 0) := fun ho => hd2.fam.last (k := k) (by rw [List.getElem?_map, hy]; rfl) ho
          have HY := Lib.hid hy
          have HZ := Lib.hid hz
          have HP := Lib.hid hp2
          have HD := Lib.hid hd2
          have c9x : wc.cell? ⟨ks2, f9' + k, none⟩ = some (.pointer (some ⟨y.s, 0, none⟩)) := hp2.cellS PS.out
          have c10x : wc.cell? ⟨kx2, f10' + k, none⟩ = some (.pointer (some ⟨z.s, 0, none⟩)) := hp2.cellX PX.out
          have ox3 : wc.cell? ⟨Ob, 3, none⟩ = some (.int .i64 num) := (hp2.ocell rfl).trans HO2.out
          have hn26 : n2 ≤ 6 := by have := hd2.cnt; rw [List.length_map, hn2] at this; exact this.2
          clear hp2 hd2 hy hz
          have SM : Hid (Calls Try.prog 26 #[.pointer (some ⟨y.s, 0, none⟩), .pointer (some ⟨z.s, 0, none⟩), .int .i64 num] wc.drew fun e w' => e = .returned (.bool true) ∧ Pair w.heap.size w w' p b S2 L2 r rb S2 c2 (L2.map (·.Q)) R2 (L2.map ptrOf) (R2.map ptrR) (.slice (some ⟨ks2, f9', none⟩) n2 c9') ks2 (.slice (some ⟨kx2, f10', none⟩) n2 c10') kx2 (fun j => j = Ob) wO2) := (HP.out.drewN 1).same13 HY.out HZ.out HU.out num
          have hkn : (k : Int) < (n2 : Int) := by omega
          have hk0 : (0 : Int) ≤ (k : Int) := by omega
          go_wp2_with fail
          go_region_held3 (fun w' => w'.cell? ⟨ks2, f9' + k, none⟩ = some (.pointer (some ⟨y.s, 0, none⟩)) ∧ w'.cell? ⟨kx2, f10' + k, none⟩ = some (.pointer (some ⟨z.s, 0, none⟩)) ∧ w'.cell? ⟨Ob, 3, none⟩ = some (.int .i64 num)) (first | exact ⟨by assumption, by assumption, by assumption⟩ | go_keep) (first
            | (go_at_call 26; (with_reducible refine SM.out.mono ?_); rintro e w5 ⟨rfl, hp5⟩; have HP5 := Lib.hid hp5; have c9y : w5.cell? ⟨ks2, f9' + k, none⟩ = some (.pointer (some ⟨y.s, 0, none⟩)) := hp5.cellS PS.out; have c10y : w5.cell? ⟨kx2, f10' + k, none⟩ = some (.pointer (some ⟨z.s, 0, none⟩)) := hp5.cellX PX.out; have ox3y : w5.cell? ⟨Ob, 3, none⟩ = some (.int .i64 num) := (hp5.ocell rfl).trans HO2.out; clear hp5)
            | (go_at_call 27; (with_reducible refine (HP5.out.same11).mono ?_); rintro e w6 ⟨rfl, hp6⟩; have HP6 := Lib.hid hp6; have c9z : w6.cell? ⟨ks2, f9' + k, none⟩ = some (.pointer (some ⟨y.s, 0, none⟩)) := hp6.cellS PS.out; have c10z : w6.cell? ⟨kx2, f10' + k, none⟩ = some (.pointer (some ⟨z.s, 0, none⟩)) := hp6.cellX PX.out; have ox3z : w6.cell? ⟨Ob, 3, none⟩ = some (.int .i64 num) := (hp6.ocell rfl).trans HO2.out; clear hp6))
          go_wp2
          exact ⟨⟨i + 1, by omega, by omega, by go_num, ⟨L2, R2, S2, c2, ks2, kx2, _, _, HP6.out, HD.out⟩⟩, by simp [intOf]; omega⟩
      · have hex : (¬ (i : Int) < (m : Int)) ∨ ((i : Int) < (m : Int) ∧ ¬ (i : Int) < 60) := by omega
        clear hks hkx hBs hun hnz hnz2 HOP HSZ HOL
        rcases hex with hez | ⟨hez, hez2⟩
        all_goals
          go_wp2_with fail
          go_loopw [23] (fun s23 wr => ∃ k : Nat, k ≤ n ∧ s23 = .int .i64 k ∧ Hid (Pair w.heap.size w wr p b S L r rb S c (L.map (·.Q)) R (L.map ptrOf) (R.map ptrR) (.slice (some ⟨ks, f9, none⟩) n c9) ks (.slice (some ⟨kx, f10, none⟩) n c10) kx O0 wO0)) (fun s23 _ => n - (intOf s23).toNat)
          case atStart => exact ⟨0, by omega, rfl, HPr⟩
          case round =>
            obtain ⟨k, hk, rfl, HK⟩ := hrel
            clear HPr
            by_cases hkn : k < n
            · have hkz : (k : Int) < (n : Int) := by omega
              have hkz0 : (0 : Int) ≤ (k : Int) := by omega
              obtain ⟨y, hy⟩ : ∃ y, L[k]? = some y := ⟨_, List.getElem?_eq_getElem (by rw [HLn.out]; exact hkn)⟩
              obtain ⟨z, hz⟩ : ∃ z, R[k]? = some z := ⟨_, List.getElem?_eq_getElem (by rw [HRn.out]; exact hkn)⟩
              have PS : Hid ((L.map ptrOf)[k]? = some (.pointer (some ⟨y.s, 0, none⟩))) := by
                show _ = _
                rw [List.getElem?_map, hy]; rfl
              have PX : Hid ((R.map ptrR)[k]? = some (.pointer (some ⟨z.s, 0, none⟩))) := by
                show _ = _
                rw [List.getElem?_map, hz]; rfl
              have HQ : Hid ((L.map (·.Q))[k]? = some y.Q) := by
                show _ = _
                rw [List.getElem?_map, hy]; rfl
              have HU : Hid (y.Q.isOpen = true → ownersOf S y.Q.last ≠ 0) := fun ho => HDI.out.fam.last HQ.out ho
              have hlen : y.Q.len ≤ 60 := by have := HDI.out.len k y.Q HQ.out; omega
              have HY := Lib.hid hy
              have HZ := Lib.hid hz
              clear hy hz
              go_wp2_with fail
              go_loopw [24] (fun s24 wr => ∃ j : Nat, j ≤ y.Q.len ∧ s24 = .int .i64 j ∧ Hid (Pair w.heap.size w wr p b S L r rb S c (L.map (·.Q)) R (L.map ptrOf) (R.map ptrR) (.slice (some ⟨ks, f9, none⟩) n c9) ks (.slice (some ⟨kx, f10, none⟩) n c10) kx O0 wO0)) (fun s24 _ => y.Q.len - (intOf s24).toNat)
              case atStart => exact ⟨0, by omega, rfl, HK⟩
              case round =>
                obtain ⟨j, hj, rfl, HJ⟩ := hrel
                clear HK
                have c9x := HJ.out.cellS PS.out
                have c10x := HJ.out.cellX PX.out
                have c5 := (HJ.out.ref.one k z y.Q HZ.out HQ.out).1.c5
                have SM : Hid (Calls Try.prog 26 #[.pointer (some ⟨y.s, 0, none⟩), .pointer (some ⟨z.s, 0, none⟩), .int .i64 (j : Int)] wr.drew fun e w' => e = .returned (.bool true) ∧ Pair w.heap.size w w' p b S L r rb S c (L.map (·.Q)) R (L.map ptrOf) (R.map ptrR) (.slice (some ⟨ks, f9, none⟩) n c9) ks (.slice (some ⟨kx, f10, none⟩) n c10) kx O0 wO0) := (HJ.out.drewN 1).same13 HY.out HZ.out HU.out (j : Int)
                by_cases hjn : j < y.Q.len
                · have hjz : (j : Int) < (y.Q.len : Int) := by omega
                  have hjz0 : (0 : Int) ≤ (j : Int) := by omega
                  go_wp2_with fail
                  clear c5
                  go_region_held3 (fun w' => w'.cell? ⟨ks, f9 + k, none⟩ = some (.pointer (some ⟨y.s, 0, none⟩)) ∧ w'.cell? ⟨kx, f10 + k, none⟩ = some (.pointer (some ⟨z.s, 0, none⟩))) (first | exact ⟨by assumption, by assumption⟩ | go_keep)
                    ((go_at_call 26; (with_reducible refine SM.out.mono ?_); rintro e w5 ⟨rfl, hp5⟩; have HP5 := Lib.hid hp5; have c9y : w5.cell? ⟨ks, f9 + k, none⟩ = some (.pointer (some ⟨y.s, 0, none⟩)) := hp5.cellS PS.out; have c10y : w5.cell? ⟨kx, f10 + k, none⟩ = some (.pointer (some ⟨z.s, 0, none⟩)) := hp5.cellX PX.out; clear hp5))
                  go_wp2
                  exact ⟨⟨j + 1, by omega, by go_num, HP5⟩, by simp [intOf]; omega⟩
                · obtain rfl : j = y.Q.len := by omega
                  have hjz : ¬ (y.Q.len : Int) < (y.Q.len : Int) := by omega
                  clear SM
                  go_wp2
                  exact ⟨⟨k + 1, by omega, by go_num, HJ⟩, by simp [intOf]; omega⟩
            · obtain rfl : k = n := by omega
              have hkz : ¬ (k : Int) < (k : Int) := by omega
              have hbel := HK.out.bel
              go_wp2
              go_ret
              exact ⟨rfl, hbel⟩
  · have hbad : tag.toList = [] ∨ a1 < 1 ∨ 32 < a1 := by
      by_cases e : tag.toList = []
      · exact .inl e
      · by_cases f : a1 < 1
        · exact .inr (.inl f)
        · refine .inr (.inr ?_)
          by_cases g : a1 ≤ 32
          · exact absurd ⟨e, by omega, g⟩ hgood
          · omega
    have KN := Lib.hid (knew_bad p w2 tag a1 hbad)
    have XN := Lib.hid (r13new_bad r w2 tag a1 hbad)
    have HBE : Hid (Below w.heap.size w w2) := below_step HB1.out HB2.out
    clear hgood hbad HP HR HB1 HB2
    go_wp2_with fail
    refine KN.out.mono ?_
    rintro e w3 ⟨rfl, rfl⟩
    go_wp2_with fail
    refine XN.out.mono ?_
    rintro e w4 ⟨rfl, rfl⟩
    go_wp2
    go_ret
    exact ⟨rfl, HBE.out⟩
end Go.Proofs.Ytfimadeokdlpnaa.kv
