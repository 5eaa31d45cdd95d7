/- slices.Delete of one item. -/
import Derived.Test.YtdnkliapcnfcoaaRap
import Derived.Test.YtdnkliapcnfcoaaFq
namespace Go.Proofs.Ytdnkliapcnfcoaa.fair
open Go.ChangeShapes Go.WideShapes Go.ChangeAt Go.RowKit K
set_option linter.unusedVariables false
set_option linter.unusedSimpArgs false
theorem infoItem : (Try.prog.info? 60).map (fun i => (i.zero, i.size, i.bytes)) = some (some (.agg #[.int .i64 0, .int .i64 0]), 2, 16) := by kernel_rfl
theorem encQ_one (l : List (Int × Int)) : ∀ u ∈ encQ l, u.oneCell' = true := by
  intro u hu
  unfold encQ at hu
  obtain ⟨x, _, hx⟩ := List.mem_flatMap.1 hu
  simp at hx
  rcases hx with rfl | rfl <;> rfl
theorem encQ_at (l : List (Int × Int)) (j : Nat) (x : Value) (k : Nat) (h : (encQ l)[2 * j + k]? = some x) : 2 * j + k < l.length * 2 := by
  have := (List.getElem?_eq_some_iff.1 h).1
  rwa [encQ_length] at this
theorem encQ_drop (l : List (Int × Int)) (j : Nat) : encQ (l.drop j) = (encQ l).drop (j * 2) := by
  induction l generalizing j with
  | nil => simp [encQ]
  | cons x l ih =>
    cases j with
    | zero => simp
    | succ j =>
      have e : encQ (x :: l) = .int .i64 x.1 :: .int .i64 x.2 :: encQ l := rfl
      rw [e, show (j + 1) * 2 = j * 2 + 1 + 1 by omega]
      simpa using ih j
theorem encQ_take (l : List (Int × Int)) (j : Nat) : encQ (l.take j) = (encQ l).take (j * 2) := by
  induction l generalizing j with
  | nil => simp [encQ]
  | cons x l ih =>
    cases j with
    | zero => simp [encQ]
    | succ j =>
      have e : encQ (x :: l) = .int .i64 x.1 :: .int .i64 x.2 :: encQ l := rfl
      have e2 : ∀ m, encQ (x :: m) = .int .i64 x.1 :: .int .i64 x.2 :: encQ m := fun _ => rfl
      rw [e, show (j + 1) * 2 = j * 2 + 1 + 1 by omega, List.take_succ_cons, List.take_succ_cons, List.take_succ_cons, e2, ih j]
/-- Behind Delete: the value, its cells. -/
def DelPost (w : World) (b : Nat) (q : List (Int × Int)) (j : Nat) (e : Ending) (w' : World) : Prop :=
  ∃ v', e = .returned v' ∧ Row w' 60 2 v' (some b) (q.eraseIdx j).length (encQ (q.eraseIdx j)) ∧ Chg (fun k => k = b) w w'
set_option maxHeartbeats 1000000 in
set_option maxRecDepth 100000 in
theorem delete_c (w : World) (v : Value) (b : Nat) (q : List (Int × Int)) (h : Row w 60 2 v (some b) q.length (encQ q)) (hq : q.length ≤ 1000) (j : Nat) (hj : j < q.length) :
    Calls Try.prog 23 #[v, .int .i64 j, .int .i64 ((j : Int) + 1)] w (DelPost w b q j) := by
  obtain ⟨i0, hi0, hz0, hz1, hz2⟩ := info_parts infoItem
  obtain ⟨b', off, cap, cs, rfl, hb', hn, hcap, hbk, hfit, hcs⟩ := h.pos (by omega)
  cases hb'
  have hm : cap ≤ 9223372036854775807 := hcap
  obtain ⟨news, hnews⟩ : ∃ news, news = encQ (q.drop (j + 1)) := ⟨_, rfl⟩
  have hlen : news.length = (q.length - (j + 1)) * 2 := by rw [hnews, encQ_length]; simp
  obtain ⟨A, hA, hsrc⟩ : ∃ A : Addr, (if cap = j + 1 then some (⟨b, off, none⟩ : Addr) else some ⟨b, off + (j + 1) * 2, none⟩) = some A ∧ Hid (∀ t u, news[t]? = some u → w.drew.cell? (A.add t) = some u) := by
    by_cases hc : cap = j + 1
    · refine ⟨⟨b, off, none⟩, by simp [hc], fun t u hu => ?_⟩
      have h0 : news.length = 0 := by rw [hlen]; omega
      rw [List.length_eq_zero_iff.1 h0] at hu
      simp at hu
    · refine ⟨⟨b, off + (j + 1) * 2, none⟩, by simp [hc], fun t u hu => ?_⟩
      have ht : t < (q.length - (j + 1)) * 2 := by
        have := (List.getElem?_eq_some_iff.1 hu).1
        rwa [hlen] at this
      rw [Addr.add_lit]
      show w.cell? _ = _
      refine hbk.cell _ _ ?_
      rw [Nat.add_assoc, hcs _ (by omega)]
      rw [hnews, encQ_drop, List.getElem?_drop] at hu
      exact hu
  have s1 : Hid (news.length = (q.length - (j + 1)) * 2) := hlen
  have s2 : Hid (∀ u ∈ news, u.oneCell' = true) := by rw [hnews]; exact encQ_one _
  have s4 : Hid (Bk w.drew b cs 60) := hbk.drew
  have hfin : Hid (∀ cs2, cs2 = lay (lay cs (off + j * 2) news) (off + (j + (q.length - (j + 1))) * 2) [.int .i64 0, .int .i64 0] → Row (w.drew.setRow b cs2) 60 2 (.slice (some ⟨b, off, none⟩) (j + (q.length - (j + 1))) cap) (some b) (q.eraseIdx j).length (encQ (q.eraseIdx j))) := by
    rintro cs2 rfl
    have e1 : (q.eraseIdx j).length = q.length - 1 := List.length_eraseIdx_of_lt hj
    have e2 : j + (q.length - (j + 1)) = q.length - 1 := by omega
    have z1 : off + j * 2 + news.length ≤ cs.size := by rw [hlen]; have := Nat.mul_le_mul_right 2 hn; omega
    have z0 : (lay cs (off + j * 2) news).size = cs.size := lay_size _ _ _ z1
    have z2 : off + (j + (q.length - (j + 1))) * 2 + 2 ≤ (lay cs (off + j * 2) news).size := by rw [z0]; have := Nat.mul_le_mul_right 2 hn; omega
    rw [e2] at z2 ⊢
    refine ⟨by rw [encQ_length], .inr ⟨b, off, cap, _, by rw [e1], rfl, by omega, hcap, bk_setRow _ _ _ _ _ hbk.drew, ?_, ?_⟩⟩
    · rw [lay_size _ _ _ (by simpa using z2), z0]; exact hfit
    · intro t ht
      rw [lay_get _ _ _ (by simpa using z2), if_neg (by simp; omega), lay_get _ _ _ z1, hlen, List.eraseIdx_eq_take_drop_succ, encQ_append, encQ_take, encQ_drop]
      by_cases hk : t < j * 2
      · rw [if_neg (by omega), hcs t (by omega), List.getElem?_append_left (by rw [List.length_take, encQ_length]; omega), List.getElem?_take, if_pos hk]
      · rw [if_pos (by omega), hnews, encQ_drop, List.getElem?_append_right (by rw [List.length_take, encQ_length]; omega), List.length_take, encQ_length, Nat.min_eq_left (by omega)]
        congr 1; omega
  have hcl : ∀ ty, (Builtin.clear_ #[52] ty #[.slice (some ⟨b, off + (j + (q.length - (j + 1))) * 2, none⟩) (q.length - (j + (q.length - (j + 1)))) (cap - (j + (q.length - (j + 1))))]).run Try.prog (w.drew.setRow b (lay cs (off + j * 2) news)) = .ok (.tuple #[]) ((w.drew.setRow b (lay cs (off + j * 2) news)).setRow b (lay (lay cs (off + j * 2) news) (off + (j + (q.length - (j + 1))) * 2) [.int .i64 0, .int .i64 0])) := by
    intro ty
    have z1 : off + j * 2 + news.length ≤ cs.size := by rw [hlen]; have := Nat.mul_le_mul_right 2 hn; omega
    rw [show q.length - (j + (q.length - (j + 1))) = 1 by omega]
    exact run_clear_one _ _ _ ty i0 _ Try.underlying52 hi0 hz0 (by simp [Value.cells, Value.oneCell']) b _ _ _ (bk_setRow _ _ _ _ _ hbk.drew) (by rw [lay_size _ _ _ z1]; simp [Value.cells]; have := Nat.mul_le_mul_right 2 hn; omega)
  obtain ⟨W1, hW1⟩ : ∃ W1, W1 = w.drew.setRow b (lay cs (off + j * 2) news) := ⟨_, rfl⟩
  have hW : Hid (W1 = w.drew.setRow b (lay cs (off + j * 2) news)) := hW1
  rw [← hW1] at hcl
  have hW2 : Hid (∀ cs2, W1.setRow b cs2 = w.drew.setRow b cs2) := by intro cs2; rw [hW1]; exact setRow_setRow _ _ _ _
  obtain ⟨cs2, hcs2⟩ : ∃ cs2, cs2 = lay (lay cs (off + j * 2) news) (off + (j + (q.length - (j + 1))) * 2) [.int .i64 0, .int .i64 0] := ⟨_, rfl⟩
  have HR := Lib.hid (hfin.out cs2 hcs2)
  rw [← hcs2] at hcl
  have hic : j ≤ cap := by omega
  have HL := Lib.hid h
  have hwr : IntKind.i64.wrap ((j : Int) + 1) = (j : Int) + 1 := by rw [IntKind.wrap_i64]; omega
  have hp0 : (0 : Int) ≤ (j : Int) + 1 := by omega
  have hp1 : (j : Int) + 1 ≤ (q.length : Int) := by omega
  have hp2 : ((j : Int) + 1).toNat = j + 1 := by omega
  have hn1 : ¬ cap = j + (q.length - (j + 1)) := by omega
  have HF := Lib.hid hfit
  have HS : Hid (news = encQ (q.drop (j + 1))) := hnews
  have HC := Lib.hid hcs2
  clear hcs hnews hlen hW1 hfin hbk h hfit hcs2
  go_enter Try.func23, Try.ntmps23
  go_wp2_with fail
  go_region_law (refine step_append_lay rfl (.tmp 22) (.tmp 25) 52 rfl 60 i0 2 Try.underlying52 hi0 hz1 b off j cap cs (by simp [Act.eval, Act.put]) s4.out HF.out A (q.length - (j + 1)) (cap - (j + 1)) news (by simp [Act.eval, Act.put]) s1.out hsrc.out s2.out (by omega) ?_; rw [← hW.out])
  go_wp2
  go_ret
  rw [hW2.out]
  exact ⟨_, rfl, HR.out, ((Chg.refl _ w).drew).trans (chg_setRow _ _ _) (fun b hb => .inl hb)⟩
end Go.Proofs.Ytdnkliapcnfcoaa.fair
