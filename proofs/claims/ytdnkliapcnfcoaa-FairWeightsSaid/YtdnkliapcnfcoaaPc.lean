/- aviarylaw21.price: costs from 1 to 10000, at least one. -/
import Derived.Test.YtdnkliapcnfcoaaFi
import Derived.Test.YtdnkliapcnfcoaaMq
import Derived.Test.YtdnkliapcnfcoaaPw
namespace Go.Proofs.Ytdnkliapcnfcoaa.fair
open Go.ChangeShapes Go.WideShapes Go.ChangeAt Go.RowKit K
set_option linter.unusedVariables false
set_option linter.unusedSimpArgs false
theorem encI_length (l : List Int) : (encI l).length = l.length * 1 := by simp [encI]
theorem encI_snoc (l : List Int) (x : Int) : encI (l ++ [x]) = encI l ++ [.int .i64 x] := by simp [encI]
def Prices (w wr : World) (v : Value) (cl : List Int) : Prop :=
  (∃ g, w.heap.size ≤ g ∧ Row wr 3 1 v (some g) cl.length (encI cl)) ∧ 1 ≤ cl.length ∧ cl.length ≤ 51 ∧ (∀ x, x ∈ cl → 1 ≤ x ∧ x ≤ 10000) ∧ Below w.heap.size w wr
def PricePost (w : World) (e : Ending) (w' : World) : Prop := ∃ v cl, e = .returned v ∧ Prices w w' v cl
set_option maxHeartbeats 2000000 in
theorem price_c (w : World) (p : Option Addr) (n c : Nat) (xs : List Int) (hl : xs.length = n) (hm : n ≤ 9223372036854775807) (hx : Ints w p xs) :
    Calls Try.prog 9 #[.slice p n c] w (PricePost w) := by
  obtain ⟨i0, hi0, hz0, hz1, hz2⟩ := info_parts infoInt
  have HL := Lib.hid hl
  have HX := Lib.hid hx
  clear hl hx
  have HP0 : Hid (Prices w (w.alloc (.cells #[.int .i64 7] 3)) (.slice (some ⟨w.heap.size, 0, none⟩) 1 1) [7]) :=
    ⟨⟨w.heap.size, Nat.le_refl _, by simp [encI], .inr ⟨w.heap.size, 0, 1, _, rfl, rfl, Nat.le_refl _, by unfold maxLen; omega, Bk.new _ _ _, by simp, fun j hj => by
      have : j < 1 := hj
      obtain rfl : j = 0 := by omega
      rfl⟩⟩, by simp, by simp, by simp, (Below.refl _ w).alloc (Nat.le_refl _) _⟩
  go_enter Try.func9, Try.ntmps9
  go_wp2
  go_loopw [3, 4] (fun v i wr => ∃ (k : Nat) (cl : List Int), k ≤ n ∧ k ≤ 50 ∧ i = .int .i64 k ∧ cl.length ≤ k + 1 ∧ Hid (Prices w wr v cl)) (fun _ i _ => n - (intOf i).toNat)
  case atStart => exact ⟨0, [7], Nat.zero_le _, by omega, rfl, by simp, HP0⟩
  case round =>
    obtain ⟨k, cl, hk, hk50, rfl, hck, R⟩ := hrel
    obtain ⟨wo, rfl⟩ : ∃ wo : World, wo = wr := ⟨_, rfl⟩
    by_cases hlt : k < n ∧ k < 50
    · obtain ⟨hlt, hlt2⟩ := hlt
      have hkz : (k : Int) < (n : Int) := by omega
      have hkz2 : (k : Int) < 50 := by omega
      have hkz0 : (0 : Int) ≤ (k : Int) := by omega
      obtain ⟨⟨g, hg, hR⟩, h1, h51, hall, hB⟩ := R.out
      obtain ⟨v0, vc, rfl⟩ := hR.form
      obtain ⟨x, hx⟩ : ∃ x, xs[k]? = some x := ⟨_, List.getElem?_eq_getElem (by rw [HL.out]; exact hlt)⟩
      obtain ⟨xb, xo, rfl, hxb, hcx⟩ := HX.out.below hB k x hx
      obtain ⟨u0, u1, u2⟩ := um_bd x 10000 (by omega) (by omega)
      obtain ⟨y, hy⟩ : ∃ y, wrap64 (1 + wrap64 ((IntKind.u64.wrap x).tmod 10000)) = y := ⟨_, rfl⟩
      rw [hy] at u2
      have hy1 : 1 ≤ y ∧ y ≤ 10000 := by omega
      have HRR := Lib.hid (hR.chg ((Chg.refl (fun _ => False) wo).alloc (.cells #[.int .i64 y] 3)) (fun _ _ hf => hf))
      have HB := Lib.hid hB
      have hsz := hB.size
      have HALL := Lib.hid hall
      clear hR hB hx u0 u1 u2 hall
      generalize hLL : cl.length = ll at *
      have HLL := Lib.hid hLL
      clear hLL
      go_wp2_with (at_builtin; refine wpList_row_append rfl (.tmp 16) (.tmp 25) 22 rfl 3 i0 _ 1 Try.underlying22 hi0 hz0 hz1 rfl (by decide) (by omega) (.slice v0 ll vc) (some g) ll (encI cl) rfl HRR.out ⟨wo.heap.size, 0, none⟩ 1 1 [.int .i64 y] rfl rfl (World.news_of_block (cs := #[.int .i64 y]) (heap_alloc_new wo _)) (by simp [Value.oneCell']) (by omega) (by omega) ?_; intro g2 f2 cp2 w2 hrow2 hgrow2 hown2; have HR2 := Lib.hid hrow2; have HG2 := Lib.hid hgrow2; have HO2 := Lib.hid hown2; clear hrow2 hgrow2 hown2)
      refine ⟨⟨k + 1, cl ++ [y], by omega, by omega, by go_num, by rw [List.length_append, HLL.out]; simp; omega, Lib.hid ⟨⟨g2, ?_, ?_⟩, ?_, ?_, ?_, ?_⟩⟩, by simp [intOf]; omega⟩
      · rcases HO2.out with h | h
        · cases h; exact hg
        · simp at h; omega
      · rw [encI_snoc, List.length_append, HLL.out]; exact HR2.out
      · rw [List.length_append]; simp
      · rw [List.length_append, HLL.out]; simp; omega
      · intro z hz
        rcases List.mem_append.1 hz with hz | hz
        · exact HALL.out z hz
        · simp at hz; subst hz; exact hy1
      · exact (HB.out.alloc hsz _).grown HG2.out (by simp; omega) (fun b hb => by cases hb; exact hg)
    · have hex : (k < n ∧ ¬ (k : Int) < 50) ∨ ¬ (k : Int) < (n : Int) := by omega
      rcases hex with ⟨ha, hb⟩ | ha
      · have haz : (k : Int) < (n : Int) := by omega
        go_wp2
        go_ret
        exact ⟨_, cl, rfl, R.out⟩
      · go_wp2
        go_ret
        exact ⟨_, cl, rfl, R.out⟩
end Go.Proofs.Ytdnkliapcnfcoaa.fair
