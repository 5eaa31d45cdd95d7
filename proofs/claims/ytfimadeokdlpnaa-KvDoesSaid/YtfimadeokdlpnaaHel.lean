/- A region that draws its order and whose last operation waits for all others: the orders of the others alone, and the last behind them. Plain lemmas. -/
import Derived.Test.YtfimadeokdlpnaaRow
import Derived.OrdersHeld
import Derived.Deep.RegionHeld3
namespace Go.Proofs.Ytfimadeokdlpnaa.K
open Go
set_option linter.unusedVariables false
section
variable {P : Program} {md : Region.Mode}
/-- The post ahead of the last operation: it is to be run. -/
def QL (P : Program) (ops : Array Oper) (i : Nat) (Q : Exit → Act → World → Prop) : Exit → Act → World → Prop
  | .normal, a, w => wpOp P ops Q i (fun a' w' => Q .normal a' w') a w
  | e, a, w => Q e a w
theorem QL_normal {ops : Array Oper} {i : Nat} {Q : Exit → Act → World → Prop} {a : Act} {w : World} (h : wpOp P ops Q i (fun a' w' => Q .normal a' w') a w) : QL P ops i Q .normal a w := h
theorem upon_QL {ops : Array Oper} {i : Nat} {Q : Exit → Act → World → Prop} {o : Oper} {a : Act} {K : Act → World → Prop} {r : Result Next} (h : o.upon P a K (QL P ops i Q) r) : o.upon P a K Q r := by
  cases r with
  | ok n w' =>
    cases n <;> simp only [Oper.upon] at h ⊢ <;> first
      | exact h
      | exact Calls.mono h (fun e w'' he => by
          cases e with
          | returned v => exact he
          | panicked c => exact he
          | outgrown => obtain ⟨a, w, h⟩ := he; exact ⟨a, w, h⟩)
  | halt x w' => cases x <;> simp only [Oper.upon] at h ⊢ <;> exact h
theorem wpOp_QL {ops0 : Array Oper} {o : Oper} {n i : Nat} {Q : Exit → Act → World → Prop} {K : Act → World → Prop} {a : Act} {w : World} (hi : i < ops0.size) (hg : ∀ oi, ops0[i]? = some oi → oi.guard = none)
    (h : wpOp P ops0 (QL P (ops0.push o) n Q) i K a w) : wpOp P (ops0.push o) Q i K a w := by
  unfold wpOp at *
  have e : (ops0.push o)[i]? = ops0[i]? := by rw [Array.getElem?_push, if_neg (by omega)]
  rw [e]
  cases ho : ops0[i]? with
  | none => rw [ho] at h; exact h
  | some oi =>
    rw [ho] at h
    have w1 : ∀ y : Nat → Option Bool, Region.wanted oi y = true := fun y => by simp [Region.wanted, hg oi ho]
    simp only [w1, if_true] at h ⊢
    rcases h with h | ⟨h, a, w, h2⟩
    · exact .inl (upon_QL h)
    · exact .inr ⟨h, a, w, h2⟩
theorem getD_push_lt {l : Array Bool} {i : Nat} {d b : Bool} (h : i < l.size) : (l.push b).getD i d = l.getD i d := by
  simp only [Array.getD_eq_getD_getElem?, Array.getElem?_push]
  rw [if_neg (by omega)]
theorem all_listed {ops0 : Array Oper} {listed : Array Bool} (hs : listed.size = ops0.size) (h1 : ∀ (i : Nat) (oi : Oper), ops0[i]? = some oi → ∀ e ∈ oi.after, e.on < i) (hr : Region.ready md ops0 listed = []) : ∀ j, j < ops0.size → listed.getD j false = true := by
  intro j
  induction j using Nat.strongRecOn with
  | ind j ih =>
    intro hj
    by_cases hl : listed.getD j false = true
    · exact hl
    · exfalso
      have : j ∈ Region.ready md ops0 listed := by
        refine mem_ready.2 ⟨?_, ops0[j], by simp [hj], fun e he _ => ?_⟩
        · have e1 : listed[j]? = some listed[j] := by simp [hs, hj]
          simp only [Array.getD_eq_getD_getElem?, e1, Option.getD_some] at hl ⊢
          simpa using hl
        · exact ih e.on (h1 j ops0[j] (by simp [hj]) e he) (Nat.lt_trans (h1 j ops0[j] (by simp [hj]) e he) hj)
      rw [hr] at this; cases this
/-- What has come up has come up behind what it waits for. -/
def Inv (md : Region.Mode) (ops0 : Array Oper) (listed : Array Bool) : Prop := ∀ (i : Nat) (oi : Oper), ops0[i]? = some oi → listed.getD i false = true → ∀ e ∈ oi.after, Region.binds md e = true → listed.getD e.on false = true
theorem wpAny_push {ops0 : Array Oper} {o : Oper} {Q : Exit → Act → World → Prop} (h1 : ∀ (i : Nat) (oi : Oper), ops0[i]? = some oi → ∀ e ∈ oi.after, e.on < i) (h2 : ∀ j, j < ops0.size → (∃ e ∈ o.after, Region.binds md e = true ∧ e.on = j) ∨ ∃ (i : Nat) (oi : Oper), ops0[i]? = some oi ∧ (∃ e ∈ o.after, Region.binds md e = true ∧ e.on = i) ∧ ∃ e ∈ oi.after, Region.binds md e = true ∧ e.on = j) (h3 : ∀ e ∈ o.after, e.on < ops0.size)
    (hg : ∀ (i : Nat) (oi : Oper), ops0[i]? = some oi → oi.guard = none) :
    ∀ (fuel : Nat) (listed : Array Bool) (a : Act) (w : World), listed.size = ops0.size → Inv md ops0 listed → wpAny P md ops0 (QL P (ops0.push o) ops0.size Q) fuel listed a w → wpAny P md (ops0.push o) Q (fuel + 1) (listed.push false) a w := by
  have hlast : (ops0.push o)[ops0.size]? = some o := by simp
  -- what may come up
  have F4 : ∀ listed : Array Bool, listed.size = ops0.size → Inv md ops0 listed → ops0.size ∈ Region.ready md (ops0.push o) (listed.push false) → ∀ j, j < ops0.size → listed.getD j false = true := by
    intro listed hs hI hm j hj
    obtain ⟨-, o', ho', hall⟩ := mem_ready.1 hm
    rw [hlast] at ho'
    cases ho'
    rcases h2 j hj with ⟨e, he, hb, rfl⟩ | ⟨i, oi, ho, ⟨e, he, hb, rfl⟩, e2, he2, hb2, rfl⟩
    · have := hall e he hb
      rwa [getD_push_lt (by omega)] at this
    · have := hall e he hb
      rw [getD_push_lt (by have := (Array.getElem?_eq_some_iff.1 ho).1; omega)] at this
      exact hI _ oi ho this e2 he2 hb2
  have F5 : ∀ listed : Array Bool, listed.size = ops0.size → (∀ j, j < ops0.size → listed.getD j false = true) → ops0.size ∈ Region.ready md (ops0.push o) (listed.push false) := by
    intro listed hs hm
    refine mem_ready.2 ⟨by rw [← hs]; simp, o, hlast, fun e he _ => ?_⟩
    rw [getD_push_lt (by rw [hs]; exact h3 e he)]
    exact hm _ (h3 e he)
  have F2 : ∀ listed : Array Bool, listed.size = ops0.size → ∀ i, i ∈ Region.ready md (ops0.push o) (listed.push false) → i = ops0.size ∨ (i < ops0.size ∧ i ∈ Region.ready md ops0 listed) := by
    intro listed hs i hm
    obtain ⟨hl, oi, ho, hall⟩ := mem_ready.1 hm
    rw [Array.getElem?_push] at ho
    by_cases e : i = ops0.size
    · exact .inl e
    · rw [if_neg e] at ho
      have hi := (Array.getElem?_eq_some_iff.1 ho).1
      refine .inr ⟨hi, mem_ready.2 ⟨by rwa [getD_push_lt (by omega)] at hl, oi, ho, fun e he hb => ?_⟩⟩
      have := hall e he hb
      rwa [getD_push_lt (by have := h1 i oi ho e he; omega)] at this
  have F6 : ∀ listed : Array Bool, listed.size = ops0.size → (∀ j, j < ops0.size → listed.getD j false = true) → ∀ i, i ∉ Region.ready md (ops0.push o) ((listed.push false).setIfInBounds ops0.size true) := by
    intro listed hs hm i hi
    obtain ⟨hl, oi, ho, -⟩ := mem_ready.1 hi
    have hi := (Array.getElem?_eq_some_iff.1 ho).1
    rw [Array.size_push] at hi
    simp only [Array.getD_eq_getD_getElem?, Array.getElem?_setIfInBounds, Array.size_push] at hl
    by_cases e : ops0.size = i
    · rw [if_pos e, if_pos (by omega)] at hl; cases hl
    · rw [if_neg e, Array.getElem?_push, if_neg (by omega)] at hl
      have := hm i (by omega)
      have e1 : listed[i]? = some (listed[i]'(by omega)) := by simp
      simp only [Array.getD_eq_getD_getElem?, e1, Option.getD_some] at this hl
      rw [this] at hl; cases hl
  have F7 : ∀ (listed : Array Bool) (i : Nat), listed.size = ops0.size → i < ops0.size → (listed.push false).setIfInBounds i true = (listed.setIfInBounds i true).push false := by
    intro listed i hs hi
    refine Array.ext_getElem? fun j => ?_
    simp only [Array.getElem?_setIfInBounds, Array.getElem?_push, Array.size_push, Array.size_setIfInBounds]
    by_cases e : i = j
    · subst e
      rw [if_pos rfl, if_pos (by omega), if_neg (by omega), if_pos rfl, if_pos (by omega)]
    · simp only [e, if_false]
  intro fuel
  induction fuel with
  | zero =>
    intro listed a w hs hI h
    have hall := all_listed hs h1 h.1
    refine ⟨fun h0 => (by have := F5 listed hs hall; rw [h0] at this; cases this), fun i hi => ?_⟩
    rcases F2 listed hs i hi with rfl | ⟨-, hm⟩
    · refine wpOp_mono (fun a' w' hq => ?_) (h.2 : wpOp P (ops0.push o) Q ops0.size _ a w)
      exact ⟨List.eq_nil_iff_forall_not_mem.2 (F6 listed hs hall), hq⟩
    · rw [h.1] at hm; cases hm
  | succ fuel ih =>
    intro listed a w hs hI h
    by_cases hr : Region.ready md ops0 listed = []
    · have hall := all_listed hs h1 hr
      refine ⟨fun h0 => (by have := F5 listed hs hall; rw [h0] at this; cases this), fun i hi => ?_⟩
      rcases F2 listed hs i hi with rfl | ⟨-, hm⟩
      · refine wpOp_mono (fun a' w' hq => ?_) (h.1 hr : wpOp P (ops0.push o) Q ops0.size _ a w)
        exact ⟨fun _ => hq, fun j hj => absurd hj (F6 listed hs hall j)⟩
      · rw [hr] at hm; cases hm
    · obtain ⟨x, hx⟩ := List.exists_mem_of_ne_nil _ hr
      have hnl : ∀ i, i ∈ Region.ready md (ops0.push o) (listed.push false) → i ≠ ops0.size := by
        intro i hi e
        subst e
        obtain ⟨h0, ox, hox, -⟩ := mem_ready.1 hx
        have hxl := (Array.getElem?_eq_some_iff.1 hox).1
        have := F4 listed hs hI hi x hxl
        have e1 : listed[x]? = some (listed[x]'(by omega)) := by simp
        simp only [Array.getD_eq_getD_getElem?, e1, Option.getD_some] at this h0
        rw [this] at h0; cases h0
      refine ⟨fun h0 => ?_, fun i hi => ?_⟩
      · exfalso
        obtain ⟨hl, ox, hox, hall⟩ := mem_ready.1 hx
        have hxl := (Array.getElem?_eq_some_iff.1 hox).1
        have : x ∈ Region.ready md (ops0.push o) (listed.push false) := mem_ready.2 ⟨by rw [getD_push_lt (by omega)]; exact hl, ox, by rw [Array.getElem?_push, if_neg (by omega)]; exact hox, fun e he hb => by rw [getD_push_lt (by have := h1 x ox hox e he; omega)]; exact hall e he hb⟩
        rw [h0] at this; cases this
      · rcases F2 listed hs i hi with e | ⟨hil, hm⟩
        · exact absurd e (hnl i hi)
        · have := wpOp_QL hil (hg i) (h.2 i hm)
          rw [F7 listed i hs hil]
          refine wpOp_mono (fun a' w' hw => ih _ a' w' (by rw [Array.size_setIfInBounds]; exact hs) ?_ hw) this
          intro k ok hok hl e he hb
          have hkl := (Array.getElem?_eq_some_iff.1 hok).1
          have hek := h1 k ok hok e he
          obtain ⟨hl0, oi, hoi, hdeps⟩ := mem_ready.1 hm
          have up : ∀ q, q < ops0.size → listed.getD q false = true → (listed.setIfInBounds i true).getD q false = true := by
            intro q hq hlq
            simp only [Array.getD_eq_getD_getElem?, Array.getElem?_setIfInBounds] at hlq ⊢
            by_cases e : i = q
            · rw [if_pos e, if_pos (by omega)]; rfl
            · rw [if_neg e]; exact hlq
          by_cases e2 : i = k
          · subst e2
            rw [hoi] at hok; cases hok
            exact up _ (by omega) (hdeps e he hb)
          · refine up _ (by omega) (hI k ok hok ?_ e he hb)
            simp only [Array.getD_eq_getD_getElem?, Array.getElem?_setIfInBounds] at hl ⊢
            rw [if_neg e2] at hl
            exact hl
/-- The conditions, to be reckoned. -/
def lastOk (ops0 : Array Oper) (o : Oper) : Bool :=
  (List.range ops0.size).all (fun i => ((ops0[i]?).map fun oi => oi.guard.isNone && oi.after.toList.all fun e => decide (e.on < i)).getD false) &&
  (List.range ops0.size).all (fun j => (o.after.toList.any fun e => Region.binds .any e && decide (e.on = j)) || (List.range ops0.size).any fun i => (o.after.toList.any fun e => Region.binds .any e && decide (e.on = i)) && ((ops0[i]?).map fun oi => oi.after.toList.any fun e => Region.binds .any e && decide (e.on = j)).getD false) && o.after.toList.all (fun e => decide (e.on < ops0.size))
theorem region_last {id : Nat} {ops0 : Array Oper} {o : Oper} {Q : Exit → Act → World → Prop} {S : World → Prop} {a : Act} {w : World} (hm : P.follows .mixedOrders = true) (hk : lastOk ops0 o = true)
    (h : wpAnyH P .any ops0 (QL P (ops0.push o) ops0.size Q) S ops0.size (Array.replicate ops0.size false) a w.drew) : (Code.region id (ops0.push o) true).wp P Q a w := by
  unfold lastOk at hk
  simp only [Bool.and_eq_true, Bool.or_eq_true, List.all_eq_true, List.mem_range, List.any_eq_true, decide_eq_true_eq] at hk
  obtain ⟨⟨k1, k2⟩, k3⟩ := hk
  have g1 : ∀ (i : Nat) (oi : Oper), ops0[i]? = some oi → oi.guard = none ∧ ∀ e ∈ oi.after, e.on < i := by
    intro i oi ho
    have := k1 i (Array.getElem?_eq_some_iff.1 ho).1
    rw [ho] at this
    simp only [Option.map_some, Option.getD_some, Bool.and_eq_true, Option.isNone_iff_eq_none, List.all_eq_true, decide_eq_true_eq] at this
    exact ⟨this.1, fun e he => this.2 e (Array.mem_toList_iff.2 he)⟩
  refine wp_region_any hm ?_
  rw [Array.size_push, show Array.replicate (ops0.size + 1) false = (Array.replicate ops0.size false).push false by simp [Array.replicate_succ]]
  refine wpAny_push (fun i oi ho => (g1 i oi ho).2) (fun j hj => ?_) (fun e he => k3 e (Array.mem_toList_iff.2 he)) (fun i oi ho => (g1 i oi ho).1) ops0.size _ a _ (by simp) ?_ (wpAny_of_held _ _ _ _ h)
  · rcases k2 j hj with ⟨e, he, h1⟩ | ⟨i, hi, ⟨e, he, h1⟩, h2⟩
    · exact .inl ⟨e, Array.mem_toList_iff.1 he, h1.1, h1.2⟩
    · have e0 : ops0[i]? = some ops0[i] := Array.getElem?_eq_getElem hi
      rw [e0] at h2
      simp only [Option.map_some, Option.getD_some, List.any_eq_true, Bool.and_eq_true, decide_eq_true_eq] at h2
      obtain ⟨e', he', h3⟩ := h2
      exact .inr ⟨i, ops0[i], e0, ⟨e, Array.mem_toList_iff.1 he, h1.1, h1.2⟩, e', Array.mem_toList_iff.1 he', h3.1, h3.2⟩
  · intro i oi ho hl
    have hi := (Array.getElem?_eq_some_iff.1 ho).1
    simp only [Array.getD_eq_getD_getElem?, Array.getElem?_replicate] at hl
    rw [if_pos hi] at hl
    cases hl
theorem region_last2 {id : Nat} {l : List Oper} {o : Oper} {Q : Exit → Act → World → Prop} {S : World → Prop} {a : Act} {w : World} (hb : l.getLast? = some o) (hm : P.follows .mixedOrders = true) (hk : lastOk l.dropLast.toArray o = true)
    (h : wpAnyH P .any l.dropLast.toArray (QL P l.toArray l.dropLast.length Q) S l.dropLast.length (Array.replicate l.dropLast.length false) a w.drew) : (Code.region id l.toArray true).wp P Q a w := by
  have e : l.toArray = l.dropLast.toArray.push o := by
    obtain ⟨ys, rfl⟩ := List.getLast?_eq_some_iff.1 hb
    simp
  have hs : l.dropLast.length = l.dropLast.toArray.size := by simp
  rw [hs] at h
  rw [e] at h ⊢
  exact region_last hm hk h
end
end Go.Proofs.Ytfimadeokdlpnaa.K
