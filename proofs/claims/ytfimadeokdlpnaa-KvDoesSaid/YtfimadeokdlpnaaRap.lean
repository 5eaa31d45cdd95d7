/- append onto a slice that lies anywhere in a block that is known whole, at an operation and in a region that draws; append where there is room; clear. -/
import Derived.Test.YtfimadeokdlpnaaRow
import Derived.OwnWalk
import Derived.Deep.RegionLaw
namespace Go.Proofs.Ytfimadeokdlpnaa.K
open Go.RowKit
set_option linter.unusedVariables false
section
variable {P : Program} {w : World}
theorem wp_row_append {o : Oper} {a : Act} {K : Act → World → Prop} {Q : Exit → Act → World → Prop} (s x : Operand) (t : TypeId)
    (ho : o.op = .call { callee := .builtin .append, args := #[s, x], argTypes := #[t, t] })
    (e : TypeId) (i : TypeInfo) (z : Value) (size : Nat) (ht : P.underlying t = some (.slice e)) (hi : P.info? e = some i) (hz : i.zero = some z) (hsize : i.size = size) (hzs : z.cells.size = size) (hsz : 0 < size) (hby : i.bytes ≤ 1000)
    (v : Value) (own : Option Nat) (n : Nat) (xs : List Value) (hs : a.eval s = v) (hrow : Row w e size v own n xs)
    (ad : Addr) (m c : Nat) (news : List Value) (hx : a.eval x = .slice (some ad) m c) (hl : news.length = m * size) (hnews : ∀ j u, news[j]? = some u → w.cell? (ad.add j) = some u) (h1 : ∀ u ∈ news, u.oneCell' = true)
    (hm : 0 < m) (hsmall : n + m ≤ 1000000000)
    (h : ∀ g f cp w', Row w' e size (.slice (some ⟨g, f, none⟩) (n + m) cp) (some g) (n + m) (xs ++ news) → w.grownBy w' own → (own = some g ∨ g = w.heap.size) → K (a.put o.dst (.slice (some ⟨g, f, none⟩) (n + m) cp)) w') : o.wp P a w K Q := by
  subst hsize
  obtain ⟨v', w', own', hr, h2, h3, h4, h5⟩ := run_row_append (P := P) w t o.type e i z ht hi hz hzs hsz hby v own n xs hrow ad m c news hl hnews h1 hm hsmall
  unfold Oper.wp execOp
  simp only [ho, resolve, invoke, builtin, Sem.run_bind, Sem.run_pure, Result.andThen_ok, List.map_toArray, List.map_cons, List.map_nil, hs, hx, hr]
  obtain ⟨g, f, cp, cs, rfl, hg, -⟩ := h2.pos (by omega)
  subst hg
  refine h g f cp w' h2 h3 ?_
  rcases h4 with h4 | h4
  · exact .inl h4.symm
  · exact .inr (by simpa using h4)
theorem wpList_row_append {ops : Array Oper} {rest : List Oper} {o : Oper} {a : Act} {Q : Exit → Act → World → Prop} (hgd : o.guard = none) (s x : Operand) (t : TypeId)
    (ho : o.op = .call { callee := .builtin .append, args := #[s, x], argTypes := #[t, t] })
    (e : TypeId) (i : TypeInfo) (z : Value) (size : Nat) (ht : P.underlying t = some (.slice e)) (hi : P.info? e = some i) (hz : i.zero = some z) (hsize : i.size = size) (hzs : z.cells.size = size) (hsz : 0 < size) (hby : i.bytes ≤ 1000)
    (v : Value) (own : Option Nat) (n : Nat) (xs : List Value) (hs : a.eval s = v) (hrow : Row w e size v own n xs)
    (ad : Addr) (m c : Nat) (news : List Value) (hx : a.eval x = .slice (some ad) m c) (hl : news.length = m * size) (hnews : ∀ j u, news[j]? = some u → w.cell? (ad.add j) = some u) (h1 : ∀ u ∈ news, u.oneCell' = true)
    (hm : 0 < m) (hsmall : n + m ≤ 1000000000)
    (h : ∀ g f cp w', Row w' e size (.slice (some ⟨g, f, none⟩) (n + m) cp) (some g) (n + m) (xs ++ news) → w.grownBy w' own → (own = some g ∨ g = w.heap.size) → wpList P ops Q rest (a.put o.dst (.slice (some ⟨g, f, none⟩) (n + m) cp)) w') : wpList P ops Q (o :: rest) a w :=
  wpList_plain hgd fun _ hK => wp_row_append s x t ho e i z size ht hi hz hsize hzs hsz hby v own n xs hs hrow ad m c news hx hl hnews h1 hm hsmall fun g f cp w' h2 h3 h4 => hK _ _ (h g f cp w' h2 h3 h4)
theorem step_row_append {ops : Array Oper} {o : Oper} {a : Act} {K : Act → World → Prop} {Q : Exit → Act → World → Prop} {E : Prop} (hgd : o.guard = none) (s x : Operand) (t : TypeId)
    (ho : o.op = .call { callee := .builtin .append, args := #[s, x], argTypes := #[t, t] })
    (e : TypeId) (i : TypeInfo) (z : Value) (size : Nat) (ht : P.underlying t = some (.slice e)) (hi : P.info? e = some i) (hz : i.zero = some z) (hsize : i.size = size) (hzs : z.cells.size = size) (hsz : 0 < size) (hby : i.bytes ≤ 1000)
    (v : Value) (own : Option Nat) (n : Nat) (xs : List Value) (hs : a.eval s = v) (hrow : Row w e size v own n xs)
    (ad : Addr) (m c : Nat) (news : List Value) (hx : a.eval x = .slice (some ad) m c) (hl : news.length = m * size) (hnews : ∀ j u, news[j]? = some u → w.cell? (ad.add j) = some u) (h1 : ∀ u ∈ news, u.oneCell' = true)
    (hm : 0 < m) (hsmall : n + m ≤ 1000000000)
    (h : ∀ g f cp w', Row w' e size (.slice (some ⟨g, f, none⟩) (n + m) cp) (some g) (n + m) (xs ++ news) → w.grownBy w' own → (own = some g ∨ g = w.heap.size) → K (a.put o.dst (.slice (some ⟨g, f, none⟩) (n + m) cp)) w') :
    if Region.wanted o (yielded ops a.tmps) = true then Oper.wp P o a w K Q else E := by
  have hw : Region.wanted o (yielded ops a.tmps) = true := by simp [Region.wanted, hgd]
  rw [if_pos hw]
  exact wp_row_append s x t ho e i z size ht hi hz hsize hzs hsz hby v own n xs hs hrow ad m c news hx hl hnews h1 hm hsmall h
/-- The cells that are to be appended, of so many. -/
def Src (w : World) (x : Option Addr) (news : List Value) : Prop := ∀ j u, news[j]? = some u → ∃ ad, x = some ad ∧ w.cell? (ad.add j) = some u
theorem Src.grown {w w' : World} {x : Option Addr} {news : List Value} {own : Option Nat} (h : Src w x news) (hg : w.grownBy w' own) (hx : ∀ ad, x = some ad → ad.block < w.heap.size ∧ some ad.block ≠ own) : Src w' x news := by
  intro j u hu
  obtain ⟨ad, h1, h2⟩ := h j u hu
  obtain ⟨h3, h4⟩ := hx ad h1
  refine ⟨ad, h1, ?_⟩
  have hb : (ad.add j).block = ad.block := by unfold Addr.add; split <;> rfl
  exact (World.cell?_of_block (hg.block _ (by rw [hb]; exact h3) (by rw [hb]; exact h4))).trans h2
theorem run_row_append_any (w : World) (t ty e : TypeId) (i : TypeInfo) (z : Value) (ht : P.underlying t = some (.slice e)) (hi : P.info? e = some i) (hz : i.zero = some z) (hzs : z.cells.size = i.size) (hsz : 0 < i.size) (hby : i.bytes ≤ 1000)
    (v : Value) (own : Option Nat) (n : Nat) (xs : List Value) (h : Row w e i.size v own n xs)
    (x : Option Addr) (m c : Nat) (news : List Value) (hl : news.length = m * i.size) (hnews : Src w x news) (h1 : ∀ u ∈ news, u.oneCell' = true) (hsmall : n + m ≤ 1000000000) :
    ∃ p' cp w' own', (Builtin.append_ #[t, t] ty #[v, .slice x m c]).run P w = .ok (.slice p' (n + m) cp) w' ∧ Row w' e i.size (.slice p' (n + m) cp) own' (n + m) (xs ++ news) ∧ w.grownBy w' own ∧ (own' = own ∨ own' = some w.heap.size) := by
  by_cases hm : 0 < m
  · obtain ⟨u, hu⟩ : ∃ u, news[0]? = some u := ⟨_, List.getElem?_eq_getElem (by rw [hl]; exact Nat.mul_pos hm hsz)⟩
    obtain ⟨ad, rfl, _⟩ := hnews 0 u hu
    obtain ⟨v', w', own', hr, h2, h3, h4, h5⟩ := run_row_append w t ty e i z ht hi hz hzs hsz hby v own n xs h ad m c news hl (fun j u hu => by obtain ⟨ad', h1, h2⟩ := hnews j u hu; cases h1; exact h2) h1 hm hsmall
    obtain ⟨p', cp, rfl⟩ := h2.form
    exact ⟨p', cp, w', own', hr, h2, h3, h4⟩
  · obtain rfl : m = 0 := by omega
    obtain rfl : news = [] := List.eq_nil_of_length_eq_zero (by rw [hl]; omega)
    have hn : ∀ p cp, v = .slice p n cp → n ≤ cp := by
      intro p cp e
      rcases h.2 with ⟨h0, h1, _⟩ | ⟨b, off, cap, cs, h1, _, h2, _⟩
      · rw [h0] at e; cases e; omega
      · rw [h1] at e; cases e; exact h2
    obtain ⟨p', cp, rfl⟩ := h.form
    have hcp := hn p' cp rfl
    have hf : (Builtin.firstCells i.size 0 (.slice x 0 c)).run P w = .ok #[] w := by
      cases x with
      | none => exact run_firstCells_none ..
      | some a => exact run_firstCells_some (P := P) w i.size 0 a 0 c [] (by simp) (by intro _ _ h'; simp at h')
    refine ⟨p', cp, w, own, ?_, by simpa using h, ⟨rfl, rfl, rfl, Nat.le_refl _, fun _ _ _ => rfl⟩, .inl rfl⟩
    cases p' with
    | none => simp [Builtin.append_, run_underlying ht, sizeOf, typeInfo, hi, Builtin.lenOf, hcp, hf]
    | some a => simp [Builtin.append_, run_underlying ht, sizeOf, typeInfo, hi, Builtin.lenOf, hcp, hf, storeCells]
theorem wp_row_append_any {o : Oper} {a : Act} {K : Act → World → Prop} {Q : Exit → Act → World → Prop} (s x : Operand) (t : TypeId)
    (ho : o.op = .call { callee := .builtin .append, args := #[s, x], argTypes := #[t, t] })
    (e : TypeId) (i : TypeInfo) (z : Value) (size : Nat) (ht : P.underlying t = some (.slice e)) (hi : P.info? e = some i) (hz : i.zero = some z) (hsize : i.size = size) (hzs : z.cells.size = size) (hsz : 0 < size) (hby : i.bytes ≤ 1000)
    (v : Value) (own : Option Nat) (n : Nat) (xs : List Value) (hs : a.eval s = v) (hrow : Row w e size v own n xs)
    (xa : Option Addr) (m c : Nat) (news : List Value) (hx : a.eval x = .slice xa m c) (hl : news.length = m * size) (hnews : Src w xa news) (h1 : ∀ u ∈ news, u.oneCell' = true) (hsmall : n + m ≤ 1000000000)
    (h : ∀ p' cp w' own', Row w' e size (.slice p' (n + m) cp) own' (n + m) (xs ++ news) → w.grownBy w' own → (own' = own ∨ own' = some w.heap.size) → K (a.put o.dst (.slice p' (n + m) cp)) w') : o.wp P a w K Q := by
  subst hsize
  obtain ⟨p', cp, w', own', hr, h2, h3, h4⟩ := run_row_append_any (P := P) w t o.type e i z ht hi hz hzs hsz hby v own n xs hrow xa m c news hl hnews h1 hsmall
  unfold Oper.wp execOp
  simp only [ho, resolve, invoke, builtin, Sem.run_bind, Sem.run_pure, Result.andThen_ok, List.map_toArray, List.map_cons, List.map_nil, hs, hx, hr]
  exact h p' cp w' own' h2 h3 h4
theorem wpList_row_append_any {ops : Array Oper} {rest : List Oper} {o : Oper} {a : Act} {Q : Exit → Act → World → Prop} (hgd : o.guard = none) (s x : Operand) (t : TypeId)
    (ho : o.op = .call { callee := .builtin .append, args := #[s, x], argTypes := #[t, t] })
    (e : TypeId) (i : TypeInfo) (z : Value) (size : Nat) (ht : P.underlying t = some (.slice e)) (hi : P.info? e = some i) (hz : i.zero = some z) (hsize : i.size = size) (hzs : z.cells.size = size) (hsz : 0 < size) (hby : i.bytes ≤ 1000)
    (v : Value) (own : Option Nat) (n : Nat) (xs : List Value) (hs : a.eval s = v) (hrow : Row w e size v own n xs)
    (xa : Option Addr) (m c : Nat) (news : List Value) (hx : a.eval x = .slice xa m c) (hl : news.length = m * size) (hnews : Src w xa news) (h1 : ∀ u ∈ news, u.oneCell' = true) (hsmall : n + m ≤ 1000000000)
    (h : ∀ p' cp w' own', Row w' e size (.slice p' (n + m) cp) own' (n + m) (xs ++ news) → w.grownBy w' own → (own' = own ∨ own' = some w.heap.size) → wpList P ops Q rest (a.put o.dst (.slice p' (n + m) cp)) w') : wpList P ops Q (o :: rest) a w :=
  wpList_plain hgd fun _ hK => wp_row_append_any s x t ho e i z size ht hi hz hsize hzs hsz hby v own n xs hs hrow xa m c news hx hl hnews h1 hsmall fun p' cp w' own' h2 h3 h4 => hK _ _ (h p' cp w' own' h2 h3 h4)
theorem step_row_append_any {ops : Array Oper} {o : Oper} {a : Act} {K : Act → World → Prop} {Q : Exit → Act → World → Prop} {E : Prop} (hgd : o.guard = none) (s x : Operand) (t : TypeId)
    (ho : o.op = .call { callee := .builtin .append, args := #[s, x], argTypes := #[t, t] })
    (e : TypeId) (i : TypeInfo) (z : Value) (size : Nat) (ht : P.underlying t = some (.slice e)) (hi : P.info? e = some i) (hz : i.zero = some z) (hsize : i.size = size) (hzs : z.cells.size = size) (hsz : 0 < size) (hby : i.bytes ≤ 1000)
    (v : Value) (own : Option Nat) (n : Nat) (xs : List Value) (hs : a.eval s = v) (hrow : Row w e size v own n xs)
    (xa : Option Addr) (m c : Nat) (news : List Value) (hx : a.eval x = .slice xa m c) (hl : news.length = m * size) (hnews : Src w xa news) (h1 : ∀ u ∈ news, u.oneCell' = true) (hsmall : n + m ≤ 1000000000)
    (h : ∀ p' cp w' own', Row w' e size (.slice p' (n + m) cp) own' (n + m) (xs ++ news) → w.grownBy w' own → (own' = own ∨ own' = some w.heap.size) → K (a.put o.dst (.slice p' (n + m) cp)) w') :
    if Region.wanted o (yielded ops a.tmps) = true then Oper.wp P o a w K Q else E := by
  have hw : Region.wanted o (yielded ops a.tmps) = true := by simp [Region.wanted, hgd]
  rw [if_pos hw]
  exact wp_row_append_any s x t ho e i z size ht hi hz hsize hzs hsz hby v own n xs hs hrow xa m c news hx hl hnews h1 hsmall h
/-- append of some onto an empty slice without room: a block of its own. -/
theorem wp_append_fresh {o : Oper} {a : Act} {K : Act → World → Prop} {Q : Exit → Act → World → Prop} (s x : Operand) (t : TypeId)
    (ho : o.op = .call { callee := .builtin .append, args := #[s, x], argTypes := #[t, t] })
    (e : TypeId) (i : TypeInfo) (z : Value) (size : Nat) (ht : P.underlying t = some (.slice e)) (hi : P.info? e = some i) (hz : i.zero = some z) (hsize : i.size = size) (hzs : z.cells.size = size)
    (a0 : Addr) (hs : a.eval s = .slice (some a0) 0 0) (ad : Addr) (m c : Nat) (news : List Value) (hx : a.eval x = .slice (some ad) m c) (hl : news.length = m * size) (hnews : Src w (some ad) news)
    (hm : 0 < m) (hb : m * i.bytes ≤ 140737488355328) (hml : m ≤ maxLen)
    (h : ∀ cp cs, m ≤ cp → cp ≤ maxLen → cs.size = cp * size → (∀ j, j < m * size → cs[j]? = news[j]?) → K (a.put o.dst (.slice (some ⟨w.heap.size, 0, none⟩) m cp)) (w.drew.alloc (.cells cs e))) : o.wp P a w K Q := by
  subst hsize
  have hn : Builtin.nextslicecap (0 + m) 0 = m := by rw [Nat.zero_add]; exact nextslicecap_zero hm
  have hr := run_append_grow (P := P) w t o.type e i z ht hi hz a0 0 0 [] (by simp) (by simp) ad m c news hl (fun j u hu => by obtain ⟨ad', h1, h2⟩ := hnews j u hu; cases h1; exact h2) (by omega) (by unfold maxLen at hml; omega) (by rw [hn]; omega)
  simp only [Nat.zero_add] at hr
  unfold Oper.wp execOp
  simp only [ho, resolve, invoke, builtin, Sem.run_bind, Sem.run_pure, Result.andThen_ok, List.map_toArray, List.map_cons, List.map_nil, hs, hx, hr]
  have hge := grownCap_ge w m 0 e
  refine h _ _ hge (grownCap_le_maxLen _ _ _ _ hml) ?_ ?_
  · simp only [Array.size_append, List.size_toArray, size_zeroCells, hl, hzs, List.length_nil]
    rw [Nat.zero_add, ← Nat.add_mul]
    congr 1; omega
  · intro j hj
    rw [Array.getElem?_append_left (by simp [hl]; exact hj)]
    simp
theorem wpList_append_fresh {ops : Array Oper} {rest : List Oper} {o : Oper} {a : Act} {Q : Exit → Act → World → Prop} (hgd : o.guard = none) (s x : Operand) (t : TypeId)
    (ho : o.op = .call { callee := .builtin .append, args := #[s, x], argTypes := #[t, t] })
    (e : TypeId) (i : TypeInfo) (z : Value) (size : Nat) (ht : P.underlying t = some (.slice e)) (hi : P.info? e = some i) (hz : i.zero = some z) (hsize : i.size = size) (hzs : z.cells.size = size)
    (a0 : Addr) (hs : a.eval s = .slice (some a0) 0 0) (ad : Addr) (m c : Nat) (news : List Value) (hx : a.eval x = .slice (some ad) m c) (hl : news.length = m * size) (hnews : Src w (some ad) news)
    (hm : 0 < m) (hb : m * i.bytes ≤ 140737488355328) (hml : m ≤ maxLen)
    (h : ∀ cp cs, m ≤ cp → cp ≤ maxLen → cs.size = cp * size → (∀ j, j < m * size → cs[j]? = news[j]?) → wpList P ops Q rest (a.put o.dst (.slice (some ⟨w.heap.size, 0, none⟩) m cp)) (w.drew.alloc (.cells cs e))) : wpList P ops Q (o :: rest) a w :=
  wpList_plain hgd fun _ hK => wp_append_fresh s x t ho e i z size ht hi hz hsize hzs a0 hs ad m c news hx hl hnews hm hb hml fun cp cs h1 h2 h3 h4 => hK _ _ (h cp cs h1 h2 h3 h4)
theorem step_append_fresh {ops : Array Oper} {o : Oper} {a : Act} {K : Act → World → Prop} {Q : Exit → Act → World → Prop} {E : Prop} (hgd : o.guard = none) (s x : Operand) (t : TypeId)
    (ho : o.op = .call { callee := .builtin .append, args := #[s, x], argTypes := #[t, t] })
    (e : TypeId) (i : TypeInfo) (z : Value) (size : Nat) (ht : P.underlying t = some (.slice e)) (hi : P.info? e = some i) (hz : i.zero = some z) (hsize : i.size = size) (hzs : z.cells.size = size)
    (a0 : Addr) (hs : a.eval s = .slice (some a0) 0 0) (ad : Addr) (m c : Nat) (news : List Value) (hx : a.eval x = .slice (some ad) m c) (hl : news.length = m * size) (hnews : Src w (some ad) news)
    (hm : 0 < m) (hb : m * i.bytes ≤ 140737488355328) (hml : m ≤ maxLen)
    (h : ∀ cp cs, m ≤ cp → cp ≤ maxLen → cs.size = cp * size → (∀ j, j < m * size → cs[j]? = news[j]?) → K (a.put o.dst (.slice (some ⟨w.heap.size, 0, none⟩) m cp)) (w.drew.alloc (.cells cs e))) :
    if Region.wanted o (yielded ops a.tmps) = true then Oper.wp P o a w K Q else E := by
  have hw : Region.wanted o (yielded ops a.tmps) = true := by simp [Region.wanted, hgd]
  rw [if_pos hw]
  exact wp_append_fresh s x t ho e i z size ht hi hz hsize hzs a0 hs ad m c news hx hl hnews hm hb hml h
/-- append of nothing: the slice itself. -/
theorem run_append_nothing (w : World) (t ty e : TypeId) (i : TypeInfo) (ht : P.underlying t = some (.slice e)) (hi : P.info? e = some i) (a0 : Addr) (n c0 : Nat) (hn : n ≤ c0) (x : Option Addr) (c : Nat) :
    (Builtin.append_ #[t, t] ty #[.slice (some a0) n c0, .slice x 0 c]).run P w = .ok (.slice (some a0) n c0) w := by
  have hf : (Builtin.firstCells i.size 0 (.slice x 0 c)).run P w = .ok #[] w := by
    cases x with
    | none => exact run_firstCells_none ..
    | some a => exact run_firstCells_some (P := P) w i.size 0 a 0 c [] (by simp) (by intro _ _ h'; simp at h')
  simp [Builtin.append_, run_underlying ht, sizeOf, typeInfo, hi, Builtin.lenOf, hn, hf, storeCells]
theorem wpList_append_nothing {ops : Array Oper} {rest : List Oper} {o : Oper} {a : Act} {Q : Exit → Act → World → Prop} (hgd : o.guard = none) (s x : Operand) (t : TypeId)
    (ho : o.op = .call { callee := .builtin .append, args := #[s, x], argTypes := #[t, t] })
    (e : TypeId) (i : TypeInfo) (ht : P.underlying t = some (.slice e)) (hi : P.info? e = some i)
    (a0 : Addr) (n c0 : Nat) (hn : n ≤ c0) (hs : a.eval s = .slice (some a0) n c0) (xa : Option Addr) (c : Nat) (hx : a.eval x = .slice xa 0 c)
    (h : wpList P ops Q rest (a.put o.dst (.slice (some a0) n c0)) w) : wpList P ops Q (o :: rest) a w :=
  wpList_plain hgd fun _ hK => by
    unfold Oper.wp execOp
    simp only [ho, resolve, invoke, builtin, Sem.run_bind, Sem.run_pure, Result.andThen_ok, List.map_toArray, List.map_cons, List.map_nil, hs, hx, run_append_nothing w t o.type e i ht hi a0 n c0 hn xa c]
    exact hK _ _ h
/-- A block with a stretch of it laid anew. -/
def lay (cs : Array Value) (o : Nat) (news : List Value) : Array Value := (cs.toList.take o ++ news ++ cs.toList.drop (o + news.length)).toArray
theorem lay_size (cs : Array Value) (o : Nat) (news : List Value) (h : o + news.length ≤ cs.size) : (lay cs o news).size = cs.size := by
  simp only [lay, List.size_toArray, List.length_append, List.length_take, List.length_drop, Array.length_toList]; omega
theorem lay_get (cs : Array Value) (o : Nat) (news : List Value) (h : o + news.length ≤ cs.size) (j : Nat) :
    (lay cs o news)[j]? = if o ≤ j ∧ j < o + news.length then news[j - o]? else cs[j]? := by
  have hlt : (cs.toList.take o).length = o := by rw [List.length_take, Array.length_toList]; omega
  unfold lay
  rw [List.getElem?_toArray, List.append_assoc]
  by_cases h1 : j < o
  · rw [List.getElem?_append_left (by omega), List.getElem?_take, if_pos h1, Array.getElem?_toList, if_neg (by omega)]
  · rw [List.getElem?_append_right (by omega), hlt]
    by_cases h2 : j < o + news.length
    · rw [List.getElem?_append_left (by omega), if_pos (by omega)]
    · rw [List.getElem?_append_right (by omega), List.getElem?_drop, if_neg (by omega), Array.getElem?_toList]
      congr 1; omega
theorem run_append_lay (w : World) (t ty e : TypeId) (i : TypeInfo) (size : Nat) (ht : P.underlying t = some (.slice e)) (hi : P.info? e = some i) (hsize : i.size = size)
    (b off n cap : Nat) (cs : Array Value) (hbk : Bk w b cs e) (hfit : off + cap * size ≤ cs.size)
    (ad : Addr) (m c : Nat) (news : List Value) (hl : news.length = m * size) (hnews : ∀ j u, news[j]? = some u → w.cell? (ad.add j) = some u) (h1 : ∀ u ∈ news, u.oneCell' = true) (hroom : n + m ≤ cap) :
    (Builtin.append_ #[t, t] ty #[.slice (some ⟨b, off, none⟩) n cap, .slice (some ad) m c]).run P w = .ok (.slice (some ⟨b, off, none⟩) (n + m) cap) (w.setRow b (lay cs (off + n * size) news)) := by
  subst hsize
  have hf := run_firstCells_some (P := P) w i.size m ad m c news hl hnews
  have hfit2 : off + n * i.size + news.length ≤ cs.size := by
    rw [hl, Nat.add_assoc, ← Nat.add_mul]
    exact Nat.le_trans (Nat.add_le_add_left (Nat.mul_le_mul_right _ hroom) _) hfit
  have hst := run_storeCells_at P b (off + n * i.size) e news 0 cs w hbk (by simpa using hfit2) h1
  simp only [Nat.add_zero] at hst
  have hadd : (⟨b, off, none⟩ : Addr).add (n * i.size) = ⟨b, off + n * i.size, none⟩ := by unfold Addr.add; split <;> simp_all
  simp [Builtin.append_, run_underlying ht, sizeOf, typeInfo, hi, Builtin.lenOf, hroom, hf, hadd, hst, lay]
theorem step_append_lay {ops : Array Oper} {o : Oper} {a : Act} {K : Act → World → Prop} {Q : Exit → Act → World → Prop} {E : Prop} (hgd : o.guard = none) (s x : Operand) (t : TypeId)
    (ho : o.op = .call { callee := .builtin .append, args := #[s, x], argTypes := #[t, t] })
    (e : TypeId) (i : TypeInfo) (size : Nat) (ht : P.underlying t = some (.slice e)) (hi : P.info? e = some i) (hsize : i.size = size)
    (b off n cap : Nat) (cs : Array Value) (hs : a.eval s = .slice (some ⟨b, off, none⟩) n cap) (hbk : Bk w b cs e) (hfit : off + cap * size ≤ cs.size)
    (ad : Addr) (m c : Nat) (news : List Value) (hx : a.eval x = .slice (some ad) m c) (hl : news.length = m * size) (hnews : ∀ j u, news[j]? = some u → w.cell? (ad.add j) = some u) (h1 : ∀ u ∈ news, u.oneCell' = true) (hroom : n + m ≤ cap)
    (h : K (a.put o.dst (.slice (some ⟨b, off, none⟩) (n + m) cap)) (w.setRow b (lay cs (off + n * size) news))) :
    if Region.wanted o (yielded ops a.tmps) = true then Oper.wp P o a w K Q else E := by
  have hw : Region.wanted o (yielded ops a.tmps) = true := by simp [Region.wanted, hgd]
  rw [if_pos hw]
  have hr := run_append_lay (P := P) w t o.type e i size ht hi hsize b off n cap cs hbk hfit ad m c news hl hnews h1 hroom
  unfold Oper.wp execOp
  simp only [ho, resolve, invoke, builtin, Sem.run_bind, Sem.run_pure, Result.andThen_ok, List.map_toArray, List.map_cons, List.map_nil, hs, hx, hr]
  exact h
/-- clear of one element. -/
theorem run_clear_one (w : World) (t e ty : TypeId) (i : TypeInfo) (z : Value) (ht : P.underlying t = some (.slice e)) (hi : P.info? e = some i) (hz : i.zero = some z) (h1 : ∀ u ∈ z.cells.toList, u.oneCell' = true)
    (b off cap : Nat) (cs : Array Value) (hbk : Bk w b cs e) (hfit : off + z.cells.size ≤ cs.size) :
    (Builtin.clear_ #[t] ty #[.slice (some ⟨b, off, none⟩) 1 cap]).run P w = .ok (.tuple #[]) (w.setRow b (lay cs off z.cells.toList)) := by
  have hzc : (Builtin.zeroCells z.cells 1).toList = z.cells.toList := by
    simp [Builtin.zeroCells]
    apply List.ext_getElem
    · simp
    · intro i h1 h2
      simp at h1 h2 ⊢
      rw [Nat.mod_eq_of_lt (by omega)]
      simp [h2]
  have hst := run_storeCells_at P b off e z.cells.toList 0 cs w hbk (by simpa using hfit) h1
  simp only [Nat.add_zero] at hst
  simp [Builtin.clear_, run_underlying ht, zeroValue, typeInfo, hi, hz, hzc, hst, lay]
theorem chg_setRow (w : World) (b : Nat) (cs : Array Value) : Chg (fun k => k = b) w (w.setRow b cs) :=
  ⟨rfl, rfl, rfl, by simp [World.setRow], fun k hk hne => heap_setRow w b cs k hne⟩
end
end Go.Proofs.Ytfimadeokdlpnaa.K
