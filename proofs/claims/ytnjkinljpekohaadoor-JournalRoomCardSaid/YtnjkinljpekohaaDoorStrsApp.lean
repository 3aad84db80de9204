/- 'append(v, l...)' of lists of strings, as steps of a walk; the list appended may be empty. No program stands here. -/
import Derived.Test.YtnjkinljpekohaaDoorBe
import Derived.Laws.AppendOwnNone
namespace Go.Proofs.YtnjkinljpekohaaDoor
open Go.RowKit
section
variable {P : Program} {w : World}
theorem run_append_zero (base : Nat) (t ty e : TypeId) (i : TypeInfo) (size : Nat) (ht : P.underlying t = some (.slice e)) (hi : P.info? e = some i)
    (v : Value) (n : Nat) (xs : List Value) (hown : w.ownsRow base e size v n xs) (A : Option Addr) (c : Nat) :
    (Builtin.append_ #[t, t] ty #[v, .slice A 0 c]).run P w = .ok v w := by
  have h0 : ∀ A : Option Addr, (Builtin.firstCells i.size 0 (.slice A 0 c)).run P w = .ok #[] w := fun A => by
    cases A <;> simp [Builtin.firstCells, loadCells, loadCellsFrom]
  rcases hown.2 with ⟨rfl, rfl⟩ | ⟨g, cap, cur, rfl, _, _, hnc, _⟩
  · simp [Builtin.append_, run_underlying ht, sizeOf, typeInfo, hi, Builtin.lenOf, h0]
  · simp [Builtin.append_, run_underlying ht, sizeOf, typeInfo, hi, Builtin.lenOf, h0, hnc, storeCells]
theorem wpList_append_zero {ops : Array Oper} {rest : List Oper} {o : Oper} {a : Act} {Q : Exit → Act → World → Prop} (hgd : o.guard = none) (s x : Operand) (t : TypeId)
    (ho : o.op = .call { callee := .builtin .append, args := #[s, x], argTypes := #[t, t] })
    (base : Nat) (e : TypeId) (i : TypeInfo) (size : Nat) (ht : P.underlying t = some (.slice e)) (hi : P.info? e = some i)
    (v : Value) (n : Nat) (xs : List Value) (hs : a.eval s = v) (hown : w.ownsRow base e size v n xs) (A : Option Addr) (c : Nat) (hx : a.eval x = .slice A 0 c)
    (h : wpList P ops Q rest (a.put o.dst v) w) : wpList P ops Q (o :: rest) a w := by
  refine wpList_plain hgd fun K hK => ?_
  have hrun := run_append_zero (P := P) (w := w) base t o.type e i size ht hi v n xs hown A c
  unfold Oper.wp
  simp [execOp, ho, resolve, invoke, builtin, hs, hx, hrun, Result.andThen]
  exact hK _ _ h
theorem strs_svs {w : World} {A : Option Addr} {L : List ByteArray} (h : StrsAt w A L) (h1 : 0 < L.length) : ∃ b o, A = some ⟨b, o, none⟩ ∧ ∀ j u, (svs L)[j]? = some u → w.cell? ((⟨b, o, none⟩ : Addr).add j) = some u := by
  obtain ⟨b, o, hA, _⟩ := h 0 h1
  refine ⟨b, o, hA, fun j u hj => ?_⟩
  have hl : j < L.length := by
    have := (List.getElem?_eq_some_iff.1 hj).1
    rwa [svs_length] at this
  obtain ⟨b', o', e, hc⟩ := h j hl
  rw [hA] at e
  injection e with e
  injection e with e1 e2
  subst e1 e2
  rw [show (⟨b, o, none⟩ : Addr).add j = ⟨b, o + j, none⟩ by unfold Addr.add; split <;> simp_all, hc, ← hj]
  simp [svs, List.getD, hl]
theorem svs_one (L : List ByteArray) : ∀ u ∈ svs L, u.oneCell' = true := fun u hu => by
  obtain ⟨x, _, rfl⟩ := List.mem_map.1 hu
  rfl
theorem wpList_append_strs {ops : Array Oper} {rest : List Oper} {o : Oper} {a : Act} {Q : Exit → Act → World → Prop} (hgd : o.guard = none) (s x : Operand) (t : TypeId)
    (ho : o.op = .call { callee := .builtin .append, args := #[s, x], argTypes := #[t, t] })
    (base : Nat) (e : TypeId) (i : TypeInfo) (z : Value) (ht : P.underlying t = some (.slice e)) (hi : P.info? e = some i) (hz : i.zero = some z) (hsize : i.size = 1) (hby : i.bytes = 16) (hzs : z.cells.size = 1)
    (v : Value) (n : Nat) (xs : List ByteArray) (hs : a.eval s = v) (_hn : xs.length = n) (hown : w.ownsRow base e 1 v n (svs xs)) (A : Option Addr) (m c : Nat) (L : List ByteArray) (hm : L.length = m) (hx : a.eval x = .slice A m c) (hA : StrsAt w A L)
    (hl : n + m ≤ 100000) (hb : base ≤ w.heap.size)
    (h : ∀ v' w', w'.ownsRow base e 1 v' (n + m) (svs (xs ++ L)) → Kept v.ownBlock.toList w w' → wpList P ops Q rest (a.put o.dst v') w') :
    wpList P ops Q (o :: rest) a w := by
  by_cases h0 : m = 0
  · subst h0
    have hL : L = [] := List.eq_nil_of_length_eq_zero hm
    subst hL
    refine wpList_append_zero hgd s x t ho base e i 1 ht hi v n _ hs hown A c hx (h v w ?_ (Kept.refl _ _))
    rw [List.append_nil]; exact hown
  · obtain ⟨b, o', rfl, hc⟩ := strs_svs hA (by omega)
    refine wpList_append_lies _ hgd s x t ho base e i z 1 16 ht hi hz hsize hby hzs (by omega) v n (svs xs) hs hown ⟨b, o', none⟩ m c (svs L) hx (by rw [svs_length, hm, Nat.mul_one]) hc (svs_one L) (by omega) (by unfold maxLen; omega) (by omega) hb w.heap.size rfl ?_
    intro g cap w' h2 h3 _ _
    exact h _ w' (by rw [svs_append]; exact h2) ((Kept.refl _ w).grown h3 (fun k hk => .inl (mem_own hk)))
theorem step_append_zero {K : Act → World → Prop} {E : Prop} {ops : Array Oper} {o : Oper} {a : Act} {Q : Exit → Act → World → Prop} (hgd : o.guard = none) (s x : Operand) (t : TypeId)
    (ho : o.op = .call { callee := .builtin .append, args := #[s, x], argTypes := #[t, t] })
    (base : Nat) (e : TypeId) (i : TypeInfo) (size : Nat) (ht : P.underlying t = some (.slice e)) (hi : P.info? e = some i)
    (v : Value) (n : Nat) (xs : List Value) (hs : a.eval s = v) (hown : w.ownsRow base e size v n xs) (A : Option Addr) (c : Nat) (hx : a.eval x = .slice A 0 c)
    (h : K (a.put o.dst v) w) : if Region.wanted o (yielded ops a.tmps) = true then Oper.wp P o a w K Q else E := by
  have hw : Region.wanted o (yielded ops a.tmps) = true := by simp [Region.wanted, hgd]
  rw [if_pos hw]
  have hrun := run_append_zero (P := P) (w := w) base t o.type e i size ht hi v n xs hown A c
  unfold Oper.wp
  simp [execOp, ho, resolve, invoke, builtin, hs, hx, hrun, Result.andThen]
  exact h
theorem step_append_strs {K : Act → World → Prop} {E : Prop} {ops : Array Oper} {o : Oper} {a : Act} {Q : Exit → Act → World → Prop} (hgd : o.guard = none) (s x : Operand) (t : TypeId)
    (ho : o.op = .call { callee := .builtin .append, args := #[s, x], argTypes := #[t, t] })
    (base : Nat) (e : TypeId) (i : TypeInfo) (z : Value) (ht : P.underlying t = some (.slice e)) (hi : P.info? e = some i) (hz : i.zero = some z) (hsize : i.size = 1) (hby : i.bytes = 16) (hzs : z.cells.size = 1)
    (v : Value) (n : Nat) (xs : List ByteArray) (hs : a.eval s = v) (hown : w.ownsRow base e 1 v n (svs xs)) (A : Option Addr) (m c : Nat) (L : List ByteArray) (hm : L.length = m) (hx : a.eval x = .slice A m c) (hA : StrsAt w A L)
    (hl : n + m ≤ 100000) (hb : base ≤ w.heap.size)
    (h : ∀ v' w', w'.ownsRow base e 1 v' (n + m) (svs (xs ++ L)) → Kept v.ownBlock.toList w w' → K (a.put o.dst v') w') :
    if Region.wanted o (yielded ops a.tmps) = true then Oper.wp P o a w K Q else E := by
  by_cases h0 : m = 0
  · subst h0
    have hL : L = [] := List.eq_nil_of_length_eq_zero hm
    subst hL
    refine step_append_zero hgd s x t ho base e i 1 ht hi v n _ hs hown A c hx (h v w ?_ (Kept.refl _ _))
    rw [List.append_nil]; exact hown
  · obtain ⟨b, o', rfl, hc⟩ := strs_svs hA (by omega)
    refine step_append_lies _ hgd s x t ho base e i z 1 16 ht hi hz hsize hby hzs (by omega) v n (svs xs) hs hown ⟨b, o', none⟩ m c (svs L) hx (by rw [svs_length, hm, Nat.mul_one]) hc (svs_one L) (by omega) (by unfold maxLen; omega) (by omega) hb w.heap.size rfl ?_
    intro g cap w' h2 h3 _ _
    exact h _ w' (by rw [svs_append]; exact h2) ((Kept.refl _ w).grown h3 (fun k hk => .inl (mem_own hk)))
/-- append([]string{x}, l...): the literal has just been made -/
theorem wpList_front_strs {ops : Array Oper} {rest : List Oper} {o : Oper} {a : Act} {Q : Exit → Act → World → Prop} (hgd : o.guard = none) (s x : Operand) (t : TypeId)
    (ho : o.op = .call { callee := .builtin .append, args := #[s, x], argTypes := #[t, t] })
    (e : TypeId) (i : TypeInfo) (z : Value) (ht : P.underlying t = some (.slice e)) (hi : P.info? e = some i) (hz : i.zero = some z) (hsize : i.size = 1) (hby : i.bytes = 16) (hzs : z.cells.size = 1)
    (y : ByteArray) (hs : a.eval s = .slice (some ⟨w.heap.size, 0, none⟩) 1 1) (A : Option Addr) (m c : Nat) (L : List ByteArray) (hm : L.length = m) (hx : a.eval x = .slice A m c) (hA : StrsAt w A L) (hl : m ≤ 90000)
    (h : ∀ A' c' w', StrsAt w' A' (y :: L) → m + 1 ≤ c' → c' ≤ maxLen → Below w.heap.size w w' → wpList P ops Q rest (a.put o.dst (.slice A' (m + 1) c')) w') :
    wpList P ops Q (o :: rest) a (w.alloc (.cells #[.string y] e)) := by
  have h0 : (w.alloc (.cells #[.string y] e)).ownsRow w.heap.size e 1 (.slice (some ⟨w.heap.size, 0, none⟩) 1 1) 1 (svs [y]) := World.ownsRow_lit (base := w.heap.size) (e := e) (size := 1) w #[.string y] 1 (Nat.le_refl _) (by unfold maxLen; omega) rfl
  refine wpList_append_strs hgd s x t ho w.heap.size e i z ht hi hz hsize hby hzs _ 1 [y] hs rfl h0 A m c L hm hx (hA.then_ (below_alloc (Below.refl _ _) _)) (by omega) (by simp) ?_
  intro v' w' ho' hk
  rw [Nat.add_comm] at ho'
  rcases ho'.2 with ⟨_, h1⟩ | ⟨g, cap, cur, h1, h2, h3, h4, h5, h6, h7⟩
  · omega
  · subst h1
    refine h _ _ w' (strs_of_own ho') h4 h5 (hk.below_next (B := w.heap.size) (below_alloc (Below.refl _ _) _) (by simp) (fun k hk => ?_))
    have e : some w.heap.size = some k := own_mem hk
    injection e with e
    omega
end
/-- a slice that a literal has made -/
theorem own_lit {w : World} {g : Nat} {xs : List ByteArray} {e : TypeId} {base : Nat} (h : w.heap[g]? = some (.cells (svs xs).toArray e (0, 0))) (hb : base ≤ g) (hm : xs.length ≤ 1000000) : w.ownsRow base e 1 (.slice (some ⟨g, 0, none⟩) xs.length xs.length) xs.length (svs xs) :=
  ⟨by rw [svs_length, Nat.mul_one], .inr ⟨g, xs.length, (svs xs).toArray, rfl, hb, h, Nat.le_refl _, by unfold maxLen; omega, by simp [svs_length], by simp [← svs_length]⟩⟩
theorem lit_strs {w : World} {g : Nat} {xs : List ByteArray} {e : TypeId} (h : w.heap[g]? = some (.cells (svs xs).toArray e (0, 0))) : StrsAt w (some ⟨g, 0, none⟩) xs := fun i hi => by
  refine ⟨g, 0, rfl, ?_⟩
  rw [Nat.zero_add, cell_of_row w g i _ e (0, 0) h]
  simp [svs, List.getD, hi]
theorem lit_old (w : World) (o o' : Obj) : ((w.alloc o).alloc o').heap[w.heap.size]? = some o := (Below.heap_alloc _ _ _ (by simp)).trans (heap_alloc_new _ _)
theorem lit_new2 (w : World) (o o' : Obj) : ((w.alloc o).alloc o').heap[w.heap.size + 1]? = some o' := by
  have := heap_alloc_new (w.alloc o) o'
  simpa using this
theorem strs_nil (w : World) (A : Option Addr) : StrsAt w A [] := fun _i hi => absurd hi (Nat.not_lt_zero _)
theorem strs_last {w : World} {A : Option Addr} {p : List ByteArray} {q : Nat} (h : StrsAt w A p) (hq : p.length = q + 1) : ∃ b o x p', A = some ⟨b, o, none⟩ ∧ p = p' ++ [x] ∧ p'.length = q ∧ w.cell? ⟨b, o + q, none⟩ = some (.string x) ∧ StrsAt w (some ⟨b, o, none⟩) p' := by
  rcases List.eq_nil_or_concat p with rfl | ⟨p', x, rfl⟩
  · simp at hq
  · rw [List.concat_eq_append] at hq h ⊢
    have hl : p'.length = q := by simpa using hq
    obtain ⟨b, o, rfl, hc⟩ := h q (by omega)
    refine ⟨b, o, x, p', rfl, rfl, hl, ?_, fun i hi => ?_⟩
    · rw [hc]; simp [List.getD, ← hl]
    · obtain ⟨b', o', e, hc⟩ := h i (by simp; omega)
      refine ⟨b', o', e, ?_⟩
      rw [hc]; simp [List.getD, List.getElem?_append_left hi]
end Go.Proofs.YtnjkinljpekohaaDoor
