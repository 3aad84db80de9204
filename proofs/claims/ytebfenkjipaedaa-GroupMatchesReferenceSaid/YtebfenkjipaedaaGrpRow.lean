/- Rows of structs in a block of their own, cell by cell; clearing what lies behind an index. No program stands here. -/
import Derived.Test.YtebfenkjipaedaaGrpPlain
import Derived.Test.YtebfenkjipaedaaKept
import Derived.Test.YtebfenkjipaedaaArr
namespace Go.Proofs.Ytebfenkjipaedaa.Gr
open Go.RowKit Gp
/-- n elements of sz cells in block g; C: the cells of an element -/
def RecV (w : World) (g sz n : Nat) (e : TypeId) (C : Nat → List Value) : Prop := ∃ cs : Array Value, w.heap[g]? = some (.cells cs e (0, 0)) ∧ n * sz ≤ cs.size ∧ ∀ q, q < n → (C q).length = sz ∧ ∀ r, r < sz → cs[q * sz + r]? = (C q)[r]?
theorem RecV.cell {w : World} {g sz n : Nat} {e : TypeId} {C : Nat → List Value} (h : RecV w g sz n e C) {q r : Nat} (hq : q < n) (hr : r < sz) {v : Value} (hv : (C q)[r]? = some v) : w.cell? ⟨g, q * sz + r, none⟩ = some v ∧ w.frozen? ⟨g, q * sz + r, none⟩ = false := by
  obtain ⟨cs, h1, _, h2⟩ := h
  exact ⟨(cell_of_row w g _ cs e (0, 0) h1).trans (((h2 q hq).2 r hr).trans hv), frozen_of_row w g _ _ _ h1⟩
theorem RecV.kept {w w' : World} {g sz n : Nat} {e : TypeId} {C : Nat → List Value} {S : List Nat} (h : RecV w g sz n e C) (k : Kept S w w') (hg : g ∉ S) : RecV w' g sz n e C := by
  obtain ⟨cs, h1, h2⟩ := h
  exact ⟨cs, k.heap h1 hg, h2⟩
theorem RecV.lt {w : World} {g sz n : Nat} {e : TypeId} {C : Nat → List Value} (h : RecV w g sz n e C) : g < w.heap.size := by
  obtain ⟨cs, h1, _⟩ := h; exact hlt h1
theorem RecV.set {w : World} {g sz n : Nat} {e : TypeId} {C : Nat → List Value} (h : RecV w g sz n e C) {i r : Nat} (hi : i < n) (hr : r < sz) (v : Value) : RecV (w.setCell ⟨g, i * sz + r, none⟩ v) g sz n e (fun q => if q = i then (C i).set r v else C q) := by
  obtain ⟨cs, h1, h3, h2⟩ := h
  refine ⟨_, heap_setCell_same w g (i * sz + r) cs e v h1, by rw [Array.size_setIfInBounds]; exact h3, fun q hq => ?_⟩
  have hsz : i * sz + r < cs.size := by
    have := Nat.mul_le_mul_right sz (show i + 1 ≤ n by omega)
    rw [Nat.succ_mul] at this; omega
  by_cases e : q = i
  · subst e
    dsimp only
    rw [if_pos rfl]
    refine ⟨by rw [List.length_set]; exact (h2 q hq).1, fun r' hr' => ?_⟩
    by_cases e2 : r' = r
    · subst e2
      rw [Array.getElem?_setIfInBounds_self_of_lt hsz, List.getElem?_set_self (by rw [(h2 q hq).1]; exact hr')]
    · rw [Array.getElem?_setIfInBounds_ne (by omega), List.getElem?_set_ne (by omega)]
      exact (h2 q hq).2 r' hr'
  · dsimp only
    rw [if_neg e]
    refine ⟨(h2 q hq).1, fun r' hr' => ?_⟩
    rw [Array.getElem?_setIfInBounds_ne (fun e3 => e ?_)]
    · exact (h2 q hq).2 r' hr'
    · have h4 : (i * sz + r) / sz = (q * sz + r') / sz := by rw [e3]
      rw [Nat.mul_comm i, Nat.mul_comm q, Nat.mul_add_div (by omega), Nat.mul_add_div (by omega), Nat.div_eq_of_lt hr, Nat.div_eq_of_lt hr'] at h4
      omega
theorem RecV.any {w : World} {g sz n : Nat} {e : TypeId} {C : Nat → List Value} (h : RecV w g sz n e C) {q r : Nat} (hq : q < n) (hr : r < sz) : ∃ v, w.cell? ⟨g, q * sz + r, none⟩ = some v ∧ w.frozen? ⟨g, q * sz + r, none⟩ = false := by
  have hl : r < (C q).length := by obtain ⟨_, _, _, h2⟩ := h; rw [(h2 q hq).1]; exact hr
  exact ⟨_, h.cell hq hr (List.getElem?_eq_getElem hl)⟩
theorem RecV.len {w : World} {g sz n : Nat} {e : TypeId} {C : Nat → List Value} (h : RecV w g sz n e C) {q : Nat} (hq : q < n) : (C q).length = sz := by
  obtain ⟨_, _, _, h2⟩ := h; exact (h2 q hq).1
theorem RecV.congr {w : World} {g sz n : Nat} {e : TypeId} {C C' : Nat → List Value} (h : RecV w g sz n e C) (hc : ∀ q, q < n → C q = C' q) : RecV w g sz n e C' := by
  obtain ⟨cs, h1, h3, h2⟩ := h
  exact ⟨cs, h1, h3, fun q hq => by rw [← hc q hq]; exact h2 q hq⟩
theorem RecV.mono {w : World} {g sz n m : Nat} {e : TypeId} {C : Nat → List Value} (h : RecV w g sz n e C) (hm : m ≤ n) : RecV w g sz m e C := by
  obtain ⟨cs, h1, h3, h2⟩ := h
  exact ⟨cs, h1, Nat.le_trans (Nat.mul_le_mul_right sz hm) h3, fun q hq => h2 q (by omega)⟩
/-- clear(s[i:]) -/
theorem run_clear_at {P : Program} {w : World} (t e ty : TypeId) (z : Value) (size : Nat) (ht : P.underlying t = some (.slice e)) (hv : ∀ w, (zeroValue e).run P w = .ok z w) (hzs : z.cells.size = size) (hsz : 0 < size) (h1 : ∀ v ∈ z.cells, v.oneCell' = true)
    {g i n c : Nat} {C : Nat → List Value} (h : RecV w g size n e C) (hi : i ≤ n) :
    ∃ w', (Builtin.clear_ #[t] ty #[.slice (some ⟨g, i * size, none⟩) (n - i) c]).run P w = .ok (.tuple #[]) w' ∧ Kept [g] w w' ∧ RecV w' g size i e C := by
  obtain ⟨cs, hg, h3, h2⟩ := h
  rcases Nat.eq_zero_or_pos (n - i) with h0 | h0
  · rw [h0]
    exact ⟨w, by simp [Builtin.clear_, run_underlying ht], Kept.refl _ _, cs, hg, Nat.le_trans (Nat.mul_le_mul_right size hi) h3, fun q hq => h2 q (by omega)⟩
  · obtain ⟨m, hm⟩ : ∃ m, n - i = m + 1 := ⟨n - i - 1, by omega⟩
    have hl := size_zeroCells z.cells (m + 1)
    rw [hzs] at hl
    have hle : i * size + (m + 1) * size ≤ cs.size := by
      rw [← Nat.add_mul]; exact Nat.le_trans (Nat.mul_le_mul_right size (by omega)) h3
    have hst := run_storeCells_at P g (i * size) e (Builtin.zeroCells z.cells (m + 1)).toList 0 cs w hg (by rw [hl]; omega) (fun v hv => h1 v (mem_zeroCells (by omega) v hv))
    obtain ⟨R, hR⟩ : ∃ R, (List.take (i * size + 0) cs.toList ++ (Builtin.zeroCells z.cells (m + 1)).toList ++ List.drop (i * size + 0 + (Builtin.zeroCells z.cells (m + 1)).toList.length) cs.toList).toArray = R := ⟨_, rfl⟩
    rw [hR] at hst
    rw [hm]
    refine ⟨w.setRow g R, by simp [Builtin.clear_, run_underlying ht, hv, hst], (Kept.refl _ _).setRow (.inl (by simp)) _, R, setRow_heap w g _ R e _ hg, ?_, fun q hq => ⟨(h2 q (by omega)).1, fun r hr => ?_⟩⟩
    · rw [← hR]
      simp only [Nat.add_zero, hl, List.size_toArray, List.length_append, List.length_take, List.length_drop, Array.length_toList]
      omega
    · rw [← (h2 q (by omega)).2 r hr, ← hR]
      have hlt : q * size + r < i * size := by
        have := Nat.mul_le_mul_right size (show q + 1 ≤ i by omega)
        rw [Nat.succ_mul] at this; omega
      rw [Nat.add_zero, List.getElem?_toArray, List.append_assoc, List.getElem?_append_left (by rw [List.length_take, Array.length_toList]; omega), List.getElem?_take_of_lt hlt]
      simp
theorem wpList_clear_at {P : Program} {w : World} {ops : Array Oper} {rest : List Oper} {o : Oper} {a : Act} {Q : Exit → Act → World → Prop} (hgd : o.guard = none) (d : Operand) (t : TypeId)
    (ho : o.op = .call { callee := .builtin .clear, args := #[d], argTypes := #[t] }) (e : TypeId) (z : Value) (size : Nat) (ht : P.underlying t = some (.slice e)) (hv : ∀ w, (zeroValue e).run P w = .ok z w) (hzs : z.cells.size = size) (hsz : 0 < size) (h1 : ∀ v ∈ z.cells, v.oneCell' = true)
    {g i n c : Nat} {C : Nat → List Value} (hd : a.eval d = .slice (some ⟨g, i * size, none⟩) (n - i) c) (h : RecV w g size n e C) (hi : i ≤ n)
    (hK : ∀ w', Kept [g] w w' → RecV w' g size i e C → wpList P ops Q rest (a.put o.dst (.tuple #[])) w') : wpList P ops Q (o :: rest) a w := by
  refine wpList_plain hgd fun K hK' => ?_
  obtain ⟨w', hrun, h2, h3⟩ := run_clear_at (P := P) (c := c) t e o.type z size ht hv hzs hsz h1 h hi
  unfold Oper.wp
  simp [execOp, ho, resolve, invoke, builtin, hd, hrun, Result.andThen]
  exact hK' _ _ (hK w' h2 h3)
theorem flat_len {α : Type} {f : α → List Value} {sz : Nat} (hf : ∀ x, (f x).length = sz) : ∀ l : List α, (l.flatMap f).length = l.length * sz
  | [] => by simp
  | x :: t => by rw [List.flatMap_cons, List.length_append, hf, flat_len hf t, List.length_cons, Nat.succ_mul]; omega
theorem flat_get {α : Type} {f : α → List Value} {sz : Nat} (d : α) (hf : ∀ x, (f x).length = sz) : ∀ {l : List α} {i r : Nat}, i < l.length → r < sz → (l.flatMap f)[i * sz + r]? = (f (l.getD i d))[r]?
  | [], i, r, h, _ => by simp at h
  | x :: t, 0, r, _, hr => by
    rw [List.flatMap_cons, Nat.zero_mul, Nat.zero_add, List.getElem?_append_left (by rw [hf]; exact hr)]
    rfl
  | x :: t, i + 1, r, h, hr => by
    rw [List.flatMap_cons, List.getElem?_append_right (by rw [hf, Nat.succ_mul]; omega), hf, show (i + 1) * sz + r - sz = i * sz + r by rw [Nat.succ_mul]; omega, flat_get d hf (by simpa using h) hr]
    rfl
theorem rec_of_own {α : Type} {f : α → List Value} {sz : Nat} {d : α} (hf : ∀ x, (f x).length = sz) {w : World} {base g n c : Nat} {e : TypeId} {l : List α} (h : w.ownsRow base e sz (.slice (some ⟨g, 0, none⟩) n c) n (l.flatMap f)) (hl : l.length = n) : RecV w g sz n e (fun q => f (l.getD q d)) := by
  rcases h.2 with ⟨h', _⟩ | ⟨g', cap', cur, h', _, hg, hn, _, hs, hx⟩
  · cases h'
  · injection h' with e1 e2 e3
    injection e1 with e1
    injection e1 with e1
    subst e1
    refine ⟨cur, hg, by rw [hs]; exact Nat.mul_le_mul_right sz hn, fun q hq => ⟨hf _, fun r hr => ?_⟩⟩
    rw [← flat_get d hf (by omega) hr, ← hx, List.getElem?_take_of_lt (by
      have := Nat.mul_le_mul_right sz (show q + 1 ≤ n by omega)
      rw [Nat.succ_mul] at this; omega)]
    simp
/-- whether integers ascend -/
def riseB (cs : List Int) : Bool := (List.range (cs.length - 1)).all fun i => decide (cs.getD i 0 < cs.getD (i + 1) 0)
theorem riseB_iff {cs : List Int} : riseB cs = true ↔ ∀ i, i + 1 < cs.length → cs.getD i 0 < cs.getD (i + 1) 0 := by
  unfold riseB
  rw [List.all_eq_true]
  constructor
  · intro h i hi
    exact of_decide_eq_true (h i (List.mem_range.2 (by omega)))
  · intro h i hi
    exact decide_eq_true (h i (by have := List.mem_range.1 hi; omega))
theorem riseB_no {cs : List Int} {i : Nat} (h : i + 1 < cs.length) (hle : cs.getD (i + 1) 0 ≤ cs.getD i 0) : riseB cs = false := by
  cases hb : riseB cs with
  | false => rfl
  | true => have := riseB_iff.1 hb i h; omega
theorem getD_map {α : Type} {f : α → Int} {l : List α} {d : α} {i : Nat} (h : i < l.length) : (l.map f).getD i 0 = f (l.getD i d) := by
  rw [getD_eq (by simpa using h), getD_eq h, List.getElem_map]
end Go.Proofs.Ytebfenkjipaedaa.Gr
