/- A slice of bytes that a call has made, from a string or by append: what it holds; one byte more. No program stands here. -/
import Derived.Test.YtoipckflokdakaaDoorKept
import Derived.Laws.IdiomCopy
import Derived.Lib.ConvBytes
import Derived.Lib.SmallJoins
namespace Go.Proofs.YtoipckflokdakaaDoor
open Go.RowKit
/-- a slice of one-cell elements of the call's own, whatever mark its block bears -/
def Byts (w : World) (base : Nat) (v : Value) (n : Nat) (xs : List Value) : Prop :=
  xs.length = n ∧ ∃ g cap, v = .slice (some ⟨g, 0, none⟩) n cap ∧ base ≤ g ∧ g < w.heap.size ∧ n ≤ cap ∧ cap ≤ maxLen ∧ (∀ j u, xs[j]? = some u → w.cell? ⟨g, j, none⟩ = some u) ∧ ∀ j, n ≤ j → j < cap → (w.cell? ⟨g, j, none⟩).isSome = true ∧ w.frozen? ⟨g, j, none⟩ = false
theorem add0 (g j : Nat) : (⟨g, 0, none⟩ : Addr).add j = ⟨g, j, none⟩ := by unfold Addr.add; split <;> simp_all
theorem Byts.kept {S : List Nat} {w w' : World} {base n : Nat} {v : Value} {xs : List Value} (h : Byts w base v n xs) (k : Kept S w w') (hn : ∀ g, v.ownBlock = some g → g ∉ S) : Byts w' base v n xs := by
  obtain ⟨h0, g, cap, rfl, hb, hl, h1, h2, h3, h4⟩ := h
  have hb' := k.block g hl (hn g rfl)
  exact ⟨h0, g, cap, rfl, hb, Nat.lt_of_lt_of_le hl k.size, h1, h2, fun j u hj => (World.cell?_of_block hb').trans (h3 j u hj), fun j h5 h6 => by
    rw [World.cell?_of_block (a := ⟨g, j, none⟩) hb', World.frozen?_of_block (a := ⟨g, j, none⟩) hb']; exact h4 j h5 h6⟩
theorem Byts.then_ {w w' : World} {base n : Nat} {v : Value} {xs : List Value} (h : Byts w base v n xs) (k : Below w.heap.size w w') : Byts w' base v n xs := h.kept (Kept.of_below k) (fun _ _ h => by cases h)
theorem Byts.alloc {w : World} {base n : Nat} {v : Value} {xs : List Value} (h : Byts w base v n xs) (o : Obj) : Byts (w.alloc o) base v n xs := h.then_ (below_alloc (Below.refl _ _) o)
theorem Byts.lt {w : World} {base n : Nat} {v : Value} {xs : List Value} (h : Byts w base v n xs) : ∀ g, v.ownBlock = some g → base ≤ g ∧ g < w.heap.size := by
  obtain ⟨_, g, cap, rfl, hb, hl, _⟩ := h
  intro k hk
  obtain rfl : g = k := by simpa [Value.ownBlock] using hk
  exact ⟨hb, hl⟩
theorem Byts.of_string (w : World) (e : TypeId) (s : ByteArray) (hs : s.size ≤ maxLen) : Byts (Lib.bytesWorld w e s) w.heap.size (.slice (some ⟨w.heap.size, 0, none⟩) s.size (grownCap w s.size 0 e)) s.size (s.data.toList.map fun b => Value.int .u8 (b.toNat : Int)) := by
  have h0 := Lib.bytesWorld_at_new w e s
  have hge := grownCap_ge w s.size 0 e
  have hsz : (Lib.bytesCells w e s).size = grownCap w s.size 0 e := by
    simp only [Lib.bytesCells, Array.size_append, Array.size_map, Array.size_replicate]
    show s.size + _ = _
    omega
  refine ⟨by rw [List.length_map, Array.length_toList]; rfl, w.heap.size, _, rfl, Nat.le_refl _, by rw [Lib.bytesWorld_size]; omega, hge, grownCap_le_maxLen w s.size 0 e hs, fun j u hj => ?_, fun j h1 h2 => ⟨?_, ?_⟩⟩
  · have hl : j < s.size := by
      have := (List.getElem?_eq_some_iff.1 hj).1
      rwa [List.length_map, Array.length_toList] at this
    rw [Lib.bytesWorld_cell w e s j hl, ← hj]
    simp [List.getD, hl]
  · simp only [World.cell?, h0]
    rw [Array.getElem?_eq_getElem (by omega)]
    rfl
  · simp only [World.frozen?, h0]
    simp
    omega
theorem run_append_byts {P : Program} {w : World} (t ty e : TypeId) (i : TypeInfo) (z : Value) (ht : P.underlying t = some (.slice e)) (hi : P.info? e = some i) (hz : i.zero = some z)
    (hsize : i.size = 1) (hby : i.bytes = 1) (hzs : z.cells.size = 1) {base n : Nat} {v : Value} {xs : List Value} (h : Byts w base v n xs)
    (a : Addr) (c : Nat) (x : Value) (hx : w.cell? (a.add 0) = some x) (h1 : x.oneCell' = true) (h63 : n + 1 ≤ 70368744177664) (hbase : base ≤ w.heap.size) :
    ∃ v' w', (Builtin.append_ #[t, t] ty #[v, .slice (some a) 1 c]).run P w = .ok v' w' ∧ Byts w' base v' (n + 1) (xs ++ [x]) ∧ Kept v.ownBlock.toList w w' := by
  obtain ⟨h0, g, cap, rfl, hb, hl, hnc, hcm, h3, h4⟩ := h
  have hlen : (xs ++ [x]).length = n + 1 := by rw [List.length_append, h0]; rfl
  have hnews : ∀ j u, [x][j]? = some u → w.cell? (a.add j) = some u := fun j u hj => by
    have : j < 1 := (List.getElem?_eq_some_iff.1 hj).1
    obtain rfl : j = 0 := by omega
    rw [hx]; simpa using hj
  by_cases hroom : n + 1 ≤ cap
  · obtain ⟨h5, h6⟩ := h4 n (Nat.le_refl _) (by omega)
    have hf := run_firstCells_some (P := P) w i.size 1 a 1 c [x] (by rw [hsize]; rfl) hnews
    have z1 : ∀ j, j < [x].length → (w.cell? ⟨g, n + 0 + j, none⟩).isSome = true := fun j hj => by
      have hj1 : j < 1 := hj
      obtain rfl : j = 0 := by omega
      exact h5
    have z2 : ∀ j, j < [x].length → w.frozen? ⟨g, n + 0 + j, none⟩ = false := fun j hj => by
      have hj1 : j < 1 := hj
      obtain rfl : j = 0 := by omega
      exact h6
    have hst := run_storeCells_cells (P := P) g n [x] 0 w z1 z2 (fun u hu => by rw [List.mem_singleton.1 hu]; exact h1)
    simp only [hsize] at hf
    have hw : w.setCells g n [x] = w.setCell ⟨g, n, none⟩ x := rfl
    refine ⟨.slice (some ⟨g, 0, none⟩) (n + 1) cap, w.setCell ⟨g, n, none⟩ x, ?_, ⟨hlen, g, cap, rfl, hb, by simpa using hl, hroom, hcm, fun j u hj => ?_, fun j h7 h8 => ?_⟩, (Kept.refl _ _).setCell (.inl (by simp [Value.ownBlock])) _⟩
    · simp only [Nat.add_zero, hw] at hst
      simp [Builtin.append_, run_underlying ht, sizeOf, typeInfo, hi, Builtin.lenOf, hroom, hf, hsize, Addr.add_lit, hst]
    · by_cases hjn : j = n
      · subst hjn
        rw [List.getElem?_append_right (by omega), h0, Nat.sub_self] at hj
        obtain rfl : x = u := by simpa using hj
        obtain ⟨q, hq⟩ := Option.isSome_iff_exists.1 h5
        simp [go_sem, hq]
      · have hjl : j < n := by
          have := (List.getElem?_eq_some_iff.1 hj).1
          omega
        rw [List.getElem?_append_left (by omega)] at hj
        exact (World.cell?_setCell_other w _ _ x (fun e => hjn (by injection e; omega))).trans (h3 j u hj)
    · obtain ⟨h9, h10⟩ := h4 j (by omega) h8
      refine ⟨?_, (frozen_set w _ _ x).trans h10⟩
      rw [World.cell?_setCell_other w _ _ x (fun e => by injection e; omega)]
      exact h9
  · have holds : ∀ j u, xs[j]? = some u → w.cell? ((⟨g, 0, none⟩ : Addr).add j) = some u := fun j u hj => by rw [add0]; exact h3 j u hj
    have hr := run_append_grow (P := P) w t ty e i z ht hi hz ⟨g, 0, none⟩ n cap xs (by rw [hsize, h0, Nat.mul_one]) holds a 1 c [x] (by rw [hsize]; rfl) hnews (by omega) (by omega) (growslice_fits (by omega) (by rw [hby]; omega))
    have hge := grownCap_ge w (n + 1) cap e
    have hcm' : grownCap w (n + 1) cap e ≤ maxLen := grownCap_le_maxLen w (n + 1) cap e (by unfold maxLen; omega)
    have hcs : (xs.toArray ++ [x].toArray ++ Builtin.zeroCells z.cells (grownCap w (n + 1) cap e - (n + 1))).size = grownCap w (n + 1) cap e := by
      simp only [Array.size_append, List.size_toArray, h0, List.length_singleton]
      have : (Builtin.zeroCells z.cells (grownCap w (n + 1) cap e - (n + 1))).size = grownCap w (n + 1) cap e - (n + 1) := by simp [Builtin.zeroCells, hzs]
      omega
    obtain ⟨C, hC⟩ : ∃ C, xs.toArray ++ [x].toArray ++ Builtin.zeroCells z.cells (grownCap w (n + 1) cap e - (n + 1)) = C := ⟨_, rfl⟩
    have hC1 : ∀ j u, (xs ++ [x])[j]? = some u → C[j]? = some u := fun j u hj => by
      have hl := (List.getElem?_eq_some_iff.1 hj).1
      rw [← hC, Array.getElem?_append_left (by simpa using hl)]
      simpa using hj
    rw [hC] at hr hcs
    have hnew : (w.drew.alloc (.cells C e)).heap[w.heap.size]? = some (.cells C e (0, 0)) := heap_alloc_new w.drew _
    refine ⟨_, _, hr, ⟨hlen, w.heap.size, _, rfl, hbase, by simp, hge, hcm', fun j u hj => ?_, fun j h7 h8 => ⟨?_, ?_⟩⟩, (((Kept.refl _ w).drew).alloc _)⟩
    · rw [cell_of_row _ _ j C e (0, 0) hnew]; exact hC1 j u hj
    · rw [cell_of_row _ _ j C e (0, 0) hnew, Array.getElem?_eq_getElem (by omega)]; rfl
    · exact frozen_of_row _ _ j C e hnew
theorem wpList_append_byts {P : Program} {w : World} {ops : Array Oper} {rest : List Oper} {o : Oper} {A : Act} {Q : Exit → Act → World → Prop} (hgd : o.guard = none) (s x : Operand) (t : TypeId)
    (ho : o.op = .call { callee := .builtin .append, args := #[s, x], argTypes := #[t, t] }) (e : TypeId) (i : TypeInfo) (z : Value) (ht : P.underlying t = some (.slice e)) (hi : P.info? e = some i) (hz : i.zero = some z)
    (hsize : i.size = 1) (hby : i.bytes = 1) (hzs : z.cells.size = 1) {base n : Nat} {v : Value} {xs : List Value} (hs : A.eval s = v) (h : Byts w base v n xs)
    (ad : Addr) (c : Nat) (y : Value) (hx : A.eval x = .slice (some ad) 1 c) (hy : w.cell? (ad.add 0) = some y) (h1 : y.oneCell' = true) (h63 : n + 1 ≤ 70368744177664) (hbase : base ≤ w.heap.size)
    (hn : ∀ v' w', Byts w' base v' (n + 1) (xs ++ [y]) → Kept v.ownBlock.toList w w' → wpList P ops Q rest (A.put o.dst v') w') : wpList P ops Q (o :: rest) A w := by
  refine wpList_plain hgd fun K hK => ?_
  obtain ⟨v', w', hr, h2, h3⟩ := run_append_byts (P := P) t o.type e i z ht hi hz hsize hby hzs h ad c y hy h1 h63 hbase
  unfold Oper.wp execOp
  simp only [ho, resolve, invoke, builtin, Sem.run_bind, Sem.run_pure, Result.andThen_ok, List.map_toArray, List.map_cons, List.map_nil, hs, hx, hr]
  exact hK _ _ (hn v' w' h2 h3)
end Go.Proofs.YtoipckflokdakaaDoor
