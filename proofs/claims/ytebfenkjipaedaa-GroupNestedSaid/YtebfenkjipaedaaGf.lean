/- Arguments opened: lists of pairs of integers, lists of integers. Nothing of the program stands here. -/
import Derived.Test.YtebfenkjipaedaaFrameArg
import Derived.Test.YtebfenkjipaedaaGrpMade2
namespace Go.Proofs.Ytebfenkjipaedaa
open Go.ChangeShapes Go.WideShapes Go.ChangeAt Go.RowKit
theorem at_plain {a : Addr} (h : a.spot = none) (i : Nat) : a.add i = ⟨a.block, a.off + i, none⟩ := by
  obtain ⟨b, o, s⟩ := a
  simp only at h
  subst h
  unfold Addr.add; split <;> simp_all
theorem addr_eq {a : Addr} (h : a.spot = none) : some a = some ⟨a.block, a.off, none⟩ := by
  obtain ⟨b, o, s⟩ := a
  simp only at h
  subst h
  rfl
/-- a slice of arrays of two integers -/
theorem open_pairs {H : Type} {enc : TypeId × Value → H} {P : Program} {w : World} {base : Nat} {r : Reach} {b0 : Nat} {t u e : TypeId} {v : Value} {d : DataW H} {p : List MemPlace}
    (ht : P.underlying t = some (.slice u)) (ha : P.underlying u = some (.array 2 e)) (he : P.underlying e = some (.int .i64)) (hce : P.cellsOf e = 1) (hct : P.cellsOf u = 2) (hv : Value.okWide P w r b0 t v) (h : DataW.Trod enc P w base (fun _ => true) true t v d p) :
    ∃ (A : Option Addr) (c : Nat) (rows : List (Int × Int)), v = .slice A rows.length c ∧ Gr.P2At w A rows ∧ Gr.P2Ok rows ∧ rows.length ≤ 9223372036854775807 := by
  obtain ⟨a0, len0, cap0, rfl⟩ := okWide_slice ht hv
  obtain ⟨fuel, hf⟩ := h
  simp only [Value.cells] at hf
  rcases DataW.trod_slice ht hf with ⟨hcs, _⟩ | ⟨a, len, cap, elems, rest, n, _, hcs, _, hb, hl, hm, hlen, hel, _, _⟩
  · simp only [List.cons.injEq, Value.slice.injEq] at hcs
    obtain ⟨⟨rfl, rfl, rfl⟩, _⟩ := hcs
    exact ⟨none, 0, [], rfl, fun i hi => absurd hi (by simp), fun i hi => absurd hi (by simp), by simp⟩
  · simp only [List.cons.injEq, Value.slice.injEq] at hcs
    obtain ⟨⟨rfl, rfl, rfl⟩, _⟩ := hcs
    have each : ∀ i, i < len0 → ∃ cs : List Value, (∀ j, j < 2 → w.cell? ((a.add (i * 2)).add j) = some (.int .i64 (numV (cs.getD j undef))) ∧ -9223372036854775808 ≤ numV (cs.getD j undef) ∧ numV (cs.getD j undef) ≤ 9223372036854775807) := fun i hi => by
      have h1 := hel i hi
      rw [List.getElem?_eq_getElem (by omega), hct] at h1
      obtain ⟨cs, h2, h3⟩ := Option.bind_eq_some_iff.1 h1
      obtain ⟨_, _, h4⟩ := World.cells?_some h2
      obtain ⟨_, h5⟩ := ints_of_array ha he hce hct h3
      exact ⟨cs, fun j hj => ⟨(h4 j hj).trans (h5 j hj).1, (h5 j hj).2⟩⟩
    have hE : ∀ i, i < len0 → ∃ e : Int × Int, (w.cell? ((a.add (i * 2)).add 0) = some (.int .i64 e.1) ∧ w.cell? ((a.add (i * 2)).add 1) = some (.int .i64 e.2)) ∧ Gp.I64 e.1 ∧ Gp.I64 e.2 := fun i hi => by
      obtain ⟨cs, hc⟩ := each i hi
      exact ⟨⟨_, _⟩, ⟨(hc 0 (by omega)).1, (hc 1 (by omega)).1⟩, (hc 0 (by omega)).2, (hc 1 (by omega)).2⟩
    obtain ⟨es, hes, hall⟩ : ∃ es : List (Int × Int), es.length = len0 ∧ ∀ i (hi : i < es.length), (w.cell? ((a.add (i * 2)).add 0) = some (.int .i64 es[i].1) ∧ w.cell? ((a.add (i * 2)).add 1) = some (.int .i64 es[i].2)) ∧ Gp.I64 es[i].1 ∧ Gp.I64 es[i].2 := by
      have hE' : ∀ i : Fin len0, _ := fun i => hE i.1 i.2
      refine ⟨List.ofFn fun i : Fin len0 => Classical.choose (hE' i), by simp, fun i hi => ?_⟩
      have hi2 : i < len0 := by simpa using hi
      have := Classical.choose_spec (hE' ⟨i, hi2⟩)
      simpa using this
    subst hes
    refine ⟨some a, cap0, es, rfl, fun i hi => ?_, fun i hi => ?_, by unfold maxLen at hm; omega⟩
    · obtain ⟨⟨c0, c1⟩, _⟩ := hall i hi
      have hz : (a.add (0 * 2)).add 0 = a := by simp [Addr.add]
      have hs : a.spot = none := by
        have h0 := (hall 0 (by omega)).1.1
        rw [hz] at h0
        exact congrArg Addr.spot (addr_plain h0)
      rw [add_add _ _ _ hs] at c0 c1
      refine ⟨a.block, a.off, addr_eq hs, ?_⟩
      rw [List.getD, List.getElem?_eq_getElem hi]
      exact ⟨c0, c1⟩
    · rw [List.getD, List.getElem?_eq_getElem hi]
      exact (hall i hi).2
/-- a list of integers -/
theorem open_nums {H : Type} {enc : TypeId × Value → H} {P : Program} {w : World} {base : Nat} {r : Reach} {b0 : Nat} {t e : TypeId} {v : Value} {d : DataW H} {p : List MemPlace}
    (ht : P.underlying t = some (.slice e)) (he : P.underlying e = some (.int .i64)) (hc : P.cellsOf e = 1) (hv : Value.okWide P w r b0 t v) (h : DataW.Trod enc P w base (fun _ => true) true t v d p) :
    ∃ (Y : Option Addr) (c : Nat) (ys : List Int), v = .slice Y ys.length c ∧ IntsAt w Y ys ∧ (∀ y ∈ ys, Gp.I64 y) ∧ ys.length ≤ c ∧ ys.length ≤ 9223372036854775807 := by
  obtain ⟨a0, len0, cap0, rfl⟩ := okWide_slice ht hv
  obtain ⟨fuel, hf⟩ := h
  rcases open_ints ht he hc hf with ⟨hcs, _⟩ | ⟨a, len, cap, zs, hcs, _, hl, hm, hz, _, hcell, hw⟩
  · simp only [Value.cells, List.cons.injEq, Value.slice.injEq] at hcs
    obtain ⟨⟨rfl, rfl, rfl⟩, _⟩ := hcs
    exact ⟨none, 0, [], rfl, fun i hi => absurd hi (by simp), fun y hy => by simp at hy, by simp, by simp⟩
  · simp only [Value.cells, List.cons.injEq, Value.slice.injEq] at hcs
    obtain ⟨⟨rfl, rfl, rfl⟩, _⟩ := hcs
    simp only [if_true] at hz
    have hlen : (zs.take len0).length = len0 := by rw [List.length_take]; omega
    refine ⟨some a, cap0, zs.take len0, by rw [hlen], fun i hi => ?_, fun y hy => ?_, by omega, by unfold maxLen at hm; omega⟩
    · rw [hlen] at hi
      have h0 := hcell 0 (by omega)
      have hs : a.spot = none := by
        rw [show a.add 0 = a by simp [Addr.add]] at h0
        exact congrArg Addr.spot (addr_plain h0)
      have := hcell i (by omega)
      rw [at_plain hs] at this
      refine ⟨a.block, a.off, addr_eq hs, ?_⟩
      rw [this]
      simp only [List.getD, List.getElem?_take, if_pos hi]
    · have hm := hw y (List.mem_of_mem_take hy)
      exact ⟨i64_lo hm, i64_hi hm⟩
end Go.Proofs.Ytebfenkjipaedaa
