/- Slices of integers and of strings among the arguments, nil or not: the cells of their elements. Nothing of the program stands here. -/
import Derived.Test.YtoipckflokdakaaDoorFrameDg
import Derived.SliceStrings
namespace Go.Proofs.YtoipckflokdakaaDoor
open Go.ChangeShapes Go.WideShapes Go.ChangeAt Go.RowKit
theorem open_ints_all {H : Type} {enc : TypeId × Value → H} {P : Program} {w : World} {base : Nat} {r : Reach} {b0 : Nat} {t e : TypeId} {v : Value} {d : DataW H} {p : List MemPlace}
    (ht : P.underlying t = some (.slice e)) (he : P.underlying e = some (.int .i64)) (hc : P.cellsOf e = 1) (hv : Value.okWide P w r b0 t v) (h : DataW.Trod enc P w base (fun _ => true) true t v d p) :
    ∃ (o : Option Addr) (len cap : Nat) (Z : Nat → Int), v = .slice o len cap ∧ (len : Int) ≤ 9223372036854775807 ∧
      ∀ i, i < len → ∃ a, o = some a ∧ w.cell? (a.add i) = some (.int .i64 (Z i)) ∧ -9223372036854775808 ≤ Z i ∧ Z i ≤ 9223372036854775807 := by
  obtain ⟨a0, len0, cap0, rfl⟩ := okWide_slice ht hv
  obtain ⟨fuel, hf⟩ := h
  rcases open_ints ht he hc hf with ⟨hcs, _⟩ | ⟨a, len, cap, zs, hcs, _, hl, hm, hz, _, hcell, hw⟩
  · simp only [Value.cells, List.cons.injEq, Value.slice.injEq] at hcs
    obtain ⟨⟨rfl, rfl, rfl⟩, _⟩ := hcs
    exact ⟨none, 0, 0, fun _ => 0, rfl, by omega, fun i hi => by omega⟩
  · simp only [Value.cells, List.cons.injEq, Value.slice.injEq] at hcs
    obtain ⟨⟨rfl, rfl, rfl⟩, _⟩ := hcs
    simp only [if_true] at hz
    refine ⟨some a, len0, cap0, fun i => zs.getD i 0, rfl, by unfold maxLen at hm; omega, fun i hi => ⟨a, rfl, hcell i (by omega), ?_⟩⟩
    have hmem : zs.getD i 0 ∈ zs := by
      rw [List.getD, List.getElem?_eq_getElem (by omega)]
      exact List.getElem_mem _
    exact ⟨i64_lo (hw _ hmem), i64_hi (hw _ hmem)⟩
theorem open_strings_all {H : Type} {enc : TypeId × Value → H} {P : Program} {w : World} {base : Nat} {r : Reach} {b0 : Nat} {t e : TypeId} {v : Value} {d : DataW H} {p : List MemPlace}
    (ht : P.underlying t = some (.slice e)) (he : P.underlying e = some .string) (hc : P.cellsOf e = 1) (hv : Value.okWide P w r b0 t v) (h : DataW.Trod enc P w base (fun _ => true) true t v d p) :
    ∃ (o : Option Addr) (len cap : Nat) (S : Nat → ByteArray), v = .slice o len cap ∧ (len : Int) ≤ 9223372036854775807 ∧
      ∀ i, i < len → ∃ a, o = some a ∧ w.cell? (a.add i) = some (.string (S i)) ∧ ((S i).size : Int) ≤ 9223372036854775807 := by
  obtain ⟨a0, len0, cap0, rfl⟩ := okWide_slice ht hv
  obtain ⟨fuel, hf⟩ := h
  rcases open_strings ht he hc hf with ⟨hcs, _⟩ | ⟨a, len, cap, ss, hcs, _, hl, hm, hz, _, hcell, hw⟩
  · simp only [Value.cells, List.cons.injEq, Value.slice.injEq] at hcs
    obtain ⟨⟨rfl, rfl, rfl⟩, _⟩ := hcs
    exact ⟨none, 0, 0, fun _ => ByteArray.empty, rfl, by omega, fun i hi => by omega⟩
  · simp only [Value.cells, List.cons.injEq, Value.slice.injEq] at hcs
    obtain ⟨⟨rfl, rfl, rfl⟩, _⟩ := hcs
    simp only [if_true] at hz
    refine ⟨some a, len0, cap0, fun i => ss.getD i ByteArray.empty, rfl, by unfold maxLen at hm; omega, fun i hi => ⟨a, rfl, hcell i (by omega), ?_⟩⟩
    have hmem : ss.getD i ByteArray.empty ∈ ss := by
      rw [List.getD, List.getElem?_eq_getElem (by omega)]
      exact List.getElem_mem _
    exact str_max (hw _ hmem)
end Go.Proofs.YtoipckflokdakaaDoor
