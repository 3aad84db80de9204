/- A slice of strings among the arguments, as a list. -/
import Derived.Test.YtoipckflokdakaaDoorApp1
namespace Go.Proofs.YtoipckflokdakaaDoor
open Go.RowKit
theorem spot_none {w : World} {a : Addr} {v : Value} (h : w.cell? a = some v) : a.spot = none := by
  unfold World.cell? at h
  split at h
  · split at h
    · cases h
    · rename_i h1
      simpa using h1
  · cases h
theorem strs_open {w : World} {A : Option Addr} {n : Nat} {S : Nat → ByteArray} (h : ∀ i, i < n → ∃ a, A = some a ∧ w.cell? (a.add i) = some (.string (S i)) ∧ ((S i).size : Int) ≤ 9223372036854775807) : ∃ L : List ByteArray, L.length = n ∧ StrsAt w A L ∧ ∀ s ∈ L, (s.size : Int) ≤ 9223372036854775807 := by
  refine ⟨(List.range n).map S, by simp, fun i hi => ?_, fun s hs => ?_⟩
  · have hi : i < n := by simpa using hi
    obtain ⟨a, rfl, hc0, _⟩ := h 0 (by omega)
    obtain ⟨a', e', hc, _⟩ := h i hi
    obtain rfl := Option.some.inj e'
    have hn : a.spot = none := spot_none (show w.cell? a = some (.string (S 0)) from hc0)
    obtain ⟨b, o, sp⟩ := a
    have hn : sp = none := hn
    subst hn
    refine ⟨b, o, rfl, ?_⟩
    rw [show ((List.range n).map S).getD i ⟨#[]⟩ = S i by simp [List.getD, hi]]
    rw [show (⟨b, o, none⟩ : Addr).add i = ⟨b, o + i, none⟩ by unfold Addr.add; split <;> simp_all] at hc
    exact hc
  · obtain ⟨i, hi, rfl⟩ := List.mem_map.1 hs
    obtain ⟨a, _, _, h3⟩ := h i (List.mem_range.1 hi)
    exact h3
end Go.Proofs.YtoipckflokdakaaDoor
