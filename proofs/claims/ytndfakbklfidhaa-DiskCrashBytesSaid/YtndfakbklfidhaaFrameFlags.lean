/- Slices of flags among the arguments. -/
import Derived.Test.YtndfakbklfidhaaFramePost
namespace Go.Proofs.Ytndfakbklfidhaa
open Go.ChangeShapes Go.WideShapes Go.ChangeAt Go.RowKit
/-- a slice of flags -/
theorem open_flags {H : Type} {enc : TypeId × Value → H} {P : Program} {w : World} {base : Nat} {r : Reach} {b0 : Nat} {t u : TypeId} {v : Value} {d : DataW H} {p : List MemPlace}
    (ht : P.underlying t = some (.slice u)) (hu : P.underlying u = some .bool) (hct : P.cellsOf u = 1) (hv : Value.okWide P w r b0 t v) (h : DataW.Trod enc P w base (fun _ => true) true t v d p) :
    ∃ (A : Option Addr) (cap : Nat) (L : List Bool), v = .slice A L.length cap ∧ L.length ≤ cap ∧ (cap : Int) ≤ 9223372036854775807 ∧ ∀ i, i < L.length → ∃ b o, A = some ⟨b, o, none⟩ ∧ w.cell? ⟨b, o + i, none⟩ = some (.bool (L.getD i false)) := by
  obtain ⟨A, len, cap, rfl, h1, h2, h3⟩ := open_elems ht hct (by omega) hv h
  have hE : ∀ i : Fin len, ∃ z : Bool, ∃ b o, A = some ⟨b, o, none⟩ ∧ w.cell? ⟨b, o + i.1, none⟩ = some (.bool z) := fun i => by
    obtain ⟨b, o, cs, x, fuel, hA, hl, hc, hx⟩ := h3 i.1 i.2
    obtain ⟨z, hz, _⟩ := DataW.trod_bool hu hx
    have h0 := hc 0 (by omega)
    rw [cells_one hz] at h0
    exact ⟨z, b, o, hA, by simpa using h0⟩
  refine ⟨A, cap, List.ofFn fun i => Classical.choose (hE i), by rw [List.length_ofFn], by rw [List.length_ofFn]; exact h1, h2, fun i hi => ?_⟩
  rw [List.length_ofFn] at hi
  have hs := Classical.choose_spec (hE ⟨i, hi⟩)
  rw [List.getD, List.getElem?_ofFn]
  simp only [hi, dif_pos, Option.getD_some]
  exact hs
end Go.Proofs.Ytndfakbklfidhaa
