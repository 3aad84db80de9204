/- Lists of indices, index by index: what Chain says of their elements, and back. -/
import Derived.Test.YtgmabepdhbnppaaStrokeLaws
namespace Go.Proofs.Ytgmabepdhbnppaa.Str
theorem chain_get {ok : Nat → Nat → Bool} : ∀ {l : List Nat} {a b : Nat}, Chain ok a l b →
    (a :: l).getD l.length 0 = b ∧ (∀ i, i + 1 < (a :: l).length → (a :: l).getD i 0 < (a :: l).getD (i + 1) 0 ∧ ok ((a :: l).getD i 0) ((a :: l).getD (i + 1) 0) = true) ∧ ∀ i, i < (a :: l).length → (a :: l).getD i 0 ≤ b
  | [], a, b, h => by
    have h : a = b := h
    subst h
    refine ⟨rfl, fun i hi => by simp at hi, fun i hi => ?_⟩
    obtain rfl : i = 0 := by simpa using hi
    exact Nat.le_refl _
  | k :: r, a, b, h => by
    obtain ⟨h1, h2, h3⟩ := h
    obtain ⟨e1, e2, e3⟩ := chain_get h3
    refine ⟨by simpa using e1, fun i hi => ?_, fun i hi => ?_⟩
    · cases i with
      | zero => exact ⟨h1, h2⟩
      | succ i => exact e2 i (by simpa using hi)
    · cases i with
      | zero => exact Nat.le_trans (Nat.le_of_lt h1) (e3 0 (by simp))
      | succ i => exact e3 i (by simpa using hi)
theorem chain_of {ok : Nat → Nat → Bool} : ∀ {l : List Nat} {a : Nat}, (∀ i, i + 1 < (a :: l).length → (a :: l).getD i 0 < (a :: l).getD (i + 1) 0 ∧ ok ((a :: l).getD i 0) ((a :: l).getD (i + 1) 0) = true) → Chain ok a l ((a :: l).getD l.length 0)
  | [], a, _ => rfl
  | k :: r, a, h => by
    have h0 := h 0 (by simp)
    refine ⟨h0.1, h0.2, ?_⟩
    have := chain_of (l := r) (a := k) fun i hi => h (i + 1) (by simpa using hi)
    simpa using this
/-- what Thin returns, index by index -/
theorem thin_spec {D : List Dot} (h200 : D.length ≤ 200) (h1 : 1 ≤ D.length) (z : Int) :
    1 ≤ (thinF D z).length ∧ (thinF D z).getD 0 0 = 0 ∧ (thinF D z).getD ((thinF D z).length - 1) 0 = D.length - 1 ∧
    (∀ i, i + 1 < (thinF D z).length → (thinF D z).getD i 0 < (thinF D z).getD (i + 1) 0 ∧ okD D z ((thinF D z).getD i 0) ((thinF D z).getD (i + 1) 0) = true) ∧ ∀ i, i < (thinF D z).length → (thinF D z).getD i 0 < D.length := by
  have hb := (thin_best h200 h1 z).1
  obtain ⟨e1, e2, e3⟩ := chain_get hb
  have ht : thinF D z = 0 :: thinT D z := rfl
  rw [ht]
  refine ⟨by simp, rfl, by simpa using e1, e2, fun i hi => ?_⟩
  have := e3 i hi
  omega
end Go.Proofs.Ytgmabepdhbnppaa.Str
