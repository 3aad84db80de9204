/- Plain laws of being near a line: symmetry, greater tolerances, turning, moving, the box of both ends, level lines. -/
import Derived.Test.YtgmabepdhbnppaaStrokePlain
namespace Go.Proofs.Ytgmabepdhbnppaa.Str
theorem near_sym (ax ay bx b_y px py z : Int) : nearI ax ay bx b_y px py z = nearI bx b_y ax ay px py z := by
  rw [near_eq, near_eq]
  unfold nearR
  have e1 : sq bx b_y ax ay = sq ax ay bx b_y := by unfold sq; grind
  have e2 : ((ax - bx) * (py - b_y) - (ay - b_y) * (px - bx)) * ((ax - bx) * (py - b_y) - (ay - b_y) * (px - bx)) = ((bx - ax) * (py - ay) - (b_y - ay) * (px - ax)) * ((bx - ax) * (py - ay) - (b_y - ay) * (px - ax)) := by grind
  rw [e1, e2]
  by_cases h1 : sq ax ay px py ≤ z * z ∨ sq bx b_y px py ≤ z * z
  · rw [if_pos h1, if_pos h1.symm]
  · have h1' : ¬(sq bx b_y px py ≤ z * z ∨ sq ax ay px py ≤ z * z) := fun h => h1 h.symm
    rw [if_neg h1, if_neg h1']
    by_cases h2 : sq ax ay bx b_y + sq ax ay px py < sq bx b_y px py ∨ sq ax ay bx b_y + sq bx b_y px py < sq ax ay px py ∨ sq ax ay bx b_y = 0
    · have h2' : sq ax ay bx b_y + sq bx b_y px py < sq ax ay px py ∨ sq ax ay bx b_y + sq ax ay px py < sq bx b_y px py ∨ sq ax ay bx b_y = 0 := by omega
      rw [if_pos h2, if_pos h2']
    · have h2' : ¬(sq ax ay bx b_y + sq bx b_y px py < sq ax ay px py ∨ sq ax ay bx b_y + sq ax ay px py < sq bx b_y px py ∨ sq ax ay bx b_y = 0) := by omega
      rw [if_neg h2, if_neg h2']
theorem sq_mono {z y : Int} (h0 : 0 ≤ z) (h : z ≤ y) : z * z ≤ y * y := Int.mul_le_mul h h h0 (by omega)
theorem near_mono {ax ay bx b_y px py z y : Int} (h0 : 0 ≤ z) (h : z ≤ y) (hn : nearI ax ay bx b_y px py z = true) : nearI ax ay bx b_y px py y = true := by
  rw [near_eq] at hn ⊢
  have hz := sq_mono h0 h
  have h4 := sq_nonneg ax ay bx b_y
  have h5 : z * z * sq ax ay bx b_y ≤ y * y * sq ax ay bx b_y := Int.mul_le_mul_of_nonneg_right hz h4
  unfold nearR at hn ⊢
  by_cases h1 : sq ax ay px py ≤ y * y ∨ sq bx b_y px py ≤ y * y
  · rw [if_pos h1]
  · rw [if_neg h1]
    rw [if_neg (by omega)] at hn
    by_cases h2 : sq ax ay bx b_y + sq ax ay px py < sq bx b_y px py ∨ sq ax ay bx b_y + sq bx b_y px py < sq ax ay px py ∨ sq ax ay bx b_y = 0
    · rw [if_pos h2] at hn; cases hn
    · rw [if_neg h2] at hn ⊢
      have hn := of_decide_eq_true hn
      exact decide_eq_true (by omega)
theorem near_first (ax ay bx b_y z : Int) : nearI ax ay bx b_y ax ay z = true := by
  rw [near_eq]
  unfold nearR
  refine if_pos (.inl ?_)
  have : sq ax ay ax ay = 0 := by unfold sq; simp
  rw [this]
  exact self_nonneg z
theorem near_second (ax ay bx b_y z : Int) : nearI ax ay bx b_y bx b_y z = true := by
  rw [near_sym]; exact near_first bx b_y ax ay z
theorem near_moved (ax ay bx b_y px py z u v : Int) : nearI (ax + u) (ay + v) (bx + u) (b_y + v) (px + u) (py + v) z = nearI ax ay bx b_y px py z := by
  unfold nearI
  rw [show bx + u - (ax + u) = bx - ax by omega, show px + u - (ax + u) = px - ax by omega, show b_y + v - (ay + v) = b_y - ay by omega, show py + v - (ay + v) = py - ay by omega,
    show px + u - (bx + u) = px - bx by omega, show py + v - (b_y + v) = py - b_y by omega]
theorem near_turned (ax ay bx b_y px py z m : Int) : nearI (m - ay) ax (m - b_y) bx (m - py) px z = nearI ax ay bx b_y px py z := by
  unfold nearI
  have e1 : (m - b_y - (m - ay)) * (m - py - (m - ay)) + (bx - ax) * (px - ax) = (bx - ax) * (px - ax) + (b_y - ay) * (py - ay) := by grind
  have e2 : (m - py - (m - ay)) * (m - py - (m - ay)) + (px - ax) * (px - ax) = (px - ax) * (px - ax) + (py - ay) * (py - ay) := by grind
  have e3 : (m - b_y - (m - ay)) * (m - py - (m - b_y)) + (bx - ax) * (px - bx) = (bx - ax) * (px - bx) + (b_y - ay) * (py - b_y) := by grind
  have e4 : (m - py - (m - b_y)) * (m - py - (m - b_y)) + (px - bx) * (px - bx) = (px - bx) * (px - bx) + (py - b_y) * (py - b_y) := by grind
  have e5 : ((m - b_y - (m - ay)) * (px - ax) - (bx - ax) * (m - py - (m - ay))) * ((m - b_y - (m - ay)) * (px - ax) - (bx - ax) * (m - py - (m - ay))) = ((bx - ax) * (py - ay) - (b_y - ay) * (px - ax)) * ((bx - ax) * (py - ay) - (b_y - ay) * (px - ax)) := by grind
  have e6 : (m - b_y - (m - ay)) * (m - b_y - (m - ay)) + (bx - ax) * (bx - ax) = (bx - ax) * (bx - ax) + (b_y - ay) * (b_y - ay) := by grind
  rw [e1, e2, e3, e4, e5, e6]
theorem abs_sq {u z : Int} (h0 : 0 ≤ z) (h : u * u ≤ z * z) : u ≤ z ∧ -z ≤ u := by
  constructor
  · rcases Int.lt_or_le z u with h1 | h1
    · have : z * z < u * u := Int.mul_lt_mul' (Int.le_of_lt h1) h1 h0 (by omega)
      omega
    · exact h1
  · rcases Int.lt_or_le u (-z) with h1 | h1
    · have : z * z < (-u) * (-u) := Int.mul_lt_mul' (by omega) (by omega) h0 (by omega)
      rw [Int.neg_mul_neg] at this
      omega
    · exact h1
/-- beyond both ends in one direction by more than z: not near -/
theorem far_core {dx dy wx wy z : Int} (hz : 0 ≤ z) (h1 : z < wx) (h2 : z < wx - dx) (h3 : 0 < dx * wx + dy * wy) (h4 : dx * wx + dy * wy < dx * dx + dy * dy) :
    z * z * (dx * dx + dy * dy) < (dx * wy - dy * wx) * (dx * wy - dy * wx) := by
  obtain ⟨DD, hDD⟩ : ∃ DD, dx * dx + dy * dy = DD := ⟨_, rfl⟩
  obtain ⟨DW, hDW⟩ : ∃ DW, dx * wx + dy * wy = DW := ⟨_, rfl⟩
  obtain ⟨C, hC⟩ : ∃ C, dx * wy - dy * wx = C := ⟨_, rfl⟩
  rw [hDD, hC]
  rw [hDW] at h3
  rw [hDW, hDD] at h4
  have id : (DD - DW) * wx + DW * (wx - dx) = -(dy * C) := by rw [← hDD, ← hDW, ← hC]; grind
  have k1 : (DD - DW) * z < (DD - DW) * wx := Int.mul_lt_mul_of_pos_left h1 (by omega)
  have k2 : DW * z < DW * (wx - dx) := Int.mul_lt_mul_of_pos_left h2 h3
  have k3 : DD * z < -(dy * C) := by
    have : (DD - DW) * z + DW * z = DD * z := by grind
    omega
  have k4 : 0 ≤ DD * z := Int.mul_nonneg (by omega) hz
  have k5 : (DD * z) * (DD * z) < (dy * C) * (dy * C) := by
    have := Int.mul_lt_mul' (Int.le_of_lt k3) k3 k4 (by omega)
    rwa [Int.neg_mul_neg] at this
  rcases Int.lt_or_le (z * z * DD) (C * C) with h | h
  · exact h
  · exfalso
    have n1 := self_nonneg dy
    have n2 := self_nonneg dx
    have k6 : dy * dy * (C * C) ≤ dy * dy * (z * z * DD) := Int.mul_le_mul_of_nonneg_left h n1
    have k7 : dy * dy * (z * z * DD) ≤ DD * (z * z * DD) := Int.mul_le_mul_of_nonneg_right (by omega) (Int.mul_nonneg (self_nonneg z) (by omega))
    have k8 : (dy * C) * (dy * C) = dy * dy * (C * C) := by grind
    have k9 : (DD * z) * (DD * z) = DD * (z * z * DD) := by grind
    omega
theorem near_inside {ax ay bx b_y px py z : Int} (hz : 0 ≤ z) (h : nearI ax ay bx b_y px py z = true) : minI ax bx - z ≤ px ∧ px ≤ maxI ax bx + z := by
  have m1 := minI_le ax bx
  have m2 := le_maxI ax bx
  unfold nearI at h
  by_cases h1 : (bx - ax) * (px - ax) + (b_y - ay) * (py - ay) ≤ 0
  · rw [if_pos h1] at h
    have h := of_decide_eq_true h
    have := self_nonneg (py - ay)
    have := abs_sq (u := px - ax) hz (by omega)
    omega
  · rw [if_neg h1] at h
    by_cases h2 : 0 ≤ (bx - ax) * (px - bx) + (b_y - ay) * (py - b_y)
    · rw [if_pos h2] at h
      have h := of_decide_eq_true h
      have := self_nonneg (py - b_y)
      have := abs_sq (u := px - bx) hz (by omega)
      omega
    · rw [if_neg h2] at h
      have h := of_decide_eq_true h
      have e : (bx - ax) * (px - bx) + (b_y - ay) * (py - b_y) = ((bx - ax) * (px - ax) + (b_y - ay) * (py - ay)) - ((bx - ax) * (bx - ax) + (b_y - ay) * (b_y - ay)) := by grind
      constructor
      · rcases Int.lt_or_le px (minI ax bx - z) with hc | hc
        · have := far_core (dx := -(bx - ax)) (dy := -(b_y - ay)) (wx := -(px - ax)) (wy := -(py - ay)) hz (by omega) (by omega) (by rw [Int.neg_mul_neg, Int.neg_mul_neg]; omega) (by rw [Int.neg_mul_neg, Int.neg_mul_neg, Int.neg_mul_neg, Int.neg_mul_neg]; omega)
          rw [Int.neg_mul_neg, Int.neg_mul_neg, Int.neg_mul_neg, Int.neg_mul_neg] at this
          omega
        · exact hc
      · rcases Int.lt_or_le (maxI ax bx + z) px with hc | hc
        · have := far_core (dx := bx - ax) (dy := b_y - ay) (wx := px - ax) (wy := py - ay) hz (by omega) (by omega) (by omega) (by omega)
          omega
        · exact hc
theorem near_swap (ax ay bx b_y px py z : Int) : nearI ay ax b_y bx py px z = nearI ax ay bx b_y px py z := by
  unfold nearI
  have e1 : (b_y - ay) * (py - ay) + (bx - ax) * (px - ax) = (bx - ax) * (px - ax) + (b_y - ay) * (py - ay) := by grind
  have e2 : (py - ay) * (py - ay) + (px - ax) * (px - ax) = (px - ax) * (px - ax) + (py - ay) * (py - ay) := by grind
  have e3 : (b_y - ay) * (py - b_y) + (bx - ax) * (px - bx) = (bx - ax) * (px - bx) + (b_y - ay) * (py - b_y) := by grind
  have e4 : (py - b_y) * (py - b_y) + (px - bx) * (px - bx) = (px - bx) * (px - bx) + (py - b_y) * (py - b_y) := by grind
  have e5 : ((b_y - ay) * (px - ax) - (bx - ax) * (py - ay)) * ((b_y - ay) * (px - ax) - (bx - ax) * (py - ay)) = ((bx - ax) * (py - ay) - (b_y - ay) * (px - ax)) * ((bx - ax) * (py - ay) - (b_y - ay) * (px - ax)) := by grind
  have e6 : (b_y - ay) * (b_y - ay) + (bx - ax) * (bx - ax) = (bx - ax) * (bx - ax) + (b_y - ay) * (b_y - ay) := by grind
  rw [e1, e2, e3, e4, e5, e6]
theorem sq_abs {u z : Int} (h : u ≤ z) (h' : -z ≤ u) : u * u ≤ z * z := by
  rcases Int.le_total 0 u with h1 | h1
  · exact Int.mul_le_mul h h h1 (by omega)
  · have : (-u) * (-u) ≤ z * z := Int.mul_le_mul (by omega) (by omega) (by omega) (by omega)
    rwa [Int.neg_mul_neg] at this
/-- beside a level line -/
theorem near_level {ax ay bx px py z : Int} (hz : 0 ≤ z) (h1 : minI ax bx ≤ px) (h2 : px ≤ maxI ax bx) : nearI ax ay bx ay px py z = decide (py - ay ≤ z ∧ ay - py ≤ z) := by
  have key : decide ((py - ay) * (py - ay) ≤ z * z) = decide (py - ay ≤ z ∧ ay - py ≤ z) := by
    by_cases h : (py - ay) * (py - ay) ≤ z * z
    · have := abs_sq hz h
      rw [decide_eq_true h, decide_eq_true (by omega)]
    · rw [decide_eq_false h, decide_eq_false]
      intro hc
      exact h (sq_abs (by omega) (by omega))
  rw [near_eq, ← key]
  have e0 : sq ax ay bx ay = (bx - ax) * (bx - ax) := by unfold sq; grind
  have e1 : sq ax ay px py = (px - ax) * (px - ax) + (py - ay) * (py - ay) := by unfold sq; grind
  have e2 : sq bx ay px py = (px - bx) * (px - bx) + (py - ay) * (py - ay) := by unfold sq; grind
  have e3 : (bx - ax) * (py - ay) - (ay - ay) * (px - ax) = (bx - ax) * (py - ay) := by grind
  unfold nearR
  rw [e0, e1, e2, e3]
  have n1 := self_nonneg (px - ax)
  have n2 := self_nonneg (px - bx)
  have n3 := self_nonneg (bx - ax)
  -- between: the squares of the parts are at most the square of the whole
  have b1 : (px - ax) * (px - ax) ≤ (bx - ax) * (bx - ax) := by
    rcases Int.le_total ax bx with hc | hc
    · have m1 : minI ax bx = ax := by unfold minI; split <;> omega
      have m2 : maxI ax bx = bx := by unfold maxI; split <;> omega
      exact sq_abs (by omega) (by omega)
    · have m1 : minI ax bx = bx := by unfold minI; split <;> omega
      have m2 : maxI ax bx = ax := by unfold maxI; split <;> omega
      have := sq_abs (u := px - ax) (z := ax - bx) (by omega) (by omega)
      have e : (ax - bx) * (ax - bx) = (bx - ax) * (bx - ax) := by grind
      omega
  have b2 : (px - bx) * (px - bx) ≤ (bx - ax) * (bx - ax) := by
    rcases Int.le_total ax bx with hc | hc
    · have m1 : minI ax bx = ax := by unfold minI; split <;> omega
      have m2 : maxI ax bx = bx := by unfold maxI; split <;> omega
      exact sq_abs (by omega) (by omega)
    · have m1 : minI ax bx = bx := by unfold minI; split <;> omega
      have m2 : maxI ax bx = ax := by unfold maxI; split <;> omega
      have := sq_abs (u := px - bx) (z := ax - bx) (by omega) (by omega)
      have e : (ax - bx) * (ax - bx) = (bx - ax) * (bx - ax) := by grind
      omega
  by_cases h : (px - ax) * (px - ax) + (py - ay) * (py - ay) ≤ z * z ∨ (px - bx) * (px - bx) + (py - ay) * (py - ay) ≤ z * z
  · rw [if_pos h, decide_eq_true (by omega)]
  · rw [if_neg h]
    by_cases hd : (bx - ax) * (bx - ax) = 0
    · rw [if_pos (by omega), decide_eq_false (by omega)]
    · rw [if_neg (by omega)]
      have e4 : (bx - ax) * (py - ay) * ((bx - ax) * (py - ay)) = (py - ay) * (py - ay) * ((bx - ax) * (bx - ax)) := by grind
      rw [e4]
      by_cases hc : (py - ay) * (py - ay) ≤ z * z
      · rw [decide_eq_true hc, decide_eq_true (Int.mul_le_mul_of_nonneg_right hc n3)]
      · rw [decide_eq_false hc, decide_eq_false]
        have := Int.mul_lt_mul_of_pos_right (show z * z < (py - ay) * (py - ay) by omega) (show 0 < (bx - ax) * (bx - ax) by omega)
        omega
/-- near with tolerance 0: on the line -/
theorem near_zero {ax ay bx b_y px py : Int} (h : nearI ax ay bx b_y px py 0 = true) : (bx - ax) * (py - ay) = (b_y - ay) * (px - ax) := by
  have zz {u : Int} (hu : u * u ≤ 0) : u = 0 := by
    have h1 := self_nonneg u
    have : u * u = 0 := by omega
    rcases Int.mul_eq_zero.1 this with h | h <;> exact h
  unfold nearI at h
  by_cases h1 : (bx - ax) * (px - ax) + (b_y - ay) * (py - ay) ≤ 0
  · rw [if_pos h1] at h
    have h := of_decide_eq_true h
    have n1 := self_nonneg (px - ax)
    have n2 := self_nonneg (py - ay)
    rw [zz (u := px - ax) (by omega), zz (u := py - ay) (by omega)]
    simp
  · rw [if_neg h1] at h
    by_cases h2 : 0 ≤ (bx - ax) * (px - bx) + (b_y - ay) * (py - b_y)
    · rw [if_pos h2] at h
      have h := of_decide_eq_true h
      have n1 := self_nonneg (px - bx)
      have n2 := self_nonneg (py - b_y)
      have k1 := zz (u := px - bx) (by omega)
      have k2 := zz (u := py - b_y) (by omega)
      rw [show px = bx by omega, show py = b_y by omega, Int.mul_comm]
    · rw [if_neg h2] at h
      have h := of_decide_eq_true h
      have := zz (u := (bx - ax) * (py - ay) - (b_y - ay) * (px - ax)) (by omega)
      omega
end Go.Proofs.Ytgmabepdhbnppaa.Str
