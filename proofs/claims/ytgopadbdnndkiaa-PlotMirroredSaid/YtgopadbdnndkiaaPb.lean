/- Plain laws of being near a line: symmetry, greater tolerances, turning, moving, the box of both ends, level lines. Plain laws of strokes: boxes, ways, turning, moving, thinning. Package stroke: Valid and Code; what a stroke in memory is. Package stroke: Code and Ends. -/
import Derived.Test.YtgopadbdnndkiaaPa
namespace Go.Proofs.Ytgopadbdnndkiaa.Str
theorem near_sym (ax ay bx b_y px py z : Int) : nearI ax ay bx b_y px py z = nearI bx b_y ax ay px py z := by
  rw [near_eq, near_eq]
  unfold nearR
  have e1 : sq bx b_y ax ay = sq ax ay bx b_y := by unfold sq; grind
  have e2 : ((ax - bx) * (py - b_y) - (ay - b_y) * (px - bx)) * ((ax - bx) * (py - b_y) - (ay - b_y) * (px - bx)) = ((bx - ax) * (py - ay) - (b_y - ay) * (px - ax)) * ((bx - ax) * (py - ay) - (b_y - ay) * (px - ax)) := by grind
  rw [e1, e2]
  by_cases h1 : sq ax ay px py ≤ z * z ∨ sq bx b_y px py ≤ z * z
  · rw [if_pos h1, if_pos h1.symm]
  · have h1' : ¬(sq bx b_y px py ≤ z * z ∨ sq ax ay px py ≤ z * z) := fun h => h1 h.symm
    rw [if_neg h1, if_neg h1']
    by_cases h2 : sq ax ay bx b_y + sq ax ay px py < sq bx b_y px py ∨ sq ax ay bx b_y + sq bx b_y px py < sq ax ay px py ∨ sq ax ay bx b_y = 0
    · have h2' : sq ax ay bx b_y + sq bx b_y px py < sq ax ay px py ∨ sq ax ay bx b_y + sq ax ay px py < sq bx b_y px py ∨ sq ax ay bx b_y = 0 := by omega
      rw [if_pos h2, if_pos h2']
    · have h2' : ¬(sq ax ay bx b_y + sq bx b_y px py < sq ax ay px py ∨ sq ax ay bx b_y + sq ax ay px py < sq bx b_y px py ∨ sq ax ay bx b_y = 0) := by omega
      rw [if_neg h2, if_neg h2']
theorem sq_mono {z y : Int} (h0 : 0 ≤ z) (h : z ≤ y) : z * z ≤ y * y := Int.mul_le_mul h h h0 (by omega)
theorem near_mono {ax ay bx b_y px py z y : Int} (h0 : 0 ≤ z) (h : z ≤ y) (hn : nearI ax ay bx b_y px py z = true) : nearI ax ay bx b_y px py y = true := by
  rw [near_eq] at hn ⊢
  have hz := sq_mono h0 h
  have h4 := sq_nonneg ax ay bx b_y
  have h5 : z * z * sq ax ay bx b_y ≤ y * y * sq ax ay bx b_y := Int.mul_le_mul_of_nonneg_right hz h4
  unfold nearR at hn ⊢
  by_cases h1 : sq ax ay px py ≤ y * y ∨ sq bx b_y px py ≤ y * y
  · rw [if_pos h1]
  · rw [if_neg h1]
    rw [if_neg (by omega)] at hn
    by_cases h2 : sq ax ay bx b_y + sq ax ay px py < sq bx b_y px py ∨ sq ax ay bx b_y + sq bx b_y px py < sq ax ay px py ∨ sq ax ay bx b_y = 0
    · rw [if_pos h2] at hn; cases hn
    · rw [if_neg h2] at hn ⊢
      have hn := of_decide_eq_true hn
      exact decide_eq_true (by omega)
theorem near_first (ax ay bx b_y z : Int) : nearI ax ay bx b_y ax ay z = true := by
  rw [near_eq]
  unfold nearR
  refine if_pos (.inl ?_)
  have : sq ax ay ax ay = 0 := by unfold sq; simp
  rw [this]
  exact self_nonneg z
theorem near_second (ax ay bx b_y z : Int) : nearI ax ay bx b_y bx b_y z = true := by
  rw [near_sym]; exact near_first bx b_y ax ay z
theorem near_moved (ax ay bx b_y px py z u v : Int) : nearI (ax + u) (ay + v) (bx + u) (b_y + v) (px + u) (py + v) z = nearI ax ay bx b_y px py z := by
  unfold nearI
  rw [show bx + u - (ax + u) = bx - ax by omega, show px + u - (ax + u) = px - ax by omega, show b_y + v - (ay + v) = b_y - ay by omega, show py + v - (ay + v) = py - ay by omega,
    show px + u - (bx + u) = px - bx by omega, show py + v - (b_y + v) = py - b_y by omega]
theorem near_turned (ax ay bx b_y px py z m : Int) : nearI (m - ay) ax (m - b_y) bx (m - py) px z = nearI ax ay bx b_y px py z := by
  unfold nearI
  have e1 : (m - b_y - (m - ay)) * (m - py - (m - ay)) + (bx - ax) * (px - ax) = (bx - ax) * (px - ax) + (b_y - ay) * (py - ay) := by grind
  have e2 : (m - py - (m - ay)) * (m - py - (m - ay)) + (px - ax) * (px - ax) = (px - ax) * (px - ax) + (py - ay) * (py - ay) := by grind
  have e3 : (m - b_y - (m - ay)) * (m - py - (m - b_y)) + (bx - ax) * (px - bx) = (bx - ax) * (px - bx) + (b_y - ay) * (py - b_y) := by grind
  have e4 : (m - py - (m - b_y)) * (m - py - (m - b_y)) + (px - bx) * (px - bx) = (px - bx) * (px - bx) + (py - b_y) * (py - b_y) := by grind
  have e5 : ((m - b_y - (m - ay)) * (px - ax) - (bx - ax) * (m - py - (m - ay))) * ((m - b_y - (m - ay)) * (px - ax) - (bx - ax) * (m - py - (m - ay))) = ((bx - ax) * (py - ay) - (b_y - ay) * (px - ax)) * ((bx - ax) * (py - ay) - (b_y - ay) * (px - ax)) := by grind
  have e6 : (m - b_y - (m - ay)) * (m - b_y - (m - ay)) + (bx - ax) * (bx - ax) = (bx - ax) * (bx - ax) + (b_y - ay) * (b_y - ay) := by grind
  rw [e1, e2, e3, e4, e5, e6]
theorem abs_sq {u z : Int} (h0 : 0 ≤ z) (h : u * u ≤ z * z) : u ≤ z ∧ -z ≤ u := by
  constructor
  · rcases Int.lt_or_le z u with h1 | h1
    · have : z * z < u * u := Int.mul_lt_mul' (Int.le_of_lt h1) h1 h0 (by omega)
      omega
    · exact h1
  · rcases Int.lt_or_le u (-z) with h1 | h1
    · have : z * z < (-u) * (-u) := Int.mul_lt_mul' (by omega) (by omega) h0 (by omega)
      rw [Int.neg_mul_neg] at this
      omega
    · exact h1
/-- beyond both ends in one direction by more than z: not near -/
theorem far_core {dx dy wx wy z : Int} (hz : 0 ≤ z) (h1 : z < wx) (h2 : z < wx - dx) (h3 : 0 < dx * wx + dy * wy) (h4 : dx * wx + dy * wy < dx * dx + dy * dy) :
    z * z * (dx * dx + dy * dy) < (dx * wy - dy * wx) * (dx * wy - dy * wx) := by
  obtain ⟨DD, hDD⟩ : ∃ DD, dx * dx + dy * dy = DD := ⟨_, rfl⟩
  obtain ⟨DW, hDW⟩ : ∃ DW, dx * wx + dy * wy = DW := ⟨_, rfl⟩
  obtain ⟨C, hC⟩ : ∃ C, dx * wy - dy * wx = C := ⟨_, rfl⟩
  rw [hDD, hC]
  rw [hDW] at h3
  rw [hDW, hDD] at h4
  have id : (DD - DW) * wx + DW * (wx - dx) = -(dy * C) := by rw [← hDD, ← hDW, ← hC]; grind
  have k1 : (DD - DW) * z < (DD - DW) * wx := Int.mul_lt_mul_of_pos_left h1 (by omega)
  have k2 : DW * z < DW * (wx - dx) := Int.mul_lt_mul_of_pos_left h2 h3
  have k3 : DD * z < -(dy * C) := by
    have : (DD - DW) * z + DW * z = DD * z := by grind
    omega
  have k4 : 0 ≤ DD * z := Int.mul_nonneg (by omega) hz
  have k5 : (DD * z) * (DD * z) < (dy * C) * (dy * C) := by
    have := Int.mul_lt_mul' (Int.le_of_lt k3) k3 k4 (by omega)
    rwa [Int.neg_mul_neg] at this
  rcases Int.lt_or_le (z * z * DD) (C * C) with h | h
  · exact h
  · exfalso
    have n1 := self_nonneg dy
    have n2 := self_nonneg dx
    have k6 : dy * dy * (C * C) ≤ dy * dy * (z * z * DD) := Int.mul_le_mul_of_nonneg_left h n1
    have k7 : dy * dy * (z * z * DD) ≤ DD * (z * z * DD) := Int.mul_le_mul_of_nonneg_right (by omega) (Int.mul_nonneg (self_nonneg z) (by omega))
    have k8 : (dy * C) * (dy * C) = dy * dy * (C * C) := by grind
    have k9 : (DD * z) * (DD * z) = DD * (z * z * DD) := by grind
    omega
theorem near_inside {ax ay bx b_y px py z : Int} (hz : 0 ≤ z) (h : nearI ax ay bx b_y px py z = true) : minI ax bx - z ≤ px ∧ px ≤ maxI ax bx + z := by
  have m1 := minI_le ax bx
  have m2 := le_maxI ax bx
  unfold nearI at h
  by_cases h1 : (bx - ax) * (px - ax) + (b_y - ay) * (py - ay) ≤ 0
  · rw [if_pos h1] at h
    have h := of_decide_eq_true h
    have := self_nonneg (py - ay)
    have := abs_sq (u := px - ax) hz (by omega)
    omega
  · rw [if_neg h1] at h
    by_cases h2 : 0 ≤ (bx - ax) * (px - bx) + (b_y - ay) * (py - b_y)
    · rw [if_pos h2] at h
      have h := of_decide_eq_true h
      have := self_nonneg (py - b_y)
      have := abs_sq (u := px - bx) hz (by omega)
      omega
    · rw [if_neg h2] at h
      have h := of_decide_eq_true h
      have e : (bx - ax) * (px - bx) + (b_y - ay) * (py - b_y) = ((bx - ax) * (px - ax) + (b_y - ay) * (py - ay)) - ((bx - ax) * (bx - ax) + (b_y - ay) * (b_y - ay)) := by grind
      constructor
      · rcases Int.lt_or_le px (minI ax bx - z) with hc | hc
        · have := far_core (dx := -(bx - ax)) (dy := -(b_y - ay)) (wx := -(px - ax)) (wy := -(py - ay)) hz (by omega) (by omega) (by rw [Int.neg_mul_neg, Int.neg_mul_neg]; omega) (by rw [Int.neg_mul_neg, Int.neg_mul_neg, Int.neg_mul_neg, Int.neg_mul_neg]; omega)
          rw [Int.neg_mul_neg, Int.neg_mul_neg, Int.neg_mul_neg, Int.neg_mul_neg] at this
          omega
        · exact hc
      · rcases Int.lt_or_le (maxI ax bx + z) px with hc | hc
        · have := far_core (dx := bx - ax) (dy := b_y - ay) (wx := px - ax) (wy := py - ay) hz (by omega) (by omega) (by omega) (by omega)
          omega
        · exact hc
theorem near_swap (ax ay bx b_y px py z : Int) : nearI ay ax b_y bx py px z = nearI ax ay bx b_y px py z := by
  unfold nearI
  have e1 : (b_y - ay) * (py - ay) + (bx - ax) * (px - ax) = (bx - ax) * (px - ax) + (b_y - ay) * (py - ay) := by grind
  have e2 : (py - ay) * (py - ay) + (px - ax) * (px - ax) = (px - ax) * (px - ax) + (py - ay) * (py - ay) := by grind
  have e3 : (b_y - ay) * (py - b_y) + (bx - ax) * (px - bx) = (bx - ax) * (px - bx) + (b_y - ay) * (py - b_y) := by grind
  have e4 : (py - b_y) * (py - b_y) + (px - bx) * (px - bx) = (px - bx) * (px - bx) + (py - b_y) * (py - b_y) := by grind
  have e5 : ((b_y - ay) * (px - ax) - (bx - ax) * (py - ay)) * ((b_y - ay) * (px - ax) - (bx - ax) * (py - ay)) = ((bx - ax) * (py - ay) - (b_y - ay) * (px - ax)) * ((bx - ax) * (py - ay) - (b_y - ay) * (px - ax)) := by grind
  have e6 : (b_y - ay) * (b_y - ay) + (bx - ax) * (bx - ax) = (bx - ax) * (bx - ax) + (b_y - ay) * (b_y - ay) := by grind
  rw [e1, e2, e3, e4, e5, e6]
theorem sq_abs {u z : Int} (h : u ≤ z) (h' : -z ≤ u) : u * u ≤ z * z := by
  rcases Int.le_total 0 u with h1 | h1
  · exact Int.mul_le_mul h h h1 (by omega)
  · have : (-u) * (-u) ≤ z * z := Int.mul_le_mul (by omega) (by omega) (by omega) (by omega)
    rwa [Int.neg_mul_neg] at this
/-- beside a level line -/
theorem near_level {ax ay bx px py z : Int} (hz : 0 ≤ z) (h1 : minI ax bx ≤ px) (h2 : px ≤ maxI ax bx) : nearI ax ay bx ay px py z = decide (py - ay ≤ z ∧ ay - py ≤ z) := by
  have key : decide ((py - ay) * (py - ay) ≤ z * z) = decide (py - ay ≤ z ∧ ay - py ≤ z) := by
    by_cases h : (py - ay) * (py - ay) ≤ z * z
    · have := abs_sq hz h
      rw [decide_eq_true h, decide_eq_true (by omega)]
    · rw [decide_eq_false h, decide_eq_false]
      intro hc
      exact h (sq_abs (by omega) (by omega))
  rw [near_eq, ← key]
  have e0 : sq ax ay bx ay = (bx - ax) * (bx - ax) := by unfold sq; grind
  have e1 : sq ax ay px py = (px - ax) * (px - ax) + (py - ay) * (py - ay) := by unfold sq; grind
  have e2 : sq bx ay px py = (px - bx) * (px - bx) + (py - ay) * (py - ay) := by unfold sq; grind
  have e3 : (bx - ax) * (py - ay) - (ay - ay) * (px - ax) = (bx - ax) * (py - ay) := by grind
  unfold nearR
  rw [e0, e1, e2, e3]
  have n1 := self_nonneg (px - ax)
  have n2 := self_nonneg (px - bx)
  have n3 := self_nonneg (bx - ax)
  -- between: the squares of the parts are at most the square of the whole
  have b1 : (px - ax) * (px - ax) ≤ (bx - ax) * (bx - ax) := by
    rcases Int.le_total ax bx with hc | hc
    · have m1 : minI ax bx = ax := by unfold minI; split <;> omega
      have m2 : maxI ax bx = bx := by unfold maxI; split <;> omega
      exact sq_abs (by omega) (by omega)
    · have m1 : minI ax bx = bx := by unfold minI; split <;> omega
      have m2 : maxI ax bx = ax := by unfold maxI; split <;> omega
      have := sq_abs (u := px - ax) (z := ax - bx) (by omega) (by omega)
      have e : (ax - bx) * (ax - bx) = (bx - ax) * (bx - ax) := by grind
      omega
  have b2 : (px - bx) * (px - bx) ≤ (bx - ax) * (bx - ax) := by
    rcases Int.le_total ax bx with hc | hc
    · have m1 : minI ax bx = ax := by unfold minI; split <;> omega
      have m2 : maxI ax bx = bx := by unfold maxI; split <;> omega
      exact sq_abs (by omega) (by omega)
    · have m1 : minI ax bx = bx := by unfold minI; split <;> omega
      have m2 : maxI ax bx = ax := by unfold maxI; split <;> omega
      have := sq_abs (u := px - bx) (z := ax - bx) (by omega) (by omega)
      have e : (ax - bx) * (ax - bx) = (bx - ax) * (bx - ax) := by grind
      omega
  by_cases h : (px - ax) * (px - ax) + (py - ay) * (py - ay) ≤ z * z ∨ (px - bx) * (px - bx) + (py - ay) * (py - ay) ≤ z * z
  · rw [if_pos h, decide_eq_true (by omega)]
  · rw [if_neg h]
    by_cases hd : (bx - ax) * (bx - ax) = 0
    · rw [if_pos (by omega), decide_eq_false (by omega)]
    · rw [if_neg (by omega)]
      have e4 : (bx - ax) * (py - ay) * ((bx - ax) * (py - ay)) = (py - ay) * (py - ay) * ((bx - ax) * (bx - ax)) := by grind
      rw [e4]
      by_cases hc : (py - ay) * (py - ay) ≤ z * z
      · rw [decide_eq_true hc, decide_eq_true (Int.mul_le_mul_of_nonneg_right hc n3)]
      · rw [decide_eq_false hc, decide_eq_false]
        have := Int.mul_lt_mul_of_pos_right (show z * z < (py - ay) * (py - ay) by omega) (show 0 < (bx - ax) * (bx - ax) by omega)
        omega
/-- near with tolerance 0: on the line -/
theorem near_zero {ax ay bx b_y px py : Int} (h : nearI ax ay bx b_y px py 0 = true) : (bx - ax) * (py - ay) = (b_y - ay) * (px - ax) := by
  have zz {u : Int} (hu : u * u ≤ 0) : u = 0 := by
    have h1 := self_nonneg u
    have : u * u = 0 := by omega
    rcases Int.mul_eq_zero.1 this with h | h <;> exact h
  unfold nearI at h
  by_cases h1 : (bx - ax) * (px - ax) + (b_y - ay) * (py - ay) ≤ 0
  · rw [if_pos h1] at h
    have h := of_decide_eq_true h
    have n1 := self_nonneg (px - ax)
    have n2 := self_nonneg (py - ay)
    rw [zz (u := px - ax) (by omega), zz (u := py - ay) (by omega)]
    simp
  · rw [if_neg h1] at h
    by_cases h2 : 0 ≤ (bx - ax) * (px - bx) + (b_y - ay) * (py - b_y)
    · rw [if_pos h2] at h
      have h := of_decide_eq_true h
      have n1 := self_nonneg (px - bx)
      have n2 := self_nonneg (py - b_y)
      have k1 := zz (u := px - bx) (by omega)
      have k2 := zz (u := py - b_y) (by omega)
      rw [show px = bx by omega, show py = b_y by omega, Int.mul_comm]
    · rw [if_neg h2] at h
      have h := of_decide_eq_true h
      have := zz (u := (bx - ax) * (py - ay) - (b_y - ay) * (px - ax)) (by omega)
      omega
end Go.Proofs.Ytgopadbdnndkiaa.Str
/- Shortest lists, the first of them: what the program's way from behind and the reference's way from the front both return. Plain Lean. -/
namespace Go.Proofs.Ytgopadbdnndkiaa.Str

/-- a way from a to b: what follows a -/
def Chain (ok : Nat → Nat → Bool) : Nat → List Nat → Nat → Prop
  | a, [], b => a = b
  | a, k :: r, b => a < k ∧ ok a k = true ∧ Chain ok k r b
/-- a list is before another one -/
def firstB : List Nat → List Nat → Bool
  | a :: r, b :: s => if a = b then firstB r s else decide (a < b)
  | _, _ => false
theorem firstB_self : ∀ a : List Nat, firstB a a = false
  | [] => rfl
  | k :: r => by rw [firstB, if_pos rfl, firstB_self r]
theorem first_anti : ∀ {a b : List Nat}, a.length = b.length → firstB a b = false → firstB b a = false → a = b
  | [], [], _, _, _ => rfl
  | x :: r, y :: s, hl, h1, h2 => by
    rw [firstB] at h1 h2
    by_cases h : x = y
    · subst h
      rw [if_pos rfl] at h1 h2
      rw [first_anti (by simpa using hl) h1 h2]
    · rw [if_neg h] at h1
      rw [if_neg (fun e => h e.symm)] at h2
      simp at h1 h2
      omega
theorem first_trans : ∀ {a b c : List Nat}, a.length = b.length → b.length = c.length → firstB b a = false → firstB c b = false → firstB c a = false
  | [], _, c, _, _, _, _ => by cases c <;> rfl
  | x :: r, y :: s, z :: t, hl, hl2, h1, h2 => by
    rw [firstB] at h1 h2 ⊢
    by_cases h : y = x
    · subst h
      rw [if_pos rfl] at h1
      by_cases h' : z = y
      · subst h'
        rw [if_pos rfl] at h2 ⊢
        exact first_trans (by simpa using hl) (by simpa using hl2) h1 h2
      · rw [if_neg h'] at h2 ⊢
        exact h2
    · rw [if_neg h] at h1
      simp at h1
      by_cases h' : z = y
      · subst h'
        rw [if_neg h]
        simp; omega
      · rw [if_neg h'] at h2
        simp at h2
        rw [if_neg (by omega)]
        simp; omega
theorem first_true : ∀ {a b : List Nat}, a.length = b.length → firstB a b = true → firstB b a = false
  | x :: r, y :: s, hl, h => by
    rw [firstB] at h ⊢
    by_cases e : x = y
    · subst e
      rw [if_pos rfl] at h ⊢
      exact first_true (by simpa using hl) h
    · rw [if_neg e] at h
      rw [if_neg (fun e' => e e'.symm)]
      simp at h ⊢
      omega
theorem first_snoc : ∀ {a b : List Nat} (k : Nat), a.length = b.length → firstB (a ++ [k]) (b ++ [k]) = firstB a b
  | [], [], k, _ => by simp [firstB]
  | x :: r, y :: s, k, hl => by
    simp only [List.cons_append, firstB]
    rw [first_snoc k (by simpa using hl)]
theorem chain_snoc {ok : Nat → Nat → Bool} {k : Nat} : ∀ {a : Nat} {l : List Nat} {b : Nat}, Chain ok a l b → b < k → ok b k = true → Chain ok a (l ++ [k]) k
  | a, [], b, h, h1, h2 => by
    have h : a = b := h
    subst h
    exact ⟨h1, h2, rfl⟩
  | a, x :: r, b, h, h1, h2 => ⟨h.1, h.2.1, chain_snoc h.2.2 h1 h2⟩
theorem chain_unsnoc {ok : Nat → Nat → Bool} {k : Nat} : ∀ {a : Nat} {l : List Nat}, Chain ok a l k → (l = [] ∧ a = k) ∨ ∃ m i, l = m ++ [k] ∧ Chain ok a m i ∧ i < k ∧ ok i k = true
  | a, [], h => .inl ⟨rfl, h⟩
  | a, x :: r, h => by
    obtain ⟨h1, h2, h3⟩ := h
    rcases chain_unsnoc h3 with ⟨rfl, rfl⟩ | ⟨m, i, rfl, h4, h5, h6⟩
    · exact .inr ⟨[], a, rfl, rfl, h1, h2⟩
    · exact .inr ⟨x :: m, i, rfl, ⟨h1, h2, h4⟩, h5, h6⟩
theorem chain_le {ok : Nat → Nat → Bool} {k : Nat} : ∀ {a : Nat} {l : List Nat}, Chain ok a l k → a ≤ k
  | _, [], h => Nat.le_of_eq h
  | _, _ :: _, h => Nat.le_trans (Nat.le_of_lt h.1) (chain_le h.2.2)
/-- the first of the shortest ways from 0 to k -/
def Best (ok : Nat → Nat → Bool) (k : Nat) (l : List Nat) : Prop :=
  Chain ok 0 l k ∧ ∀ m, Chain ok 0 m k → l.length ≤ m.length ∧ (m.length = l.length → firstB m l = false)
theorem best_unique {ok : Nat → Nat → Bool} {k : Nat} {l m : List Nat} (h : Best ok k l) (h' : Best ok k m) : l = m := by
  have h1 := h.2 m h'.1
  have h2 := h'.2 l h.1
  have e : l.length = m.length := by omega
  exact first_anti e (h2.2 e) (h1.2 e.symm)

/-! from behind -/
section
variable (ok : Nat → Nat → Bool)
/-- the numbers for i, from those for k, k + 1, .. -/
def scanR (i : Nat) : List (Nat × Nat) → Nat → Nat × Nat
  | [], _ => (200, 0)
  | e :: r, k => if e.1 + 1 ≤ (scanR i r (k + 1)).1 ∧ ok i k = true then (e.1 + 1, k) else scanR i r (k + 1)
/-- the numbers for last - m, .., last -/
def tabs (last : Nat) : Nat → List (Nat × Nat)
  | 0 => [(0, 0)]
  | m + 1 => scanR ok (last - (m + 1)) (tabs last m) (last - m) :: tabs last m
theorem tabs_len (last : Nat) : ∀ m, (tabs ok last m).length = m + 1
  | 0 => rfl
  | m + 1 => by rw [tabs, List.length_cons, tabs_len last m]
def ent (last m : Nat) : Nat × Nat := (tabs ok last m).headD (0, 0)
theorem tabs_get (last : Nat) : ∀ m q, q ≤ m → (tabs ok last m)[q]? = some (ent ok last (m - q))
  | m, 0, _ => by
    rw [Nat.sub_zero, ent]
    cases h : tabs ok last m with
    | nil => have := tabs_len ok last m; rw [h] at this; simp at this
    | cons a r => rfl
  | m + 1, q + 1, h => by
    rw [tabs, List.getElem?_cons_succ, tabs_get last m q (by omega), Nat.add_sub_add_right]
/-- how many must follow i, and the next one -/
def needF (last i : Nat) : Nat := (ent ok last (last - i)).1
def nextF (last i : Nat) : Nat := (ent ok last (last - i)).2
theorem scan_spec (i : Nat) : ∀ (r : List (Nat × Nat)) (k : Nat),
    (scanR ok i r k = (200, 0) ∧ ∀ q (h : q < r.length), ok i (k + q) = true → 200 < r[q].1 + 1) ∨
    (∃ q, ∃ h : q < r.length, scanR ok i r k = (r[q].1 + 1, k + q) ∧ ok i (k + q) = true ∧ r[q].1 + 1 ≤ 200 ∧
      ∀ q' (h' : q' < r.length), ok i (k + q') = true → r[q].1 ≤ r[q'].1 ∧ (r[q].1 = r[q'].1 → q ≤ q'))
  | [], k => .inl ⟨rfl, fun q h => by simp at h⟩
  | e :: r, k => by
    rw [scanR]
    rcases scan_spec i r (k + 1) with ⟨hs, hall⟩ | ⟨q, hq, hs, hok, hle, hall⟩
    · rw [hs]
      by_cases hc : e.1 + 1 ≤ 200 ∧ ok i k = true
      · rw [if_pos hc]
        refine .inr ⟨0, by simp, rfl, hc.2, hc.1, fun q' h' ho => ?_⟩
        cases q' with
        | zero => exact ⟨Nat.le_refl _, fun _ => Nat.le_refl _⟩
        | succ q' =>
          have := hall q' (by simpa using h') (by rw [Nat.add_assoc, Nat.add_comm 1]; exact ho)
          simp only [List.getElem_cons_zero, List.getElem_cons_succ]
          omega
      · rw [if_neg hc]
        refine .inl ⟨rfl, fun q h ho => ?_⟩
        cases q with
        | zero =>
          simp only [List.getElem_cons_zero]
          by_cases h2 : e.1 + 1 ≤ 200
          · exact absurd ⟨h2, ho⟩ hc
          · omega
        | succ q => exact hall q (by simpa using h) (by rw [Nat.add_assoc, Nat.add_comm 1]; exact ho)
    · rw [hs]
      by_cases hc : e.1 + 1 ≤ r[q].1 + 1 ∧ ok i k = true
      · rw [if_pos hc]
        refine .inr ⟨0, by simp, rfl, hc.2, by simp only [List.getElem_cons_zero]; omega, fun q' h' ho => ?_⟩
        cases q' with
        | zero => exact ⟨Nat.le_refl _, fun _ => Nat.le_refl _⟩
        | succ q' =>
          have := hall q' (by simpa using h') (by rw [Nat.add_assoc, Nat.add_comm 1]; exact ho)
          simp only [List.getElem_cons_zero, List.getElem_cons_succ]
          omega
      · rw [if_neg hc]
        refine .inr ⟨q + 1, by simpa using hq, by rw [Nat.add_assoc, Nat.add_comm 1]; rfl, by rw [Nat.add_assoc, Nat.add_comm 1] at hok; exact hok, hle, fun q' h' ho => ?_⟩
        cases q' with
        | zero =>
          simp only [List.getElem_cons_zero, List.getElem_cons_succ]
          by_cases h2 : e.1 + 1 ≤ r[q].1 + 1
          · exact absurd ⟨h2, ho⟩ hc
          · omega
        | succ q' =>
          have := hall q' (by simpa using h') (by rw [Nat.add_assoc, Nat.add_comm 1]; exact ho)
          simp only [List.getElem_cons_succ]
          omega
variable {ok}
theorem need_last (last : Nat) : needF ok last last = 0 := by rw [needF, Nat.sub_self]; rfl
theorem ent_succ (last m : Nat) : ent ok last (m + 1) = scanR ok (last - (m + 1)) (tabs ok last m) (last - m) := rfl
theorem tabs_at {last i q : Nat} (hi : i < last) (hq : q < last - i) : ∀ h : q < (tabs ok last (last - i - 1)).length, ((tabs ok last (last - i - 1))[q]).1 = needF ok last (i + 1 + q) := by
  intro h
  have := tabs_get ok last (last - i - 1) q (by omega)
  rw [List.getElem?_eq_getElem h] at this
  rw [Option.some.inj this, needF, show last - (i + 1 + q) = last - i - 1 - q by omega]
/-- what the numbers are -/
theorem need_spec {last : Nat} (hl : last < 200) (hok : ∀ i, i < last → ok i (i + 1) = true) (i : Nat) (hi : i < last) :
    i < nextF ok last i ∧ nextF ok last i ≤ last ∧ ok i (nextF ok last i) = true ∧ needF ok last i = needF ok last (nextF ok last i) + 1 ∧
    ∀ k, i < k → k ≤ last → ok i k = true → needF ok last i ≤ needF ok last k + 1 ∧ (needF ok last i = needF ok last k + 1 → nextF ok last i ≤ k) := by
  suffices H : ∀ m, ∀ i, i < last → last - i = m → needF ok last i ≤ m ∧ (i < nextF ok last i ∧ nextF ok last i ≤ last ∧ ok i (nextF ok last i) = true ∧ needF ok last i = needF ok last (nextF ok last i) + 1 ∧
    ∀ k, i < k → k ≤ last → ok i k = true → needF ok last i ≤ needF ok last k + 1 ∧ (needF ok last i = needF ok last k + 1 → nextF ok last i ≤ k)) from (H _ i hi rfl).2
  intro m
  induction m with
  | zero => intro i hi hm; omega
  | succ m ih =>
    intro i hi hm
    have he : ent ok last (last - i) = scanR ok i (tabs ok last (last - i - 1)) (i + 1) := by
      rw [show last - i = (last - i - 1) + 1 by omega, ent_succ, Nat.add_sub_cancel, show last - (last - i - 1 + 1) = i by omega, show last - (last - i - 1) = i + 1 by omega]
    have hlen := tabs_len ok last (last - i - 1)
    have hnext : needF ok last (i + 1) ≤ m := by
      by_cases h : i + 1 < last
      · exact (ih (i + 1) h (by omega)).1
      · rw [show i + 1 = last by omega, need_last]; omega
    rcases scan_spec ok i (tabs ok last (last - i - 1)) (i + 1) with ⟨hs, hall⟩ | ⟨q, hq, hs, hk, hle, hall⟩
    · have h1 := hall 0 (by omega) (by simpa using hok i hi)
      rw [tabs_at hi (by omega) (by omega), show i + 1 + 0 = i + 1 from rfl] at h1
      omega
    · have eN : needF ok last i = needF ok last (i + 1 + q) + 1 := by
        rw [← tabs_at hi (by omega) hq]; rw [needF, he, hs]
      have eX : nextF ok last i = i + 1 + q := by rw [nextF, he, hs]
      have key : ∀ k, i < k → k ≤ last → ok i k = true → needF ok last (i + 1 + q) ≤ needF ok last k ∧ (needF ok last (i + 1 + q) = needF ok last k → i + 1 + q ≤ k) := by
        intro k h1 h2 h3
        have h4 := hall (k - (i + 1)) (by omega) (by rw [show i + 1 + (k - (i + 1)) = k by omega]; exact h3)
        rw [tabs_at hi (by omega) hq, tabs_at hi (by omega) (by omega), show i + 1 + (k - (i + 1)) = k by omega] at h4
        exact ⟨h4.1, fun e => by have := h4.2 e; omega⟩
      refine ⟨?_, by omega, by omega, by rw [eX]; exact hk, by rw [eX]; exact eN, ?_⟩
      · have := (key (i + 1) (by omega) (by omega) (hok i hi)).1
        omega
      · intro k h1 h2 h3
        have := key k h1 h2 h3
        rw [eN, eX]
        exact ⟨by omega, fun e => this.2 (by omega)⟩
/-- what follows i -/
def tailF (ok : Nat → Nat → Bool) (last : Nat) : Nat → Nat → List Nat
  | 0, _ => []
  | f + 1, i => if i < last then nextF ok last i :: tailF ok last f (nextF ok last i) else []
theorem tail_chain {last : Nat} (hl : last < 200) (hok : ∀ i, i < last → ok i (i + 1) = true) : ∀ f i, i ≤ last → last - i ≤ f →
    Chain ok i (tailF ok last f i) last ∧ (tailF ok last f i).length = needF ok last i ∧
    ∀ m, Chain ok i m last → needF ok last i ≤ m.length ∧ (m.length = needF ok last i → firstB m (tailF ok last f i) = false)
  | 0, i, hi, hf => by
    obtain rfl : i = last := by omega
    exact ⟨rfl, by rw [need_last]; rfl, fun m _ => ⟨by rw [need_last]; omega, fun _ => by cases m <;> rfl⟩⟩
  | f + 1, i, hi, hf => by
    rw [tailF]
    by_cases h : i < last
    · rw [if_pos h]
      obtain ⟨s1, s2, s3, s4, s5⟩ := need_spec hl hok i h
      obtain ⟨t1, t2, t3⟩ := tail_chain hl hok f (nextF ok last i) s2 (by omega)
      refine ⟨⟨s1, s3, t1⟩, by rw [List.length_cons, t2, s4], ?_⟩
      intro m hm
      cases m with
      | nil => have hm : i = last := hm; omega
      | cons k r =>
        obtain ⟨c1, c2, c3⟩ := hm
        have hk := chain_le c3
        have s6 := s5 k c1 hk c2
        obtain ⟨_, _, t6⟩ := tail_chain hl hok f k hk (by omega)
        have t7 := (t6 r c3).1
        rw [List.length_cons]
        refine ⟨by omega, fun e => ?_⟩
        have s7 := s6.2 (by omega)
        rw [firstB]
        by_cases he : k = nextF ok last i
        · rw [if_pos he]
          subst he
          exact (t3 r c3).2 (by omega)
        · rw [if_neg he]
          simp
          omega
    · rw [if_neg h]
      obtain rfl : i = last := by omega
      exact ⟨rfl, by rw [need_last]; rfl, fun m _ => ⟨by rw [need_last]; omega, fun _ => by cases m <;> rfl⟩⟩
theorem tail_best {last : Nat} (hl : last < 200) (hok : ∀ i, i < last → ok i (i + 1) = true) : Best ok last (tailF ok last last 0) := by
  obtain ⟨h1, h2, h3⟩ := tail_chain hl hok last 0 (by omega) (by omega)
  exact ⟨h1, fun m hm => by rw [h2]; exact h3 m hm⟩

/-! from the front -/
/-- own is the best one with a last but one below m -/
def Own (ok : Nat → Nat → Bool) (best : Nat → List Nat) (k m : Nat) (own : Option (List Nat)) : Prop :=
  match own with
  | none => ∀ i, i < m → ok i k = false
  | some l => (∃ i, i < m ∧ ok i k = true ∧ l = best i ++ [k]) ∧ ∀ i, i < m → ok i k = true → l.length ≤ (best i).length + 1 ∧ ((best i).length + 1 = l.length → firstB (best i ++ [k]) l = false)
/-- the turn of the reference's inner loop -/
def turn (ok : Nat → Nat → Bool) (best : Nat → List Nat) (k i : Nat) (own : Option (List Nat)) : Option (List Nat) :=
  match own with
  | none => if ok i k = true then some (best i ++ [k]) else none
  | some l => if l.length < (best i).length + 1 ∨ ok i k = false then some l else if (best i).length + 1 < l.length ∨ firstB (best i ++ [k]) l = true then some (best i ++ [k]) else some l
theorem own_turn {best : Nat → List Nat} {k m : Nat} {own : Option (List Nat)} (h : Own ok best k m own) : Own ok best k (m + 1) (turn ok best k m own) := by
  cases own with
  | none =>
    rw [turn]
    by_cases ho : ok m k = true
    · rw [if_pos ho]
      refine ⟨⟨m, by omega, ho, rfl⟩, fun i hi hk => ?_⟩
      by_cases e : i = m
      · subst e
        exact ⟨by simp, fun _ => firstB_self _⟩
      · have := h i (by omega); rw [hk] at this; cases this
    · rw [if_neg ho]
      intro i hi
      by_cases e : i = m
      · subst e; simpa using ho
      · exact h i (by omega)
  | some l =>
    obtain ⟨⟨i0, hi0, hk0, hl0⟩, hall⟩ := h
    rw [turn]
    by_cases hc : l.length < (best m).length + 1 ∨ ok m k = false
    · rw [if_pos hc]
      refine ⟨⟨i0, by omega, hk0, hl0⟩, fun i hi hk => ?_⟩
      by_cases e : i = m
      · subst e
        rcases hc with hc | hc
        · exact ⟨by omega, fun e => by omega⟩
        · rw [hk] at hc; cases hc
      · exact hall i (by omega) hk
    · rw [if_neg hc]
      have h1 : (best m).length + 1 ≤ l.length := by
        rcases Nat.lt_or_ge l.length ((best m).length + 1) with h | h
        · exact absurd (.inl h) hc
        · exact h
      have h2 : ok m k = true := by
        cases ho : ok m k with
        | true => rfl
        | false => exact absurd (.inr ho) hc
      by_cases hd : (best m).length + 1 < l.length ∨ firstB (best m ++ [k]) l = true
      · rw [if_pos hd]
        refine ⟨⟨m, by omega, h2, rfl⟩, fun i hi hk => ?_⟩
        rw [List.length_append, List.length_singleton]
        by_cases e : i = m
        · subst e
          exact ⟨Nat.le_refl _, fun _ => firstB_self _⟩
        · have h3 := hall i (by omega) hk
          refine ⟨by omega, fun e => ?_⟩
          have e2 : (best m).length + 1 = l.length := by omega
          have h4 : firstB (best m ++ [k]) l = true := by
            rcases hd with hd | hd
            · omega
            · exact hd
          have h5 := first_true (a := best m ++ [k]) (b := l) (by simp; omega) h4
          exact first_trans (a := best m ++ [k]) (b := l) (c := best i ++ [k]) (by simp; omega) (by simp; omega) h5 (h3.2 (by omega))
      · rw [if_neg hd]
        refine ⟨⟨i0, by omega, hk0, hl0⟩, fun i hi hk => ?_⟩
        by_cases e : i = m
        · subst e
          refine ⟨by omega, fun e => ?_⟩
          cases hf : firstB (best i ++ [k]) l with
          | false => rfl
          | true => exact absurd (.inr hf) hd
        · exact hall i (by omega) hk
theorem own_best {best : Nat → List Nat} {k : Nat} (hk : 0 < k) (hok : ok (k - 1) k = true) {own : Option (List Nat)} (hb : ∀ i, i < k → Best ok i (best i)) (h : Own ok best k k own) : ∃ l, own = some l ∧ Best ok k l := by
  cases own with
  | none => have := h (k - 1) (by omega); rw [hok] at this; cases this
  | some l =>
    obtain ⟨⟨i0, hi0, hk0, hl0⟩, hall⟩ := h
    refine ⟨l, rfl, ?_, ?_⟩
    · rw [hl0]; exact chain_snoc (hb i0 hi0).1 hi0 hk0
    · intro m hm
      rcases chain_unsnoc hm with ⟨rfl, rfl⟩ | ⟨m, i, rfl, h4, h5, h6⟩
      · omega
      · have h7 := hall i h5 h6
        have h8 := (hb i h5).2 m h4
        rw [List.length_append, List.length_singleton]
        refine ⟨by omega, fun e => ?_⟩
        have h9 : m.length = (best i).length := by omega
        have h10 := h8.2 h9
        have h11 := h7.2 (by omega)
        have hll : l.length = (best i).length + 1 := by omega
        exact first_trans (a := l) (b := best i ++ [k]) (c := m ++ [k]) (by simp; omega) (by simp; omega) h11 (by rw [first_snoc k h9]; exact h10)
end
end Go.Proofs.Ytgopadbdnndkiaa.Str
namespace Go.Proofs.Ytgopadbdnndkiaa.Str
theorem placed {D : List Dot} (h : dotsB 0 D = true) : ∀ d ∈ D, placeB d.x d.y = true := by
  intro d hd
  have := dotB_iff.1 (dotsB_mem (by omega) h d hd)
  exact placeB_iff.2 this.1

/-! what is enough -/
def okD (D : List Dot) (z : Int) (i k : Nat) : Bool := (List.range (k - i - 1)).all fun q => nearD (dotAt D i) (dotAt D k) (dotAt D (i + 1 + q)) z
theorem okD_iff {D : List Dot} {z : Int} {i k : Nat} : okD D z i k = true ↔ ∀ j, i < j → j < k → nearD (dotAt D i) (dotAt D k) (dotAt D j) z = true := by
  rw [okD, List.all_eq_true]
  constructor
  · intro h j h1 h2
    have := h (j - (i + 1)) (by rw [List.mem_range]; omega)
    rwa [show i + 1 + (j - (i + 1)) = j by omega] at this
  · intro h q hq
    rw [List.mem_range] at hq
    exact h _ (by omega) (by omega)
theorem okD_next (D : List Dot) (z : Int) (i : Nat) : okD D z i (i + 1) = true := okD_iff.2 fun j h1 h2 => by omega
/-- what Thin returns -/
def thinF (D : List Dot) (z : Int) : List Nat := 0 :: tailF (okD D z) (D.length - 1) (D.length - 1) 0
def thinT (D : List Dot) (z : Int) : List Nat := tailF (okD D z) (D.length - 1) (D.length - 1) 0
theorem thin_best {D : List Dot} (h : D.length ≤ 200) (h1 : 1 ≤ D.length) (z : Int) : Best (okD D z) (D.length - 1) (thinT D z) :=
  tail_best (by omega) fun i _ => okD_next D z i
theorem chain_mono {ok ok' : Nat → Nat → Bool} (h : ∀ i k, ok i k = true → ok' i k = true) : ∀ {a : Nat} {l : List Nat} {b : Nat}, Chain ok a l b → Chain ok' a l b
  | _, [], _, hc => hc
  | _, _ :: _, _, hc => ⟨hc.1, h _ _ hc.2.1, chain_mono h hc.2.2⟩
theorem okD_mono {D : List Dot} {z y : Int} (h0 : 0 ≤ z) (h : z ≤ y) (i k : Nat) (hk : okD D z i k = true) : okD D y i k = true :=
  okD_iff.2 fun j h1 h2 => near_mono h0 h (okD_iff.1 hk j h1 h2)
/-- with a greater tolerance, no more -/
theorem thin_mono {D : List Dot} (hl : D.length ≤ 200) (h1 : 1 ≤ D.length) {z y : Int} (h0 : 0 ≤ z) (h : z ≤ y) : (thinF D y).length ≤ (thinF D z).length := by
  have b1 := thin_best hl h1 z
  have b2 := thin_best hl h1 y
  have := (b2.2 _ (chain_mono (okD_mono h0 h) b1.1)).1
  rw [thinF, thinF, List.length_cons, List.length_cons]
  exact Nat.succ_le_succ this
theorem thin_eq_of {D E : List Dot} {z : Int} (hl : D.length = E.length) (h : ∀ i j k, j < D.length → k < D.length → i < D.length → nearD (dotAt D i) (dotAt D k) (dotAt D j) z = nearD (dotAt E i) (dotAt E k) (dotAt E j) z) (h200 : D.length ≤ 200) (h1 : 1 ≤ D.length) : thinF D z = thinF E z := by
  have b1 := thin_best h200 h1 z
  have b2 := thin_best (D := E) (by omega) (by omega) z
  have key : ∀ {A B : List Dot}, A.length = B.length → (∀ i j k, j < A.length → k < A.length → i < A.length → nearD (dotAt A i) (dotAt A k) (dotAt A j) z = nearD (dotAt B i) (dotAt B k) (dotAt B j) z) → ∀ {b : Nat}, b < A.length → ∀ {l : List Nat} {a : Nat}, Chain (okD A z) a l b → Chain (okD B z) a l b := by
    intro A B hab hn b hb l
    induction l with
    | nil => intro a hc; exact hc
    | cons k r ih =>
      intro a hc
      obtain ⟨c1, c2, c3⟩ := hc
      have c4 := chain_le c3
      refine ⟨c1, okD_iff.2 fun j j1 j2 => ?_, ih c3⟩
      rw [← hn a j k (by omega) (by omega) (by omega)]
      exact okD_iff.1 c2 j j1 j2
  have e : thinT D z = thinT E z := by
    refine best_unique (ok := okD D z) (k := D.length - 1) b1 ⟨?_, ?_⟩
    · rw [hl]
      exact key hl.symm (fun i j k a b c => (h i j k (by omega) (by omega) (by omega)).symm) (by omega) b2.1
    · intro m hm
      rw [hl] at hm
      refine b2.2 m ?_
      exact key hl h (by omega) hm
  show 0 :: thinT D z = 0 :: thinT E z
  rw [e]

/-! boxes -/
theorem box_spec {D : List Dot} (h1 : 1 ≤ D.length) : (∀ d ∈ D, (boxF D).1 ≤ d.x ∧ d.x ≤ (boxF D).1 + (boxF D).2.2.1 ∧ (boxF D).2.1 ≤ d.y ∧ d.y ≤ (boxF D).2.1 + (boxF D).2.2.2) ∧
    (∃ d ∈ D, d.x = (boxF D).1) ∧ (∃ d ∈ D, d.x = (boxF D).1 + (boxF D).2.2.1) ∧ (∃ d ∈ D, d.y = (boxF D).2.1) ∧ (∃ d ∈ D, d.y = (boxF D).2.1 + (boxF D).2.2.2) := by
  have h0 : dotAt D 0 ∈ D := dotAt_mem h1
  obtain ⟨a1, a2, a3⟩ := mnF_spec Dot.x D (dotAt D 0).x
  obtain ⟨b1, b2, b3⟩ := mnF_spec Dot.y D (dotAt D 0).y
  obtain ⟨c1, c2, c3⟩ := mxF_spec Dot.x D (dotAt D 0).x
  obtain ⟨e1, e2, e3⟩ := mxF_spec Dot.y D (dotAt D 0).y
  unfold boxF
  refine ⟨fun d hd => ?_, ?_, ?_, ?_, ?_⟩
  · have := a2 d hd
    have := b2 d hd
    have := c2 d hd
    have := e2 d hd
    simp only []
    omega
  · rcases a3 with a3 | ⟨d, hd, a3⟩
    · exact ⟨_, h0, a3.symm⟩
    · exact ⟨d, hd, a3.symm⟩
  · rcases c3 with c3 | ⟨d, hd, c3⟩
    · exact ⟨_, h0, by simp only []; omega⟩
    · exact ⟨d, hd, by simp only []; omega⟩
  · rcases b3 with b3 | ⟨d, hd, b3⟩
    · exact ⟨_, h0, b3.symm⟩
    · exact ⟨d, hd, b3.symm⟩
  · rcases e3 with e3 | ⟨d, hd, e3⟩
    · exact ⟨_, h0, by simp only []; omega⟩
    · exact ⟨d, hd, by simp only []; omega⟩
/-- what is a box: the sides bound all dots, and each has one -/
theorem box_unique {D : List Dot} (h1 : 1 ≤ D.length) {x y u v : Int} (ha : ∀ d ∈ D, x ≤ d.x ∧ d.x ≤ x + u ∧ y ≤ d.y ∧ d.y ≤ y + v)
    (hx : ∃ d ∈ D, d.x = x) (hu : ∃ d ∈ D, d.x = x + u) (hy : ∃ d ∈ D, d.y = y) (hv : ∃ d ∈ D, d.y = y + v) : boxF D = (x, y, u, v) := by
  obtain ⟨b0, ⟨p1, m1, q1⟩, ⟨p2, m2, q2⟩, ⟨p3, m3, q3⟩, ⟨p4, m4, q4⟩⟩ := box_spec h1
  obtain ⟨r1, n1, s1⟩ := hx
  obtain ⟨r2, n2, s2⟩ := hu
  obtain ⟨r3, n3, s3⟩ := hy
  obtain ⟨r4, n4, s4⟩ := hv
  have i1 := b0 _ n1
  have i2 := b0 _ n2
  have i3 := b0 _ n3
  have i4 := b0 _ n4
  have j1 := ha _ m1
  have j2 := ha _ m2
  have j3 := ha _ m3
  have j4 := ha _ m4
  have e1 : (boxF D).1 = x := by omega
  have e2 : (boxF D).2.1 = y := by omega
  have e3 : (boxF D).2.2.1 = u := by omega
  have e4 : (boxF D).2.2.2 = v := by omega
  rw [← e1, ← e2, ← e3, ← e4]
theorem box_bd {D : List Dot} (h1 : 1 ≤ D.length) (hd : ∀ d ∈ D, placeB d.x d.y = true) :
    (0 ≤ (boxF D).1 ∧ (boxF D).1 ≤ 4095) ∧ (0 ≤ (boxF D).2.1 ∧ (boxF D).2.1 ≤ 4095) ∧ (0 ≤ (boxF D).2.2.1 ∧ (boxF D).1 + (boxF D).2.2.1 ≤ 4095) ∧ (0 ≤ (boxF D).2.2.2 ∧ (boxF D).2.1 + (boxF D).2.2.2 ≤ 4095) := by
  obtain ⟨b0, ⟨p1, m1, q1⟩, ⟨p2, m2, q2⟩, ⟨p3, m3, q3⟩, ⟨p4, m4, q4⟩⟩ := box_spec h1
  have i1 := b0 _ m1
  have i2 := b0 _ m2
  have i3 := b0 _ m3
  have i4 := b0 _ m4
  have j1 := placeB_iff.1 (hd _ m1)
  have j2 := placeB_iff.1 (hd _ m2)
  have j3 := placeB_iff.1 (hd _ m3)
  have j4 := placeB_iff.1 (hd _ m4)
  omega
/-- dots of a stroke have a box that is not greater -/
theorem box_sub {D E : List Dot} (h1 : 1 ≤ E.length) (h : ∀ d ∈ E, d ∈ D) : (boxF D).1 ≤ (boxF E).1 ∧ (boxF D).2.1 ≤ (boxF E).2.1 ∧ (boxF E).1 + (boxF E).2.2.1 ≤ (boxF D).1 + (boxF D).2.2.1 ∧ (boxF E).2.1 + (boxF E).2.2.2 ≤ (boxF D).2.1 + (boxF D).2.2.2 := by
  have h2 : 1 ≤ D.length := List.length_pos_of_mem (h _ (dotAt_mem h1))
  obtain ⟨b0, _, _, _, _⟩ := box_spec h2
  obtain ⟨_, ⟨p1, m1, q1⟩, ⟨p2, m2, q2⟩, ⟨p3, m3, q3⟩, ⟨p4, m4, q4⟩⟩ := box_spec h1
  have i1 := b0 _ (h _ m1)
  have i2 := b0 _ (h _ m2)
  have i3 := b0 _ (h _ m3)
  have i4 := b0 _ (h _ m4)
  omega

/-! the way is at least as long as the greater side -/
theorem stp_ge (a b : Dot) : a.x - b.x ≤ stp a b ∧ b.x - a.x ≤ stp a b ∧ a.y - b.y ≤ stp a b ∧ b.y - a.y ≤ stp a b := by
  unfold stp maxI
  (repeat' split) <;> omega
theorem way_dist (D : List Dot) (i : Nat) : ∀ d, i + d ≤ D.length - 1 → let W := wayTo D (i + d) - wayTo D i
    (dotAt D i).x - (dotAt D (i + d)).x ≤ W ∧ (dotAt D (i + d)).x - (dotAt D i).x ≤ W ∧ (dotAt D i).y - (dotAt D (i + d)).y ≤ W ∧ (dotAt D (i + d)).y - (dotAt D i).y ≤ W
  | 0, _ => by simp
  | d + 1, h => by
    have ih := way_dist D i d (by omega)
    have hs := stp_ge (dotAt D (i + d)) (dotAt D (nx D (i + d)))
    rw [show nx D (i + d) = i + (d + 1) by unfold nx; omega] at hs
    simp only [] at ih ⊢
    rw [show i + (d + 1) = (i + d) + 1 by omega] at hs ⊢
    rw [wayTo, show nx D (i + d) = i + d + 1 by unfold nx; omega]
    omega
theorem way_ge {D : List Dot} (hd : ∀ d ∈ D, placeB d.x d.y = true) {a b : Dot} (ha : a ∈ D) (hb : b ∈ D) : a.x - b.x ≤ wayF D ∧ a.y - b.y ≤ wayF D := by
  obtain ⟨i, hi, rfl⟩ := List.getElem_of_mem ha
  obtain ⟨j, hj, rfl⟩ := List.getElem_of_mem hb
  rw [← dotAt_lt hi, ← dotAt_lt hj]
  have mono : ∀ i d, i + d ≤ D.length → wayTo D i ≤ wayTo D (i + d) := by
    intro i d
    induction d with
    | zero => intro _; exact Int.le_refl _
    | succ d ih =>
      intro h
      have := ih (by omega)
      have h2 := stp_bd (hd _ (dotAt_mem (D := D) (i := i + d) (by omega))) (hd _ (dotAt_mem (D := D) (i := nx D (i + d)) (by unfold nx; omega)))
      rw [show i + (d + 1) = (i + d) + 1 from rfl, wayTo]
      omega
  unfold wayF
  rcases Nat.le_total i j with h | h
  · have h1 := way_dist D i (j - i) (by omega)
    rw [show i + (j - i) = j by omega] at h1
    have h2 := mono j (D.length - 1 - j) (by omega)
    rw [show j + (D.length - 1 - j) = D.length - 1 by omega] at h2
    have h3 := (way_bd hd i (by omega)).1
    simp only [] at h1
    omega
  · have h1 := way_dist D j (i - j) (by omega)
    rw [show j + (i - j) = i by omega] at h1
    have h2 := mono i (D.length - 1 - i) (by omega)
    rw [show i + (D.length - 1 - i) = D.length - 1 by omega] at h2
    have h3 := (way_bd hd j (by omega)).1
    simp only [] at h1
    omega
theorem way_box {D : List Dot} (h1 : 1 ≤ D.length) (hd : ∀ d ∈ D, placeB d.x d.y = true) : (boxF D).2.2.1 ≤ wayF D ∧ (boxF D).2.2.2 ≤ wayF D := by
  obtain ⟨_, ⟨p1, m1, q1⟩, ⟨p2, m2, q2⟩, ⟨p3, m3, q3⟩, ⟨p4, m4, q4⟩⟩ := box_spec h1
  have k1 := way_ge hd m2 m1
  have k2 := way_ge hd m4 m3
  omega

/-! every dot is within its stroke -/
theorem within_mono {D : List Dot} {px py z : Int} {i : Nat} (h : nearB (dotAt D i).x (dotAt D i).y (dotAt D (nx D i)).x (dotAt D (nx D i)).y px py z = true) : ∀ n, i < n → withinTo D px py z n = true
  | n + 1, hn => by
    rw [withinTo]
    by_cases e : i = n
    · subst e; rw [h, Bool.or_true]
    · rw [within_mono h n (by omega), Bool.true_or]
theorem within_own {D : List Dot} (hd : ∀ d ∈ D, placeB d.x d.y = true) {i : Nat} (hi : i < D.length) {z : Int} (hz : isInB z 0 1000 = true) : withinF D (dotAt D i).x (dotAt D i).y z = true := by
  unfold withinF
  by_cases h : i < D.length - 1 ∨ D.length = 1
  · refine within_mono (i := i) ?_ _ (by omega)
    rw [nearB, hd _ (dotAt_mem hi), hd _ (dotAt_mem (i := nx D i) (by unfold nx; omega)), hz, near_first]; rfl
  · refine within_mono (i := i - 1) ?_ _ (by omega)
    have e : nx D (i - 1) = i := by unfold nx; omega
    rw [e, nearB, hd _ (dotAt_mem hi), hd _ (dotAt_mem (i := i - 1) (by omega)), hz, near_second]; rfl
theorem code_eq {P N Q M : Int} (hn : 1 ≤ N ∧ N ≤ 999) (hm : 1 ≤ M ∧ M ≤ 999) : (1000 * P + N = 1000 * Q + M) ↔ (P = Q ∧ N = M) := by omega

/-! turning and moving -/
def turn1 (d : Dot) : Dot := ⟨4095 - d.y, d.x, d.t, d.p⟩
def turnN : Nat → Dot → Dot
  | 0, d => d
  | n + 1, d => turn1 (turnN n d)
def turnD (n : Nat) (D : List Dot) : List Dot := D.map (turnN n)
def moveD (u v : Int) (D : List Dot) : List Dot := D.map fun d => ⟨d.x + u, d.y + v, d.t, d.p⟩
theorem turn_tp : ∀ n d, (turnN n d).t = d.t ∧ (turnN n d).p = d.p
  | 0, _ => ⟨rfl, rfl⟩
  | n + 1, d => turn_tp n d
theorem turn_place : ∀ n d, placeB (turnN n d).x (turnN n d).y = placeB d.x d.y
  | 0, _ => rfl
  | n + 1, d => by
    rw [← turn_place n d]
    show placeB (4095 - (turnN n d).y) (turnN n d).x = _
    rw [Bool.eq_iff_iff, placeB_iff, placeB_iff]
    omega
theorem turn_add (m : Nat) : ∀ n d, turnN n (turnN m d) = turnN (n + m) d
  | 0, d => by rw [Nat.zero_add]; rfl
  | n + 1, d => by rw [Nat.add_right_comm]; show turn1 _ = turn1 _; rw [turn_add m n d]
theorem turn_four (d : Dot) : turnN 4 d = d := by
  show (⟨4095 - (4095 - d.x), 4095 - (4095 - d.y), d.t, d.p⟩ : Dot) = d
  rw [show 4095 - (4095 - d.x) = d.x by omega, show 4095 - (4095 - d.y) = d.y by omega]
theorem turnD_add (n m : Nat) (D : List Dot) : turnD n (turnD m D) = turnD (n + m) D := by
  rw [turnD, turnD, turnD, List.map_map]
  exact List.map_congr_left fun d _ => turn_add m n d
theorem turnD_zero (D : List Dot) : turnD 0 D = D := by
  rw [turnD, show turnN 0 = id from rfl, List.map_id]
theorem turnD_four (D : List Dot) : turnD 4 D = D := by
  rw [turnD, show turnN 4 = id from funext turn_four, List.map_id]
theorem dotsB_same {f : Dot → Dot} (ht : ∀ d, (f d).t = d.t ∧ (f d).p = d.p) (hp : ∀ d, placeB (f d).x (f d).y = placeB d.x d.y) : ∀ (D : List Dot) (l : Int), dotsB l (D.map f) = dotsB l D
  | [], _ => rfl
  | d :: r, l => by
    rw [List.map_cons, dotsB, dotsB, dotsB_same ht hp r, dotB, dotB, hp d, (ht d).1, (ht d).2]
theorem turnD_dots (n : Nat) (D : List Dot) (l : Int) : dotsB l (turnD n D) = dotsB l D := dotsB_same (turn_tp n) (turn_place n) D l
theorem dotAt_map (f : Dot → Dot) {D : List Dot} {i : Nat} (h : i < D.length) : dotAt (D.map f) i = f (dotAt D i) := by
  rw [dotAt_lt (by simpa using h), dotAt_lt h, List.getElem_map]
theorem way_map (f : Dot → Dot) (hs : ∀ a b, stp (f a) (f b) = stp a b) (D : List Dot) : ∀ k, k ≤ D.length → wayTo (D.map f) k = wayTo D k
  | 0, _ => rfl
  | k + 1, h => by
    have e : nx (D.map f) k = nx D k := by unfold nx; rw [List.length_map]
    rw [wayTo, wayTo, way_map f hs D k (by omega), dotAt_map f (by omega), e, dotAt_map f (by unfold nx; omega), hs]
theorem way_turn1 (D : List Dot) : wayF (turnD 1 D) = wayF D := by
  unfold wayF turnD
  rw [List.length_map]
  refine way_map _ (fun a b => ?_) D _ (by omega)
  show stp (turn1 a) (turn1 b) = stp a b
  unfold stp turn1 maxI
  dsimp only
  (repeat' split) <;> omega
theorem way_move (u v : Int) (D : List Dot) : wayF (moveD u v D) = wayF D := by
  unfold wayF moveD
  rw [List.length_map]
  refine way_map _ (fun a b => ?_) D _ (by omega)
  unfold stp maxI
  dsimp only
  (repeat' split) <;> omega
theorem box_turn1 {D : List Dot} (h1 : 1 ≤ D.length) : boxF (turnD 1 D) = (4095 - (boxF D).2.1 - (boxF D).2.2.2, (boxF D).1, (boxF D).2.2.2, (boxF D).2.2.1) := by
  obtain ⟨b0, ⟨p1, m1, q1⟩, ⟨p2, m2, q2⟩, ⟨p3, m3, q3⟩, ⟨p4, m4, q4⟩⟩ := box_spec h1
  have mem : ∀ {d}, d ∈ D → turn1 d ∈ turnD 1 D := fun hd => List.mem_map.2 ⟨_, hd, rfl⟩
  refine box_unique (by unfold turnD; simpa using h1) ?_ ⟨_, mem m4, ?_⟩ ⟨_, mem m3, ?_⟩ ⟨_, mem m1, q1⟩ ⟨_, mem m2, q2⟩
  · intro d hd
    obtain ⟨e, he, rfl⟩ := List.mem_map.1 hd
    have := b0 e he
    show _ ≤ 4095 - e.y ∧ 4095 - e.y ≤ _ ∧ _ ≤ e.x ∧ e.x ≤ _
    omega
  · show 4095 - p4.y = _
    omega
  · show 4095 - p3.y = _
    omega
theorem box_move (u v : Int) {D : List Dot} (h1 : 1 ≤ D.length) : boxF (moveD u v D) = ((boxF D).1 + u, (boxF D).2.1 + v, (boxF D).2.2.1, (boxF D).2.2.2) := by
  obtain ⟨b0, ⟨p1, m1, q1⟩, ⟨p2, m2, q2⟩, ⟨p3, m3, q3⟩, ⟨p4, m4, q4⟩⟩ := box_spec h1
  have mem : ∀ {d}, d ∈ D → (⟨d.x + u, d.y + v, d.t, d.p⟩ : Dot) ∈ moveD u v D := fun hd => List.mem_map.2 ⟨_, hd, rfl⟩
  refine box_unique (by unfold moveD; simpa using h1) ?_ ⟨_, mem m1, ?_⟩ ⟨_, mem m2, ?_⟩ ⟨_, mem m3, ?_⟩ ⟨_, mem m4, ?_⟩
  · intro d hd
    obtain ⟨e, he, rfl⟩ := List.mem_map.1 hd
    have := b0 e he
    show _ ≤ e.x + u ∧ e.x + u ≤ _ ∧ _ ≤ e.y + v ∧ e.y + v ≤ _
    omega
  · show p1.x + u = _; omega
  · show p2.x + u = _; omega
  · show p3.y + v = _; omega
  · show p4.y + v = _; omega
theorem thin_turn1 {D : List Dot} (h200 : D.length ≤ 200) (h1 : 1 ≤ D.length) (z : Int) : thinF (turnD 1 D) z = thinF D z := by
  refine thin_eq_of (by simp [turnD]) ?_ (by simpa [turnD] using h200) (by simpa [turnD] using h1)
  intro i j k hj hk hi
  have hl : (turnD 1 D).length = D.length := by simp [turnD]
  unfold turnD
  rw [dotAt_map _ (by omega), dotAt_map _ (by omega), dotAt_map _ (by omega)]
  exact near_turned ..
theorem thin_move {D : List Dot} (u v : Int) (h200 : D.length ≤ 200) (h1 : 1 ≤ D.length) (z : Int) : thinF (moveD u v D) z = thinF D z := by
  refine thin_eq_of (by simp [moveD]) ?_ (by simpa [moveD] using h200) (by simpa [moveD] using h1)
  intro i j k hj hk hi
  have hl : (moveD u v D).length = D.length := by simp [moveD]
  unfold moveD
  rw [dotAt_map _ (by omega), dotAt_map _ (by omega), dotAt_map _ (by omega)]
  exact near_moved ..
theorem withinTo_turn1 (D : List Dot) (px py z : Int) : ∀ k, k ≤ D.length → withinTo (turnD 1 D) (4095 - py) px z k = withinTo D px py z k
  | 0, _ => rfl
  | k + 1, h => by
    have e : nx (turnD 1 D) k = nx D k := by unfold nx turnD; rw [List.length_map]
    rw [withinTo, withinTo, withinTo_turn1 D px py z k (by omega), e]
    unfold turnD
    rw [dotAt_map _ (by omega), dotAt_map _ (by unfold nx; omega)]
    have p1 := turn_place 1 (dotAt D k)
    have p2 := turn_place 1 (dotAt D (nx D k))
    have p3 : placeB (4095 - py) px = placeB px py := turn_place 1 ⟨px, py, 0, 0⟩
    unfold nearB
    rw [p1, p2, p3]
    show (_ || (_ && nearI (4095 - (dotAt D k).y) (dotAt D k).x (4095 - (dotAt D (nx D k)).y) (dotAt D (nx D k)).x (4095 - py) px z)) = _
    rw [near_turned]
theorem within_turn1 {D : List Dot} (h1 : 1 ≤ D.length) (px py z : Int) : withinF (turnD 1 D) (4095 - py) px z = withinF D px py z := by
  unfold withinF
  rw [show (turnD 1 D).length = D.length by simp [turnD]]
  exact withinTo_turn1 D px py z _ (by omega)
theorem moveD_back (u v : Int) (D : List Dot) : moveD (-u) (-v) (moveD u v D) = D := by
  unfold moveD
  rw [List.map_map]
  conv => rhs; rw [← List.map_id D]
  refine List.map_congr_left fun d _ => ?_
  show (⟨d.x + u + -u, d.y + v + -v, d.t, d.p⟩ : Dot) = d
  rw [show d.x + u + -u = d.x by omega, show d.y + v + -v = d.y by omega]
/-- moved dots are dots if the box stays on the board -/
theorem moveD_dots (u v : Int) : ∀ (D : List Dot) (l : Int), dotsB l D = true → (dotsB l (moveD u v D) = true ↔ ∀ d ∈ D, placeB (d.x + u) (d.y + v) = true)
  | [], l, _ => by simp [moveD, dotsB]
  | d :: r, l, h => by
    simp only [dotsB, Bool.and_eq_true] at h
    have ih := moveD_dots u v r d.t h.2
    have hd := dotB_iff.1 h.1
    show (dotB l ⟨d.x + u, d.y + v, d.t, d.p⟩ && dotsB d.t (moveD u v r)) = true ↔ _
    rw [Bool.and_eq_true, ih, List.forall_mem_cons, dotB_iff, placeB_iff]
    constructor
    · rintro ⟨h1, h2⟩; exact ⟨h1.1, h2⟩
    · rintro ⟨h1, h2⟩; exact ⟨⟨h1, hd.2⟩, h2⟩
theorem move_fits {D : List Dot} (u v : Int) (h1 : 1 ≤ D.length) (h : dotsB 0 D = true) :
    dotsB 0 (moveD u v D) = true ↔ (0 ≤ (boxF D).1 + u ∧ (boxF D).1 + (boxF D).2.2.1 + u ≤ 4095) ∧ 0 ≤ (boxF D).2.1 + v ∧ (boxF D).2.1 + (boxF D).2.2.2 + v ≤ 4095 := by
  rw [moveD_dots u v D 0 h]
  obtain ⟨b0, ⟨p1, m1, q1⟩, ⟨p2, m2, q2⟩, ⟨p3, m3, q3⟩, ⟨p4, m4, q4⟩⟩ := box_spec h1
  constructor
  · intro ha
    have j1 := placeB_iff.1 (ha _ m1)
    have j2 := placeB_iff.1 (ha _ m2)
    have j3 := placeB_iff.1 (ha _ m3)
    have j4 := placeB_iff.1 (ha _ m4)
    omega
  · intro hb d hd
    have := b0 d hd
    exact placeB_iff.2 (by omega)
end Go.Proofs.Ytgopadbdnndkiaa.Str
namespace Go.Proofs.Ytgopadbdnndkiaa
open Go.RowKit Str
/-- dots in memory -/
def Dots (w : World) (A : Option Addr) (D : List Dot) : Prop :=
  ∀ i, i < D.length → ∃ b o, A = some ⟨b, o, none⟩ ∧ w.cell? ⟨b, o + i * 4, none⟩ = some (.int .i64 (dotAt D i).x) ∧ w.cell? ⟨b, o + i * 4 + 1, none⟩ = some (.int .i64 (dotAt D i).y) ∧
    w.cell? ⟨b, o + i * 4 + 2, none⟩ = some (.int .i64 (dotAt D i).t) ∧ w.cell? ⟨b, o + i * 4 + 3, none⟩ = some (.int .i64 (dotAt D i).p)
theorem Dots.below {w wx : World} {A : Option Addr} {D : List Dot} (h : Dots w A D) (hb : Below w.heap.size w wx) : Dots wx A D := fun i hi => by
  obtain ⟨b, o, hA, h0, h1, h2, h3⟩ := h i hi
  exact ⟨b, o, hA, cell_then hb h0, cell_then hb h1, cell_then hb h2, cell_then hb h3⟩
theorem Dots.open_ {w : World} {A : Option Addr} {D : List Dot} (h : Dots w A D) (hn : 0 < D.length) : ∃ b o, A = some ⟨b, o, none⟩ ∧ b < w.heap.size ∧ ∀ i, i < D.length →
    w.cell? ⟨b, o + i * 4, none⟩ = some (.int .i64 (dotAt D i).x) ∧ w.cell? ⟨b, o + i * 4 + 1, none⟩ = some (.int .i64 (dotAt D i).y) ∧
    w.cell? ⟨b, o + i * 4 + 2, none⟩ = some (.int .i64 (dotAt D i).t) ∧ w.cell? ⟨b, o + i * 4 + 3, none⟩ = some (.int .i64 (dotAt D i).p) := by
  obtain ⟨b, o, hA, h0, _⟩ := h 0 hn
  refine ⟨b, o, hA, World.block_lt_of_cell? _ _ h0, fun i hi => ?_⟩
  obtain ⟨b', o', hA', h'⟩ := h i hi
  rw [hA] at hA'
  injection hA' with hA'
  injection hA' with e1 e2
  subst e1 e2
  exact h'
theorem Dots.of_open {w wx : World} {b o : Nat} {D : List Dot} (hb : Below w.heap.size w wx) (h : ∀ i, i < D.length →
    w.cell? ⟨b, o + i * 4, none⟩ = some (.int .i64 (dotAt D i).x) ∧ w.cell? ⟨b, o + i * 4 + 1, none⟩ = some (.int .i64 (dotAt D i).y) ∧
    w.cell? ⟨b, o + i * 4 + 2, none⟩ = some (.int .i64 (dotAt D i).t) ∧ w.cell? ⟨b, o + i * 4 + 3, none⟩ = some (.int .i64 (dotAt D i).p)) (i : Nat) (hi : i < D.length) :
    wx.cell? ⟨b, o + i * 4, none⟩ = some (.int .i64 (dotAt D i).x) ∧ wx.cell? ⟨b, o + i * 4 + 1, none⟩ = some (.int .i64 (dotAt D i).y) ∧
    wx.cell? ⟨b, o + i * 4 + 2, none⟩ = some (.int .i64 (dotAt D i).t) ∧ wx.cell? ⟨b, o + i * 4 + 3, none⟩ = some (.int .i64 (dotAt D i).p) := by
  obtain ⟨h0, h1, h2, h3⟩ := h i hi
  exact ⟨cell_then hb h0, cell_then hb h1, cell_then hb h2, cell_then hb h3⟩
theorem Dots.drewN {w : World} {A : Option Addr} {D : List Dot} (h : Dots w A D) (n : Nat) : Dots (w.drewN n) A D := h
def sv (P N : Int) (A : Option Addr) (n cap : Nat) : Value := .agg #[.int .i64 P, .int .i64 N, .slice A n cap]
theorem dotsB_take_false {D : List Dot} {k : Nat} {l : Int} (h : dotsB l (D.take k) = false) : dotsB l D = false := by
  conv => lhs; rw [← List.take_append_drop k D]
  rw [dotsB_append, h, Bool.false_and]
theorem dotsB_snoc (l : Int) (D : List Dot) (d : Dot) : dotsB l (D ++ [d]) = (dotsB l D && dotB (lastT l D) d) := by
  rw [dotsB_append]; simp [dotsB]
theorem lastT_snoc (l : Int) (D : List Dot) (d : Dot) : lastT l (D ++ [d]) = d.t := by rw [lastT_append]; rfl

set_option maxRecDepth 100000 in
set_option maxHeartbeats 4000000 in
theorem valid_any (P N : Int) (A : Option Addr) (cap : Nat) (D : List Dot) (w : World) (hD : Dots w A D) (hn : (D.length : Int) ≤ 4611686018427387904) :
    Calls Try.prog 41 #[.agg #[.int .i64 P, .int .i64 N, .slice A D.length cap]] w fun e w' => e = .returned (.bool (validB P N D)) ∧ Below w.heap.size w w' := by
  have HD := Lib.hid hD
  clear hD
  have B0 : Below w.heap.size w (w.alloc (.cells #[.int .i64 P, .int .i64 N, .slice A D.length cap] 50)) := (Below.refl _ _).alloc (Nat.le_refl _) _
  cases h1 : isInB P 0 39 with
  | false =>
    have hv : validB P N D = false := by simp [validB, headB, h1]
    have HV := Lib.hid hv
    clear hv
    go_enter Try.func41, Try.ntmps41
    go_wp2_with fail
    refine (isIn_any _ _ _ _).mono ?_
    rintro e w1 ⟨rfl, rfl⟩
    rw [h1]
    go_wp2_with fail
    go_ret
    exact ⟨ret_bool HV.out.symm, B0⟩
  | true =>
    cases h2 : isInB N 1 999 with
    | false =>
      have hv : validB P N D = false := by simp [validB, headB, h2]
      have HV := Lib.hid hv
      clear hv
      go_enter Try.func41, Try.ntmps41
      go_wp2_with fail
      refine (isIn_any _ _ _ _).mono ?_
      rintro e w1 ⟨rfl, rfl⟩
      rw [h1]
      go_wp2_with fail
      refine (isIn_any _ _ _ _).mono ?_
      rintro e w1 ⟨rfl, rfl⟩
      rw [h2]
      go_wp2_with fail
      go_ret
      exact ⟨ret_bool HV.out.symm, B0⟩
    | true =>
      cases h3 : isInB (D.length : Int) 1 200 with
      | false =>
        have hv : validB P N D = false := by simp [validB, headB, h3]
        have HV := Lib.hid hv
        clear hv
        go_enter Try.func41, Try.ntmps41
        go_wp2_with fail
        refine (isIn_any _ _ _ _).mono ?_
        rintro e w1 ⟨rfl, rfl⟩
        rw [h1]
        go_wp2_with fail
        refine (isIn_any _ _ _ _).mono ?_
        rintro e w1 ⟨rfl, rfl⟩
        rw [h2]
        go_wp2_with fail
        refine (isIn_any _ _ _ _).mono ?_
        rintro e w1 ⟨rfl, rfl⟩
        rw [h3]
        go_wp2_with fail
        go_ret
        exact ⟨ret_bool HV.out.symm, B0⟩
      | true =>
        have hd : validB P N D = dotsB 0 D := by simp [validB, headB, h1, h2, h3]
        have HV := Lib.hid hd
        clear hd
        go_enter Try.func41, Try.ntmps41
        go_wp2_with fail
        refine (isIn_any _ _ _ _).mono ?_
        rintro e w1 ⟨rfl, rfl⟩
        rw [h1]
        go_wp2_with fail
        refine (isIn_any _ _ _ _).mono ?_
        rintro e w1 ⟨rfl, rfl⟩
        rw [h2]
        go_wp2_with fail
        refine (isIn_any _ _ _ _).mono ?_
        rintro e w1 ⟨rfl, rfl⟩
        rw [h3]
        go_wp2_with fail
        go_loopw [3, 26] (fun l i wr => ∃ k : Nat, k ≤ D.length ∧ i = .int .i64 (k : Int) ∧ l = .int .i64 (lastT 0 (D.take k)) ∧ dotsB 0 (D.take k) = true ∧ Below w.heap.size w wr) (fun _ i _ => D.length - (intOf i).toNat)
        case atStart => exact ⟨0, by omega, rfl, rfl, rfl, B0⟩
        case round =>
          obtain ⟨k, hk, rfl, rfl, hdk, hB⟩ := hrel
          by_cases hlt : k < D.length
          · obtain ⟨b, o, rfl, c0, c1, c2, c3⟩ := (HD.out.below hB) k hlt
            have hs : dotsB 0 (D.take (k + 1)) = dotB (lastT 0 (D.take k)) (dotAt D k) := by rw [take_dot hlt, dotsB_snoc, hdk, Bool.true_and]
            have HS := Lib.hid hs
            have HK := Lib.hid hdk
            clear hs hdk
            have HR : Hid (∀ {W : World} {o : Obj} {W1 : World}, W = wr.alloc o → Below W.heap.size W W1 → Below w.heap.size w W1) := fun {_ _ _} e h => (by subst e; exact below_next (hB.alloc hB.size _) h)
            go_wp2_with fail
            refine (at_any _ _).mono ?_
            rintro e w1 ⟨rfl, b1⟩
            unfold pv
            go_wp2_with fail
            refine (place_any _ _ _).mono ?_
            rintro e w2 ⟨rfl, b2⟩
            have e2 : w2.cell? ⟨wr.heap.size, 2, none⟩ = some (.int .i64 (dotAt D k).t) := cell_then b2 (cell_then b1 (by simp [go_sem]))
            have e3 : w2.cell? ⟨wr.heap.size, 3, none⟩ = some (.int .i64 (dotAt D k).p) := cell_then b2 (cell_then b1 (by simp [go_sem]))
            have B2 := HR.out rfl (below_next b1 b2)
            cases q1 : placeB (dotAt D k).x (dotAt D k).y with
            | false =>
              go_wp2_with fail
              go_ret
              exact ⟨ret_bool (by rw [HV.out]; exact (dotsB_take_false (k := k + 1) (by rw [HS.out, dotB, q1]; rfl)).symm), B2⟩
            | true =>
              go_wp2_with fail
              refine (isIn_any _ _ _ _).mono ?_
              rintro e w3 ⟨rfl, rfl⟩
              cases q2 : isInB (dotAt D k).t (lastT 0 (D.take k)) 1000000 with
              | false =>
                go_wp2_with fail
                go_ret
                exact ⟨ret_bool (by rw [HV.out]; exact (dotsB_take_false (k := k + 1) (by rw [HS.out, dotB, q1, q2]; rfl)).symm), B2⟩
              | true =>
                go_wp2_with fail
                refine (isIn_any _ _ _ _).mono ?_
                rintro e w3 ⟨rfl, rfl⟩
                cases q3 : isInB (dotAt D k).p 0 100 with
                | false =>
                  go_wp2_with fail
                  go_ret
                  exact ⟨ret_bool (by rw [HV.out]; exact (dotsB_take_false (k := k + 1) (by rw [HS.out, dotB, q1, q2, q3]; rfl)).symm), B2⟩
                | true =>
                  go_wp2_with fail
                  exact ⟨⟨k + 1, by omega, by go_num, by rw [take_dot hlt, lastT_snoc], by rw [HS.out, dotB, q1, q2, q3]; rfl, B2⟩, by simp [intOf]; omega⟩
          · obtain rfl : k = D.length := by omega
            rw [List.take_length] at hdk
            have HK := Lib.hid hdk
            clear hdk
            go_wp2_with fail
            go_ret
            exact ⟨ret_bool (by rw [HV.out, HK.out]), hB⟩
end Go.Proofs.Ytgopadbdnndkiaa
namespace Go.Proofs.Ytgopadbdnndkiaa
open Go.RowKit Str
attribute [local go_sem ↓] Var2.c0 Var2.c1 Var2.f0 Var2.f1
theorem valid_len {P N : Int} {D : List Dot} (h : validB P N D = true) : (1 ≤ (D.length : Int) ∧ (D.length : Int) ≤ 200) ∧ 0 < D.length := by
  rw [validB, Bool.and_eq_true, headB_iff] at h
  omega
theorem validB_dots {P N : Int} {D : List Dot} (h : validB P N D = true) : dotsB 0 D = true := by
  rw [validB, Bool.and_eq_true] at h; exact h.2
theorem code_any (P N : Int) (A : Option Addr) (cap : Nat) (D : List Dot) (w : World) (hD : Dots w A D) (hn : (D.length : Int) ≤ 4611686018427387904) :
    Calls Try.prog 19 #[.agg #[.int .i64 P, .int .i64 N, .slice A D.length cap]] w fun e w' => e = .returned (.int .i64 (if validB P N D = true then 1000 * P + N else 0)) ∧ Below w.heap.size w w' := by
  have hv := fun W hb => (valid_any P N A cap D W (hD.below hb) hn)
  have B0 : Below w.heap.size w (w.alloc (.cells #[.int .i64 P, .int .i64 N, .slice A D.length cap] 50)) := (Below.refl _ _).alloc (Nat.le_refl _) _
  have HV := Lib.hid (hv _ B0)
  clear hv
  cases h1 : validB P N D with
  | false =>
    rw [if_neg (by simp)]
    go_enter Try.func19, Try.ntmps19
    go_wp2_with fail
    refine HV.out.mono ?_
    rintro e w1 ⟨rfl, b1⟩
    rw [h1]
    go_wp2_with fail
    go_ret
    exact ⟨rfl, below_next B0 b1⟩
  | true =>
    rw [if_pos rfl]
    have hb := h1
    rw [validB, Bool.and_eq_true, headB_iff] at hb
    have H1 := Lib.hid h1
    clear h1
    obtain ⟨⟨⟨p1, p2⟩, ⟨p3, p4⟩, p5, p6⟩, p7⟩ := hb
    clear p7
    go_enter Try.func19, Try.ntmps19
    go_wp2_with fail
    refine HV.out.mono ?_
    rintro e w1 ⟨rfl, b1⟩
    rw [H1.out]
    have e0 : w1.cell? ⟨w.heap.size, 0, none⟩ = some (.int .i64 P) := cell_then b1 (by simp [go_sem])
    have e1 : w1.cell? ⟨w.heap.size, 1, none⟩ = some (.int .i64 N) := cell_then b1 (by simp [go_sem])
    go_wp2_with fail
    go_ret
    exact ⟨rfl, below_next B0 b1⟩
/-- a struct's cells in a world behind a contract -/
theorem ends_no (P N : Int) (A : Option Addr) (cap : Nat) (D : List Dot) (w : World) (hD : Dots w A D) (hn : (D.length : Int) ≤ 4611686018427387904) (h1 : validB P N D = false) :
    Calls Try.prog 22 #[.agg #[.int .i64 P, .int .i64 N, .slice A D.length cap]] w fun e w' => e = .returned (.tuple #[pv 0 0, pv 0 0, .int .i64 50]) ∧ Below w.heap.size w w' := by
  have HD := Lib.hid hD
  clear hD
  go_enter Try.func22, Try.ntmps22
  go_wp2_with fail
  have B0 : Below w.heap.size w (((w.alloc (.cells #[.int .i64 P, .int .i64 N, .slice A D.length cap] 50)).alloc (.cells #[.int .i64 0, .int .i64 0] 56)).alloc (.cells #[.int .i64 0, .int .i64 0] 56)) := (((Below.refl _ _).alloc (Nat.le_refl _) _).alloc (by simp) _).alloc (by simp; omega) _
  refine (valid_any P N A cap D _ (HD.out.below B0) hn).mono ?_
  rintro e w1 ⟨rfl, b1⟩
  rw [h1]
  obtain ⟨e0, f0⟩ := var_then b1 (a := ⟨w.heap.size + 1, 0, none⟩) (v := .int .i64 0) (by simp [go_sem])
  obtain ⟨e1, f1⟩ := var_then b1 (a := ⟨w.heap.size + 1, 1, none⟩) (v := .int .i64 0) (by simp [go_sem])
  obtain ⟨e2, f2⟩ := var_then b1 (a := ⟨w.heap.size + 1 + 1, 0, none⟩) (v := .int .i64 0) (by simp [go_sem])
  obtain ⟨e3, f3⟩ := var_then b1 (a := ⟨w.heap.size + 1 + 1, 1, none⟩) (v := .int .i64 0) (by simp [go_sem])
  go_wp2_with fail
  exact bodyPost_ret (v := .tuple #[pv 0 0, pv 0 0, .int .i64 50]) (by simp [results, Try.results22, go_sem, pv, e0, e1, e2, e3]) rfl ⟨rfl, ((((below_next B0 b1).setCell (by simp) _).setCell (by simp) _).setCell (by simp; omega) _).setCell (by simp; omega) _⟩
set_option maxRecDepth 100000 in
set_option maxHeartbeats 4000000 in
theorem ends_yes (P N : Int) (A : Option Addr) (cap : Nat) (D : List Dot) (w : World) (hD : Dots w A D) (h1 : validB P N D = true) :
    Calls Try.prog 22 #[.agg #[.int .i64 P, .int .i64 N, .slice A D.length cap]] w fun e w' => e = .returned (.tuple #[pv (dotAt D 0).x (dotAt D 0).y, pv (dotAt D (D.length - 1)).x (dotAt D (D.length - 1)).y, .int .i64 0]) ∧ Below w.heap.size w w' := by
  obtain ⟨⟨p5, p6⟩, p0⟩ := valid_len h1
  have H1 := Lib.hid h1
  clear h1
  obtain ⟨b, o, rfl, hlt, hc⟩ := hD.open_ p0
  have HD := Lib.hid hD
  have HC := Lib.hid hc
  clear hD hc
  go_enter Try.func22, Try.ntmps22
  go_wp2_with fail
  have B0 : Below w.heap.size w (((w.alloc (.cells #[.int .i64 P, .int .i64 N, .slice (some ⟨b, o, none⟩) D.length cap] 50)).alloc (.cells #[.int .i64 0, .int .i64 0] 56)).alloc (.cells #[.int .i64 0, .int .i64 0] 56)) := (((Below.refl _ _).alloc (Nat.le_refl _) _).alloc (by simp) _).alloc (by simp; omega) _
  refine (valid_any P N _ cap D _ (HD.out.below B0) (by omega)).mono ?_
  rintro e w1 ⟨rfl, b1⟩
  rw [H1.out]
  have B1 := below_next B0 b1
  have e0 : w1.cell? ⟨w.heap.size, 2, none⟩ = some (.slice (some ⟨b, o, none⟩) D.length cap) := cell_then b1 (by simp [go_sem])
  obtain ⟨c0, c1, c2, c3⟩ := Dots.of_open B1 HC.out 0 p0
  obtain ⟨d0, d1, d2, d3⟩ := Dots.of_open B1 HC.out (D.length - 1) (by omega)
  have V1 : Var2 w1 (w.heap.size + 1) := Var2.of (var_then b1 (v := .int .i64 0) (by simp [go_sem])) (var_then b1 (v := .int .i64 0) (by simp [go_sem]))
  have V2 : Var2 w1 (w.heap.size + 1 + 1) := Var2.of (var_then b1 (v := .int .i64 0) (by simp [go_sem])) (var_then b1 (v := .int .i64 0) (by simp [go_sem]))
  clear B0 b1
  simp only [Nat.zero_mul, Nat.add_zero] at c0 c1 c2 c3
  have eq1 : ((D.length : Int) - 1).toNat = D.length - 1 := by omega
  have w1q : IntKind.i64.wrap ((D.length : Int) - 1) = (D.length : Int) - 1 := IntWalk.i64_in _ (by omega)
  have b01 : (0 : Int) ≤ (D.length : Int) - 1 := by omega
  have b02 : (D.length : Int) - 1 < (D.length : Int) := by omega
  have S0 : Below w.heap.size w w1 ∧ w1.cell? ⟨w.heap.size, 2, none⟩ = some (.slice (some ⟨b, o, none⟩) D.length cap) ∧ w1.cell? ⟨b, o, none⟩ = some (.int .i64 (dotAt D 0).x) ∧ w1.cell? ⟨b, o + 1, none⟩ = some (.int .i64 (dotAt D 0).y) ∧ w1.cell? ⟨b, o + 2, none⟩ = some (.int .i64 (dotAt D 0).t) ∧ w1.cell? ⟨b, o + 3, none⟩ = some (.int .i64 (dotAt D 0).p) ∧ w1.cell? ⟨b, o + (D.length - 1) * 4, none⟩ = some (.int .i64 (dotAt D (D.length - 1)).x) ∧ w1.cell? ⟨b, o + (D.length - 1) * 4 + 1, none⟩ = some (.int .i64 (dotAt D (D.length - 1)).y) ∧ w1.cell? ⟨b, o + (D.length - 1) * 4 + 2, none⟩ = some (.int .i64 (dotAt D (D.length - 1)).t) ∧ w1.cell? ⟨b, o + (D.length - 1) * 4 + 3, none⟩ = some (.int .i64 (dotAt D (D.length - 1)).p) ∧ Var2 w1 (w.heap.size + 1) ∧ Var2 w1 (w.heap.size + 1 + 1) := ⟨‹_›, ‹_›, ‹_›, ‹_›, ‹_›, ‹_›, ‹_›, ‹_›, ‹_›, ‹_›, ‹_›, ‹_›⟩
  go_wp2_with fail
  go_region_held3 (fun w' => Below w.heap.size w w' ∧ w'.cell? ⟨w.heap.size, 2, none⟩ = some (.slice (some ⟨b, o, none⟩) D.length cap) ∧ w'.cell? ⟨b, o, none⟩ = some (.int .i64 (dotAt D 0).x) ∧ w'.cell? ⟨b, o + 1, none⟩ = some (.int .i64 (dotAt D 0).y) ∧ w'.cell? ⟨b, o + 2, none⟩ = some (.int .i64 (dotAt D 0).t) ∧ w'.cell? ⟨b, o + 3, none⟩ = some (.int .i64 (dotAt D 0).p) ∧ w'.cell? ⟨b, o + (D.length - 1) * 4, none⟩ = some (.int .i64 (dotAt D (D.length - 1)).x) ∧ w'.cell? ⟨b, o + (D.length - 1) * 4 + 1, none⟩ = some (.int .i64 (dotAt D (D.length - 1)).y) ∧ w'.cell? ⟨b, o + (D.length - 1) * 4 + 2, none⟩ = some (.int .i64 (dotAt D (D.length - 1)).t) ∧ w'.cell? ⟨b, o + (D.length - 1) * 4 + 3, none⟩ = some (.int .i64 (dotAt D (D.length - 1)).p) ∧ Var2 w' (w.heap.size + 1) ∧ Var2 w' (w.heap.size + 1 + 1)) ((have hS := ‹Below w.heap.size w _ ∧ _›; refine ⟨?_, ?_, ?_, ?_, ?_, ?_, ?_, ?_, ?_, ?_, ?_, ?_⟩; (focus (first | with_reducible exact below_next hS.1 ‹Below _ _ _› | (repeat (first | with_reducible exact hS.1 | with_reducible exact Below.alloc hS.1 (Below.size hS.1) _ | with_reducible refine Below.setCell ?_ (by dsimp only; omega) _ | with_reducible refine Below.drew ?_)))); (focus (first | with_reducible exact cell_then ‹Below _ _ _› hS.2.1 | ((try simp only [World.cell?_drew]); repeat (first | with_reducible exact hS.2.1 | with_reducible refine cell_set _ ?_ (by dsimp only; omega) | with_reducible refine keep_alloc _ ?_)))); (focus (first | with_reducible exact cell_then ‹Below _ _ _› hS.2.2.1 | ((try simp only [World.cell?_drew]); repeat (first | with_reducible exact hS.2.2.1 | with_reducible refine cell_set _ ?_ (by dsimp only; omega) | with_reducible refine keep_alloc _ ?_)))); (focus (first | with_reducible exact cell_then ‹Below _ _ _› hS.2.2.2.1 | ((try simp only [World.cell?_drew]); repeat (first | with_reducible exact hS.2.2.2.1 | with_reducible refine cell_set _ ?_ (by dsimp only; omega) | with_reducible refine keep_alloc _ ?_)))); (focus (first | with_reducible exact cell_then ‹Below _ _ _› hS.2.2.2.2.1 | ((try simp only [World.cell?_drew]); repeat (first | with_reducible exact hS.2.2.2.2.1 | with_reducible refine cell_set _ ?_ (by dsimp only; omega) | with_reducible refine keep_alloc _ ?_)))); (focus (first | with_reducible exact cell_then ‹Below _ _ _› hS.2.2.2.2.2.1 | ((try simp only [World.cell?_drew]); repeat (first | with_reducible exact hS.2.2.2.2.2.1 | with_reducible refine cell_set _ ?_ (by dsimp only; omega) | with_reducible refine keep_alloc _ ?_)))); (focus (first | with_reducible exact cell_then ‹Below _ _ _› hS.2.2.2.2.2.2.1 | ((try simp only [World.cell?_drew]); repeat (first | with_reducible exact hS.2.2.2.2.2.2.1 | with_reducible refine cell_set _ ?_ (by dsimp only; omega) | with_reducible refine keep_alloc _ ?_)))); (focus (first | with_reducible exact cell_then ‹Below _ _ _› hS.2.2.2.2.2.2.2.1 | ((try simp only [World.cell?_drew]); repeat (first | with_reducible exact hS.2.2.2.2.2.2.2.1 | with_reducible refine cell_set _ ?_ (by dsimp only; omega) | with_reducible refine keep_alloc _ ?_)))); (focus (first | with_reducible exact cell_then ‹Below _ _ _› hS.2.2.2.2.2.2.2.2.1 | ((try simp only [World.cell?_drew]); repeat (first | with_reducible exact hS.2.2.2.2.2.2.2.2.1 | with_reducible refine cell_set _ ?_ (by dsimp only; omega) | with_reducible refine keep_alloc _ ?_)))); (focus (first | with_reducible exact cell_then ‹Below _ _ _› hS.2.2.2.2.2.2.2.2.2.1 | ((try simp only [World.cell?_drew]); repeat (first | with_reducible exact hS.2.2.2.2.2.2.2.2.2.1 | with_reducible refine cell_set _ ?_ (by dsimp only; omega) | with_reducible refine keep_alloc _ ?_)))); (focus (first | with_reducible exact Var2.then_ hS.2.2.2.2.2.2.2.2.2.2.1 ‹Below _ _ _› | (repeat (first | with_reducible exact hS.2.2.2.2.2.2.2.2.2.2.1 | with_reducible refine Var2.set_ ?_ _ _ | with_reducible refine Var2.alloc ?_ _ | with_reducible refine Var2.drew ?_)))); (focus (first | with_reducible exact Var2.then_ hS.2.2.2.2.2.2.2.2.2.2.2 ‹Below _ _ _› | (repeat (first | with_reducible exact hS.2.2.2.2.2.2.2.2.2.2.2 | with_reducible refine Var2.set_ ?_ _ _ | with_reducible refine Var2.alloc ?_ _ | with_reducible refine Var2.drew ?_)))))) (first | (go_at_call 42; refine (at_any _ _).mono ?_; rintro e w' ⟨rfl, b'⟩; unfold pv))
  obtain ⟨F1, -⟩ := ‹Below w.heap.size w _ ∧ _›
  have X1 := (V1.drew.then_ ‹Below w1.drew.heap.size _ _›).then_ b'
  have X2 := (V2.drew.then_ ‹Below w1.drew.heap.size _ _›).then_ b'
  go_wp2_with fail
  exact bodyPost_ret (v := .tuple #[pv (dotAt D 0).x (dotAt D 0).y, pv (dotAt D (D.length - 1)).x (dotAt D (D.length - 1)).y, .int .i64 0]) (by simp [results, Try.results22, go_sem, pv, X1.c0, X1.c1, X2.c0, X2.c1]) rfl ⟨rfl, F1⟩
end Go.Proofs.Ytgopadbdnndkiaa
