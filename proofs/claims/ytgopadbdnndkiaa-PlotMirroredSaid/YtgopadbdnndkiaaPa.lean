/- The strokes that the laws make: the plain part. Words for memory in a walk: a variable of some cells whose content is left open; what lies on behind a call, a store, a new block. No program stands here. Arguments opened: arrays of integers, slices of arrays of three integers; the post of a law's row out of Below. Nothing of the program stands here. The small functions of package stroke: isIn, isPlace, at, near. -/
import Derived.WalkKit
import Derived.KernelRfl
import Derived.Below
import Derived.Carry
import Derived.Lib.Hide
import Derived.Test.YtgopadbdnndkiaaRows
import Derived.ProofKit
import Derived.OpenShut
import Derived.Deep.DeepHandedRow
import Derived.Test.YtgopadbdnndkiaaProg
import Derived.WalkSpells
import Derived.WalkLawsBesides
import Derived.BigRegion
import Derived.Deep.QuietTactic
import Derived.BigQuiet
import Derived.Deep.RegionHeld3
import Derived.Deep.DeepCutAuto
/- Plain functions and laws for the stroke chapter: what the functions of package stroke compute, in Lean, with no program in sight. -/
namespace Go.Proofs.Ytgopadbdnndkiaa.Str

/-- a dot: its place, when it was drawn, how strong -/
structure Dot where
  x : Int
  y : Int
  t : Int
  p : Int
deriving DecidableEq
instance : Inhabited Dot := ⟨⟨0, 0, 0, 0⟩⟩
def isInB (n lo hi : Int) : Bool := decide (lo ≤ n) && decide (n ≤ hi)
def placeB (x y : Int) : Bool := isInB x 0 4095 && isInB y 0 4095
theorem isInB_iff {n lo hi : Int} : isInB n lo hi = true ↔ lo ≤ n ∧ n ≤ hi := by simp [isInB]
theorem placeB_iff {x y : Int} : placeB x y = true ↔ (0 ≤ x ∧ x ≤ 4095) ∧ (0 ≤ y ∧ y ≤ 4095) := by simp [placeB, isInB_iff]
/-- a dot is as it may be, behind one that was drawn at the time l -/
def dotB (l : Int) (d : Dot) : Bool := placeB d.x d.y && isInB d.t l 1000000 && isInB d.p 0 100
theorem dotB_iff {l : Int} {d : Dot} : dotB l d = true ↔ ((0 ≤ d.x ∧ d.x ≤ 4095) ∧ (0 ≤ d.y ∧ d.y ≤ 4095)) ∧ (l ≤ d.t ∧ d.t ≤ 1000000) ∧ 0 ≤ d.p ∧ d.p ≤ 100 := by
  simp [dotB, placeB_iff, isInB_iff, and_assoc]
def dotsB : Int → List Dot → Bool
  | _, [] => true
  | l, d :: r => dotB l d && dotsB d.t r
def headB (P N : Int) (n : Nat) : Bool := isInB P 0 39 && isInB N 1 999 && isInB (n : Int) 1 200
def validB (P N : Int) (D : List Dot) : Bool := headB P N D.length && dotsB 0 D
theorem headB_iff {P N : Int} {n : Nat} : headB P N n = true ↔ (0 ≤ P ∧ P ≤ 39) ∧ (1 ≤ N ∧ N ≤ 999) ∧ 1 ≤ (n : Int) ∧ (n : Int) ≤ 200 := by simp [headB, isInB_iff, and_assoc]
/-- the time of the last dot -/
def lastT (l : Int) : List Dot → Int
  | [] => l
  | d :: r => lastT d.t r
theorem dotsB_append (l : Int) (a b : List Dot) : dotsB l (a ++ b) = (dotsB l a && dotsB (lastT l a) b) := by
  induction a generalizing l with
  | nil => simp [dotsB, lastT]
  | cons d r ih => simp [dotsB, lastT, ih, Bool.and_assoc]
theorem lastT_append (l : Int) (a b : List Dot) : lastT l (a ++ b) = lastT (lastT l a) b := by
  induction a generalizing l with
  | nil => rfl
  | cons d r ih => simp [lastT, ih]
theorem dotsB_mem {l : Int} (hl : 0 ≤ l) : ∀ {D : List Dot}, dotsB l D = true → ∀ d ∈ D, dotB 0 d = true
  | d :: r, h, e, he => by
    simp only [dotsB, Bool.and_eq_true] at h
    have h1 := dotB_iff.1 h.1
    rcases List.mem_cons.1 he with rfl | he
    · exact dotB_iff.2 ⟨h1.1, by omega, h1.2.2⟩
    · exact dotsB_mem (by omega) h.2 e he

/-! near a line -/
def sq (a b c d : Int) : Int := (a - c) * (a - c) + (b - d) * (b - d)
/-- how the program says it -/
def nearI (ax ay bx b_y px py z : Int) : Bool :=
  if (bx - ax) * (px - ax) + (b_y - ay) * (py - ay) ≤ 0 then decide ((px - ax) * (px - ax) + (py - ay) * (py - ay) ≤ z * z)
  else if 0 ≤ (bx - ax) * (px - bx) + (b_y - ay) * (py - b_y) then decide ((px - bx) * (px - bx) + (py - b_y) * (py - b_y) ≤ z * z)
  else decide (((bx - ax) * (py - ay) - (b_y - ay) * (px - ax)) * ((bx - ax) * (py - ay) - (b_y - ay) * (px - ax)) ≤ z * z * ((bx - ax) * (bx - ax) + (b_y - ay) * (b_y - ay)))
/-- how the reference says it -/
def nearR (ax ay bx b_y px py z : Int) : Bool :=
  if sq ax ay px py ≤ z * z ∨ sq bx b_y px py ≤ z * z then true
  else if sq ax ay bx b_y + sq ax ay px py < sq bx b_y px py ∨ sq ax ay bx b_y + sq bx b_y px py < sq ax ay px py ∨ sq ax ay bx b_y = 0 then false
  else decide (((bx - ax) * (py - ay) - (b_y - ay) * (px - ax)) * ((bx - ax) * (py - ay) - (b_y - ay) * (px - ax)) ≤ z * z * sq ax ay bx b_y)
theorem self_nonneg (a : Int) : 0 ≤ a * a := by
  rcases Int.le_total 0 a with h | h
  · exact Int.mul_nonneg h h
  · exact Int.mul_nonneg_of_nonpos_of_nonpos h h
theorem sq_nonneg (a b c d : Int) : 0 ≤ sq a b c d := by
  unfold sq
  have h1 := self_nonneg (a - c)
  have h2 := self_nonneg (b - d)
  omega
/-- the core: in numbers alone -/
theorem near_core {DW DD WW VV CR far : Int} (hv : VV = WW - 2 * DW + DD) (l1 : DW * DW + CR = DD * WW) (l2 : (DW - DD) * (DW - DD) + CR = DD * VV) (hd : 0 ≤ DD) :
    (if DW ≤ 0 then decide (WW ≤ far) else if 0 ≤ DW - DD then decide (VV ≤ far) else decide (CR ≤ far * DD)) =
    (if WW ≤ far ∨ VV ≤ far then true else if DD + WW < VV ∨ DD + VV < WW ∨ DD = 0 then false else decide (CR ≤ far * DD)) := by
  have s1 := self_nonneg DW
  have s2 := self_nonneg (DW - DD)
  by_cases h1 : DW ≤ 0
  · rw [if_pos h1]
    by_cases h2 : WW ≤ far
    · rw [if_pos (.inl h2)]; simpa using h2
    · rw [if_neg (show ¬(WW ≤ far ∨ VV ≤ far) by omega)]
      by_cases h3 : DD + WW < VV ∨ DD + VV < WW ∨ DD = 0
      · rw [if_pos h3]; simpa using h2
      · rw [if_neg h3]
        have e : DW = 0 := by omega
        rw [e] at l1
        have h4 : far * DD < WW * DD := Int.mul_lt_mul_of_pos_right (by omega) (by omega)
        rw [Int.mul_comm WW DD] at h4
        have h5 : ¬ CR ≤ far * DD := by omega
        rw [decide_eq_false h2, decide_eq_false h5]
  · rw [if_neg h1]
    by_cases h2 : 0 ≤ DW - DD
    · rw [if_pos h2]
      by_cases h3 : VV ≤ far
      · rw [if_pos (.inr h3)]; simpa using h3
      · rw [if_neg (show ¬(WW ≤ far ∨ VV ≤ far) by omega)]
        by_cases h4 : DD + WW < VV ∨ DD + VV < WW ∨ DD = 0
        · rw [if_pos h4]; simpa using h3
        · rw [if_neg h4]
          have e : DW - DD = 0 := by omega
          rw [e] at l2
          have h4 : far * DD < VV * DD := Int.mul_lt_mul_of_pos_right (by omega) (by omega)
          rw [Int.mul_comm VV DD] at h4
          have h5 : ¬ CR ≤ far * DD := by omega
          rw [decide_eq_false h3, decide_eq_false h5]
    · rw [if_neg h2]
      by_cases h3 : WW ≤ far ∨ VV ≤ far
      · rw [if_pos h3]
        refine decide_eq_true ?_
        rw [Int.mul_comm far DD]
        rcases h3 with h3 | h3
        · have := Int.mul_le_mul_of_nonneg_left h3 hd
          omega
        · have := Int.mul_le_mul_of_nonneg_left h3 hd
          omega
      · rw [if_neg h3, if_neg (show ¬(DD + WW < VV ∨ DD + VV < WW ∨ DD = 0) by omega)]
theorem near_eq (ax ay bx b_y px py z : Int) : nearI ax ay bx b_y px py z = nearR ax ay bx b_y px py z := by
  have e1 : (bx - ax) * (px - bx) + (b_y - ay) * (py - b_y) = ((bx - ax) * (px - ax) + (b_y - ay) * (py - ay)) - ((bx - ax) * (bx - ax) + (b_y - ay) * (b_y - ay)) := by grind
  have e2 : sq ax ay px py = (px - ax) * (px - ax) + (py - ay) * (py - ay) := by unfold sq; grind
  have e3 : sq bx b_y px py = (px - bx) * (px - bx) + (py - b_y) * (py - b_y) := by unfold sq; grind
  have e4 : sq ax ay bx b_y = (bx - ax) * (bx - ax) + (b_y - ay) * (b_y - ay) := by unfold sq; grind
  unfold nearI nearR
  rw [e1, e2, e3, e4]
  refine near_core ?_ ?_ ?_ ?_
  · grind
  · grind
  · grind
  · have h1 := self_nonneg (bx - ax)
    have h2 := self_nonneg (b_y - ay)
    omega

/-! boxes and ways -/
def minI (x y : Int) : Int := if y < x then y else x
def maxI (x y : Int) : Int := if x < y then y else x
theorem minI_le (x y : Int) : minI x y ≤ x ∧ minI x y ≤ y := by unfold minI; split <;> omega
theorem le_maxI (x y : Int) : x ≤ maxI x y ∧ y ≤ maxI x y := by unfold maxI; split <;> omega
theorem minI_or (x y : Int) : minI x y = x ∨ minI x y = y := by unfold minI; split <;> omega
theorem maxI_or (x y : Int) : maxI x y = x ∨ maxI x y = y := by unfold maxI; split <;> omega
def mnF (f : Dot → Int) (a : Int) (l : List Dot) : Int := l.foldl (fun m d => minI m (f d)) a
def mxF (f : Dot → Int) (a : Int) (l : List Dot) : Int := l.foldl (fun m d => maxI m (f d)) a
theorem mnF_snoc (f : Dot → Int) (a : Int) (l : List Dot) (d : Dot) : mnF f a (l ++ [d]) = minI (mnF f a l) (f d) := by simp [mnF]
theorem mxF_snoc (f : Dot → Int) (a : Int) (l : List Dot) (d : Dot) : mxF f a (l ++ [d]) = maxI (mxF f a l) (f d) := by simp [mxF]
theorem mnF_cons (f : Dot → Int) (a : Int) (l : List Dot) (d : Dot) : mnF f a (d :: l) = mnF f (minI a (f d)) l := rfl
theorem mxF_cons (f : Dot → Int) (a : Int) (l : List Dot) (d : Dot) : mxF f a (d :: l) = mxF f (maxI a (f d)) l := rfl
theorem mnF_spec (f : Dot → Int) : ∀ (l : List Dot) (a : Int), mnF f a l ≤ a ∧ (∀ d ∈ l, mnF f a l ≤ f d) ∧ (mnF f a l = a ∨ ∃ d ∈ l, mnF f a l = f d)
  | [], a => ⟨Int.le_refl _, fun d h => (List.not_mem_nil h).elim, .inl rfl⟩
  | e :: l, a => by
    obtain ⟨h1, h2, h3⟩ := mnF_spec f l (minI a (f e))
    have h4 := minI_le a (f e)
    rw [mnF_cons]
    refine ⟨by omega, ?_, ?_⟩
    · intro d hd
      rcases List.mem_cons.1 hd with rfl | hd
      · omega
      · exact h2 d hd
    · rcases h3 with h3 | ⟨d, hd, h3⟩
      · rcases minI_or a (f e) with h5 | h5
        · exact .inl (by omega)
        · exact .inr ⟨e, by simp, by omega⟩
      · exact .inr ⟨d, by simp [hd], h3⟩
theorem mxF_spec (f : Dot → Int) : ∀ (l : List Dot) (a : Int), a ≤ mxF f a l ∧ (∀ d ∈ l, f d ≤ mxF f a l) ∧ (mxF f a l = a ∨ ∃ d ∈ l, mxF f a l = f d)
  | [], a => ⟨Int.le_refl _, fun d h => (List.not_mem_nil h).elim, .inl rfl⟩
  | e :: l, a => by
    obtain ⟨h1, h2, h3⟩ := mxF_spec f l (maxI a (f e))
    have h4 := le_maxI a (f e)
    rw [mxF_cons]
    refine ⟨by omega, ?_, ?_⟩
    · intro d hd
      rcases List.mem_cons.1 hd with rfl | hd
      · omega
      · exact h2 d hd
    · rcases h3 with h3 | ⟨d, hd, h3⟩
      · rcases maxI_or a (f e) with h5 | h5
        · exact .inl (by omega)
        · exact .inr ⟨e, by simp, by omega⟩
      · exact .inr ⟨d, by simp [hd], h3⟩
/-- the dot at an index -/
def dotAt (D : List Dot) (i : Nat) : Dot := D.getD i default
theorem dotAt_mem {D : List Dot} {i : Nat} (h : i < D.length) : dotAt D i ∈ D := by
  rw [dotAt, List.getD, List.getElem?_eq_getElem h]
  exact List.getElem_mem _
theorem dotAt_lt {D : List Dot} {i : Nat} (h : i < D.length) : dotAt D i = D[i] := by
  rw [dotAt, List.getD, List.getElem?_eq_getElem h]; rfl
theorem take_dot {D : List Dot} {k : Nat} (h : k < D.length) : D.take (k + 1) = D.take k ++ [dotAt D k] := by
  rw [List.take_succ_eq_append_getElem h, dotAt_lt h]
/-- the rectangle around dots -/
def boxF (D : List Dot) : Int × Int × Int × Int :=
  (mnF Dot.x (dotAt D 0).x D, mnF Dot.y (dotAt D 0).y D, mxF Dot.x (dotAt D 0).x D - mnF Dot.x (dotAt D 0).x D, mxF Dot.y (dotAt D 0).y D - mnF Dot.y (dotAt D 0).y D)
theorem mn_first (f : Dot → Int) (c : Int) {D : List Dot} (hn : D ≠ []) (h : ∀ d ∈ D, f d ≤ c) : mnF f c D = mnF f (f (dotAt D 0)) D := by
  have h0 : dotAt D 0 ∈ D := dotAt_mem (List.length_pos_iff.2 hn)
  obtain ⟨a1, a2, a3⟩ := mnF_spec f D c
  obtain ⟨b1, b2, b3⟩ := mnF_spec f D (f (dotAt D 0))
  have k1 : mnF f c D ≤ mnF f (f (dotAt D 0)) D := by
    rcases b3 with b3 | ⟨d, hd, b3⟩
    · rw [b3]; exact a2 _ h0
    · rw [b3]; exact a2 _ hd
  have k2 : mnF f (f (dotAt D 0)) D ≤ mnF f c D := by
    rcases a3 with a3 | ⟨d, hd, a3⟩
    · rw [a3]; have := h _ h0; omega
    · rw [a3]; exact b2 _ hd
  omega
theorem mx_first (f : Dot → Int) (c : Int) {D : List Dot} (hn : D ≠ []) (h : ∀ d ∈ D, c ≤ f d) : mxF (fun d => f d - c) 0 D = mxF f (f (dotAt D 0)) D - c := by
  have h0 : dotAt D 0 ∈ D := dotAt_mem (List.length_pos_iff.2 hn)
  obtain ⟨a1, a2, a3⟩ := mxF_spec (fun d => f d - c) D 0
  obtain ⟨b1, b2, b3⟩ := mxF_spec f D (f (dotAt D 0))
  have k1 : mxF f (f (dotAt D 0)) D - c ≤ mxF (fun d => f d - c) 0 D := by
    rcases b3 with b3 | ⟨d, hd, b3⟩
    · rw [b3]; exact a2 _ h0
    · rw [b3]; exact a2 _ hd
  have k2 : mxF (fun d => f d - c) 0 D ≤ mxF f (f (dotAt D 0)) D - c := by
    rcases a3 with a3 | ⟨d, hd, a3⟩
    · rw [a3]; have := h _ h0; omega
    · rw [a3]; have := b2 _ hd; omega
  omega
/-- how far from a dot to the next one -/
def stp (a b : Dot) : Int := maxI (maxI (maxI (a.x - b.x) (b.x - a.x)) (a.y - b.y)) (b.y - a.y)
def sizeI (n : Int) : Int := if n < 0 then -n else n
theorem stp_ref (a b : Dot) : maxI (sizeI (b.x - a.x)) (sizeI (b.y - a.y)) = stp a b := by
  unfold stp maxI sizeI
  (repeat' split) <;> omega
theorem stp_self (a : Dot) : stp a a = 0 := by unfold stp maxI; (repeat' split) <;> omega
theorem stp_bd {a b : Dot} (h1 : placeB a.x a.y = true) (h2 : placeB b.x b.y = true) : 0 ≤ stp a b ∧ stp a b ≤ 4095 := by
  have h1 := placeB_iff.1 h1
  have h2 := placeB_iff.1 h2
  unfold stp maxI
  (repeat' split) <;> omega
/-- the ends of the pieces: the next dot, or the last one -/
def nx (D : List Dot) (i : Nat) : Nat := min (i + 1) (D.length - 1)
def wayTo (D : List Dot) : Nat → Int
  | 0 => 0
  | k + 1 => wayTo D k + stp (dotAt D k) (dotAt D (nx D k))
def wayF (D : List Dot) : Int := wayTo D (D.length - 1)
theorem way_pieces {D : List Dot} (h : 1 ≤ D.length) : wayTo D (max (D.length - 1) 1) = wayF D := by
  by_cases h1 : D.length = 1
  · rw [wayF, h1]
    show 0 + stp (dotAt D 0) (dotAt D (nx D 0)) = 0
    rw [show nx D 0 = 0 by unfold nx; omega, stp_self]; rfl
  · rw [wayF, show max (D.length - 1) 1 = D.length - 1 by omega]
theorem way_bd {D : List Dot} (hd : ∀ d ∈ D, placeB d.x d.y = true) : ∀ k, k ≤ D.length → 0 ≤ wayTo D k ∧ wayTo D k ≤ 4095 * (k : Int)
  | 0, _ => by simp [wayTo]
  | k + 1, h => by
    have h1 := way_bd hd k (by omega)
    have h2 := stp_bd (hd _ (dotAt_mem (D := D) (i := k) (by omega))) (hd _ (dotAt_mem (D := D) (i := nx D k) (by unfold nx; omega)))
    rw [wayTo]
    omega

/-! near a line, near a stroke -/
def nearD (a b p : Dot) (z : Int) : Bool := nearI a.x a.y b.x b.y p.x p.y z
/-- Near, as it is exported -/
def nearB (ax ay bx b_y px py z : Int) : Bool := placeB ax ay && placeB bx b_y && placeB px py && isInB z 0 1000 && nearI ax ay bx b_y px py z
def withinTo (D : List Dot) (px py z : Int) : Nat → Bool
  | 0 => false
  | k + 1 => withinTo D px py z k || nearB (dotAt D k).x (dotAt D k).y (dotAt D (nx D k)).x (dotAt D (nx D k)).y px py z
def withinF (D : List Dot) (px py z : Int) : Bool := withinTo D px py z (max (D.length - 1) 1)
/-- who is near the end of a line is near the line -/
theorem near_end {ax ay bx b_y px py z : Int} (h : nearI bx b_y bx b_y px py z = true) : nearI ax ay bx b_y px py z = true := by
  rw [near_eq] at h ⊢
  unfold nearR at h ⊢
  by_cases hc : sq bx b_y px py ≤ z * z
  · rw [if_pos (.inr hc)]
  · rw [if_neg (by omega), if_pos (by unfold sq; simp)] at h
    cases h
theorem within_ref {D : List Dot} (px py z : Int) (h : 1 ≤ D.length) (hd : ∀ d ∈ D, placeB d.x d.y = true) : withinTo D px py z D.length = withinF D px py z := by
  by_cases h1 : D.length = 1
  · rw [withinF, h1]; rfl
  · obtain ⟨m, hm⟩ : ∃ m, D.length = m + 2 := ⟨D.length - 2, by omega⟩
    rw [withinF, show max (D.length - 1) 1 = D.length - 1 by omega, hm]
    show withinTo D px py z (m + 1 + 1) = withinTo D px py z (m + 1)
    rw [withinTo]
    have e1 : nx D (m + 1) = m + 1 := by unfold nx; omega
    have e2 : nx D m = m + 1 := by unfold nx; omega
    rw [e1]
    cases hb : nearB (dotAt D (m + 1)).x (dotAt D (m + 1)).y (dotAt D (m + 1)).x (dotAt D (m + 1)).y px py z with
    | false => simp
    | true =>
      rw [Bool.or_true]
      rw [withinTo, e2]
      simp only [nearB, Bool.and_eq_true] at hb
      rw [nearB, hd _ (dotAt_mem (by omega)), hb.1.1.1.2, hb.1.1.2, hb.1.2, near_end hb.2]
      simp
end Go.Proofs.Ytgopadbdnndkiaa.Str
namespace Go.Proofs.Ytgopadbdnndkiaa
namespace Str
/-- a picked number (pick of the reference and of the laws) -/
def pick_ (c n : Int) : Int := (if c < 0 then -(c + 1) else c) % n
theorem pick_bd (c : Int) {n : Int} (h : 0 < n) : 0 ≤ pick_ c n ∧ pick_ c n < n := ⟨Int.emod_nonneg _ (by omega), Int.emod_lt_of_pos _ h⟩
/-- three drawn numbers -/
structure E3 where
  a : Int
  b : Int
  c : Int
/-- the next dot of a made stroke -/
def madeN (d : Dot) (e : E3) : Dot :=
  ⟨max 0 (min 4095 (d.x + pick_ e.a 401 - 200)), max 0 (min 4095 (d.y + pick_ e.b 401 - 200)), d.t + pick_ e.c 50, pick_ e.c 101⟩
/-- the first dot; m is the first number times 37, as the machine holds it -/
def made0 (a b m : Int) : Dot := ⟨1000 + pick_ b 2000, 1000 + pick_ m 2000, pick_ a 500, 0⟩
def madeR : Dot → List E3 → List Dot
  | _, [] => []
  | d, e :: r => madeN d e :: madeR (madeN d e) r
def madeD (a b m : Int) (es : List E3) : List Dot := made0 a b m :: madeR (made0 a b m) (es.take 23)
theorem madeR_length (d : Dot) (es : List E3) : (madeR d es).length = es.length := by
  induction es generalizing d with
  | nil => rfl
  | cons e r ih => simp [madeR, ih]
/-- the last dot of a walk -/
def lastD (d : Dot) (es : List E3) : Dot := es.foldl madeN d
theorem madeR_snoc (d : Dot) (es : List E3) (e : E3) : madeR d (es ++ [e]) = madeR d es ++ [madeN (lastD d es) e] := by
  induction es generalizing d with
  | nil => rfl
  | cons f r ih => simp [madeR, lastD, ih]
theorem lastD_snoc (d : Dot) (es : List E3) (e : E3) : lastD d (es ++ [e]) = madeN (lastD d es) e := by simp [lastD, List.foldl_append]
theorem madeD_length (a b m : Int) (es : List E3) : (madeD a b m es).length = 1 + min 23 es.length := by
  rw [madeD, List.length_cons, madeR_length, List.length_take]; omega
/-- a dot whose time is at most c -/
def DotOk (c : Int) (d : Dot) : Prop := (0 ≤ d.x ∧ d.x ≤ 4095) ∧ (0 ≤ d.y ∧ d.y ≤ 4095) ∧ (0 ≤ d.t ∧ d.t ≤ c) ∧ 0 ≤ d.p ∧ d.p ≤ 100
theorem made0_ok (a b m : Int) : DotOk 500 (made0 a b m) := by
  have h1 := pick_bd b (n := 2000) (by omega)
  have h2 := pick_bd m (n := 2000) (by omega)
  have h3 := pick_bd a (n := 500) (by omega)
  refine ⟨⟨?_, ?_⟩, ⟨?_, ?_⟩, ⟨?_, ?_⟩, ?_, ?_⟩ <;> simp only [made0] <;> omega
theorem madeN_ok {c : Int} {d : Dot} (h : DotOk c d) (e : E3) : DotOk (c + 50) (madeN d e) ∧ d.t ≤ (madeN d e).t := by
  obtain ⟨⟨x0, x1⟩, ⟨y0, y1⟩, ⟨t0, t1⟩, p0, p1⟩ := h
  have h1 := pick_bd e.a (n := 401) (by omega)
  have h2 := pick_bd e.b (n := 401) (by omega)
  have h3 := pick_bd e.c (n := 50) (by omega)
  have h4 := pick_bd e.c (n := 101) (by omega)
  refine ⟨⟨⟨?_, ?_⟩, ⟨?_, ?_⟩, ⟨?_, ?_⟩, ?_, ?_⟩, ?_⟩ <;> simp only [madeN] <;> omega
theorem madeR_ok {c : Int} {d : Dot} (h : DotOk c d) (es : List E3) (hc : c + 50 * es.length ≤ 1000000) : dotsB d.t (madeR d es) = true := by
  induction es generalizing d c with
  | nil => rfl
  | cons e r ih =>
    obtain ⟨h1, h2⟩ := madeN_ok h e
    rw [List.length_cons] at hc
    have hc2 : c + 50 + 50 * (r.length : Int) ≤ 1000000 := by omega
    rw [madeR, dotsB, ih h1 hc2, Bool.and_true, dotB_iff]
    obtain ⟨a1, a2, a3, a4⟩ := h1
    exact ⟨⟨a1, a2⟩, ⟨h2, by omega⟩, a4⟩
theorem lastD_ok {c : Int} {d : Dot} (h : DotOk c d) (es : List E3) : DotOk (c + 50 * es.length) (lastD d es) := by
  induction es generalizing d c with
  | nil => simpa [lastD] using h
  | cons e r ih =>
    have h1 := ih (madeN_ok h e).1
    rw [List.length_cons, show c + 50 * ((r.length + 1 : Nat) : Int) = c + 50 + 50 * (r.length : Int) by omega]
    exact h1
/-- a made stroke is a stroke -/
theorem made_valid (a b m : Int) (es : List E3) : validB (pick_ a 40) (1 + pick_ b 999) (madeD a b m es) = true := by
  have h1 := pick_bd a (n := 40) (by omega)
  have h2 := pick_bd b (n := 999) (by omega)
  have hl := madeD_length a b m es
  have hk := made0_ok a b m
  have hr : dotsB (made0 a b m).t (madeR (made0 a b m) (es.take 23)) = true := madeR_ok hk _ (by rw [List.length_take]; omega)
  rw [validB, Bool.and_eq_true]
  refine ⟨headB_iff.2 ⟨⟨?_, ?_⟩, ⟨?_, ?_⟩, ?_, ?_⟩, ?_⟩
  · omega
  · omega
  · omega
  · omega
  · omega
  · omega
  · rw [madeD, dotsB, hr, Bool.and_true, dotB_iff]
    obtain ⟨a1, a2, ⟨a3, a4⟩, a5⟩ := hk
    exact ⟨⟨a1, a2⟩, ⟨a3, by omega⟩, a5⟩
end Str
end Go.Proofs.Ytgopadbdnndkiaa
namespace Go.Proofs.Ytgopadbdnndkiaa
open Go.RowKit
theorem keep_alloc {W : World} {a : Addr} {v : Value} (o : Obj) (h : W.cell? a = some v) : (W.alloc o).cell? a = some v := ((Below.refl W.heap.size W).alloc (Nat.le_refl _) o).cell (World.block_lt_of_cell? _ _ h) |>.trans h
theorem cell_then {w wx : World} {a : Addr} {v : Value} (hb : Below w.heap.size w wx) (h : w.cell? a = some v) : wx.cell? a = some v := (hb.cell (World.block_lt_of_cell? _ _ h)).trans h
theorem below_next {a b c : World} {B : Nat} (h : Below B a b) (k : Below b.heap.size b c) (hB : B ≤ a.heap.size := by exact Nat.le_refl _) : Below B a c := h.trans (k.mono (Nat.le_trans hB h.size))
theorem below_alloc {a w : World} (h : Below a.heap.size a w) (o : Obj) : Below a.heap.size a (w.alloc o) := h.alloc h.size o
theorem both {p q p' q' : Prop} (h1 : p → p') (h2 : q → q') (h : p ∧ q) : p' ∧ q' := ⟨h1 h.1, h2 h.2⟩
theorem var_then {w wx : World} {a : Addr} {v : Value} (hb : Below w.heap.size w wx) (h : w.cell? a = some v ∧ w.frozen? a = false) : wx.cell? a = some v ∧ wx.frozen? a = false :=
  ⟨cell_then hb h.1, (hb.frozen (World.block_lt_of_cell? _ _ h.1)).trans h.2⟩
theorem bcell {W w1 : World} (hb : Below W.heap.size W w1) : (∀ b o, b < W.heap.size → w1.cell? ⟨b, o, none⟩ = W.cell? ⟨b, o, none⟩) ∧ (∀ b o, b < W.heap.size → w1.frozen? ⟨b, o, none⟩ = W.frozen? ⟨b, o, none⟩) :=
  ⟨fun b o h => hb.cell (p := ⟨b, o, none⟩) h, fun b o h => hb.frozen (p := ⟨b, o, none⟩) h⟩
theorem ret_bool {a b : Bool} (h : a = b) : Ending.returned (.bool a) = .returned (.bool b) := by rw [h]
theorem ret_int {k : IntKind} {a b : Int} (h : a = b) : Ending.returned (.int k a) = .returned (.int k b) := by rw [h]
theorem cell_set {w : World} {a p : Addr} {v : Value} (x : Value) (h : w.cell? a = some v) (hne : a.block ≠ p.block) : (w.setCell p x).cell? a = some v :=
  (World.cell?_setCell_other w p a x (fun e => hne (by rw [e]))).trans h

theorem and_then {p q : Prop} (h : p) (k : p → q) : p ∧ q := ⟨h, k h⟩
/-- what a cell holds, as a word of its own -/
@[irreducible] def curV (w : World) (a : Addr) : Value := (w.cell? a).getD undef
theorem curV_spec {w : World} {a : Addr} {v : Value} (h : w.cell? a = some v) : w.cell? a = some (curV w a) := by unfold curV; rw [h]; rfl
/-- n cells that may be written; what they hold is left open -/
def VarN (w : World) (g n : Nat) : Prop := ∀ i, i < n → (∃ v, w.cell? ⟨g, i, none⟩ = some v) ∧ w.frozen? ⟨g, i, none⟩ = false
@[irreducible] def Var1 (w : World) (g : Nat) : Prop := VarN w g 1
@[irreducible] def Var2 (w : World) (g : Nat) : Prop := VarN w g 2
@[irreducible] def Var3 (w : World) (g : Nat) : Prop := VarN w g 3
@[irreducible] def Var4 (w : World) (g : Nat) : Prop := VarN w g 4
section
variable {w wx : World} {g n : Nat}
theorem VarN.cell (h : VarN w g n) {i : Nat} (hi : i < n) : w.cell? ⟨g, i, none⟩ = some (curV w ⟨g, i, none⟩) := by
  obtain ⟨⟨v, h1⟩, _⟩ := h i hi
  exact curV_spec h1
theorem VarN.then_ (h : VarN w g n) (hb : Below w.heap.size w wx) : VarN wx g n := fun i hi => by
  obtain ⟨⟨v, h1⟩, h2⟩ := h i hi
  have := var_then hb ⟨h1, h2⟩
  exact ⟨⟨v, this.1⟩, this.2⟩
theorem frozen_set (w : World) (p a : Addr) (x : Value) : (w.setCell p x).frozen? a = w.frozen? a := by simp [go_sem]
theorem VarN.set_ (h : VarN w g n) (p : Addr) (x : Value) : VarN (w.setCell p x) g n := fun i hi => by
  obtain ⟨⟨v, h1⟩, h2⟩ := h i hi
  refine ⟨cell?_setCell_some h1, ?_⟩
  rw [frozen_set]; exact h2
theorem VarN.alloc (h : VarN w g n) (o : Obj) : VarN (w.alloc o) g n := h.then_ ((Below.refl _ _).alloc (Nat.le_refl _) o)
theorem VarN.of (h : ∀ i, i < n → ∃ v, w.cell? ⟨g, i, none⟩ = some v ∧ w.frozen? ⟨g, i, none⟩ = false) : VarN w g n := fun i hi => by
  obtain ⟨v, h1, h2⟩ := h i hi
  exact ⟨⟨v, h1⟩, h2⟩
end
section
variable {w wx : World} {g : Nat}
theorem Var1.c0 (h : Var1 w g) : w.cell? ⟨g, 0, none⟩ = some (curV w ⟨g, 0, none⟩) := by unfold Var1 at h; exact h.cell (by omega)
theorem Var1.f0 (h : Var1 w g) : w.frozen? ⟨g, 0, none⟩ = false := by unfold Var1 at h; exact (h 0 (by omega)).2
theorem Var1.then_ (h : Var1 w g) (hb : Below w.heap.size w wx) : Var1 wx g := by unfold Var1 at h ⊢; exact VarN.then_ h hb
theorem Var1.set_ (h : Var1 w g) (p : Addr) (x : Value) : Var1 (w.setCell p x) g := by unfold Var1 at h ⊢; exact VarN.set_ h p x
theorem Var1.alloc (h : Var1 w g) (o : Obj) : Var1 (w.alloc o) g := by unfold Var1 at h ⊢; exact VarN.alloc h o
theorem Var1.drew (h : Var1 w g) : Var1 w.drew g := by unfold Var1 at h ⊢; exact h
theorem Var1.of {v0 : Value} (c0 : w.cell? ⟨g, 0, none⟩ = some v0 ∧ w.frozen? ⟨g, 0, none⟩ = false) : Var1 w g := by
  unfold Var1
  refine VarN.of fun i hi => ?_
  obtain rfl : i = 0 := by omega
  exact ⟨_, c0⟩
end
section
variable {w wx : World} {g : Nat}
theorem Var2.c0 (h : Var2 w g) : w.cell? ⟨g, 0, none⟩ = some (curV w ⟨g, 0, none⟩) := by unfold Var2 at h; exact h.cell (by omega)
theorem Var2.f0 (h : Var2 w g) : w.frozen? ⟨g, 0, none⟩ = false := by unfold Var2 at h; exact (h 0 (by omega)).2
theorem Var2.c1 (h : Var2 w g) : w.cell? ⟨g, 1, none⟩ = some (curV w ⟨g, 1, none⟩) := by unfold Var2 at h; exact h.cell (by omega)
theorem Var2.f1 (h : Var2 w g) : w.frozen? ⟨g, 1, none⟩ = false := by unfold Var2 at h; exact (h 1 (by omega)).2
theorem Var2.then_ (h : Var2 w g) (hb : Below w.heap.size w wx) : Var2 wx g := by unfold Var2 at h ⊢; exact VarN.then_ h hb
theorem Var2.set_ (h : Var2 w g) (p : Addr) (x : Value) : Var2 (w.setCell p x) g := by unfold Var2 at h ⊢; exact VarN.set_ h p x
theorem Var2.alloc (h : Var2 w g) (o : Obj) : Var2 (w.alloc o) g := by unfold Var2 at h ⊢; exact VarN.alloc h o
theorem Var2.drew (h : Var2 w g) : Var2 w.drew g := by unfold Var2 at h ⊢; exact h
theorem Var2.of {v0 : Value} (c0 : w.cell? ⟨g, 0, none⟩ = some v0 ∧ w.frozen? ⟨g, 0, none⟩ = false) {v1 : Value} (c1 : w.cell? ⟨g, 1, none⟩ = some v1 ∧ w.frozen? ⟨g, 1, none⟩ = false) : Var2 w g := by
  unfold Var2
  refine VarN.of fun i hi => ?_
  rcases (show i = 0 ∨ i = 1 by omega) with rfl | rfl
  · exact ⟨_, c0⟩
  · exact ⟨_, c1⟩
end
section
variable {w wx : World} {g : Nat}
theorem Var3.c0 (h : Var3 w g) : w.cell? ⟨g, 0, none⟩ = some (curV w ⟨g, 0, none⟩) := by unfold Var3 at h; exact h.cell (by omega)
theorem Var3.f0 (h : Var3 w g) : w.frozen? ⟨g, 0, none⟩ = false := by unfold Var3 at h; exact (h 0 (by omega)).2
theorem Var3.c1 (h : Var3 w g) : w.cell? ⟨g, 1, none⟩ = some (curV w ⟨g, 1, none⟩) := by unfold Var3 at h; exact h.cell (by omega)
theorem Var3.f1 (h : Var3 w g) : w.frozen? ⟨g, 1, none⟩ = false := by unfold Var3 at h; exact (h 1 (by omega)).2
theorem Var3.c2 (h : Var3 w g) : w.cell? ⟨g, 2, none⟩ = some (curV w ⟨g, 2, none⟩) := by unfold Var3 at h; exact h.cell (by omega)
theorem Var3.f2 (h : Var3 w g) : w.frozen? ⟨g, 2, none⟩ = false := by unfold Var3 at h; exact (h 2 (by omega)).2
theorem Var3.then_ (h : Var3 w g) (hb : Below w.heap.size w wx) : Var3 wx g := by unfold Var3 at h ⊢; exact VarN.then_ h hb
theorem Var3.set_ (h : Var3 w g) (p : Addr) (x : Value) : Var3 (w.setCell p x) g := by unfold Var3 at h ⊢; exact VarN.set_ h p x
theorem Var3.alloc (h : Var3 w g) (o : Obj) : Var3 (w.alloc o) g := by unfold Var3 at h ⊢; exact VarN.alloc h o
theorem Var3.drew (h : Var3 w g) : Var3 w.drew g := by unfold Var3 at h ⊢; exact h
theorem Var3.of {v0 : Value} (c0 : w.cell? ⟨g, 0, none⟩ = some v0 ∧ w.frozen? ⟨g, 0, none⟩ = false) {v1 : Value} (c1 : w.cell? ⟨g, 1, none⟩ = some v1 ∧ w.frozen? ⟨g, 1, none⟩ = false) {v2 : Value} (c2 : w.cell? ⟨g, 2, none⟩ = some v2 ∧ w.frozen? ⟨g, 2, none⟩ = false) : Var3 w g := by
  unfold Var3
  refine VarN.of fun i hi => ?_
  rcases (show i = 0 ∨ i = 1 ∨ i = 2 by omega) with rfl | rfl | rfl
  · exact ⟨_, c0⟩
  · exact ⟨_, c1⟩
  · exact ⟨_, c2⟩
end
section
variable {w wx : World} {g : Nat}
theorem Var4.c0 (h : Var4 w g) : w.cell? ⟨g, 0, none⟩ = some (curV w ⟨g, 0, none⟩) := by unfold Var4 at h; exact h.cell (by omega)
theorem Var4.f0 (h : Var4 w g) : w.frozen? ⟨g, 0, none⟩ = false := by unfold Var4 at h; exact (h 0 (by omega)).2
theorem Var4.c1 (h : Var4 w g) : w.cell? ⟨g, 1, none⟩ = some (curV w ⟨g, 1, none⟩) := by unfold Var4 at h; exact h.cell (by omega)
theorem Var4.f1 (h : Var4 w g) : w.frozen? ⟨g, 1, none⟩ = false := by unfold Var4 at h; exact (h 1 (by omega)).2
theorem Var4.c2 (h : Var4 w g) : w.cell? ⟨g, 2, none⟩ = some (curV w ⟨g, 2, none⟩) := by unfold Var4 at h; exact h.cell (by omega)
theorem Var4.f2 (h : Var4 w g) : w.frozen? ⟨g, 2, none⟩ = false := by unfold Var4 at h; exact (h 2 (by omega)).2
theorem Var4.c3 (h : Var4 w g) : w.cell? ⟨g, 3, none⟩ = some (curV w ⟨g, 3, none⟩) := by unfold Var4 at h; exact h.cell (by omega)
theorem Var4.f3 (h : Var4 w g) : w.frozen? ⟨g, 3, none⟩ = false := by unfold Var4 at h; exact (h 3 (by omega)).2
theorem Var4.then_ (h : Var4 w g) (hb : Below w.heap.size w wx) : Var4 wx g := by unfold Var4 at h ⊢; exact VarN.then_ h hb
theorem Var4.set_ (h : Var4 w g) (p : Addr) (x : Value) : Var4 (w.setCell p x) g := by unfold Var4 at h ⊢; exact VarN.set_ h p x
theorem Var4.alloc (h : Var4 w g) (o : Obj) : Var4 (w.alloc o) g := by unfold Var4 at h ⊢; exact VarN.alloc h o
theorem Var4.drew (h : Var4 w g) : Var4 w.drew g := by unfold Var4 at h ⊢; exact h
theorem Var4.of {v0 : Value} (c0 : w.cell? ⟨g, 0, none⟩ = some v0 ∧ w.frozen? ⟨g, 0, none⟩ = false) {v1 : Value} (c1 : w.cell? ⟨g, 1, none⟩ = some v1 ∧ w.frozen? ⟨g, 1, none⟩ = false) {v2 : Value} (c2 : w.cell? ⟨g, 2, none⟩ = some v2 ∧ w.frozen? ⟨g, 2, none⟩ = false) {v3 : Value} (c3 : w.cell? ⟨g, 3, none⟩ = some v3 ∧ w.frozen? ⟨g, 3, none⟩ = false) : Var4 w g := by
  unfold Var4
  refine VarN.of fun i hi => ?_
  rcases (show i = 0 ∨ i = 1 ∨ i = 2 ∨ i = 3 by omega) with rfl | rfl | rfl | rfl
  · exact ⟨_, c0⟩
  · exact ⟨_, c1⟩
  · exact ⟨_, c2⟩
  · exact ⟨_, c3⟩
end
theorem Var1.new (w : World) (v0 : Value) (t : TypeId) : Var1 (w.alloc (.cells #[v0] t)) w.heap.size :=
  Var1.of (v0 := v0) (by simp [go_sem])
theorem Var2.new (w : World) (v0 v1 : Value) (t : TypeId) : Var2 (w.alloc (.cells #[v0, v1] t)) w.heap.size :=
  Var2.of (v0 := v0) (by simp [go_sem]) (v1 := v1) (by simp [go_sem])
theorem Var3.new (w : World) (v0 v1 v2 : Value) (t : TypeId) : Var3 (w.alloc (.cells #[v0, v1, v2] t)) w.heap.size :=
  Var3.of (v0 := v0) (by simp [go_sem]) (v1 := v1) (by simp [go_sem]) (v2 := v2) (by simp [go_sem])
theorem Var4.new (w : World) (v0 v1 v2 v3 : Value) (t : TypeId) : Var4 (w.alloc (.cells #[v0, v1, v2, v3] t)) w.heap.size :=
  Var4.of (v0 := v0) (by simp [go_sem]) (v1 := v1) (by simp [go_sem]) (v2 := v2) (by simp [go_sem]) (v3 := v3) (by simp [go_sem])
theorem Var2.set2 {w : World} {g : Nat} (h : Var2 w g) (p q : Addr) (x y : Value) : Var2 ((w.setCell p x).setCell q y) g := (h.set_ p x).set_ q y
theorem Var2.new_set2 (w : World) (v0 v1 : Value) (t : TypeId) (p q : Addr) (x y : Value) : Var2 (((w.alloc (.cells #[v0, v1] t)).setCell p x).setCell q y) w.heap.size := (Var2.new w v0 v1 t).set2 p q x y
theorem Var2.alloc_set2 {w : World} {g : Nat} (h : Var2 w g) (o : Obj) (p q : Addr) (x y : Value) : Var2 (((w.alloc o).setCell p x).setCell q y) g := (h.alloc o).set2 p q x y
theorem Var1.s0 {w : World} {g : Nat} (h : Var1 w g) (x : Value) : (w.setCell ⟨g, 0, none⟩ x).cell? ⟨g, 0, none⟩ = some x := by simp [go_sem, h.c0]
theorem Var2.s0 {w : World} {g : Nat} (h : Var2 w g) (x : Value) : (w.setCell ⟨g, 0, none⟩ x).cell? ⟨g, 0, none⟩ = some x := by simp [go_sem, h.c0]
theorem Var2.s1 {w : World} {g : Nat} (h : Var2 w g) (x : Value) : (w.setCell ⟨g, 1, none⟩ x).cell? ⟨g, 1, none⟩ = some x := by simp [go_sem, h.c1]
theorem Var3.s0 {w : World} {g : Nat} (h : Var3 w g) (x : Value) : (w.setCell ⟨g, 0, none⟩ x).cell? ⟨g, 0, none⟩ = some x := by simp [go_sem, h.c0]
theorem Var3.s1 {w : World} {g : Nat} (h : Var3 w g) (x : Value) : (w.setCell ⟨g, 1, none⟩ x).cell? ⟨g, 1, none⟩ = some x := by simp [go_sem, h.c1]
theorem Var3.s2 {w : World} {g : Nat} (h : Var3 w g) (x : Value) : (w.setCell ⟨g, 2, none⟩ x).cell? ⟨g, 2, none⟩ = some x := by simp [go_sem, h.c2]
theorem Var4.s0 {w : World} {g : Nat} (h : Var4 w g) (x : Value) : (w.setCell ⟨g, 0, none⟩ x).cell? ⟨g, 0, none⟩ = some x := by simp [go_sem, h.c0]
theorem Var4.s1 {w : World} {g : Nat} (h : Var4 w g) (x : Value) : (w.setCell ⟨g, 1, none⟩ x).cell? ⟨g, 1, none⟩ = some x := by simp [go_sem, h.c1]
theorem Var4.s2 {w : World} {g : Nat} (h : Var4 w g) (x : Value) : (w.setCell ⟨g, 2, none⟩ x).cell? ⟨g, 2, none⟩ = some x := by simp [go_sem, h.c2]
theorem Var4.s3 {w : World} {g : Nat} (h : Var4 w g) (x : Value) : (w.setCell ⟨g, 3, none⟩ x).cell? ⟨g, 3, none⟩ = some x := by simp [go_sem, h.c3]
theorem cell_off {w : World} {g i j : Nat} {v : Value} (x : Value) (h : w.cell? ⟨g, i, none⟩ = some v) (hne : i ≠ j) : (w.setCell ⟨g, j, none⟩ x).cell? ⟨g, i, none⟩ = some v :=
  (World.cell?_setCell_other w _ _ x (fun e => hne (by injection e; omega))).trans h
theorem new_cell {w : World} {l : Array Value} {t : TypeId} {i : Nat} {v : Value} (h : l[i]? = some v) : (w.alloc (.cells l t)).cell? ⟨w.heap.size, i, none⟩ = some v := by simp [go_sem, h]
theorem new_cell' {w : World} {o : Obj} {l : Array Value} {t : TypeId} {i : Nat} {v : Value} (h : l[i]? = some v) : ((w.alloc o).alloc (.cells l t)).cell? ⟨w.heap.size + 1, i, none⟩ = some v := by
  have := new_cell (w := w.alloc o) (t := t) h
  simpa using this
theorem Var2.new' (w : World) (o : Obj) (v0 v1 : Value) (t : TypeId) : Var2 ((w.alloc o).alloc (.cells #[v0, v1] t)) (w.heap.size + 1) := by
  have := Var2.new (w.alloc o) v0 v1 t
  simpa using this
theorem ne_new {w : World} {g i : Nat} {v : Value} (h : w.cell? ⟨g, i, none⟩ = some v) : g ≠ w.heap.size := Nat.ne_of_lt (World.block_lt_of_cell? w ⟨g, i, none⟩ h)
theorem lt_size {w : World} {g i : Nat} {v : Value} (h : w.cell? ⟨g, i, none⟩ = some v) : g < w.heap.size := World.block_lt_of_cell? w ⟨g, i, none⟩ h
end Go.Proofs.Ytgopadbdnndkiaa
namespace Go.Proofs.Ytgopadbdnndkiaa
open Go.ChangeShapes Go.WideShapes Go.ChangeAt Go.RowKit Str
theorem own : ownKnob Try.prog.godebug = none := by kernel_rfl
theorem laidOut : laidOutB Try.prog = true := by kernel_rfl
/-- the post of a row out of 'nothing that lay has turned' -/
theorem post_below {H : Type} {enc : TypeId × Value → H} {P : Program} {f : Func} {s : ChangeSpec} {apart fresh handsOn again : Bool} {W W' : World} {args : Array Value} {v : Value} {ds gs : List (DataW H)} {before pa pv : List MemPlace}
    (hW : DataW.Whole enc P f.params.toList s.vars apart W args.toList ds gs before)
    (hres : ∀ (b : Nat) (sp : Nat → Bool) (hd : Bool), DataW.TrodAll enc P W' b sp hd f.resultTypes.toList (v.resultList f.resultTypes.size) (s.fn H (ds ++ gs)).results [])
    (hargs : ∀ sp : Nat → Bool, (∀ p ∈ before, sp p.block = true) → DataW.TrodAll enc P W' 0 sp true f.params.toList args.toList (s.fn H (ds ++ gs)).args pa)
    (hvars : ∀ sp : Nat → Bool, (∀ p ∈ before, sp p.block = true) → DataW.TrodVars enc P W' sp s.vars (s.fn H (ds ++ gs)).vars pv)
    (hps : before = pa ++ pv) (hb : Below W.heap.size W W')
    (hok : ∀ (j : Nat) (t : TypeId) (r : Value), f.resultTypes[j]? = some t → (v.resultList f.resultTypes.size)[j]? = some r → Value.okWide P W' .any 0 t r) :
    s.post enc P f apart fresh handsOn again W args v W' := by
  have hlt : ∀ p ∈ before, p.block < W.heap.size := fun p hp => hW.lt p hp
  have hold : ∀ p ∈ before, (fun b => decide (b < W.heap.size)) p.block = true := fun p hp => decide_eq_true (hlt p hp)
  have hin : ∀ p ∈ before, p ∈ pa ++ pv := fun p hp => hps ▸ hp
  have hin' : ∀ p ∈ pa ++ pv, p ∈ before := fun p hp => hps ▸ hp
  refine ⟨ds, gs, before, [], pa, pv, hW, hres _ _ _, hargs _ hold, hvars _ hold, ?_, ?_⟩
  · exact World.keptBut_mono (fun p hp => ⟨hp, .inr (List.mem_append.1 (hin p hp))⟩) (hb.frame (· ∈ before))
  · intro _
    obtain ⟨_, _, _, _, _, hz, hn⟩ := hW
    refine ⟨hok, _, _, ([] ++ pa) ++ pv, ⟨[] ++ pa, pv, trodAll_append (hargs _ (fun _ _ => rfl)) (hres _ _ _), hvars _ (fun _ _ => rfl), rfl, ?_, ?_⟩, ?_⟩
    · intro b off hp
      have hp' : MemPlace.cell b off ∈ before := hin' _ (by simpa using hp)
      rw [hb.frozen (hlt _ hp')]
      exact hz b off hp'
    · intro ha
      simpa [hps] using hn ha
    · intro p hp _
      exact hin' _ (by simpa using hp)

/-- arguments below the old heap's end read as they did -/
theorem args_stay {H : Type} {enc : TypeId × Value → H} {P : Program} (hl : laidOutB P = true) {W W' : World} (hb : Below W.heap.size W W') (sp : Nat → Bool) :
    ∀ (ts : List TypeId) (vs : List Value) (ds : List (DataW H)) (ps : List MemPlace), (∀ t ∈ ts, P.readableRec t = true ∧ t < P.types.size) → DataW.TrodAll enc P W 0 (fun _ => true) true ts vs ds ps →
      (∀ x ∈ ps, x.block < W.heap.size) → (∀ x ∈ ps, sp x.block = true) → DataW.TrodAll enc P W' 0 sp true ts vs ds ps
  | [], vs, ds, ps, _, h, _, _ => by obtain ⟨rfl, rfl, rfl⟩ := trodAll_nil h; exact h
  | t :: ts, vs, ds, ps, hr, h, hlt, hsp => by
    obtain ⟨v, vs', d, ds', p, q, rfl, rfl, rfl, h1, h2⟩ := trodAll_cons h
    exact trodAll_cons_mk (WideElems.Trod_stays hl (hr t (by simp)).1 (hr t (by simp)).2 h1 (fun x hx => hb.same (hlt x (by simp [hx]))) (fun x hx => hsp x (by simp [hx])))
      (args_stay hl hb sp ts vs' ds' q (fun t ht => hr t (by simp [ht])) h2 (fun x hx => hlt x (by simp [hx])) (fun x hx => hsp x (by simp [hx])))

/-- the post of a law's row, for arguments of whatever types -/
theorem law_post {H : Type} {enc : TypeId × Value → H} {P : Program} {f : Func} {s : ChangeSpec} {W W' : World} {args : Array Value} {ds gs : List (DataW H)} {before : List MemPlace} {tb : TypeId}
    (hl : laidOutB P = true) (hr : ∀ t ∈ f.params.toList, P.readableRec t = true ∧ t < P.types.size) (hW : DataW.Whole enc P f.params.toList s.vars false W args.toList ds gs before) (hv : s.vars = [])
    (hspec : s.fn H (ds ++ gs) = { results := [.lit (.bool true)], args := ds }) (hrt : f.resultTypes = #[tb]) (htb : P.underlying tb = some .bool) (hb : Below W.heap.size W W') :
    s.post enc P f false true false false W args (.bool true) W' := by
  have hW' := hW
  obtain ⟨p, q, hA, hV, hps, hz, hn⟩ := hW
  rw [hv] at hV
  obtain ⟨rfl, rfl⟩ := trodVars_none hV
  have hlt : ∀ x ∈ p, x.block < W.heap.size := fun x hx => hW'.lt x (by rw [hps]; simpa using hx)
  refine post_below (pa := p) (pv := []) hW' ?_ ?_ ?_ hps hb ?_
  · intro b sp hd
    rw [hspec, hrt]
    exact trodAll_cons_mk (shut_bool htb true) trodAll_mk0
  · intro sp hsp
    rw [hspec]
    exact args_stay hl hb sp _ _ _ _ hr hA hlt (fun x hx => hsp x (by rw [hps]; simpa using hx))
  · intro sp _
    rw [hspec, hv]
    exact rfl
  · exact ok_one hrt rfl (okWide_bool_mk htb true)

theorem i64_lo {x : Int} (h : (Lit.int .i64 x).wf = true) : -9223372036854775808 ≤ x := by
  simp [Lit.wf, IntKind.min, IntKind.max, IntKind.signed, IntKind.bits] at h; omega
theorem i64_hi {x : Int} (h : (Lit.int .i64 x).wf = true) : x ≤ 9223372036854775807 := by
  simp [Lit.wf, IntKind.min, IntKind.max, IntKind.signed, IntKind.bits] at h; omega
theorem laid_none (P : Program) (w : World) : laidMetH P [] w := ⟨[], rfl, List.nodup_nil, fun _ _ h => by simp at h⟩
/-- the number in a cell -/
def numV : Value → Int
  | .int _ z => z
  | _ => 0
def numAt (w : World) (a : Addr) : Int := numV ((w.cell? a).getD undef)
theorem ints_of_array {H : Type} {enc : TypeId × Value → H} {P : Program} {w : World} {base : Nat} {spare : Nat → Bool} {held : Bool} {fuel n : Nat} {t e : TypeId} {cs : List Value} {x : DataW H × List MemPlace}
    (ha : P.underlying t = some (.array n e)) (he : P.underlying e = some (.int .i64)) (hce : P.cellsOf e = 1) (hct : P.cellsOf t = n) (h : DataW.trod enc P w base spare held fuel t cs = some x) :
    cs.length = n ∧ ∀ i, i < n → cs[i]? = some (.int .i64 (numV (cs.getD i undef))) ∧ (-9223372036854775808 ≤ numV (cs.getD i undef) ∧ numV (cs.getD i undef) ≤ 9223372036854775807) := by
  obtain ⟨xs, m, _, _, hcl, hxl, hx⟩ := DataW.trod_array ha h
  rw [hct] at hcl
  refine ⟨hcl, fun i hi => ?_⟩
  have k := hx i hi
  rw [hce, Nat.mul_one, List.getElem?_eq_getElem (by omega)] at k
  obtain ⟨z, ez, _, hz⟩ := DataW.trod_int he k
  have hz2 : cs[i]? = some (.int .i64 z) := by
    have := congrArg (fun l => l[0]?) ez
    simpa [List.getElem?_take, List.getElem?_drop] using this
  rw [List.getD, hz2]
  exact ⟨rfl, i64_lo hz, i64_hi hz⟩
/-- an array of integers by value -/
theorem open_intarr {H : Type} {enc : TypeId × Value → H} {P : Program} {w : World} {base : Nat} {spare : Nat → Bool} {held : Bool} {r : Reach} {b0 n : Nat} {t e : TypeId} {v : Value} {d : DataW H} {p : List MemPlace}
    (ha : P.underlying t = some (.array n e)) (he : P.underlying e = some (.int .i64)) (hce : P.cellsOf e = 1) (hct : P.cellsOf t = n) (hv : Value.okWide P w r b0 t v) (h : DataW.Trod enc P w base spare held t v d p) :
    ∃ l : List Int, l.length = n ∧ v = .agg (l.map (Value.int .i64)).toArray ∧ ∀ x ∈ l, -9223372036854775808 ≤ x ∧ x ≤ 9223372036854775807 := by
  simp only [Value.okWide, ha] at hv
  obtain ⟨⟨cs⟩, rfl, hsz, _⟩ := hv
  obtain ⟨fuel, hf⟩ := h
  simp only [Value.cells] at hf
  obtain ⟨hl, hx⟩ := ints_of_array ha he hce hct hf
  refine ⟨cs.map numV, by simpa using hl, ?_, ?_⟩
  · congr 2
    refine List.ext_getElem (by simp) fun i h1 h2 => ?_
    have h3 := (hx i (by omega)).1
    rw [List.getD, List.getElem?_eq_getElem h1] at h3
    simpa using Option.some.inj h3
  · intro x hm
    obtain ⟨v, hv, rfl⟩ := List.mem_map.1 hm
    obtain ⟨i, hi, rfl⟩ := List.getElem_of_mem hv
    have h3 := (hx i (by omega)).2
    rw [List.getD, List.getElem?_eq_getElem hi] at h3
    exact h3
theorem addr_plain {w : World} {a : Addr} {v : Value} (h : w.cell? a = some v) : a = ⟨a.block, a.off, none⟩ := by
  obtain ⟨b, o, s⟩ := a
  cases s with
  | none => rfl
  | some s => simp only [World.cell?] at h; split at h <;> simp at h
theorem add_add (a : Addr) (i j : Nat) (hs : a.spot = none) : (a.add i).add j = ⟨a.block, a.off + i + j, none⟩ := by
  obtain ⟨b, o, s⟩ := a
  simp only at hs
  subst hs
  unfold Addr.add
  split
  · split
    · subst_vars; rfl
    · subst_vars; simp
  · split
    · subst_vars; simp
    · simp
/-- a slice of arrays of three integers -/
theorem open_rows3 {H : Type} {enc : TypeId × Value → H} {P : Program} {w : World} {base : Nat} {r : Reach} {b0 : Nat} {t u e : TypeId} {v : Value} {d : DataW H} {p : List MemPlace}
    (ht : P.underlying t = some (.slice u)) (ha : P.underlying u = some (.array 3 e)) (he : P.underlying e = some (.int .i64)) (hce : P.cellsOf e = 1) (hct : P.cellsOf u = 3) (hv : Value.okWide P w r b0 t v) (h : DataW.Trod enc P w base (fun _ => true) true t v d p) :
    ∃ (A : Option Addr) (cap : Nat) (es : List E3), v = .slice A es.length cap ∧ (es.length : Int) ≤ 9223372036854775807 ∧
      (∀ i, i < es.length → ∃ b o, A = some ⟨b, o, none⟩ ∧ w.cell? ⟨b, o + i * 3, none⟩ = some (.int .i64 (es.getD i ⟨0, 0, 0⟩).a) ∧ w.cell? ⟨b, o + i * 3 + 1, none⟩ = some (.int .i64 (es.getD i ⟨0, 0, 0⟩).b) ∧ w.cell? ⟨b, o + i * 3 + 2, none⟩ = some (.int .i64 (es.getD i ⟨0, 0, 0⟩).c)) ∧
      ∀ x ∈ es, (-9223372036854775808 ≤ x.a ∧ x.a ≤ 9223372036854775807) ∧ (-9223372036854775808 ≤ x.b ∧ x.b ≤ 9223372036854775807) ∧ -9223372036854775808 ≤ x.c ∧ x.c ≤ 9223372036854775807 := by
  obtain ⟨a0, len0, cap0, rfl⟩ := okWide_slice ht hv
  obtain ⟨fuel, hf⟩ := h
  simp only [Value.cells] at hf
  rcases DataW.trod_slice ht hf with ⟨hcs, _⟩ | ⟨a, len, cap, elems, rest, n, _, hcs, _, hb, hl, hm, hlen, hel, _, _⟩
  · simp only [List.cons.injEq, Value.slice.injEq] at hcs
    obtain ⟨⟨rfl, rfl, rfl⟩, _⟩ := hcs
    exact ⟨none, 0, [], rfl, by simp, fun i hi => absurd hi (by simp), fun x hx => by simp at hx⟩
  · simp only [List.cons.injEq, Value.slice.injEq] at hcs
    obtain ⟨⟨rfl, rfl, rfl⟩, _⟩ := hcs
    have each : ∀ i, i < len0 → ∃ cs : List Value, (∀ j, j < 3 → w.cell? ((a.add (i * 3)).add j) = some (.int .i64 (numV (cs.getD j undef))) ∧ -9223372036854775808 ≤ numV (cs.getD j undef) ∧ numV (cs.getD j undef) ≤ 9223372036854775807) := fun i hi => by
      have h1 := hel i hi
      rw [List.getElem?_eq_getElem (by omega), hct] at h1
      obtain ⟨cs, h2, h3⟩ := Option.bind_eq_some_iff.1 h1
      obtain ⟨_, _, h4⟩ := World.cells?_some h2
      obtain ⟨_, h5⟩ := ints_of_array ha he hce hct h3
      exact ⟨cs, fun j hj => ⟨(h4 j hj).trans (h5 j hj).1, (h5 j hj).2⟩⟩
    have hE : ∀ i, i < len0 → ∃ e : E3, (w.cell? ((a.add (i * 3)).add 0) = some (.int .i64 e.a) ∧ w.cell? ((a.add (i * 3)).add 1) = some (.int .i64 e.b) ∧ w.cell? ((a.add (i * 3)).add 2) = some (.int .i64 e.c)) ∧ (-9223372036854775808 ≤ e.a ∧ e.a ≤ 9223372036854775807) ∧ (-9223372036854775808 ≤ e.b ∧ e.b ≤ 9223372036854775807) ∧ -9223372036854775808 ≤ e.c ∧ e.c ≤ 9223372036854775807 := fun i hi => by
      obtain ⟨cs, hc⟩ := each i hi
      exact ⟨⟨_, _, _⟩, ⟨(hc 0 (by omega)).1, (hc 1 (by omega)).1, (hc 2 (by omega)).1⟩, (hc 0 (by omega)).2, (hc 1 (by omega)).2, (hc 2 (by omega)).2⟩
    obtain ⟨es, hes, hall⟩ : ∃ es : List E3, es.length = len0 ∧ ∀ i (hi : i < es.length), (w.cell? ((a.add (i * 3)).add 0) = some (.int .i64 es[i].a) ∧ w.cell? ((a.add (i * 3)).add 1) = some (.int .i64 es[i].b) ∧ w.cell? ((a.add (i * 3)).add 2) = some (.int .i64 es[i].c)) ∧ (-9223372036854775808 ≤ es[i].a ∧ es[i].a ≤ 9223372036854775807) ∧ (-9223372036854775808 ≤ es[i].b ∧ es[i].b ≤ 9223372036854775807) ∧ -9223372036854775808 ≤ es[i].c ∧ es[i].c ≤ 9223372036854775807 := by
      have hE' : ∀ i : Fin len0, _ := fun i => hE i.1 i.2
      refine ⟨List.ofFn fun i : Fin len0 => Classical.choose (hE' i), by simp, fun i hi => ?_⟩
      have hi2 : i < len0 := by simpa using hi
      have := Classical.choose_spec (hE' ⟨i, hi2⟩)
      simpa using this
    subst hes
    refine ⟨some a, cap0, es, rfl, by unfold maxLen at hm; omega, fun i hi => ?_, fun x hx => ?_⟩
    · obtain ⟨⟨c0, c1, c2⟩, _⟩ := hall i hi
      have hz : (a.add (0 * 3)).add 0 = a := by simp [Addr.add]
      have hs : a.spot = none := by
        have h0 := (hall 0 (by omega)).1.1
        rw [hz] at h0
        exact congrArg Addr.spot (addr_plain h0)
      rw [add_add _ _ _ hs] at c0 c1 c2
      refine ⟨a.block, a.off, by obtain ⟨b, o, s⟩ := a; simp only at hs; subst hs; rfl, ?_⟩
      rw [List.getD, List.getElem?_eq_getElem hi]
      exact ⟨c0, c1, c2⟩
    · obtain ⟨i, hi, rfl⟩ := List.getElem_of_mem hx
      exact (hall i hi).2
end Go.Proofs.Ytgopadbdnndkiaa
namespace Go.Proofs.Ytgopadbdnndkiaa
open Go.RowKit Str
theorem isIn_any (n lo hi : Int) (w : World) : Calls Try.prog 51 #[.int .i64 n, .int .i64 lo, .int .i64 hi] w fun e w' => e = .returned (.bool (isInB n lo hi)) ∧ w = w' := by
  by_cases h1 : lo ≤ n
  · by_cases h2 : n ≤ hi
    · rw [show isInB n lo hi = true from isInB_iff.2 ⟨h1, h2⟩]
      go_enter Try.func51, Try.ntmps51
      go_wp2_with fail
      go_ret
      exact ⟨rfl, rfl⟩
    · rw [show isInB n lo hi = false by simp [isInB, h2]]
      go_enter Try.func51, Try.ntmps51
      go_wp2_with fail
      go_ret
      exact ⟨rfl, rfl⟩
  · rw [show isInB n lo hi = false by simp [isInB, h1]]
    go_enter Try.func51, Try.ntmps51
    go_wp2_with fail
    go_ret
    exact ⟨rfl, rfl⟩
theorem place_any (x y : Int) (w : World) : Calls Try.prog 52 #[.agg #[.int .i64 x, .int .i64 y]] w fun e w' => e = .returned (.bool (placeB x y)) ∧ Below w.heap.size w w' := by
  cases hx : isInB x 0 4095 with
  | true =>
    rw [show placeB x y = isInB y 0 4095 by rw [placeB, hx, Bool.true_and]]
    go_enter Try.func52, Try.ntmps52
    go_wp2_with fail
    refine (isIn_any _ _ _ _).mono ?_
    rintro e w1 ⟨rfl, rfl⟩
    rw [hx]
    go_wp2_with fail
    refine (isIn_any _ _ _ _).mono ?_
    rintro e w1 ⟨rfl, rfl⟩
    go_wp2_with fail
    go_ret
    exact ⟨rfl, (Below.refl _ _).alloc (Nat.le_refl _) _⟩
  | false =>
    rw [show placeB x y = false by rw [placeB, hx, Bool.false_and]]
    go_enter Try.func52, Try.ntmps52
    go_wp2_with fail
    refine (isIn_any _ _ _ _).mono ?_
    rintro e w1 ⟨rfl, rfl⟩
    rw [hx]
    go_wp2_with fail
    go_ret
    exact ⟨rfl, (Below.refl _ _).alloc (Nat.le_refl _) _⟩
/-- a dot, a place, as values -/
def dv (d : Dot) : Value := .agg #[.int .i64 d.x, .int .i64 d.y, .int .i64 d.t, .int .i64 d.p]
def pv (x y : Int) : Value := .agg #[.int .i64 x, .int .i64 y]
theorem at_any (d : Dot) (w : World) : Calls Try.prog 42 #[.agg #[.int .i64 d.x, .int .i64 d.y, .int .i64 d.t, .int .i64 d.p]] w fun e w' => e = .returned (pv d.x d.y) ∧ Below w.heap.size w w' := by
  go_enter Try.func42, Try.ntmps42
  go_wp2_with fail
  exact bodyPost_ret (v := .agg #[.int .i64 d.x, .int .i64 d.y]) (by simp [results, Try.results42, go_sem]) rfl ⟨rfl, ((Below.refl _ _).alloc (Nat.le_refl _) _).alloc (by simp) _⟩
theorem mul_bd {a b m : Int} (ha : -m ≤ a) (ha' : a ≤ m) (hb : -m ≤ b) (hb' : b ≤ m) (hm : 0 ≤ m) : -(m * m) ≤ a * b ∧ a * b ≤ m * m := by
  have key : ∀ {u v : Int}, 0 ≤ u → u ≤ m → 0 ≤ v → v ≤ m → 0 ≤ u * v ∧ u * v ≤ m * m := fun h1 h2 h3 h4 => ⟨Int.mul_nonneg h1 h3, Int.mul_le_mul h2 h4 h3 hm⟩
  rcases Int.le_total 0 a with h1 | h1 <;> rcases Int.le_total 0 b with h2 | h2
  · have := key h1 ha' h2 hb'; omega
  · have := key h1 ha' (v := -b) (by omega) (by omega); rw [Int.mul_neg] at this; omega
  · have := key (u := -a) (by omega) (by omega) h2 hb'; rw [Int.neg_mul] at this; omega
  · have := key (u := -a) (v := -b) (by omega) (by omega) (by omega) (by omega); rw [Int.neg_mul_neg] at this; omega
end Go.Proofs.Ytgopadbdnndkiaa
