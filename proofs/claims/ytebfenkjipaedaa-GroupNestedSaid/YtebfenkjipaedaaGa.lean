/- The strokes that the laws make: the plain part. -/

/- Plain functions and laws for the stroke chapter: what the functions of package stroke compute, in Lean, with no program in sight. -/
namespace Go.Proofs.Ytebfenkjipaedaa.Str

/-- a dot: its place, when it was drawn, how strong -/
structure Dot where
  x : Int
  y : Int
  t : Int
  p : Int
deriving DecidableEq
instance : Inhabited Dot := ⟨⟨0, 0, 0, 0⟩⟩
def isInB (n lo hi : Int) : Bool := decide (lo ≤ n) && decide (n ≤ hi)
def placeB (x y : Int) : Bool := isInB x 0 4095 && isInB y 0 4095
theorem isInB_iff {n lo hi : Int} : isInB n lo hi = true ↔ lo ≤ n ∧ n ≤ hi := by simp [isInB]
theorem placeB_iff {x y : Int} : placeB x y = true ↔ (0 ≤ x ∧ x ≤ 4095) ∧ (0 ≤ y ∧ y ≤ 4095) := by simp [placeB, isInB_iff]
/-- a dot is as it may be, behind one that was drawn at the time l -/
def dotB (l : Int) (d : Dot) : Bool := placeB d.x d.y && isInB d.t l 1000000 && isInB d.p 0 100
theorem dotB_iff {l : Int} {d : Dot} : dotB l d = true ↔ ((0 ≤ d.x ∧ d.x ≤ 4095) ∧ (0 ≤ d.y ∧ d.y ≤ 4095)) ∧ (l ≤ d.t ∧ d.t ≤ 1000000) ∧ 0 ≤ d.p ∧ d.p ≤ 100 := by
  simp [dotB, placeB_iff, isInB_iff, and_assoc]
def dotsB : Int → List Dot → Bool
  | _, [] => true
  | l, d :: r => dotB l d && dotsB d.t r
def headB (P N : Int) (n : Nat) : Bool := isInB P 0 39 && isInB N 1 999 && isInB (n : Int) 1 200
def validB (P N : Int) (D : List Dot) : Bool := headB P N D.length && dotsB 0 D
theorem headB_iff {P N : Int} {n : Nat} : headB P N n = true ↔ (0 ≤ P ∧ P ≤ 39) ∧ (1 ≤ N ∧ N ≤ 999) ∧ 1 ≤ (n : Int) ∧ (n : Int) ≤ 200 := by simp [headB, isInB_iff, and_assoc]
/-- the time of the last dot -/
def lastT (l : Int) : List Dot → Int
  | [] => l
  | d :: r => lastT d.t r
theorem dotsB_append (l : Int) (a b : List Dot) : dotsB l (a ++ b) = (dotsB l a && dotsB (lastT l a) b) := by
  induction a generalizing l with
  | nil => simp [dotsB, lastT]
  | cons d r ih => simp [dotsB, lastT, ih, Bool.and_assoc]
theorem lastT_append (l : Int) (a b : List Dot) : lastT l (a ++ b) = lastT (lastT l a) b := by
  induction a generalizing l with
  | nil => rfl
  | cons d r ih => simp [lastT, ih]
theorem dotsB_mem {l : Int} (hl : 0 ≤ l) : ∀ {D : List Dot}, dotsB l D = true → ∀ d ∈ D, dotB 0 d = true
  | d :: r, h, e, he => by
    simp only [dotsB, Bool.and_eq_true] at h
    have h1 := dotB_iff.1 h.1
    rcases List.mem_cons.1 he with rfl | he
    · exact dotB_iff.2 ⟨h1.1, by omega, h1.2.2⟩
    · exact dotsB_mem (by omega) h.2 e he

/-! near a line -/
def sq (a b c d : Int) : Int := (a - c) * (a - c) + (b - d) * (b - d)
/-- how the program says it -/
def nearI (ax ay bx b_y px py z : Int) : Bool :=
  if (bx - ax) * (px - ax) + (b_y - ay) * (py - ay) ≤ 0 then decide ((px - ax) * (px - ax) + (py - ay) * (py - ay) ≤ z * z)
  else if 0 ≤ (bx - ax) * (px - bx) + (b_y - ay) * (py - b_y) then decide ((px - bx) * (px - bx) + (py - b_y) * (py - b_y) ≤ z * z)
  else decide (((bx - ax) * (py - ay) - (b_y - ay) * (px - ax)) * ((bx - ax) * (py - ay) - (b_y - ay) * (px - ax)) ≤ z * z * ((bx - ax) * (bx - ax) + (b_y - ay) * (b_y - ay)))
/-- how the reference says it -/
def nearR (ax ay bx b_y px py z : Int) : Bool :=
  if sq ax ay px py ≤ z * z ∨ sq bx b_y px py ≤ z * z then true
  else if sq ax ay bx b_y + sq ax ay px py < sq bx b_y px py ∨ sq ax ay bx b_y + sq bx b_y px py < sq ax ay px py ∨ sq ax ay bx b_y = 0 then false
  else decide (((bx - ax) * (py - ay) - (b_y - ay) * (px - ax)) * ((bx - ax) * (py - ay) - (b_y - ay) * (px - ax)) ≤ z * z * sq ax ay bx b_y)
theorem self_nonneg (a : Int) : 0 ≤ a * a := by
  rcases Int.le_total 0 a with h | h
  · exact Int.mul_nonneg h h
  · exact Int.mul_nonneg_of_nonpos_of_nonpos h h
theorem sq_nonneg (a b c d : Int) : 0 ≤ sq a b c d := by
  unfold sq
  have h1 := self_nonneg (a - c)
  have h2 := self_nonneg (b - d)
  omega
/-- the core: in numbers alone -/
theorem near_core {DW DD WW VV CR far : Int} (hv : VV = WW - 2 * DW + DD) (l1 : DW * DW + CR = DD * WW) (l2 : (DW - DD) * (DW - DD) + CR = DD * VV) (hd : 0 ≤ DD) :
    (if DW ≤ 0 then decide (WW ≤ far) else if 0 ≤ DW - DD then decide (VV ≤ far) else decide (CR ≤ far * DD)) =
    (if WW ≤ far ∨ VV ≤ far then true else if DD + WW < VV ∨ DD + VV < WW ∨ DD = 0 then false else decide (CR ≤ far * DD)) := by
  have s1 := self_nonneg DW
  have s2 := self_nonneg (DW - DD)
  by_cases h1 : DW ≤ 0
  · rw [if_pos h1]
    by_cases h2 : WW ≤ far
    · rw [if_pos (.inl h2)]; simpa using h2
    · rw [if_neg (show ¬(WW ≤ far ∨ VV ≤ far) by omega)]
      by_cases h3 : DD + WW < VV ∨ DD + VV < WW ∨ DD = 0
      · rw [if_pos h3]; simpa using h2
      · rw [if_neg h3]
        have e : DW = 0 := by omega
        rw [e] at l1
        have h4 : far * DD < WW * DD := Int.mul_lt_mul_of_pos_right (by omega) (by omega)
        rw [Int.mul_comm WW DD] at h4
        have h5 : ¬ CR ≤ far * DD := by omega
        rw [decide_eq_false h2, decide_eq_false h5]
  · rw [if_neg h1]
    by_cases h2 : 0 ≤ DW - DD
    · rw [if_pos h2]
      by_cases h3 : VV ≤ far
      · rw [if_pos (.inr h3)]; simpa using h3
      · rw [if_neg (show ¬(WW ≤ far ∨ VV ≤ far) by omega)]
        by_cases h4 : DD + WW < VV ∨ DD + VV < WW ∨ DD = 0
        · rw [if_pos h4]; simpa using h3
        · rw [if_neg h4]
          have e : DW - DD = 0 := by omega
          rw [e] at l2
          have h4 : far * DD < VV * DD := Int.mul_lt_mul_of_pos_right (by omega) (by omega)
          rw [Int.mul_comm VV DD] at h4
          have h5 : ¬ CR ≤ far * DD := by omega
          rw [decide_eq_false h3, decide_eq_false h5]
    · rw [if_neg h2]
      by_cases h3 : WW ≤ far ∨ VV ≤ far
      · rw [if_pos h3]
        refine decide_eq_true ?_
        rw [Int.mul_comm far DD]
        rcases h3 with h3 | h3
        · have := Int.mul_le_mul_of_nonneg_left h3 hd
          omega
        · have := Int.mul_le_mul_of_nonneg_left h3 hd
          omega
      · rw [if_neg h3, if_neg (show ¬(DD + WW < VV ∨ DD + VV < WW ∨ DD = 0) by omega)]
theorem near_eq (ax ay bx b_y px py z : Int) : nearI ax ay bx b_y px py z = nearR ax ay bx b_y px py z := by
  have e1 : (bx - ax) * (px - bx) + (b_y - ay) * (py - b_y) = ((bx - ax) * (px - ax) + (b_y - ay) * (py - ay)) - ((bx - ax) * (bx - ax) + (b_y - ay) * (b_y - ay)) := by grind
  have e2 : sq ax ay px py = (px - ax) * (px - ax) + (py - ay) * (py - ay) := by unfold sq; grind
  have e3 : sq bx b_y px py = (px - bx) * (px - bx) + (py - b_y) * (py - b_y) := by unfold sq; grind
  have e4 : sq ax ay bx b_y = (bx - ax) * (bx - ax) + (b_y - ay) * (b_y - ay) := by unfold sq; grind
  unfold nearI nearR
  rw [e1, e2, e3, e4]
  refine near_core ?_ ?_ ?_ ?_
  · grind
  · grind
  · grind
  · have h1 := self_nonneg (bx - ax)
    have h2 := self_nonneg (b_y - ay)
    omega

/-! boxes and ways -/
def minI (x y : Int) : Int := if y < x then y else x
def maxI (x y : Int) : Int := if x < y then y else x
theorem minI_le (x y : Int) : minI x y ≤ x ∧ minI x y ≤ y := by unfold minI; split <;> omega
theorem le_maxI (x y : Int) : x ≤ maxI x y ∧ y ≤ maxI x y := by unfold maxI; split <;> omega
theorem minI_or (x y : Int) : minI x y = x ∨ minI x y = y := by unfold minI; split <;> omega
theorem maxI_or (x y : Int) : maxI x y = x ∨ maxI x y = y := by unfold maxI; split <;> omega
def mnF (f : Dot → Int) (a : Int) (l : List Dot) : Int := l.foldl (fun m d => minI m (f d)) a
def mxF (f : Dot → Int) (a : Int) (l : List Dot) : Int := l.foldl (fun m d => maxI m (f d)) a
theorem mnF_snoc (f : Dot → Int) (a : Int) (l : List Dot) (d : Dot) : mnF f a (l ++ [d]) = minI (mnF f a l) (f d) := by simp [mnF]
theorem mxF_snoc (f : Dot → Int) (a : Int) (l : List Dot) (d : Dot) : mxF f a (l ++ [d]) = maxI (mxF f a l) (f d) := by simp [mxF]
theorem mnF_cons (f : Dot → Int) (a : Int) (l : List Dot) (d : Dot) : mnF f a (d :: l) = mnF f (minI a (f d)) l := rfl
theorem mxF_cons (f : Dot → Int) (a : Int) (l : List Dot) (d : Dot) : mxF f a (d :: l) = mxF f (maxI a (f d)) l := rfl
theorem mnF_spec (f : Dot → Int) : ∀ (l : List Dot) (a : Int), mnF f a l ≤ a ∧ (∀ d ∈ l, mnF f a l ≤ f d) ∧ (mnF f a l = a ∨ ∃ d ∈ l, mnF f a l = f d)
  | [], a => ⟨Int.le_refl _, fun d h => (List.not_mem_nil h).elim, .inl rfl⟩
  | e :: l, a => by
    obtain ⟨h1, h2, h3⟩ := mnF_spec f l (minI a (f e))
    have h4 := minI_le a (f e)
    rw [mnF_cons]
    refine ⟨by omega, ?_, ?_⟩
    · intro d hd
      rcases List.mem_cons.1 hd with rfl | hd
      · omega
      · exact h2 d hd
    · rcases h3 with h3 | ⟨d, hd, h3⟩
      · rcases minI_or a (f e) with h5 | h5
        · exact .inl (by omega)
        · exact .inr ⟨e, by simp, by omega⟩
      · exact .inr ⟨d, by simp [hd], h3⟩
theorem mxF_spec (f : Dot → Int) : ∀ (l : List Dot) (a : Int), a ≤ mxF f a l ∧ (∀ d ∈ l, f d ≤ mxF f a l) ∧ (mxF f a l = a ∨ ∃ d ∈ l, mxF f a l = f d)
  | [], a => ⟨Int.le_refl _, fun d h => (List.not_mem_nil h).elim, .inl rfl⟩
  | e :: l, a => by
    obtain ⟨h1, h2, h3⟩ := mxF_spec f l (maxI a (f e))
    have h4 := le_maxI a (f e)
    rw [mxF_cons]
    refine ⟨by omega, ?_, ?_⟩
    · intro d hd
      rcases List.mem_cons.1 hd with rfl | hd
      · omega
      · exact h2 d hd
    · rcases h3 with h3 | ⟨d, hd, h3⟩
      · rcases maxI_or a (f e) with h5 | h5
        · exact .inl (by omega)
        · exact .inr ⟨e, by simp, by omega⟩
      · exact .inr ⟨d, by simp [hd], h3⟩
/-- the dot at an index -/
def dotAt (D : List Dot) (i : Nat) : Dot := D.getD i default
theorem dotAt_mem {D : List Dot} {i : Nat} (h : i < D.length) : dotAt D i ∈ D := by
  rw [dotAt, List.getD, List.getElem?_eq_getElem h]
  exact List.getElem_mem _
theorem dotAt_lt {D : List Dot} {i : Nat} (h : i < D.length) : dotAt D i = D[i] := by
  rw [dotAt, List.getD, List.getElem?_eq_getElem h]; rfl
theorem take_dot {D : List Dot} {k : Nat} (h : k < D.length) : D.take (k + 1) = D.take k ++ [dotAt D k] := by
  rw [List.take_succ_eq_append_getElem h, dotAt_lt h]
/-- the rectangle around dots -/
def boxF (D : List Dot) : Int × Int × Int × Int :=
  (mnF Dot.x (dotAt D 0).x D, mnF Dot.y (dotAt D 0).y D, mxF Dot.x (dotAt D 0).x D - mnF Dot.x (dotAt D 0).x D, mxF Dot.y (dotAt D 0).y D - mnF Dot.y (dotAt D 0).y D)
theorem mn_first (f : Dot → Int) (c : Int) {D : List Dot} (hn : D ≠ []) (h : ∀ d ∈ D, f d ≤ c) : mnF f c D = mnF f (f (dotAt D 0)) D := by
  have h0 : dotAt D 0 ∈ D := dotAt_mem (List.length_pos_iff.2 hn)
  obtain ⟨a1, a2, a3⟩ := mnF_spec f D c
  obtain ⟨b1, b2, b3⟩ := mnF_spec f D (f (dotAt D 0))
  have k1 : mnF f c D ≤ mnF f (f (dotAt D 0)) D := by
    rcases b3 with b3 | ⟨d, hd, b3⟩
    · rw [b3]; exact a2 _ h0
    · rw [b3]; exact a2 _ hd
  have k2 : mnF f (f (dotAt D 0)) D ≤ mnF f c D := by
    rcases a3 with a3 | ⟨d, hd, a3⟩
    · rw [a3]; have := h _ h0; omega
    · rw [a3]; exact b2 _ hd
  omega
theorem mx_first (f : Dot → Int) (c : Int) {D : List Dot} (hn : D ≠ []) (h : ∀ d ∈ D, c ≤ f d) : mxF (fun d => f d - c) 0 D = mxF f (f (dotAt D 0)) D - c := by
  have h0 : dotAt D 0 ∈ D := dotAt_mem (List.length_pos_iff.2 hn)
  obtain ⟨a1, a2, a3⟩ := mxF_spec (fun d => f d - c) D 0
  obtain ⟨b1, b2, b3⟩ := mxF_spec f D (f (dotAt D 0))
  have k1 : mxF f (f (dotAt D 0)) D - c ≤ mxF (fun d => f d - c) 0 D := by
    rcases b3 with b3 | ⟨d, hd, b3⟩
    · rw [b3]; exact a2 _ h0
    · rw [b3]; exact a2 _ hd
  have k2 : mxF (fun d => f d - c) 0 D ≤ mxF f (f (dotAt D 0)) D - c := by
    rcases a3 with a3 | ⟨d, hd, a3⟩
    · rw [a3]; have := h _ h0; omega
    · rw [a3]; have := b2 _ hd; omega
  omega
/-- how far from a dot to the next one -/
def stp (a b : Dot) : Int := maxI (maxI (maxI (a.x - b.x) (b.x - a.x)) (a.y - b.y)) (b.y - a.y)
def sizeI (n : Int) : Int := if n < 0 then -n else n
theorem stp_ref (a b : Dot) : maxI (sizeI (b.x - a.x)) (sizeI (b.y - a.y)) = stp a b := by
  unfold stp maxI sizeI
  (repeat' split) <;> omega
theorem stp_self (a : Dot) : stp a a = 0 := by unfold stp maxI; (repeat' split) <;> omega
theorem stp_bd {a b : Dot} (h1 : placeB a.x a.y = true) (h2 : placeB b.x b.y = true) : 0 ≤ stp a b ∧ stp a b ≤ 4095 := by
  have h1 := placeB_iff.1 h1
  have h2 := placeB_iff.1 h2
  unfold stp maxI
  (repeat' split) <;> omega
/-- the ends of the pieces: the next dot, or the last one -/
def nx (D : List Dot) (i : Nat) : Nat := min (i + 1) (D.length - 1)
def wayTo (D : List Dot) : Nat → Int
  | 0 => 0
  | k + 1 => wayTo D k + stp (dotAt D k) (dotAt D (nx D k))
def wayF (D : List Dot) : Int := wayTo D (D.length - 1)
theorem way_pieces {D : List Dot} (h : 1 ≤ D.length) : wayTo D (max (D.length - 1) 1) = wayF D := by
  by_cases h1 : D.length = 1
  · rw [wayF, h1]
    show 0 + stp (dotAt D 0) (dotAt D (nx D 0)) = 0
    rw [show nx D 0 = 0 by unfold nx; omega, stp_self]; rfl
  · rw [wayF, show max (D.length - 1) 1 = D.length - 1 by omega]
theorem way_bd {D : List Dot} (hd : ∀ d ∈ D, placeB d.x d.y = true) : ∀ k, k ≤ D.length → 0 ≤ wayTo D k ∧ wayTo D k ≤ 4095 * (k : Int)
  | 0, _ => by simp [wayTo]
  | k + 1, h => by
    have h1 := way_bd hd k (by omega)
    have h2 := stp_bd (hd _ (dotAt_mem (D := D) (i := k) (by omega))) (hd _ (dotAt_mem (D := D) (i := nx D k) (by unfold nx; omega)))
    rw [wayTo]
    omega

/-! near a line, near a stroke -/
def nearD (a b p : Dot) (z : Int) : Bool := nearI a.x a.y b.x b.y p.x p.y z
/-- Near, as it is exported -/
def nearB (ax ay bx b_y px py z : Int) : Bool := placeB ax ay && placeB bx b_y && placeB px py && isInB z 0 1000 && nearI ax ay bx b_y px py z
def withinTo (D : List Dot) (px py z : Int) : Nat → Bool
  | 0 => false
  | k + 1 => withinTo D px py z k || nearB (dotAt D k).x (dotAt D k).y (dotAt D (nx D k)).x (dotAt D (nx D k)).y px py z
def withinF (D : List Dot) (px py z : Int) : Bool := withinTo D px py z (max (D.length - 1) 1)
/-- who is near the end of a line is near the line -/
theorem near_end {ax ay bx b_y px py z : Int} (h : nearI bx b_y bx b_y px py z = true) : nearI ax ay bx b_y px py z = true := by
  rw [near_eq] at h ⊢
  unfold nearR at h ⊢
  by_cases hc : sq bx b_y px py ≤ z * z
  · rw [if_pos (.inr hc)]
  · rw [if_neg (by omega), if_pos (by unfold sq; simp)] at h
    cases h
theorem within_ref {D : List Dot} (px py z : Int) (h : 1 ≤ D.length) (hd : ∀ d ∈ D, placeB d.x d.y = true) : withinTo D px py z D.length = withinF D px py z := by
  by_cases h1 : D.length = 1
  · rw [withinF, h1]; rfl
  · obtain ⟨m, hm⟩ : ∃ m, D.length = m + 2 := ⟨D.length - 2, by omega⟩
    rw [withinF, show max (D.length - 1) 1 = D.length - 1 by omega, hm]
    show withinTo D px py z (m + 1 + 1) = withinTo D px py z (m + 1)
    rw [withinTo]
    have e1 : nx D (m + 1) = m + 1 := by unfold nx; omega
    have e2 : nx D m = m + 1 := by unfold nx; omega
    rw [e1]
    cases hb : nearB (dotAt D (m + 1)).x (dotAt D (m + 1)).y (dotAt D (m + 1)).x (dotAt D (m + 1)).y px py z with
    | false => simp
    | true =>
      rw [Bool.or_true]
      rw [withinTo, e2]
      simp only [nearB, Bool.and_eq_true] at hb
      rw [nearB, hd _ (dotAt_mem (by omega)), hb.1.1.1.2, hb.1.1.2, hb.1.2, near_end hb.2]
      simp
end Go.Proofs.Ytebfenkjipaedaa.Str
namespace Go.Proofs.Ytebfenkjipaedaa
namespace Str
/-- a picked number (pick of the reference and of the laws) -/
def pick_ (c n : Int) : Int := (if c < 0 then -(c + 1) else c) % n
theorem pick_bd (c : Int) {n : Int} (h : 0 < n) : 0 ≤ pick_ c n ∧ pick_ c n < n := ⟨Int.emod_nonneg _ (by omega), Int.emod_lt_of_pos _ h⟩
/-- three drawn numbers -/
structure E3 where
  a : Int
  b : Int
  c : Int
/-- the next dot of a made stroke -/
def madeN (d : Dot) (e : E3) : Dot :=
  ⟨max 0 (min 4095 (d.x + pick_ e.a 401 - 200)), max 0 (min 4095 (d.y + pick_ e.b 401 - 200)), d.t + pick_ e.c 50, pick_ e.c 101⟩
/-- the first dot; m is the first number times 37, as the machine holds it -/
def made0 (a b m : Int) : Dot := ⟨1000 + pick_ b 2000, 1000 + pick_ m 2000, pick_ a 500, 0⟩
def madeR : Dot → List E3 → List Dot
  | _, [] => []
  | d, e :: r => madeN d e :: madeR (madeN d e) r
def madeD (a b m : Int) (es : List E3) : List Dot := made0 a b m :: madeR (made0 a b m) (es.take 23)
theorem madeR_length (d : Dot) (es : List E3) : (madeR d es).length = es.length := by
  induction es generalizing d with
  | nil => rfl
  | cons e r ih => simp [madeR, ih]
/-- the last dot of a walk -/
def lastD (d : Dot) (es : List E3) : Dot := es.foldl madeN d
theorem madeR_snoc (d : Dot) (es : List E3) (e : E3) : madeR d (es ++ [e]) = madeR d es ++ [madeN (lastD d es) e] := by
  induction es generalizing d with
  | nil => rfl
  | cons f r ih => simp [madeR, lastD, ih]
theorem lastD_snoc (d : Dot) (es : List E3) (e : E3) : lastD d (es ++ [e]) = madeN (lastD d es) e := by simp [lastD, List.foldl_append]
theorem madeD_length (a b m : Int) (es : List E3) : (madeD a b m es).length = 1 + min 23 es.length := by
  rw [madeD, List.length_cons, madeR_length, List.length_take]; omega
/-- a dot whose time is at most c -/
def DotOk (c : Int) (d : Dot) : Prop := (0 ≤ d.x ∧ d.x ≤ 4095) ∧ (0 ≤ d.y ∧ d.y ≤ 4095) ∧ (0 ≤ d.t ∧ d.t ≤ c) ∧ 0 ≤ d.p ∧ d.p ≤ 100
theorem made0_ok (a b m : Int) : DotOk 500 (made0 a b m) := by
  have h1 := pick_bd b (n := 2000) (by omega)
  have h2 := pick_bd m (n := 2000) (by omega)
  have h3 := pick_bd a (n := 500) (by omega)
  refine ⟨⟨?_, ?_⟩, ⟨?_, ?_⟩, ⟨?_, ?_⟩, ?_, ?_⟩ <;> simp only [made0] <;> omega
theorem madeN_ok {c : Int} {d : Dot} (h : DotOk c d) (e : E3) : DotOk (c + 50) (madeN d e) ∧ d.t ≤ (madeN d e).t := by
  obtain ⟨⟨x0, x1⟩, ⟨y0, y1⟩, ⟨t0, t1⟩, p0, p1⟩ := h
  have h1 := pick_bd e.a (n := 401) (by omega)
  have h2 := pick_bd e.b (n := 401) (by omega)
  have h3 := pick_bd e.c (n := 50) (by omega)
  have h4 := pick_bd e.c (n := 101) (by omega)
  refine ⟨⟨⟨?_, ?_⟩, ⟨?_, ?_⟩, ⟨?_, ?_⟩, ?_, ?_⟩, ?_⟩ <;> simp only [madeN] <;> omega
theorem madeR_ok {c : Int} {d : Dot} (h : DotOk c d) (es : List E3) (hc : c + 50 * es.length ≤ 1000000) : dotsB d.t (madeR d es) = true := by
  induction es generalizing d c with
  | nil => rfl
  | cons e r ih =>
    obtain ⟨h1, h2⟩ := madeN_ok h e
    rw [List.length_cons] at hc
    have hc2 : c + 50 + 50 * (r.length : Int) ≤ 1000000 := by omega
    rw [madeR, dotsB, ih h1 hc2, Bool.and_true, dotB_iff]
    obtain ⟨a1, a2, a3, a4⟩ := h1
    exact ⟨⟨a1, a2⟩, ⟨h2, by omega⟩, a4⟩
theorem lastD_ok {c : Int} {d : Dot} (h : DotOk c d) (es : List E3) : DotOk (c + 50 * es.length) (lastD d es) := by
  induction es generalizing d c with
  | nil => simpa [lastD] using h
  | cons e r ih =>
    have h1 := ih (madeN_ok h e).1
    rw [List.length_cons, show c + 50 * ((r.length + 1 : Nat) : Int) = c + 50 + 50 * (r.length : Int) by omega]
    exact h1
/-- a made stroke is a stroke -/
theorem made_valid (a b m : Int) (es : List E3) : validB (pick_ a 40) (1 + pick_ b 999) (madeD a b m es) = true := by
  have h1 := pick_bd a (n := 40) (by omega)
  have h2 := pick_bd b (n := 999) (by omega)
  have hl := madeD_length a b m es
  have hk := made0_ok a b m
  have hr : dotsB (made0 a b m).t (madeR (made0 a b m) (es.take 23)) = true := madeR_ok hk _ (by rw [List.length_take]; omega)
  rw [validB, Bool.and_eq_true]
  refine ⟨headB_iff.2 ⟨⟨?_, ?_⟩, ⟨?_, ?_⟩, ?_, ?_⟩, ?_⟩
  · omega
  · omega
  · omega
  · omega
  · omega
  · omega
  · rw [madeD, dotsB, hr, Bool.and_true, dotB_iff]
    obtain ⟨a1, a2, ⟨a3, a4⟩, a5⟩ := hk
    exact ⟨⟨a1, a2⟩, ⟨a3, by omega⟩, a5⟩
end Str
end Go.Proofs.Ytebfenkjipaedaa
