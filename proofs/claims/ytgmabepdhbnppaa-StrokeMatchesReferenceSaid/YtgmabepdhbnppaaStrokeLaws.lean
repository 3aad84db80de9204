/- Plain laws of strokes: boxes, ways, turning, moving, thinning. -/
import Derived.Test.YtgmabepdhbnppaaStrokeNear
import Derived.Test.YtgmabepdhbnppaaStrokeThin
namespace Go.Proofs.Ytgmabepdhbnppaa.Str
theorem placed {D : List Dot} (h : dotsB 0 D = true) : ∀ d ∈ D, placeB d.x d.y = true := by
  intro d hd
  have := dotB_iff.1 (dotsB_mem (by omega) h d hd)
  exact placeB_iff.2 this.1

/-! what is enough -/
def okD (D : List Dot) (z : Int) (i k : Nat) : Bool := (List.range (k - i - 1)).all fun q => nearD (dotAt D i) (dotAt D k) (dotAt D (i + 1 + q)) z
theorem okD_iff {D : List Dot} {z : Int} {i k : Nat} : okD D z i k = true ↔ ∀ j, i < j → j < k → nearD (dotAt D i) (dotAt D k) (dotAt D j) z = true := by
  rw [okD, List.all_eq_true]
  constructor
  · intro h j h1 h2
    have := h (j - (i + 1)) (by rw [List.mem_range]; omega)
    rwa [show i + 1 + (j - (i + 1)) = j by omega] at this
  · intro h q hq
    rw [List.mem_range] at hq
    exact h _ (by omega) (by omega)
theorem okD_next (D : List Dot) (z : Int) (i : Nat) : okD D z i (i + 1) = true := okD_iff.2 fun j h1 h2 => by omega
/-- what Thin returns -/
def thinF (D : List Dot) (z : Int) : List Nat := 0 :: tailF (okD D z) (D.length - 1) (D.length - 1) 0
def thinT (D : List Dot) (z : Int) : List Nat := tailF (okD D z) (D.length - 1) (D.length - 1) 0
theorem thin_best {D : List Dot} (h : D.length ≤ 200) (h1 : 1 ≤ D.length) (z : Int) : Best (okD D z) (D.length - 1) (thinT D z) :=
  tail_best (by omega) fun i _ => okD_next D z i
theorem chain_mono {ok ok' : Nat → Nat → Bool} (h : ∀ i k, ok i k = true → ok' i k = true) : ∀ {a : Nat} {l : List Nat} {b : Nat}, Chain ok a l b → Chain ok' a l b
  | _, [], _, hc => hc
  | _, _ :: _, _, hc => ⟨hc.1, h _ _ hc.2.1, chain_mono h hc.2.2⟩
theorem okD_mono {D : List Dot} {z y : Int} (h0 : 0 ≤ z) (h : z ≤ y) (i k : Nat) (hk : okD D z i k = true) : okD D y i k = true :=
  okD_iff.2 fun j h1 h2 => near_mono h0 h (okD_iff.1 hk j h1 h2)
/-- with a greater tolerance, no more -/
theorem thin_mono {D : List Dot} (hl : D.length ≤ 200) (h1 : 1 ≤ D.length) {z y : Int} (h0 : 0 ≤ z) (h : z ≤ y) : (thinF D y).length ≤ (thinF D z).length := by
  have b1 := thin_best hl h1 z
  have b2 := thin_best hl h1 y
  have := (b2.2 _ (chain_mono (okD_mono h0 h) b1.1)).1
  rw [thinF, thinF, List.length_cons, List.length_cons]
  exact Nat.succ_le_succ this
theorem thin_eq_of {D E : List Dot} {z : Int} (hl : D.length = E.length) (h : ∀ i j k, j < D.length → k < D.length → i < D.length → nearD (dotAt D i) (dotAt D k) (dotAt D j) z = nearD (dotAt E i) (dotAt E k) (dotAt E j) z) (h200 : D.length ≤ 200) (h1 : 1 ≤ D.length) : thinF D z = thinF E z := by
  have b1 := thin_best h200 h1 z
  have b2 := thin_best (D := E) (by omega) (by omega) z
  have key : ∀ {A B : List Dot}, A.length = B.length → (∀ i j k, j < A.length → k < A.length → i < A.length → nearD (dotAt A i) (dotAt A k) (dotAt A j) z = nearD (dotAt B i) (dotAt B k) (dotAt B j) z) → ∀ {b : Nat}, b < A.length → ∀ {l : List Nat} {a : Nat}, Chain (okD A z) a l b → Chain (okD B z) a l b := by
    intro A B hab hn b hb l
    induction l with
    | nil => intro a hc; exact hc
    | cons k r ih =>
      intro a hc
      obtain ⟨c1, c2, c3⟩ := hc
      have c4 := chain_le c3
      refine ⟨c1, okD_iff.2 fun j j1 j2 => ?_, ih c3⟩
      rw [← hn a j k (by omega) (by omega) (by omega)]
      exact okD_iff.1 c2 j j1 j2
  have e : thinT D z = thinT E z := by
    refine best_unique (ok := okD D z) (k := D.length - 1) b1 ⟨?_, ?_⟩
    · rw [hl]
      exact key hl.symm (fun i j k a b c => (h i j k (by omega) (by omega) (by omega)).symm) (by omega) b2.1
    · intro m hm
      rw [hl] at hm
      refine b2.2 m ?_
      exact key hl h (by omega) hm
  show 0 :: thinT D z = 0 :: thinT E z
  rw [e]

/-! boxes -/
theorem box_spec {D : List Dot} (h1 : 1 ≤ D.length) : (∀ d ∈ D, (boxF D).1 ≤ d.x ∧ d.x ≤ (boxF D).1 + (boxF D).2.2.1 ∧ (boxF D).2.1 ≤ d.y ∧ d.y ≤ (boxF D).2.1 + (boxF D).2.2.2) ∧
    (∃ d ∈ D, d.x = (boxF D).1) ∧ (∃ d ∈ D, d.x = (boxF D).1 + (boxF D).2.2.1) ∧ (∃ d ∈ D, d.y = (boxF D).2.1) ∧ (∃ d ∈ D, d.y = (boxF D).2.1 + (boxF D).2.2.2) := by
  have h0 : dotAt D 0 ∈ D := dotAt_mem h1
  obtain ⟨a1, a2, a3⟩ := mnF_spec Dot.x D (dotAt D 0).x
  obtain ⟨b1, b2, b3⟩ := mnF_spec Dot.y D (dotAt D 0).y
  obtain ⟨c1, c2, c3⟩ := mxF_spec Dot.x D (dotAt D 0).x
  obtain ⟨e1, e2, e3⟩ := mxF_spec Dot.y D (dotAt D 0).y
  unfold boxF
  refine ⟨fun d hd => ?_, ?_, ?_, ?_, ?_⟩
  · have := a2 d hd
    have := b2 d hd
    have := c2 d hd
    have := e2 d hd
    simp only []
    omega
  · rcases a3 with a3 | ⟨d, hd, a3⟩
    · exact ⟨_, h0, a3.symm⟩
    · exact ⟨d, hd, a3.symm⟩
  · rcases c3 with c3 | ⟨d, hd, c3⟩
    · exact ⟨_, h0, by simp only []; omega⟩
    · exact ⟨d, hd, by simp only []; omega⟩
  · rcases b3 with b3 | ⟨d, hd, b3⟩
    · exact ⟨_, h0, b3.symm⟩
    · exact ⟨d, hd, b3.symm⟩
  · rcases e3 with e3 | ⟨d, hd, e3⟩
    · exact ⟨_, h0, by simp only []; omega⟩
    · exact ⟨d, hd, by simp only []; omega⟩
/-- what is a box: the sides bound all dots, and each has one -/
theorem box_unique {D : List Dot} (h1 : 1 ≤ D.length) {x y u v : Int} (ha : ∀ d ∈ D, x ≤ d.x ∧ d.x ≤ x + u ∧ y ≤ d.y ∧ d.y ≤ y + v)
    (hx : ∃ d ∈ D, d.x = x) (hu : ∃ d ∈ D, d.x = x + u) (hy : ∃ d ∈ D, d.y = y) (hv : ∃ d ∈ D, d.y = y + v) : boxF D = (x, y, u, v) := by
  obtain ⟨b0, ⟨p1, m1, q1⟩, ⟨p2, m2, q2⟩, ⟨p3, m3, q3⟩, ⟨p4, m4, q4⟩⟩ := box_spec h1
  obtain ⟨r1, n1, s1⟩ := hx
  obtain ⟨r2, n2, s2⟩ := hu
  obtain ⟨r3, n3, s3⟩ := hy
  obtain ⟨r4, n4, s4⟩ := hv
  have i1 := b0 _ n1
  have i2 := b0 _ n2
  have i3 := b0 _ n3
  have i4 := b0 _ n4
  have j1 := ha _ m1
  have j2 := ha _ m2
  have j3 := ha _ m3
  have j4 := ha _ m4
  have e1 : (boxF D).1 = x := by omega
  have e2 : (boxF D).2.1 = y := by omega
  have e3 : (boxF D).2.2.1 = u := by omega
  have e4 : (boxF D).2.2.2 = v := by omega
  rw [← e1, ← e2, ← e3, ← e4]
theorem box_bd {D : List Dot} (h1 : 1 ≤ D.length) (hd : ∀ d ∈ D, placeB d.x d.y = true) :
    (0 ≤ (boxF D).1 ∧ (boxF D).1 ≤ 4095) ∧ (0 ≤ (boxF D).2.1 ∧ (boxF D).2.1 ≤ 4095) ∧ (0 ≤ (boxF D).2.2.1 ∧ (boxF D).1 + (boxF D).2.2.1 ≤ 4095) ∧ (0 ≤ (boxF D).2.2.2 ∧ (boxF D).2.1 + (boxF D).2.2.2 ≤ 4095) := by
  obtain ⟨b0, ⟨p1, m1, q1⟩, ⟨p2, m2, q2⟩, ⟨p3, m3, q3⟩, ⟨p4, m4, q4⟩⟩ := box_spec h1
  have i1 := b0 _ m1
  have i2 := b0 _ m2
  have i3 := b0 _ m3
  have i4 := b0 _ m4
  have j1 := placeB_iff.1 (hd _ m1)
  have j2 := placeB_iff.1 (hd _ m2)
  have j3 := placeB_iff.1 (hd _ m3)
  have j4 := placeB_iff.1 (hd _ m4)
  omega
/-- dots of a stroke have a box that is not greater -/
theorem box_sub {D E : List Dot} (h1 : 1 ≤ E.length) (h : ∀ d ∈ E, d ∈ D) : (boxF D).1 ≤ (boxF E).1 ∧ (boxF D).2.1 ≤ (boxF E).2.1 ∧ (boxF E).1 + (boxF E).2.2.1 ≤ (boxF D).1 + (boxF D).2.2.1 ∧ (boxF E).2.1 + (boxF E).2.2.2 ≤ (boxF D).2.1 + (boxF D).2.2.2 := by
  have h2 : 1 ≤ D.length := List.length_pos_of_mem (h _ (dotAt_mem h1))
  obtain ⟨b0, _, _, _, _⟩ := box_spec h2
  obtain ⟨_, ⟨p1, m1, q1⟩, ⟨p2, m2, q2⟩, ⟨p3, m3, q3⟩, ⟨p4, m4, q4⟩⟩ := box_spec h1
  have i1 := b0 _ (h _ m1)
  have i2 := b0 _ (h _ m2)
  have i3 := b0 _ (h _ m3)
  have i4 := b0 _ (h _ m4)
  omega

/-! the way is at least as long as the greater side -/
theorem stp_ge (a b : Dot) : a.x - b.x ≤ stp a b ∧ b.x - a.x ≤ stp a b ∧ a.y - b.y ≤ stp a b ∧ b.y - a.y ≤ stp a b := by
  unfold stp maxI
  (repeat' split) <;> omega
theorem way_dist (D : List Dot) (i : Nat) : ∀ d, i + d ≤ D.length - 1 → let W := wayTo D (i + d) - wayTo D i
    (dotAt D i).x - (dotAt D (i + d)).x ≤ W ∧ (dotAt D (i + d)).x - (dotAt D i).x ≤ W ∧ (dotAt D i).y - (dotAt D (i + d)).y ≤ W ∧ (dotAt D (i + d)).y - (dotAt D i).y ≤ W
  | 0, _ => by simp
  | d + 1, h => by
    have ih := way_dist D i d (by omega)
    have hs := stp_ge (dotAt D (i + d)) (dotAt D (nx D (i + d)))
    rw [show nx D (i + d) = i + (d + 1) by unfold nx; omega] at hs
    simp only [] at ih ⊢
    rw [show i + (d + 1) = (i + d) + 1 by omega] at hs ⊢
    rw [wayTo, show nx D (i + d) = i + d + 1 by unfold nx; omega]
    omega
theorem way_ge {D : List Dot} (hd : ∀ d ∈ D, placeB d.x d.y = true) {a b : Dot} (ha : a ∈ D) (hb : b ∈ D) : a.x - b.x ≤ wayF D ∧ a.y - b.y ≤ wayF D := by
  obtain ⟨i, hi, rfl⟩ := List.getElem_of_mem ha
  obtain ⟨j, hj, rfl⟩ := List.getElem_of_mem hb
  rw [← dotAt_lt hi, ← dotAt_lt hj]
  have mono : ∀ i d, i + d ≤ D.length → wayTo D i ≤ wayTo D (i + d) := by
    intro i d
    induction d with
    | zero => intro _; exact Int.le_refl _
    | succ d ih =>
      intro h
      have := ih (by omega)
      have h2 := stp_bd (hd _ (dotAt_mem (D := D) (i := i + d) (by omega))) (hd _ (dotAt_mem (D := D) (i := nx D (i + d)) (by unfold nx; omega)))
      rw [show i + (d + 1) = (i + d) + 1 from rfl, wayTo]
      omega
  unfold wayF
  rcases Nat.le_total i j with h | h
  · have h1 := way_dist D i (j - i) (by omega)
    rw [show i + (j - i) = j by omega] at h1
    have h2 := mono j (D.length - 1 - j) (by omega)
    rw [show j + (D.length - 1 - j) = D.length - 1 by omega] at h2
    have h3 := (way_bd hd i (by omega)).1
    simp only [] at h1
    omega
  · have h1 := way_dist D j (i - j) (by omega)
    rw [show j + (i - j) = i by omega] at h1
    have h2 := mono i (D.length - 1 - i) (by omega)
    rw [show i + (D.length - 1 - i) = D.length - 1 by omega] at h2
    have h3 := (way_bd hd j (by omega)).1
    simp only [] at h1
    omega
theorem way_box {D : List Dot} (h1 : 1 ≤ D.length) (hd : ∀ d ∈ D, placeB d.x d.y = true) : (boxF D).2.2.1 ≤ wayF D ∧ (boxF D).2.2.2 ≤ wayF D := by
  obtain ⟨_, ⟨p1, m1, q1⟩, ⟨p2, m2, q2⟩, ⟨p3, m3, q3⟩, ⟨p4, m4, q4⟩⟩ := box_spec h1
  have k1 := way_ge hd m2 m1
  have k2 := way_ge hd m4 m3
  omega

/-! every dot is within its stroke -/
theorem within_mono {D : List Dot} {px py z : Int} {i : Nat} (h : nearB (dotAt D i).x (dotAt D i).y (dotAt D (nx D i)).x (dotAt D (nx D i)).y px py z = true) : ∀ n, i < n → withinTo D px py z n = true
  | n + 1, hn => by
    rw [withinTo]
    by_cases e : i = n
    · subst e; rw [h, Bool.or_true]
    · rw [within_mono h n (by omega), Bool.true_or]
theorem within_own {D : List Dot} (hd : ∀ d ∈ D, placeB d.x d.y = true) {i : Nat} (hi : i < D.length) {z : Int} (hz : isInB z 0 1000 = true) : withinF D (dotAt D i).x (dotAt D i).y z = true := by
  unfold withinF
  by_cases h : i < D.length - 1 ∨ D.length = 1
  · refine within_mono (i := i) ?_ _ (by omega)
    rw [nearB, hd _ (dotAt_mem hi), hd _ (dotAt_mem (i := nx D i) (by unfold nx; omega)), hz, near_first]; rfl
  · refine within_mono (i := i - 1) ?_ _ (by omega)
    have e : nx D (i - 1) = i := by unfold nx; omega
    rw [e, nearB, hd _ (dotAt_mem hi), hd _ (dotAt_mem (i := i - 1) (by omega)), hz, near_second]; rfl
theorem code_eq {P N Q M : Int} (hn : 1 ≤ N ∧ N ≤ 999) (hm : 1 ≤ M ∧ M ≤ 999) : (1000 * P + N = 1000 * Q + M) ↔ (P = Q ∧ N = M) := by omega

/-! turning and moving -/
def turn1 (d : Dot) : Dot := ⟨4095 - d.y, d.x, d.t, d.p⟩
def turnN : Nat → Dot → Dot
  | 0, d => d
  | n + 1, d => turn1 (turnN n d)
def turnD (n : Nat) (D : List Dot) : List Dot := D.map (turnN n)
def moveD (u v : Int) (D : List Dot) : List Dot := D.map fun d => ⟨d.x + u, d.y + v, d.t, d.p⟩
theorem turn_tp : ∀ n d, (turnN n d).t = d.t ∧ (turnN n d).p = d.p
  | 0, _ => ⟨rfl, rfl⟩
  | n + 1, d => turn_tp n d
theorem turn_place : ∀ n d, placeB (turnN n d).x (turnN n d).y = placeB d.x d.y
  | 0, _ => rfl
  | n + 1, d => by
    rw [← turn_place n d]
    show placeB (4095 - (turnN n d).y) (turnN n d).x = _
    rw [Bool.eq_iff_iff, placeB_iff, placeB_iff]
    omega
theorem turn_add (m : Nat) : ∀ n d, turnN n (turnN m d) = turnN (n + m) d
  | 0, d => by rw [Nat.zero_add]; rfl
  | n + 1, d => by rw [Nat.add_right_comm]; show turn1 _ = turn1 _; rw [turn_add m n d]
theorem turn_four (d : Dot) : turnN 4 d = d := by
  show (⟨4095 - (4095 - d.x), 4095 - (4095 - d.y), d.t, d.p⟩ : Dot) = d
  rw [show 4095 - (4095 - d.x) = d.x by omega, show 4095 - (4095 - d.y) = d.y by omega]
theorem turnD_add (n m : Nat) (D : List Dot) : turnD n (turnD m D) = turnD (n + m) D := by
  rw [turnD, turnD, turnD, List.map_map]
  exact List.map_congr_left fun d _ => turn_add m n d
theorem turnD_zero (D : List Dot) : turnD 0 D = D := by
  rw [turnD, show turnN 0 = id from rfl, List.map_id]
theorem turnD_four (D : List Dot) : turnD 4 D = D := by
  rw [turnD, show turnN 4 = id from funext turn_four, List.map_id]
theorem dotsB_same {f : Dot → Dot} (ht : ∀ d, (f d).t = d.t ∧ (f d).p = d.p) (hp : ∀ d, placeB (f d).x (f d).y = placeB d.x d.y) : ∀ (D : List Dot) (l : Int), dotsB l (D.map f) = dotsB l D
  | [], _ => rfl
  | d :: r, l => by
    rw [List.map_cons, dotsB, dotsB, dotsB_same ht hp r, dotB, dotB, hp d, (ht d).1, (ht d).2]
theorem turnD_dots (n : Nat) (D : List Dot) (l : Int) : dotsB l (turnD n D) = dotsB l D := dotsB_same (turn_tp n) (turn_place n) D l
theorem dotAt_map (f : Dot → Dot) {D : List Dot} {i : Nat} (h : i < D.length) : dotAt (D.map f) i = f (dotAt D i) := by
  rw [dotAt_lt (by simpa using h), dotAt_lt h, List.getElem_map]
theorem way_map (f : Dot → Dot) (hs : ∀ a b, stp (f a) (f b) = stp a b) (D : List Dot) : ∀ k, k ≤ D.length → wayTo (D.map f) k = wayTo D k
  | 0, _ => rfl
  | k + 1, h => by
    have e : nx (D.map f) k = nx D k := by unfold nx; rw [List.length_map]
    rw [wayTo, wayTo, way_map f hs D k (by omega), dotAt_map f (by omega), e, dotAt_map f (by unfold nx; omega), hs]
theorem way_turn1 (D : List Dot) : wayF (turnD 1 D) = wayF D := by
  unfold wayF turnD
  rw [List.length_map]
  refine way_map _ (fun a b => ?_) D _ (by omega)
  show stp (turn1 a) (turn1 b) = stp a b
  unfold stp turn1 maxI
  dsimp only
  (repeat' split) <;> omega
theorem way_move (u v : Int) (D : List Dot) : wayF (moveD u v D) = wayF D := by
  unfold wayF moveD
  rw [List.length_map]
  refine way_map _ (fun a b => ?_) D _ (by omega)
  unfold stp maxI
  dsimp only
  (repeat' split) <;> omega
theorem box_turn1 {D : List Dot} (h1 : 1 ≤ D.length) : boxF (turnD 1 D) = (4095 - (boxF D).2.1 - (boxF D).2.2.2, (boxF D).1, (boxF D).2.2.2, (boxF D).2.2.1) := by
  obtain ⟨b0, ⟨p1, m1, q1⟩, ⟨p2, m2, q2⟩, ⟨p3, m3, q3⟩, ⟨p4, m4, q4⟩⟩ := box_spec h1
  have mem : ∀ {d}, d ∈ D → turn1 d ∈ turnD 1 D := fun hd => List.mem_map.2 ⟨_, hd, rfl⟩
  refine box_unique (by unfold turnD; simpa using h1) ?_ ⟨_, mem m4, ?_⟩ ⟨_, mem m3, ?_⟩ ⟨_, mem m1, q1⟩ ⟨_, mem m2, q2⟩
  · intro d hd
    obtain ⟨e, he, rfl⟩ := List.mem_map.1 hd
    have := b0 e he
    show _ ≤ 4095 - e.y ∧ 4095 - e.y ≤ _ ∧ _ ≤ e.x ∧ e.x ≤ _
    omega
  · show 4095 - p4.y = _
    omega
  · show 4095 - p3.y = _
    omega
theorem box_move (u v : Int) {D : List Dot} (h1 : 1 ≤ D.length) : boxF (moveD u v D) = ((boxF D).1 + u, (boxF D).2.1 + v, (boxF D).2.2.1, (boxF D).2.2.2) := by
  obtain ⟨b0, ⟨p1, m1, q1⟩, ⟨p2, m2, q2⟩, ⟨p3, m3, q3⟩, ⟨p4, m4, q4⟩⟩ := box_spec h1
  have mem : ∀ {d}, d ∈ D → (⟨d.x + u, d.y + v, d.t, d.p⟩ : Dot) ∈ moveD u v D := fun hd => List.mem_map.2 ⟨_, hd, rfl⟩
  refine box_unique (by unfold moveD; simpa using h1) ?_ ⟨_, mem m1, ?_⟩ ⟨_, mem m2, ?_⟩ ⟨_, mem m3, ?_⟩ ⟨_, mem m4, ?_⟩
  · intro d hd
    obtain ⟨e, he, rfl⟩ := List.mem_map.1 hd
    have := b0 e he
    show _ ≤ e.x + u ∧ e.x + u ≤ _ ∧ _ ≤ e.y + v ∧ e.y + v ≤ _
    omega
  · show p1.x + u = _; omega
  · show p2.x + u = _; omega
  · show p3.y + v = _; omega
  · show p4.y + v = _; omega
theorem thin_turn1 {D : List Dot} (h200 : D.length ≤ 200) (h1 : 1 ≤ D.length) (z : Int) : thinF (turnD 1 D) z = thinF D z := by
  refine thin_eq_of (by simp [turnD]) ?_ (by simpa [turnD] using h200) (by simpa [turnD] using h1)
  intro i j k hj hk hi
  have hl : (turnD 1 D).length = D.length := by simp [turnD]
  unfold turnD
  rw [dotAt_map _ (by omega), dotAt_map _ (by omega), dotAt_map _ (by omega)]
  exact near_turned ..
theorem thin_move {D : List Dot} (u v : Int) (h200 : D.length ≤ 200) (h1 : 1 ≤ D.length) (z : Int) : thinF (moveD u v D) z = thinF D z := by
  refine thin_eq_of (by simp [moveD]) ?_ (by simpa [moveD] using h200) (by simpa [moveD] using h1)
  intro i j k hj hk hi
  have hl : (moveD u v D).length = D.length := by simp [moveD]
  unfold moveD
  rw [dotAt_map _ (by omega), dotAt_map _ (by omega), dotAt_map _ (by omega)]
  exact near_moved ..
theorem withinTo_turn1 (D : List Dot) (px py z : Int) : ∀ k, k ≤ D.length → withinTo (turnD 1 D) (4095 - py) px z k = withinTo D px py z k
  | 0, _ => rfl
  | k + 1, h => by
    have e : nx (turnD 1 D) k = nx D k := by unfold nx turnD; rw [List.length_map]
    rw [withinTo, withinTo, withinTo_turn1 D px py z k (by omega), e]
    unfold turnD
    rw [dotAt_map _ (by omega), dotAt_map _ (by unfold nx; omega)]
    have p1 := turn_place 1 (dotAt D k)
    have p2 := turn_place 1 (dotAt D (nx D k))
    have p3 : placeB (4095 - py) px = placeB px py := turn_place 1 ⟨px, py, 0, 0⟩
    unfold nearB
    rw [p1, p2, p3]
    show (_ || (_ && nearI (4095 - (dotAt D k).y) (dotAt D k).x (4095 - (dotAt D (nx D k)).y) (dotAt D (nx D k)).x (4095 - py) px z)) = _
    rw [near_turned]
theorem within_turn1 {D : List Dot} (h1 : 1 ≤ D.length) (px py z : Int) : withinF (turnD 1 D) (4095 - py) px z = withinF D px py z := by
  unfold withinF
  rw [show (turnD 1 D).length = D.length by simp [turnD]]
  exact withinTo_turn1 D px py z _ (by omega)
theorem moveD_back (u v : Int) (D : List Dot) : moveD (-u) (-v) (moveD u v D) = D := by
  unfold moveD
  rw [List.map_map]
  conv => rhs; rw [← List.map_id D]
  refine List.map_congr_left fun d _ => ?_
  show (⟨d.x + u + -u, d.y + v + -v, d.t, d.p⟩ : Dot) = d
  rw [show d.x + u + -u = d.x by omega, show d.y + v + -v = d.y by omega]
/-- moved dots are dots if the box stays on the board -/
theorem moveD_dots (u v : Int) : ∀ (D : List Dot) (l : Int), dotsB l D = true → (dotsB l (moveD u v D) = true ↔ ∀ d ∈ D, placeB (d.x + u) (d.y + v) = true)
  | [], l, _ => by simp [moveD, dotsB]
  | d :: r, l, h => by
    simp only [dotsB, Bool.and_eq_true] at h
    have ih := moveD_dots u v r d.t h.2
    have hd := dotB_iff.1 h.1
    show (dotB l ⟨d.x + u, d.y + v, d.t, d.p⟩ && dotsB d.t (moveD u v r)) = true ↔ _
    rw [Bool.and_eq_true, ih, List.forall_mem_cons, dotB_iff, placeB_iff]
    constructor
    · rintro ⟨h1, h2⟩; exact ⟨h1.1, h2⟩
    · rintro ⟨h1, h2⟩; exact ⟨⟨h1, hd.2⟩, h2⟩
theorem move_fits {D : List Dot} (u v : Int) (h1 : 1 ≤ D.length) (h : dotsB 0 D = true) :
    dotsB 0 (moveD u v D) = true ↔ (0 ≤ (boxF D).1 + u ∧ (boxF D).1 + (boxF D).2.2.1 + u ≤ 4095) ∧ 0 ≤ (boxF D).2.1 + v ∧ (boxF D).2.1 + (boxF D).2.2.2 + v ≤ 4095 := by
  rw [moveD_dots u v D 0 h]
  obtain ⟨b0, ⟨p1, m1, q1⟩, ⟨p2, m2, q2⟩, ⟨p3, m3, q3⟩, ⟨p4, m4, q4⟩⟩ := box_spec h1
  constructor
  · intro ha
    have j1 := placeB_iff.1 (ha _ m1)
    have j2 := placeB_iff.1 (ha _ m2)
    have j3 := placeB_iff.1 (ha _ m3)
    have j4 := placeB_iff.1 (ha _ m4)
    omega
  · intro hb d hd
    have := b0 d hd
    exact placeB_iff.2 (by omega)
end Go.Proofs.Ytgmabepdhbnppaa.Str
