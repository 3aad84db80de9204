/- The law PlotGap. PlotGap: Gap is a distance, and the lifted way is at least the gap from 0, 0 to the nearest end of a stroke; no condition beyond the row of the statement. -/
import Derived.Test.YtgopadbdnndkiaaPk
import Derived.Test.YtgopadbdnndkiaaPl
import Derived.Test.YtgopadbdnndkiaaPc
import Derived.Deep.RegionHeld3
import Derived.Test.YtgopadbdnndkiaaPn
namespace Go.Proofs.Ytgopadbdnndkiaa.Pt
open Go.RowKit Str
attribute [local go_sem] Oper.semAt_some
/-- the least of three -/
def mn3 (x y z : Int) : Int := if z < (if y < x then y else x) then z else (if y < x then y else x)
theorem run_min3 {P : Program} (w : World) (ts : Array TypeId) (t : TypeId) (k k2 k3 : IntKind) (x y z : Int) : (Builtin.min_ ts t #[.int k x, .int k2 y, .int k3 z]).run P w = .ok (.int k (mn3 x y z)) w := by
  simp [Builtin.min_, Builtin.min2, mn3]
  try rfl
attribute [local go_sem] run_min3
theorem mn3_le (x y z : Int) : mn3 x y z ≤ x ∧ mn3 x y z ≤ y ∧ mn3 x y z ≤ z ∧ (0 ≤ x → 0 ≤ y → 0 ≤ z → 0 ≤ mn3 x y z) := by
  unfold mn3
  split <;> split <;> omega
theorem gapI_zero {a b c d : Int} : (gapI a b c d == 0) = decide (a = c ∧ b = d) := by
  rw [Bool.eq_iff_iff, beq_iff_eq, decide_eq_true_eq]
  unfold gapI maxI
  repeat' split
  all_goals omega
theorem gapI_tri (a b c d e f : Int) : gapI a b c d ≤ gapI a b e f + gapI e f c d := by
  have h : ∀ x y u v : Int, (x - u ≤ gapI x y u v ∧ u - x ≤ gapI x y u v) ∧ (y - v ≤ gapI x y u v ∧ v - y ≤ gapI x y u v) := fun x y u v => by
    unfold gapI maxI
    repeat' split
    all_goals omega
  have h1 := h a b e f
  have h2 := h e f c d
  have h3 : gapI a b c d = a - c ∨ gapI a b c d = c - a ∨ gapI a b c d = b - d ∨ gapI a b c d = d - b := by
    unfold gapI maxI
    repeat' split
    all_goals omega
  omega
/-- the gap from 0, 0 to the nearer end of a stroke -/
def endG (l : List Stk) (i : Nat) (m : Int) : Prop := m ≤ gapI 0 0 (bgn l (2 * i)).1 (bgn l (2 * i)).2 ∧ m ≤ gapI 0 0 (bgn l (2 * i + 1)).1 (bgn l (2 * i + 1)).2
theorem bgn_even (l : List Stk) (i : Nat) : bgn l (2 * i) = xy (dotAt (l.getD i stk0).D 0) ∨ (l.getD i stk0).D = [] := by
  cases hD : (l.getD i stk0).D with
  | nil => exact .inr rfl
  | cons d t =>
    left
    rw [bgn, plc, if_neg (by omega), show 2 * i / 2 = i by omega, hD]
    rfl
theorem getD_xy {L : List Dot} {i : Nat} (h : i < L.length) : (L.map xy).getD i (0, 0) = xy (dotAt L i) := by
  simp [List.getD, dotAt, List.getElem?_eq_getElem h]
theorem bgn_odd (l : List Stk) (i : Nat) : bgn l (2 * i + 1) = xy (dotAt (l.getD i stk0).D ((l.getD i stk0).D.length - 1)) ∨ (l.getD i stk0).D = [] := by
  cases hD : (l.getD i stk0).D with
  | nil => exact .inr rfl
  | cons d t =>
    left
    rw [bgn, plc, if_pos (by omega), show (2 * i + 1) / 2 = i by omega, hD]
    have h1 := getD_rev ((d :: t).map xy) 0 (by simp)
    rw [← h1, List.length_map, Nat.sub_zero]
    exact getD_xy (by simp)
theorem lift_ge {l : List Stk} {rs : List Nat} {m : Int} (hO : PageOk l) (hF : Fresh l.length 0 rs) (hn : rs.length = l.length) (hl : 0 < l.length) (hm : ∀ i, i < l.length → endG l i m) : m ≤ lift l (0, 0) rs := by
  cases rs with
  | nil => simp at hn; omega
  | cons r t =>
    have hr := (Plt.mem_left.1 hF.1).1
    have h1 := hm (r / 2) (by omega)
    have h2 := lift_bd hO (rs := t) (p := fin l r) (fin_bd hO hr) (fun x hx => fresh_mem hF.2 x hx)
    rw [lift]
    show m ≤ gapI 0 0 (bgn l r).1 (bgn l r).2 + lift l (fin l r) t
    have h3 : r = 2 * (r / 2) ∨ r = 2 * (r / 2) + 1 := by omega
    rcases h3 with h3 | h3
    · have := h1.1
      rw [← h3] at this
      omega
    · have := h1.2
      rw [← h3] at this
      omega
set_option maxRecDepth 100000 in
set_option maxHeartbeats 8000000 in
theorem gap_law (y0 y1 y2 y3 y4 y5 : Int) (X : Option Addr) (cx : Nat) (rows : List Row3) (Y : Option Addr) (cy : Nat) (ys : List Int) (w : World) (i0 : I64 y0) (i1 : I64 y1) (i2 : I64 y2) (i3 : I64 y3) (i4 : I64 y4) (i5 : I64 y5) (hR : RowsAt w X rows) (hc : rows.length ≤ cx) (hm : rows.length ≤ 9223372036854775807) (hY : IntsAt w Y ys) (hI : ∀ y ∈ ys, I64 y) (hcy : ys.length ≤ cy) (hyl : ys.length ≤ 9223372036854775807) :
    Calls Try.prog 7 #[.agg #[.int .i64 y0, .int .i64 y1, .int .i64 y2, .int .i64 y3, .int .i64 y4, .int .i64 y5], .slice X rows.length cx, .slice Y ys.length cy] w fun e w' => e = .returned (.bool true) ∧ Below w.heap.size w w' := by
  have HSA := Lib.hid (fun W => sane_any W)
  have HMA := Lib.hid (fun W (hW : Below w.heap.size w W) => made26_any X cx rows W (hR.then_ hW) hc hm)
  have HRI := Lib.hid (fun W (hW : Below w.heap.size w W) A c l (hP : PageAt W A l) (hO : PageOk l) (hc : l.length ≤ c) => rides26_any A c l Y cy ys W hP hO hc (hY.then_ hW) hI hcy hyl)
  clear hR hY hI hc hm hcy hyl
  have b0 := pickI_bd y0 (n := 4096) (by omega)
  obtain ⟨p0, hp0⟩ : ∃ p0, pickI y0 4096 = p0 := ⟨_, rfl⟩
  rw [hp0] at b0
  have H0 := Lib.hid hp0
  clear hp0
  have b1 := pickI_bd y1 (n := 4096) (by omega)
  obtain ⟨p1, hp1⟩ : ∃ p1, pickI y1 4096 = p1 := ⟨_, rfl⟩
  rw [hp1] at b1
  have H1 := Lib.hid hp1
  clear hp1
  have b2 := pickI_bd y2 (n := 4096) (by omega)
  obtain ⟨p2, hp2⟩ : ∃ p2, pickI y2 4096 = p2 := ⟨_, rfl⟩
  rw [hp2] at b2
  have H2 := Lib.hid hp2
  clear hp2
  have b3 := pickI_bd y3 (n := 4096) (by omega)
  obtain ⟨p3, hp3⟩ : ∃ p3, pickI y3 4096 = p3 := ⟨_, rfl⟩
  rw [hp3] at b3
  have H3 := Lib.hid hp3
  clear hp3
  have b4 := pickI_bd y4 (n := 4096) (by omega)
  obtain ⟨p4, hp4⟩ : ∃ p4, pickI y4 4096 = p4 := ⟨_, rfl⟩
  rw [hp4] at b4
  have H4 := Lib.hid hp4
  clear hp4
  have b5 := pickI_bd y5 (n := 4096) (by omega)
  obtain ⟨p5, hp5⟩ : ∃ p5, pickI y5 4096 = p5 := ⟨_, rfl⟩
  rw [hp5] at b5
  have H5 := Lib.hid hp5
  clear hp5
  go_enter Try.func7, Try.ntmps7
  go_wp2_with fail
  have hA : Below w.heap.size w (w.alloc (.cells #[.int .i64 y0, .int .i64 y1, .int .i64 y2, .int .i64 y3, .int .i64 y4, .int .i64 y5] 59)) := below_alloc (Below.refl _ _) _
  have x0 : (w.alloc (.cells #[.int .i64 y0, .int .i64 y1, .int .i64 y2, .int .i64 y3, .int .i64 y4, .int .i64 y5] 59)).cell? ⟨w.heap.size, 0, none⟩ = some (.int .i64 y0) := new_cell rfl
  have x1 : (w.alloc (.cells #[.int .i64 y0, .int .i64 y1, .int .i64 y2, .int .i64 y3, .int .i64 y4, .int .i64 y5] 59)).cell? ⟨w.heap.size, 1, none⟩ = some (.int .i64 y1) := new_cell rfl
  have x2 : (w.alloc (.cells #[.int .i64 y0, .int .i64 y1, .int .i64 y2, .int .i64 y3, .int .i64 y4, .int .i64 y5] 59)).cell? ⟨w.heap.size, 2, none⟩ = some (.int .i64 y2) := new_cell rfl
  have x3 : (w.alloc (.cells #[.int .i64 y0, .int .i64 y1, .int .i64 y2, .int .i64 y3, .int .i64 y4, .int .i64 y5] 59)).cell? ⟨w.heap.size, 3, none⟩ = some (.int .i64 y3) := new_cell rfl
  have x4 : (w.alloc (.cells #[.int .i64 y0, .int .i64 y1, .int .i64 y2, .int .i64 y3, .int .i64 y4, .int .i64 y5] 59)).cell? ⟨w.heap.size, 4, none⟩ = some (.int .i64 y4) := new_cell rfl
  have x5 : (w.alloc (.cells #[.int .i64 y0, .int .i64 y1, .int .i64 y2, .int .i64 y3, .int .i64 y4, .int .i64 y5] 59)).cell? ⟨w.heap.size, 5, none⟩ = some (.int .i64 y5) := new_cell rfl
  refine (HSA.out _).mono ?_
  rintro e w1 ⟨rfl, bq⟩
  have hB := below_next hA bq
  replace x0 := cell_then bq x0
  replace x1 := cell_then bq x1
  replace x2 := cell_then bq x2
  replace x3 := cell_then bq x3
  replace x4 := cell_then bq x4
  replace x5 := cell_then bq x5
  clear bq hA HSA
  go_wp2_with fail
  have l0 := lt_size x0
  apply wp_same
  case hreg =>
    go_region_held3 (fun w' => Below w1.heap.size w1 w' ∧ w'.cell? ⟨w.heap.size, 0, none⟩ = some (.int .i64 y0) ∧ w'.cell? ⟨w.heap.size, 1, none⟩ = some (.int .i64 y1)) ((suffices hB : Below w1.heap.size w1 _ from ⟨hB, cell_then hB ‹_›, cell_then hB ‹_›⟩; repeat (first | with_reducible exact Below.refl _ _ | with_reducible refine below_alloc ?_ _ | with_reducible refine Below.setCell ?_ (by dsimp only; omega) _ | with_reducible refine Below.drew ?_ | with_reducible refine below_next ?_ ‹Below _ _ _›))) (first | (go_at_call 16; refine (pickL_any _ _ _ (by assumption) (by omega) (by omega)).mono ?_; rintro e w' ⟨rfl, rfl⟩))
    all_goals exact EndsIn.mk
  go_wp2_with fail
  rw [H0.out, H1.out]
  have hA : Below w1.heap.size w1 (w1.alloc (.cells #[.int .i64 p0, .int .i64 p1] 56)).drew := (below_alloc (Below.refl _ _) _).drew
  have z0 : (w1.alloc (.cells #[.int .i64 p0, .int .i64 p1] 56)).drew.cell? ⟨w1.heap.size, 0, none⟩ = some (.int .i64 p0) := drew_cell (new_cell rfl)
  have z1 : (w1.alloc (.cells #[.int .i64 p0, .int .i64 p1] 56)).drew.cell? ⟨w1.heap.size, 1, none⟩ = some (.int .i64 p1) := drew_cell (new_cell rfl)
  obtain ⟨w2, hv⟩ : ∃ vv_ : World, (w1.alloc (.cells #[.int .i64 p0, .int .i64 p1] 56)).drew = vv_ := ⟨_, rfl⟩
  rw [hv] at hA z0 z1 ⊢
  replace x0 := cell_then hA x0
  replace x1 := cell_then hA x1
  replace x2 := cell_then hA x2
  replace x3 := cell_then hA x3
  replace x4 := cell_then hA x4
  replace x5 := cell_then hA x5
  replace hB := below_next hB hA
  clear hA hv l0
  have l0 := lt_size x0
  apply wp_same
  case hreg =>
    go_region_held3 (fun w' => Below w2.heap.size w2 w' ∧ w'.cell? ⟨w.heap.size, 2, none⟩ = some (.int .i64 y2) ∧ w'.cell? ⟨w.heap.size, 3, none⟩ = some (.int .i64 y3)) ((suffices hB : Below w2.heap.size w2 _ from ⟨hB, cell_then hB ‹_›, cell_then hB ‹_›⟩; repeat (first | with_reducible exact Below.refl _ _ | with_reducible refine below_alloc ?_ _ | with_reducible refine Below.setCell ?_ (by dsimp only; omega) _ | with_reducible refine Below.drew ?_ | with_reducible refine below_next ?_ ‹Below _ _ _›))) (first | (go_at_call 16; refine (pickL_any _ _ _ (by assumption) (by omega) (by omega)).mono ?_; rintro e w' ⟨rfl, rfl⟩))
    all_goals exact EndsIn.mk
  have m0 := lt_size z0
  go_wp2_with fail
  clear m0
  rw [H2.out, H3.out]
  have hA : Below w2.heap.size w2 (w2.alloc (.cells #[.int .i64 p2, .int .i64 p3] 56)).drew := (below_alloc (Below.refl _ _) _).drew
  have z2 : (w2.alloc (.cells #[.int .i64 p2, .int .i64 p3] 56)).drew.cell? ⟨w2.heap.size, 0, none⟩ = some (.int .i64 p2) := drew_cell (new_cell rfl)
  have z3 : (w2.alloc (.cells #[.int .i64 p2, .int .i64 p3] 56)).drew.cell? ⟨w2.heap.size, 1, none⟩ = some (.int .i64 p3) := drew_cell (new_cell rfl)
  obtain ⟨w3, hv⟩ : ∃ vv_ : World, (w2.alloc (.cells #[.int .i64 p2, .int .i64 p3] 56)).drew = vv_ := ⟨_, rfl⟩
  rw [hv] at hA z2 z3 ⊢
  replace x0 := cell_then hA x0
  replace x1 := cell_then hA x1
  replace x2 := cell_then hA x2
  replace x3 := cell_then hA x3
  replace x4 := cell_then hA x4
  replace x5 := cell_then hA x5
  replace z0 := cell_then hA z0
  replace z1 := cell_then hA z1
  replace hB := below_next hB hA
  clear hA hv l0
  have l0 := lt_size x0
  apply wp_same
  case hreg =>
    go_region_held3 (fun w' => Below w3.heap.size w3 w' ∧ w'.cell? ⟨w.heap.size, 4, none⟩ = some (.int .i64 y4) ∧ w'.cell? ⟨w.heap.size, 5, none⟩ = some (.int .i64 y5)) ((suffices hB : Below w3.heap.size w3 _ from ⟨hB, cell_then hB ‹_›, cell_then hB ‹_›⟩; repeat (first | with_reducible exact Below.refl _ _ | with_reducible refine below_alloc ?_ _ | with_reducible refine Below.setCell ?_ (by dsimp only; omega) _ | with_reducible refine Below.drew ?_ | with_reducible refine below_next ?_ ‹Below _ _ _›))) (first | (go_at_call 16; refine (pickL_any _ _ _ (by assumption) (by omega) (by omega)).mono ?_; rintro e w' ⟨rfl, rfl⟩))
    all_goals exact EndsIn.mk
  have m0 := lt_size z0
  have m1 := lt_size z2
  go_wp2_with fail
  clear m0 m1
  rw [H4.out, H5.out]
  have hA : Below w3.heap.size w3 (w3.alloc (.cells #[.int .i64 p4, .int .i64 p5] 56)).drew := (below_alloc (Below.refl _ _) _).drew
  have z4 : (w3.alloc (.cells #[.int .i64 p4, .int .i64 p5] 56)).drew.cell? ⟨w3.heap.size, 0, none⟩ = some (.int .i64 p4) := drew_cell (new_cell rfl)
  have z5 : (w3.alloc (.cells #[.int .i64 p4, .int .i64 p5] 56)).drew.cell? ⟨w3.heap.size, 1, none⟩ = some (.int .i64 p5) := drew_cell (new_cell rfl)
  obtain ⟨w4, hv⟩ : ∃ vv_ : World, (w3.alloc (.cells #[.int .i64 p4, .int .i64 p5] 56)).drew = vv_ := ⟨_, rfl⟩
  rw [hv] at hA z4 z5 ⊢
  replace x0 := cell_then hA x0
  replace x1 := cell_then hA x1
  replace x2 := cell_then hA x2
  replace x3 := cell_then hA x3
  replace x4 := cell_then hA x4
  replace x5 := cell_then hA x5
  replace z0 := cell_then hA z0
  replace z1 := cell_then hA z1
  replace z2 := cell_then hA z2
  replace z3 := cell_then hA z3
  replace hB := below_next hB hA
  clear hA hv l0
  have m0 := lt_size z0
  have m1 := lt_size z2
  have m2 := lt_size z4
  clear x0 x1 x2 x3 x4 x5
  have c0 : 0 ≤ p0 ∧ p0 ≤ 4095 := by omega
  have c1 : 0 ≤ p1 ∧ p1 ≤ 4095 := by omega
  have c2 : 0 ≤ p2 ∧ p2 ≤ 4095 := by omega
  have c3 : 0 ≤ p3 ∧ p3 ≤ 4095 := by omega
  have c4 : 0 ≤ p4 ∧ p4 ≤ 4095 := by omega
  have c5 : 0 ≤ p5 ∧ p5 ≤ 4095 := by omega
  clear b0 b1 b2 b3 b4 b5
  have hg := pgap_any p0 p1 p2 p3 w4 c0 c1 c2 c3
  unfold pv at hg
  have HG := Lib.hid hg
  have G1 := Lib.hid (fun W => pgap_any p2 p3 p0 p1 W c2 c3 c0 c1)
  have G2 := Lib.hid (fun W => pgap_any p0 p1 p4 p5 W c0 c1 c4 c5)
  have G3 := Lib.hid (fun W => pgap_any p4 p5 p2 p3 W c4 c5 c2 c3)
  unfold pv at G1 G2 G3
  have k1 := gapI_bd c0 c1 c2 c3
  have k2 := gapI_bd c0 c1 c4 c5
  have k3 := gapI_bd c4 c5 c2 c3
  have e0 := @gapI_zero p0 p1 p2 p3
  have e1 := gapI_tri p0 p1 p2 p3 p4 p5
  rw [gapI_comm p2 p3 p0 p1] at G1
  obtain ⟨I, hI⟩ : ∃ I, gapI p0 p1 p2 p3 = I := ⟨_, rfl⟩
  obtain ⟨J, hJ⟩ : ∃ J, gapI p0 p1 p4 p5 = J := ⟨_, rfl⟩
  obtain ⟨K, hK⟩ : ∃ K, gapI p4 p5 p2 p3 = K := ⟨_, rfl⟩
  rw [hI] at HG G1 k1 e0 e1
  rw [hJ] at G2 k2 e1
  rw [hK] at G3 k3 e1
  clear hI hJ hK hg
  go_wp2_with fail
  refine HG.out.mono ?_
  rintro e w5 ⟨rfl, b5⟩
  have z0' := cell_then b5 z0
  have z1' := cell_then b5 z1
  have z2' := cell_then b5 z2
  have z3' := cell_then b5 z3
  have z4' := cell_then b5 z4
  have z5' := cell_then b5 z5
  have HB5 := Lib.hid (below_next hB b5)
  clear b5 HG z0 z1 z2 z3 z4 z5 hB
  have n0 := lt_size z0'
  have n1 := lt_size z2'
  have n2 := lt_size z4'
  have q1 : (decide (I < 0)) = false := by simp; omega
  have q2 : (I != I) = false := by simp
  have q3 : (decide (J + K < I)) = false := by simp; omega
  have g_1 := fun D os => cell_regrown z0' D os
  have g_2 := fun D os => cell_regrown z1' D os
  have g_3 := fun D os => cell_regrown z2' D os
  have g_4 := fun D os => cell_regrown z3' D os
  have g_5 := fun D os => cell_regrown z4' D os
  have g_6 := fun D os => cell_regrown z5' D os
  have hqe := fun w => eql_place w p0 p2 p1 p3
  go_wp2_with fail
  refine wp_region_quiet_below (by kernel_rfl) (by kernel_rfl) ?_
  repeat (go_big_quiet_step (first | (with_reducible exact Calls.regrown_of (G1.out _)) | (with_reducible exact Calls.regrown_of (G2.out _)) | (with_reducible exact Calls.regrown_of (G3.out _))))
  refine wpQuiet_nil ?_
  intro wq hq0
  have hq := below_of_class hq0
  clear hq0
  clear g_1 g_2 g_3 g_4 g_5 g_6 G1 G2 G3 hqe
  have HB6 := Lib.hid (below_next HB5.out hq)
  have HM6 := Lib.hid (HMA.out _ HB6.out)
  clear hq HB5 HMA z0' z1' z2' z3' z4' z5' n0 n1 n2 q1 q2 q3 e0 e1 k1 k2 k3 m0 m1 m2 H0 H1 H2 H3 H4 H5 c0 c1 c2 c3 c4 c5
  go_wp2_with fail
  refine HM6.out.mono ?_
  rintro e w7 ⟨A, c, l, rfl, hmp, -, hp, hlc, b7⟩
  have hO := hmp.ok
  have HO := Lib.hid hO
  have HP := Lib.hid hp
  have HB7 := Lib.hid (below_next HB6.out b7)
  have HR7 := Lib.hid (HRI.out _ HB7.out A c l hp hO hlc)
  have hlc' : (l.length : Int) ≤ (c : Int) := by omega
  have hl9 : (l.length : Int) ≤ 9 := by have := hO.len; omega
  clear b7 hmp hO hp HM6 HRI
  go_wp2_with fail
  refine HR7.out.mono ?_
  rintro e w8 ⟨v8, rs, rfl, hF, hrl, own8, b8⟩
  obtain ⟨AR, cR, rfl, hcR⟩ := own_slice own8
  have hcR2 : rs.length ≤ cR := by omega
  have hrd : RdsAt w8 AR (rs.map (rdv l)) := rds_of_own own8
  have HF := Lib.hid hF
  have HRL := Lib.hid hrl
  have HB8 := Lib.hid (below_next HB7.out b8)
  have HP8 := Lib.hid (HP.out.then_ b8)
  have hlf := lifted_any A c l AR cR rs w8 HP8.out HO.out hrd hF hcR2 hrl
  rw [hrl] at hlf
  have HLF := Lib.hid hlf
  clear own8 b8 hrd hF hlf HR7 hrl
  have hfb := lift_bd HO.out (rs := rs) (p := (0, 0)) (by simp) (fresh_mem HF.out)
  have hfb2 : 0 ≤ lift l (0, 0) rs ∧ lift l (0, 0) rs ≤ 36855 := by rw [HRL.out] at hfb; omega
  clear hfb
  have hF0 : l.length = 0 → lift l (0, 0) rs = 0 := fun h => by
    have h2 := HRL.out
    rw [h] at h2
    rw [List.eq_nil_of_length_eq_zero h2]
    rfl
  have HF0 := Lib.hid hF0
  have hge : 0 < l.length → ∀ m, (∀ i, i < l.length → endG l i m) → m ≤ lift l (0, 0) rs := fun hl m hm => lift_ge HO.out HF.out HRL.out hl hm
  have HGE := Lib.hid hge
  clear hge hF0
  obtain ⟨F, hF⟩ : ∃ F, lift l (0, 0) rs = F := ⟨_, rfl⟩
  rw [hF] at HLF hfb2 HF0 HGE
  clear hF HF HRL
  go_wp2_with fail
  refine HLF.out.mono ?_
  rintro e w9 ⟨rfl, b9⟩
  have HP9 := Lib.hid (HP8.out.then_ b9)
  have HB9 := Lib.hid (below_next HB8.out b9)
  clear b9 HLF HP8 HB8 HP
  by_cases hz : l.length = 0
  · have hF9 := HF0.out hz
    rw [hF9]
    have hq : ((l.length : Int) == 0) = true := by simp [hz]
    have hz2 : (l.length : Int) = 0 := by omega
    go_wp2_with fail
    go_ret
    exact ⟨rfl, HB9.out⟩
  · have hq : ((l.length : Int) == 0) = false := by simp [hz]
    have hz2 : ¬ (l.length : Int) = 0 := by omega
    go_wp2_with fail
    clear hq hz2
    go_loopw [15, 16] (fun v j wr => ∃ k : Nat, k ≤ l.length ∧ ∃ m : Int, j = .int .i64 (k : Int) ∧ v = .int .i64 m ∧ (0 ≤ m ∧ m ≤ 10000) ∧ (∀ i, i < k → endG l i m) ∧ Below w9.heap.size w9 wr) (fun _ j _ => l.length - (intOf j).toNat)
    case atStart => exact ⟨0, by omega, 10000, rfl, rfl, by omega, fun i hi => absurd hi (by omega), Below.refl _ _⟩
    case round =>
      obtain ⟨k, hk, m, rfl, rfl, hmb, hmi, hB⟩ := hrel
      by_cases hlt : k < l.length
      · have hv := HO.out.each k hlt
        have hcs := HO.out.cap k hlt
        have hdl := vstr hv
        have hbb := bgn_bd HO.out (r := 2 * k) (by omega)
        have hbb2 := bgn_bd HO.out (r := 2 * k + 1) (by omega)
        have hbe := (bgn_even l k).resolve_right (fun h => by rw [h] at hdl; simp at hdl)
        have hbo := (bgn_odd l k).resolve_right (fun h => by rw [h] at hdl; simp at hdl)
        obtain ⟨b, o, rfl, hS⟩ := (HP9.out.then_ hB) k hlt
        have hE : ∀ m', m' ≤ m → m' ≤ gapI 0 0 (bgn l (2 * k)).1 (bgn l (2 * k)).2 → m' ≤ gapI 0 0 (bgn l (2 * k + 1)).1 (bgn l (2 * k + 1)).2 → ∀ i, i < k + 1 → endG l i m' := fun m' h1 h2 h3 i hi => by
          by_cases hik : i < k
          · have := hmi i hik
            exact ⟨Int.le_trans h1 this.1, Int.le_trans h1 this.2⟩
          · obtain rfl : i = k := by omega
            exact ⟨h2, h3⟩
        have HE := Lib.hid hE
        rw [hbe] at hbb HE
        rw [hbo] at hbb2 HE
        obtain ⟨s, hs⟩ : ∃ s, l.getD k stk0 = s := ⟨_, rfl⟩
        rw [hs] at hv hcs hS hbb hbb2 HE
        have c0 := hS.p
        have c1 := hS.n
        have c2 := hS.d
        have hc := ends_yes s.P s.N s.A s.c s.D wr hS.dots hv
        obtain ⟨d1, hd1⟩ : ∃ d, dotAt s.D 0 = d := ⟨_, rfl⟩
        obtain ⟨d2, hd2⟩ : ∃ d, dotAt s.D (s.D.length - 1) = d := ⟨_, rfl⟩
        rw [hd1] at hc hbb HE
        rw [hd2] at hc hbb2 HE
        obtain ⟨x1, y1', t1, r1⟩ := d1
        obtain ⟨x2, y2', t2, r2⟩ := d2
        simp only [xy] at hc hbb hbb2 HE
        have HC := Lib.hid hc
        have hkl : (k : Int) < (l.length : Int) := by omega
        have hk0 : (0 : Int) ≤ (k : Int) := by omega
        have HB := Lib.hid hB
        clear hv hcs hs hS hB hd1 hd2 hbe hbo hdl hE hmi
        go_wp2_with fail
        refine HC.out.mono ?_
        rintro e wE ⟨rfl, bE⟩
        have HBE := Lib.hid (below_next HB.out bE)
        clear bE HC
        unfold pv
        go_wp2_with fail
        have hA : Below wE.heap.size wE ((wE.alloc (.cells #[.int .i64 x1, .int .i64 y1'] 56)).alloc (.cells #[.int .i64 x2, .int .i64 y2'] 56)) := below_alloc (below_alloc (Below.refl _ _) _) _
        have u0 : ((wE.alloc (.cells #[.int .i64 x1, .int .i64 y1'] 56)).alloc (.cells #[.int .i64 x2, .int .i64 y2'] 56)).cell? ⟨wE.heap.size, 0, none⟩ = some (.int .i64 x1) := by simp [go_sem]
        have u1 : ((wE.alloc (.cells #[.int .i64 x1, .int .i64 y1'] 56)).alloc (.cells #[.int .i64 x2, .int .i64 y2'] 56)).cell? ⟨wE.heap.size, 1, none⟩ = some (.int .i64 y1') := by simp [go_sem]
        have u2 : ((wE.alloc (.cells #[.int .i64 x1, .int .i64 y1'] 56)).alloc (.cells #[.int .i64 x2, .int .i64 y2'] 56)).cell? ⟨wE.heap.size + 1, 0, none⟩ = some (.int .i64 x2) := by simp [go_sem]
        have u3 : ((wE.alloc (.cells #[.int .i64 x1, .int .i64 y1'] 56)).alloc (.cells #[.int .i64 x2, .int .i64 y2'] 56)).cell? ⟨wE.heap.size + 1, 1, none⟩ = some (.int .i64 y2') := by simp [go_sem]
        obtain ⟨w6, hv⟩ : ∃ vv_ : World, ((wE.alloc (.cells #[.int .i64 x1, .int .i64 y1'] 56)).alloc (.cells #[.int .i64 x2, .int .i64 y2'] 56)) = vv_ := ⟨_, rfl⟩
        rw [hv] at hA u0 u1 u2 u3 ⊢
        have HB6 := Lib.hid (below_next HBE.out hA)
        clear hA hv hc HBE
        have i0 := gapI_bd (ax := 0) (ay := 0) (by omega) (by omega) hbb.1 hbb.2
        have i1 := gapI_bd (ax := 0) (ay := 0) (by omega) (by omega) hbb2.1 hbb2.2
        have G1 := Lib.hid (fun W => pgap_any 0 0 x1 y1' W (by omega) (by omega) hbb.1 hbb.2)
        have G2 := Lib.hid (fun W => pgap_any 0 0 x2 y2' W (by omega) (by omega) hbb2.1 hbb2.2)
        unfold pv at G1 G2
        obtain ⟨I1, hI1⟩ : ∃ I, gapI 0 0 x1 y1' = I := ⟨_, rfl⟩
        obtain ⟨I2, hI2⟩ : ∃ I, gapI 0 0 x2 y2' = I := ⟨_, rfl⟩
        rw [hI1] at G1 i0 HE
        rw [hI2] at G2 i1 HE
        clear hI1 hI2 c0 c1 c2 hbb hbb2
        have g_1 := fun D os => cell_regrown u0 D os
        have g_2 := fun D os => cell_regrown u1 D os
        have g_3 := fun D os => cell_regrown u2 D os
        have g_4 := fun D os => cell_regrown u3 D os
        have n0 := lt_size u0
        have n1 := lt_size u2
        go_wp2_with fail
        refine wp_region_head 7 (by kernel_rfl) (by kernel_rfl) ?_
        simp only [List.take_succ_cons, List.take_zero, List.drop_succ_cons, List.drop_zero]
        repeat (go_big_quiet_step (first | (with_reducible exact Calls.regrown_of (G1.out _)) | (with_reducible exact Calls.regrown_of (G2.out _))))
        refine wpQuiet_nil ?_
        intro wq hq
        clear g_1 g_2 g_3 g_4 G1 G2 u0 u1 u2 u3 n0 n1
        have HBQ := Lib.hid (below_next HB6.out hq)
        have hmn := mn3_le m I1 I2
        have HMN := Lib.hid (HE.out (mn3 m I1 I2) hmn.1 hmn.2.1 hmn.2.2.1)
        have hmz := hmn.2.2.2 (by omega) (by omega) (by omega)
        have hmt : 0 ≤ mn3 m I1 I2 ∧ mn3 m I1 I2 ≤ 10000 := ⟨hmz, by omega⟩
        clear hq hmn hmz
        go_wp2_with fail
        exact ⟨⟨k + 1, by omega, mn3 m I1 I2, by go_num, rfl, hmt, HMN.out, HBQ.out⟩, by simp [intOf]; omega⟩
      · obtain rfl : k = l.length := by omega
        have hle := HGE.out (by omega) m hmi
        have hq : decide (m ≤ F) = true := by simp; omega
        have HBZ := Lib.hid (below_next HB9.out hB)
        clear hB hmi hlt
        go_wp2_with fail
        go_ret
        exact ⟨rfl, HBZ.out⟩
end Go.Proofs.Ytgopadbdnndkiaa.Pt
namespace Go.Proofs.Ytgopadbdnndkiaa.lawPlotGap
open Go.ChangeShapes Go.WideShapes Go.ChangeAt Go.RowKit
open Go.ChangeMaps (open_string shut_string)

theorem readable : ∀ t ∈ (#[59, 22, 23] : Array TypeId).toList, Try.prog.readableRec t = true ∧ t < Try.prog.types.size := by
  intro t ht
  simp only [List.mem_cons, List.not_mem_nil, or_false] at ht
  rcases ht with rfl | rfl | rfl
  · exact ⟨by kernel_rfl, of_decide_eq_true (by kernel_rfl)⟩
  · exact ⟨by kernel_rfl, of_decide_eq_true (by kernel_rfl)⟩
  · exact ⟨by kernel_rfl, of_decide_eq_true (by kernel_rfl)⟩
set_option maxRecDepth 100000 in
theorem contract (H : Type) (enc : TypeId × Value → H) (W : World) (base : Nat) (args : Array Value) (ds gs : List (DataW H)) (before : List MemPlace)
    (hval : ∀ (j : Nat) t v, Try.f7.params[j]? = some t → args[j]? = some v → Value.okWide Try.prog W .any base t v)
    (hW : DataW.Whole enc Try.prog Try.f7.params.toList Rows.plotGapSpec.vars false W args.toList ds gs before) :
    Calls Try.prog 7 args W fun e W' => ∃ v, e = .returned v ∧ Rows.plotGapSpec.post enc Try.prog Try.f7 false true false false W args v W' := by
  have hW' := hW
  obtain ⟨p, q, hA0, hV, rfl, hfz, hnd⟩ := hW
  have hA : DataW.TrodAll enc Try.prog W 0 (fun _ => true) true Try.f7.params.toList args.toList ds p := hA0
  rw [Try.params7] at hA hval
  obtain ⟨v0, vs0, d0, ds0, p0, q0, hargs, rfl, rfl, h0, r0⟩ := trodAll_cons hA
  obtain ⟨v1, vs1, d1, ds1, p1, q1, rfl, rfl, rfl, h1, r1⟩ := trodAll_cons r0
  obtain ⟨v2, vs2, d2, ds2, p2, q2, rfl, rfl, rfl, h2, r2⟩ := trodAll_cons r1
  obtain ⟨rfl, rfl, rfl⟩ := trodAll_nil r2
  obtain rfl : args = #[v0, v1, v2] := by cases args; simp_all
  obtain ⟨rfl, rfl⟩ := trodVars_none hV
  obtain ⟨l0, hl0, rfl, hw0⟩ := open_intarr Try.underlying59 Try.underlying3 (by kernel_rfl) (by kernel_rfl) (hval 0 59 v0 rfl rfl) h0
  obtain ⟨y0, y1, y2, y3, y4, y5, rfl⟩ : ∃ y0 y1 y2 y3 y4 y5, l0 = [y0, y1, y2, y3, y4, y5] := by match l0, hl0 with | [y0, y1, y2, y3, y4, y5], _ => exact ⟨_, _, _, _, _, _, rfl⟩
  obtain ⟨X1, c1, rows1, rfl, hR1, hc1, hm1⟩ := open_pages Try.underlying22 Try.underlying70 Try.underlying71 Try.underlying3 (by kernel_rfl) (by kernel_rfl) (by kernel_rfl) (hval 1 22 v1 rfl rfl) h1
  obtain ⟨Y2, k2, ys2, rfl, hY2, hI2, hk2, hn2⟩ := open_nums Try.underlying23 Try.underlying3 (by kernel_rfl) (hval 2 23 v2 rfl rfl) h2
  clear hA0
  refine (Pt.gap_law y0 y1 y2 y3 y4 y5 X1 c1 rows1 Y2 k2 ys2 W (hw0 y0 (by simp)) (hw0 y1 (by simp)) (hw0 y2 (by simp)) (hw0 y3 (by simp)) (hw0 y4 (by simp)) (hw0 y5 (by simp)) hR1 hc1 hm1 hY2 hI2 hk2 hn2).mono ?_
  rintro e W' ⟨rfl, hb⟩
  exact ⟨_, rfl, law_post laidOut (by rw [Try.params7]; exact readable) hW' rfl rfl rfl Try.underlying4 hb⟩
theorem reads (os : Os) {H : Type} (enc : TypeId × Value → H) : ∃ places, DataW.whole enc Try.prog ((World.holding Try.prog os ⟨#[], #[], []⟩).forCall (fun _ _ => 0) ⟨#[], #[.agg #[.int .i64 0, .int .i64 0, .int .i64 0, .int .i64 0, .int .i64 0, .int .i64 0], .slice none 0 0, .slice none 0 0], []⟩).memory Try.f7.params.toList Rows.plotGapSpec.vars false (#[.agg #[.int .i64 0, .int .i64 0, .int .i64 0, .int .i64 0, .int .i64 0, .int .i64 0], .slice none 0 0, .slice none 0 0] : Array Value).toList 8 = some ([.agg [.lit (.int .i64 0), .lit (.int .i64 0), .lit (.int .i64 0), .lit (.int .i64 0), .lit (.int .i64 0), .lit (.int .i64 0)], .nil, .nil], [], places) :=
  ⟨[], by kernel_rfl⟩
set_option maxRecDepth 100000 in
theorem lifted (os : Os) (started : os.Started) (H : Type) (enc : TypeId × Value → H) (F : Stop.Interp) :
    ReturnsInHanded {} Try.checked os 7 .any ((OpenSpec.ofChange Rows.plotGapSpec).preRow enc Try.prog Try.f7 Rows.plotGapRow.domain false Rows.plotGapRow.laid) (((OpenSpec.ofChange Rows.plotGapSpec).at F).post enc Try.prog Try.f7 false true false false) := by
  obtain ⟨places, hx⟩ := reads os enc
  refine returnsInHanded_of_row (C := Try.checked) (s := OpenSpec.ofChange Rows.plotGapSpec) own started (by kernel_rfl) Try.func7
    (witness_row_at (enc := enc) (C := Try.checked) false (World.holding Try.prog os ⟨#[], #[], []⟩) #[.agg #[.int .i64 0, .int .i64 0, .int .i64 0, .int .i64 0, .int .i64 0, .int .i64 0], .slice none 0 0, .slice none 0 0] rfl (by kernel_rfl) (by kernel_rfl) (by kernel_rfl)
      (OpenSpec.preRow_of_cond 8 hx (by kernel_rfl) (fun k hk => by cases hk) (by kernel_rfl) (laid_none _ _))) ?_
  intro W base args ds gs before hval hW _ _ _ hL _ _
  exact contract H enc W base args ds gs before hval hW
theorem said : Rows.PlotGapSaid :=
  OpenClaim.holds_of_cond 7 Try.f7 rfl rfl rfl rfl rfl rfl rfl ⟨rfl, rfl, rfl, rfl, rfl⟩ rfl rfl rfl rfl rfl (by kernel_rfl) Try.func7 (by kernel_rfl)
    (of_decide_eq_true (by kernel_rfl)) (by unfold Func.isWrapper; rw [if_neg (of_decide_eq_false (by kernel_rfl))]; exact ⟨rfl, rfl⟩)
    (fun os started H enc _ F => by rw [OpenClaim.pre_eq_preRow]; exact lifted os started H enc F)
end Go.Proofs.Ytgopadbdnndkiaa.lawPlotGap
