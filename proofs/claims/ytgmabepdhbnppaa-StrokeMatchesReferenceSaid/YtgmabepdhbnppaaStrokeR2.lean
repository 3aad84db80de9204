/- The strokes' reference: size, square, Near. -/
import Derived.Test.YtgmabepdhbnppaaStrokeR1
import Derived.Test.YtgmabepdhbnppaaStrokeNearB
namespace Go.Proofs.Ytgmabepdhbnppaa
open Go.RowKit Str
attribute [local go_sem] Oper.semAt_some
theorem sizeR_any (n : Int) (w : World) (h : -9223372036854775807 ≤ n ∧ n ≤ 9223372036854775807) : Calls Try.prog 44 #[.int .i64 n] w fun e w' => e = .returned (.int .i64 (sizeI n)) ∧ w = w' := by
  obtain ⟨h1, h2⟩ := h
  by_cases h : n < 0
  · rw [sizeI, if_pos h]
    have := IntWalk.i64_in (-n) (by omega)
    go_enter Try.func44, Try.ntmps44
    go_wp2_with fail
    go_ret
    exact ⟨rfl, rfl⟩
  · rw [sizeI, if_neg h]
    go_enter Try.func44, Try.ntmps44
    go_wp2_with fail
    go_ret
    exact ⟨rfl, rfl⟩
set_option maxRecDepth 100000 in
theorem squareR_any (ax ay px py : Int) (w : World) (h1 : 0 ≤ ax ∧ ax ≤ 4095) (h2 : 0 ≤ ay ∧ ay ≤ 4095) (h3 : 0 ≤ px ∧ px ≤ 4095) (h4 : 0 ≤ py ∧ py ≤ 4095) : Calls Try.prog 59 #[pv ax ay, pv px py] w fun e w' => e = .returned (.int .i64 (sq ax ay px py)) ∧ Below w.heap.size w w' := by
  unfold pv
  have B0 := below_alloc (below_alloc (Below.refl w.heap.size w) (.cells #[.int .i64 ax, .int .i64 ay] 29)) (.cells #[.int .i64 px, .int .i64 py] 29)
  have g1 := IntWalk.i64_in (ax - px) (by omega)
  have g2 := IntWalk.i64_in (ay - py) (by omega)
  have t1 := mul_bd (a := ax - px) (b := ax - px) (m := 4095) (by omega) (by omega) (by omega) (by omega) (by omega)
  have t2 := mul_bd (a := ay - py) (b := ay - py) (m := 4095) (by omega) (by omega) (by omega) (by omega) (by omega)
  have g3 := IntWalk.i64_in ((ax - px) * (ax - px)) (by omega)
  have g4 := IntWalk.i64_in ((ay - py) * (ay - py)) (by omega)
  have g5 := IntWalk.i64_in ((ax - px) * (ax - px) + (ay - py) * (ay - py)) (by omega)
  have HB := Lib.hid B0
  clear B0
  go_enter Try.func59, Try.ntmps59
  go_wp2_with fail
  go_ret
  exact ⟨rfl, HB.out⟩
theorem sq_bd {ax ay px py : Int} (h1 : 0 ≤ ax ∧ ax ≤ 4095) (h2 : 0 ≤ ay ∧ ay ≤ 4095) (h3 : 0 ≤ px ∧ px ≤ 4095) (h4 : 0 ≤ py ∧ py ≤ 4095) : 0 ≤ sq ax ay px py ∧ sq ax ay px py ≤ 33538050 := by
  have t1 := mul_bd (a := ax - px) (b := ax - px) (m := 4095) (by omega) (by omega) (by omega) (by omega) (by omega)
  have t2 := mul_bd (a := ay - py) (b := ay - py) (m := 4095) (by omega) (by omega) (by omega) (by omega) (by omega)
  have := sq_nonneg ax ay px py
  refine ⟨this, ?_⟩
  unfold sq
  omega
set_option maxRecDepth 100000 in
set_option maxHeartbeats 4000000 in
theorem nearR_any (ax ay bx b_y px py z : Int) (w : World) : Calls Try.prog 38 #[.agg #[.int .i64 ax, .int .i64 ay], .agg #[.int .i64 bx, .int .i64 b_y], .agg #[.int .i64 px, .int .i64 py], .int .i64 z] w fun e w' =>
    e = .returned (.bool (nearB ax ay bx b_y px py z)) ∧ Below w.heap.size w w' := by
  obtain ⟨W, hW⟩ : ∃ W, ((w.alloc (.cells #[.int .i64 ax, .int .i64 ay] 29)).alloc (.cells #[.int .i64 bx, .int .i64 b_y] 29)).alloc (.cells #[.int .i64 px, .int .i64 py] 29) = W := ⟨_, rfl⟩
  have B0 : Below w.heap.size w W := by rw [← hW]; exact below_alloc (below_alloc (below_alloc (Below.refl _ _) _) _) _
  have c1 : W.cell? ⟨w.heap.size, 0, none⟩ = some (.int .i64 ax) := by rw [← hW]; simp [go_sem]
  have c2 : W.cell? ⟨w.heap.size, 1, none⟩ = some (.int .i64 ay) := by rw [← hW]; simp [go_sem]
  have c3 : W.cell? ⟨w.heap.size + 1, 0, none⟩ = some (.int .i64 bx) := by rw [← hW]; simp [go_sem]
  have c4 : W.cell? ⟨w.heap.size + 1, 1, none⟩ = some (.int .i64 b_y) := by rw [← hW]; simp [go_sem]
  have c5 : W.cell? ⟨w.heap.size + 1 + 1, 0, none⟩ = some (.int .i64 px) := by rw [← hW]; simp [go_sem]
  have c6 : W.cell? ⟨w.heap.size + 1 + 1, 1, none⟩ = some (.int .i64 py) := by rw [← hW]; simp [go_sem]
  have HW := Lib.hid hW
  have HB0 := Lib.hid B0
  have HPA := Lib.hid (fun W => placeR_any ax ay W)
  have HPB := Lib.hid (fun W => placeR_any bx b_y W)
  have HPC := Lib.hid (fun W => placeR_any px py W)
  unfold pv at HPA HPB HPC
  clear hW B0
  have e0 : nearB ax ay bx b_y px py z = (placeB ax ay && (placeB bx b_y && (placeB px py && (decide (0 ≤ z) && (decide (z ≤ 1000) && nearI ax ay bx b_y px py z))))) := by simp [nearB, isInB, Bool.and_assoc]
  obtain ⟨R, hR⟩ : ∃ R, nearI ax ay bx b_y px py z = R := ⟨_, rfl⟩
  have k1 : placeB ax ay = true → (0 ≤ ax ∧ ax ≤ 4095) ∧ (0 ≤ ay ∧ ay ≤ 4095) := fun h => placeB_iff.1 h
  have k2 : placeB bx b_y = true → (0 ≤ bx ∧ bx ≤ 4095) ∧ (0 ≤ b_y ∧ b_y ≤ 4095) := fun h => placeB_iff.1 h
  have k3 : placeB px py = true → (0 ≤ px ∧ px ≤ 4095) ∧ (0 ≤ py ∧ py ≤ 4095) := fun h => placeB_iff.1 h
  rw [hR] at e0
  obtain ⟨q1, hq1⟩ : ∃ q, placeB ax ay = q := ⟨_, rfl⟩
  obtain ⟨q2, hq2⟩ : ∃ q, placeB bx b_y = q := ⟨_, rfl⟩
  obtain ⟨q3, hq3⟩ : ∃ q, placeB px py = q := ⟨_, rfl⟩
  rw [hq1] at e0 HPA k1
  rw [hq2] at e0 HPB k2
  rw [hq3] at e0 HPC k3
  rw [e0]
  have HR := Lib.hid hR
  have K1 := Lib.hid k1
  have K2 := Lib.hid k2
  have K3 := Lib.hid k3
  clear e0 hq1 hq2 hq3 hR k1 k2 k3
  go_enter Try.func38, Try.ntmps38
  go_wp2_with fail
  rw [HW.out]
  refine (HPA.out _).mono ?_
  rintro e w1 ⟨rfl, b1⟩
  replace c1 := cell_then b1 c1
  replace c2 := cell_then b1 c2
  replace c3 := cell_then b1 c3
  replace c4 := cell_then b1 c4
  replace c5 := cell_then b1 c5
  replace c6 := cell_then b1 c6
  have HB1 := Lib.hid (below_next HB0.out b1)
  clear b1 HB0 HPA HW
  cases q1 with
  | false =>
    go_wp2_with fail
    go_ret
    exact ⟨rfl, HB1.out⟩
  | true =>
  go_wp2_with fail
  refine (HPB.out _).mono ?_
  rintro e w2 ⟨rfl, b1⟩
  replace c1 := cell_then b1 c1
  replace c2 := cell_then b1 c2
  replace c3 := cell_then b1 c3
  replace c4 := cell_then b1 c4
  replace c5 := cell_then b1 c5
  replace c6 := cell_then b1 c6
  have HB2 := Lib.hid (below_next HB1.out b1)
  clear b1 HB1 HPB
  cases q2 with
  | false =>
    go_wp2_with fail
    go_ret
    exact ⟨rfl, HB2.out⟩
  | true =>
  go_wp2_with fail
  refine (HPC.out _).mono ?_
  rintro e w3 ⟨rfl, b1⟩
  replace c1 := cell_then b1 c1
  replace c2 := cell_then b1 c2
  replace c3 := cell_then b1 c3
  replace c4 := cell_then b1 c4
  replace c5 := cell_then b1 c5
  replace c6 := cell_then b1 c6
  have HB3 := Lib.hid (below_next HB2.out b1)
  clear b1 HB2 HPC
  cases q3 with
  | false =>
    go_wp2_with fail
    go_ret
    exact ⟨rfl, HB3.out⟩
  | true =>
  by_cases z1 : z < 0
  · go_wp2_with fail
    go_ret
    exact ⟨by rw [decide_eq_false (show ¬ 0 ≤ z by omega)]; rfl, HB3.out⟩
  by_cases z2 : 1000 < z
  · go_wp2_with fail
    go_ret
    exact ⟨by rw [decide_eq_true (show 0 ≤ z by omega), decide_eq_false (show ¬ z ≤ 1000 by omega)]; rfl, HB3.out⟩
  have z3 : decide (0 ≤ z) = true := decide_eq_true (by omega)
  have z4 : decide (z ≤ 1000) = true := decide_eq_true (by omega)
  have HZ := Lib.hid (And.intro z3 z4)
  obtain ⟨ka1, ka2⟩ := K1.out (by trivial)
  obtain ⟨kb1, kb2⟩ := K2.out (by trivial)
  obtain ⟨kc1, kc2⟩ := K3.out (by trivial)
  have bz := mul_bd (a := z) (b := z) (m := 1000) (by omega) (by omega) (by omega) (by omega) (by omega)
  have bz0 := self_nonneg z
  have HQ1 := Lib.hid (fun W => squareR_any ax ay px py W ka1 ka2 kc1 kc2)
  have HQ2 := Lib.hid (fun W => squareR_any bx b_y px py W kb1 kb2 kc1 kc2)
  have HQ3 := Lib.hid (fun W => squareR_any ax ay bx b_y W ka1 ka2 kb1 kb2)
  unfold pv at HQ1 HQ2 HQ3
  have hne := near_eq ax ay bx b_y px py z
  rw [HR.out, nearR] at hne
  have s1 := sq_bd ka1 ka2 kc1 kc2
  have s2 := sq_bd kb1 kb2 kc1 kc2
  have s3 := sq_bd ka1 ka2 kb1 kb2
  obtain ⟨S1, h1⟩ : ∃ S, sq ax ay px py = S := ⟨_, rfl⟩
  obtain ⟨S2, h2⟩ : ∃ S, sq bx b_y px py = S := ⟨_, rfl⟩
  obtain ⟨S3, h3⟩ : ∃ S, sq ax ay bx b_y = S := ⟨_, rfl⟩
  rw [h1] at HQ1 hne s1
  rw [h2] at HQ2 hne s2
  rw [h3] at HQ3 hne s3
  clear h1 h2 h3 HR K1 K2 K3 z3 z4
  have g0 := IntWalk.i64_in (z * z) (by omega)
  have HNE := Lib.hid hne
  clear hne
  go_wp2_with fail
  obtain ⟨Z, hZ⟩ : ∃ Z, z * z = Z := ⟨_, rfl⟩
  rw [hZ] at HNE g0 bz bz0 ⊢
  clear hZ
  refine (HQ1.out _).mono ?_
  rintro e w4 ⟨rfl, b1⟩
  replace c1 := cell_then b1 c1
  replace c2 := cell_then b1 c2
  replace c3 := cell_then b1 c3
  replace c4 := cell_then b1 c4
  replace c5 := cell_then b1 c5
  replace c6 := cell_then b1 c6
  have HB4 := Lib.hid (below_next HB3.out b1)
  clear b1 HB3
  by_cases m1 : S1 ≤ Z
  · have hr : R = true := by have h := HNE.out; rw [if_pos (.inl m1)] at h; exact h
    go_wp2_with fail
    go_ret
    exact ⟨by rw [HZ.out.1, HZ.out.2, hr]; rfl, HB4.out⟩
  go_wp2_with fail
  refine (HQ2.out _).mono ?_
  rintro e w5 ⟨rfl, b1⟩
  replace c1 := cell_then b1 c1
  replace c2 := cell_then b1 c2
  replace c3 := cell_then b1 c3
  replace c4 := cell_then b1 c4
  replace c5 := cell_then b1 c5
  replace c6 := cell_then b1 c6
  have HB5 := Lib.hid (below_next HB4.out b1)
  clear b1 HB4
  by_cases m2 : S2 ≤ Z
  · have hr : R = true := by have h := HNE.out; rw [if_pos (.inr m2)] at h; exact h
    go_wp2_with fail
    go_ret
    exact ⟨by rw [HZ.out.1, HZ.out.2, hr]; rfl, HB5.out⟩
  go_wp2_with fail
  refine (HQ3.out _).mono ?_
  rintro e w6 ⟨rfl, b1⟩
  replace c1 := cell_then b1 c1
  replace c2 := cell_then b1 c2
  replace c3 := cell_then b1 c3
  replace c4 := cell_then b1 c4
  replace c5 := cell_then b1 c5
  replace c6 := cell_then b1 c6
  have HB6 := Lib.hid (below_next HB5.out b1)
  clear b1 HB5 HQ3
  have hn2 := HNE.out
  rw [if_neg (by omega)] at hn2
  have HN2 := Lib.hid hn2
  clear HNE hn2
  have x1 := IntWalk.i64_in (S3 + S1) (by omega)
  have x2 := IntWalk.i64_in (S3 + S2) (by omega)
  go_wp2_with fail
  have g_1 := fun D os => cell_regrown c1 D os
  have g_2 := fun D os => cell_regrown c2 D os
  have g_3 := fun D os => cell_regrown c3 D os
  have g_4 := fun D os => cell_regrown c4 D os
  have g_5 := fun D os => cell_regrown c5 D os
  have g_6 := fun D os => cell_regrown c6 D os
  by_cases n1 : S3 + S1 < S2
  · have hr : R = false := by have h := HN2.out; rw [if_pos (.inl n1)] at h; exact h
    have y1 : decide (S3 + S1 < S2) = true := decide_eq_true n1
    clear n1
    refine wp_region_quiet_below (by kernel_rfl) (by kernel_rfl) ?_
    repeat (go_big_quiet_step (first | (with_reducible exact Calls.regrown_of (HQ1.out _)) | (with_reducible exact Calls.regrown_of (HQ2.out _))))
    refine wpQuiet_nil ?_
    intro wq hq0
    have hq := below_of_class hq0
    clear hq0
    have HQ := Lib.hid (below_next HB6.out hq)
    clear hq g_1 g_2 g_3 g_4 g_5 g_6
    go_wp2_with fail
    go_ret
    exact ⟨by rw [HZ.out.1, HZ.out.2, hr]; rfl, HQ.out⟩
  have y1 : decide (S3 + S1 < S2) = false := decide_eq_false n1
  by_cases n2 : S3 + S2 < S1
  · have hr : R = false := by have h := HN2.out; rw [if_pos (.inr (.inl n2))] at h; exact h
    have y2 : decide (S3 + S2 < S1) = true := decide_eq_true n2
    clear n1 n2
    refine wp_region_quiet_below (by kernel_rfl) (by kernel_rfl) ?_
    repeat (go_big_quiet_step (first | (with_reducible exact Calls.regrown_of (HQ1.out _)) | (with_reducible exact Calls.regrown_of (HQ2.out _))))
    refine wpQuiet_nil ?_
    intro wq hq0
    have hq := below_of_class hq0
    clear hq0
    have HQ := Lib.hid (below_next HB6.out hq)
    clear hq g_1 g_2 g_3 g_4 g_5 g_6
    go_wp2_with fail
    go_ret
    exact ⟨by rw [HZ.out.1, HZ.out.2, hr]; rfl, HQ.out⟩
  have y2 : decide (S3 + S2 < S1) = false := decide_eq_false n2
  by_cases n3 : S3 = 0
  · have hr : R = false := by have h := HN2.out; rw [if_pos (.inr (.inr n3))] at h; exact h
    have y3 : (S3 == 0) = true := by rw [beq_iff_eq]; exact n3
    clear n1 n2 n3
    refine wp_region_quiet_below (by kernel_rfl) (by kernel_rfl) ?_
    repeat (go_big_quiet_step (first | (with_reducible exact Calls.regrown_of (HQ1.out _)) | (with_reducible exact Calls.regrown_of (HQ2.out _))))
    refine wpQuiet_nil ?_
    intro wq hq0
    have hq := below_of_class hq0
    clear hq0
    have HQ := Lib.hid (below_next HB6.out hq)
    clear hq g_1 g_2 g_3 g_4 g_5 g_6
    go_wp2_with fail
    go_ret
    exact ⟨by rw [HZ.out.1, HZ.out.2, hr]; rfl, HQ.out⟩
  have y3 : (S3 == 0) = false := by rw [beq_eq_false_iff_ne]; exact n3
  have hr := HN2.out
  rw [if_neg (by omega)] at hr
  have HRR := Lib.hid hr
  clear hr HN2 n1 n2 n3
  refine wp_region_quiet_below (by kernel_rfl) (by kernel_rfl) ?_
  repeat (go_big_quiet_step (first | (with_reducible exact Calls.regrown_of (HQ1.out _)) | (with_reducible exact Calls.regrown_of (HQ2.out _))))
  refine wpQuiet_nil ?_
  intro wq hq0
  have hq := below_of_class hq0
  clear hq0
  have HQ := Lib.hid (below_next HB6.out hq)
  replace c1 := cell_then hq c1
  replace c2 := cell_then hq c2
  replace c3 := cell_then hq c3
  replace c4 := cell_then hq c4
  replace c5 := cell_then hq c5
  replace c6 := cell_then hq c6
  clear hq g_1 g_2 g_3 g_4 g_5 g_6 y1 y2 y3 x1 x2
  have t3 := mul_bd (a := bx - ax) (b := py - ay) (m := 4095) (by omega) (by omega) (by omega) (by omega) (by omega)
  have t4 := mul_bd (a := b_y - ay) (b := px - ax) (m := 4095) (by omega) (by omega) (by omega) (by omega) (by omega)
  have t7 := mul_bd (a := (bx - ax) * (py - ay) - (b_y - ay) * (px - ax)) (b := (bx - ax) * (py - ay) - (b_y - ay) * (px - ax)) (m := 33538050) (by omega) (by omega) (by omega) (by omega) (by omega)
  have t8 := mul_bd (a := Z) (b := S3) (m := 33538050) (by omega) (by omega) (by omega) (by omega) (by omega)
  have l1 := lt_size c1
  have l2 := lt_size c3
  have l3 := lt_size c5
  go_wp2_with fail
  go_ret
  exact ⟨by rw [HZ.out.1, HZ.out.2, HRR.out]; rfl, HQ.out⟩
end Go.Proofs.Ytgmabepdhbnppaa
