/- The strokes' reference: Code, Ends, Box of any stroke. -/
import Derived.Test.YtgmabepdhbnppaaStrokeR1
import Derived.Test.YtgmabepdhbnppaaStrokeBox
namespace Go.Proofs.Ytgmabepdhbnppaa
open Go.RowKit Str
attribute [local go_sem] Oper.semAt_some
theorem set_same5 {W : World} {g j : Nat} {x v : Value} (h : W.cell? ⟨g, j, none⟩ = some x) : (W.setCell ⟨g, j, none⟩ v).cell? ⟨g, j, none⟩ = some v := World.cell?_setCell_same _ _ _ h
set_option maxRecDepth 100000 in
theorem codeR_any (P N : Int) (A : Option Addr) (cap : Nat) (D : List Dot) (w : World) (hD : Dots w A D) (hcp : D.length ≤ cap) (hcm : (cap : Int) ≤ 9223372036854775807) :
    Calls Try.prog 23 #[.agg #[.int .i64 P, .int .i64 N, .slice A D.length cap]] w fun e w' => e = .returned (.int .i64 (if validB P N D = true then 1000 * P + N else 0)) ∧ Below w.heap.size w w' := by
  cases hv : validB P N D with
  | true => rw [if_pos rfl]; exact codeR_yes P N A cap D w hD hv hcp
  | false =>
    rw [if_neg (by simp)]
    have B0 := below_alloc (Below.refl w.heap.size w) (.cells #[.int .i64 P, .int .i64 N, .slice A D.length cap] 27)
    have hc := validR_any P N A cap D _ (hD.below B0) hcp hcm
    rw [hv] at hc
    have HC := Lib.hid hc
    have HB0 := Lib.hid B0
    clear hv hD B0 hc
    go_enter Try.func23, Try.ntmps23
    go_wp2_with fail
    refine HC.out.mono ?_
    rintro e w1 ⟨rfl, b1⟩
    have HB := Lib.hid (below_next HB0.out b1)
    clear b1
    go_wp2_with fail
    go_ret
    exact ⟨rfl, HB.out⟩
set_option maxRecDepth 100000 in
theorem boxR_no (P N : Int) (A : Option Addr) (cap : Nat) (D : List Dot) (w : World) (hD : Dots w A D) (hcp : D.length ≤ cap) (hcm : (cap : Int) ≤ 9223372036854775807) (h1 : validB P N D = false) :
    Calls Try.prog 15 #[.agg #[.int .i64 P, .int .i64 N, .slice A D.length cap]] w fun e w' => e = .returned (.tuple #[.agg #[.int .i64 0, .int .i64 0, .int .i64 0, .int .i64 0], .int .i64 50]) ∧ Below w.heap.size w w' := by
  have HD := Lib.hid hD
  clear hD
  go_enter Try.func15, Try.ntmps15
  go_wp2_with fail
  have B0 : Below w.heap.size w ((w.alloc (.cells #[.int .i64 P, .int .i64 N, .slice A D.length cap] 27)).alloc (.cells #[.int .i64 0, .int .i64 0, .int .i64 0, .int .i64 0] 40)) := ((Below.refl _ _).alloc (Nat.le_refl _) _).alloc (by simp) _
  refine (validR_any P N A cap D _ (HD.out.below B0) hcp hcm).mono ?_
  rintro e w1 ⟨rfl, b1⟩
  rw [h1]
  have V1 : Var4 w1 (w.heap.size + 1) := Var4.of (var_then b1 (v := .int .i64 0) (by simp [go_sem])) (var_then b1 (v := .int .i64 0) (by simp [go_sem])) (var_then b1 (v := .int .i64 0) (by simp [go_sem])) (var_then b1 (v := .int .i64 0) (by simp [go_sem]))
  have v0 := V1.c0
  have v1 := V1.c1
  have v2 := V1.c2
  have v3 := V1.c3
  have f0 := V1.f0
  have f1 := V1.f1
  have f2 := V1.f2
  have f3 := V1.f3
  go_wp2_with fail
  exact bodyPost_ret (v := .tuple #[.agg #[.int .i64 0, .int .i64 0, .int .i64 0, .int .i64 0], .int .i64 50]) (by simp [results, Try.results15, go_sem, V1.c0, V1.c1, V1.c2, V1.c3]) rfl ⟨rfl, ((((below_next B0 b1).setCell (by simp) _).setCell (by simp) _).setCell (by simp) _).setCell (by simp) _⟩
set_option maxRecDepth 100000 in
set_option maxHeartbeats 4000000 in
theorem boxR_yes (P N : Int) (A : Option Addr) (cap : Nat) (D : List Dot) (w : World) (hD : Dots w A D) (hcp : D.length ≤ cap) (hcm : (cap : Int) ≤ 9223372036854775807) (h1 : validB P N D = true) :
    Calls Try.prog 15 #[.agg #[.int .i64 P, .int .i64 N, .slice A D.length cap]] w fun e w' => e = .returned (.tuple #[.agg #[.int .i64 (boxF D).1, .int .i64 (boxF D).2.1, .int .i64 (boxF D).2.2.1, .int .i64 (boxF D).2.2.2], .int .i64 0]) ∧ Below w.heap.size w w' := by
  obtain ⟨⟨p5, p6⟩, p0⟩ := valid_len h1
  have hpl := placed (validB_dots h1)
  have hcp' : (D.length : Int) ≤ (cap : Int) := by omega
  have hne : D ≠ [] := by intro h; rw [h] at p0; simp at p0
  have hX := mn_first Dot.x 5000 hne (fun d hd => by have := (placeB_iff.1 (hpl d hd)).1; omega)
  have hY := mn_first Dot.y 5000 hne (fun d hd => by have := (placeB_iff.1 (hpl d hd)).2; omega)
  have hW := mx_first Dot.x (mnF Dot.x 5000 D) hne (fun d hd => (mnF_spec Dot.x D 5000).2.1 d hd)
  have hH := mx_first Dot.y (mnF Dot.y 5000 D) hne (fun d hd => (mnF_spec Dot.y D 5000).2.1 d hd)
  have hbox : boxF D = (mnF Dot.x 5000 D, mnF Dot.y 5000 D, mxF (fun d => d.x - mnF Dot.x 5000 D) 0 D, mxF (fun d => d.y - mnF Dot.y 5000 D) 0 D) := by
    rw [hW, hH, hX, hY]; rfl
  have HBX := Lib.hid hbox
  have HPL := Lib.hid hpl
  have HD := Lib.hid hD
  have sx := mnF_spec Dot.x D 5000
  have sy := mnF_spec Dot.y D 5000
  have bx : 0 ≤ mnF Dot.x 5000 D ∧ mnF Dot.x 5000 D ≤ 5000 := ⟨by
    rcases sx.2.2 with h | ⟨d, hd, h⟩
    · omega
    · have := (placeB_iff.1 (hpl d hd)).1; omega, sx.1⟩
  have b_y : 0 ≤ mnF Dot.y 5000 D ∧ mnF Dot.y 5000 D ≤ 5000 := ⟨by
    rcases sy.2.2 with h | ⟨d, hd, h⟩
    · omega
    · have := (placeB_iff.1 (hpl d hd)).2; omega, sy.1⟩
  obtain ⟨mx, hmx⟩ : ∃ m, mnF Dot.x 5000 D = m := ⟨_, rfl⟩
  obtain ⟨my, hmy⟩ : ∃ m, mnF Dot.y 5000 D = m := ⟨_, rfl⟩
  rw [hmx] at HBX bx
  rw [hmy] at HBX b_y
  have HMX := Lib.hid hmx
  have HMY := Lib.hid hmy
  clear hD hbox hpl hX hY hW hH hne sx sy hmx hmy
  have B0 : Below w.heap.size w ((w.alloc (.cells #[.int .i64 P, .int .i64 N, .slice A D.length cap] 27)).alloc (.cells #[.int .i64 0, .int .i64 0, .int .i64 0, .int .i64 0] 40)) := ((Below.refl _ _).alloc (Nat.le_refl _) _).alloc (by simp) _
  have hc := validR_any P N A cap D _ (HD.out.below B0) hcp hcm
  rw [h1] at hc
  have HC := Lib.hid hc
  have HB0 := Lib.hid B0
  clear hc B0 h1
  go_enter Try.func15, Try.ntmps15
  go_wp2_with fail
  refine HC.out.mono ?_
  rintro e w1 ⟨rfl, b1⟩
  have e0 : w1.cell? ⟨w.heap.size, 2, none⟩ = some (.slice A D.length cap) := cell_then b1 (by simp [go_sem])
  have V1 : Var4 w1 (w.heap.size + 1) := Var4.of (var_then b1 (v := .int .i64 0) (by simp [go_sem])) (var_then b1 (v := .int .i64 0) (by simp [go_sem])) (var_then b1 (v := .int .i64 0) (by simp [go_sem])) (var_then b1 (v := .int .i64 0) (by simp [go_sem]))
  have hsz : w.heap.size + 1 < w1.heap.size := by have := b1.size; simp at this; omega
  obtain ⟨gr, hgr⟩ : ∃ g, w1.heap.size = g := ⟨_, rfl⟩
  obtain ⟨W, hW⟩ : ∃ W, w1.alloc (.cells #[.int .i64 5000, .int .i64 5000, .int .i64 0, .int .i64 0] 40) = W := ⟨_, rfl⟩
  have bW : Below w1.heap.size w1 W := by rw [← hW]; exact below_alloc (Below.refl _ _) _
  have VR : Var4 W gr := by rw [← hW, ← hgr]; exact Var4.new _ _ _ _ _ _
  have r0 : W.cell? ⟨gr, 0, none⟩ = some (.int .i64 5000) := by rw [← hW, ← hgr]; exact new_cell rfl
  have r1 : W.cell? ⟨gr, 1, none⟩ = some (.int .i64 5000) := by rw [← hW, ← hgr]; exact new_cell rfl
  have r2 : W.cell? ⟨gr, 2, none⟩ = some (.int .i64 0) := by rw [← hW, ← hgr]; exact new_cell rfl
  have r3 : W.cell? ⟨gr, 3, none⟩ = some (.int .i64 0) := by rw [← hW, ← hgr]; exact new_cell rfl
  have e1 := cell_then bW e0
  have V2 := V1.then_ bW
  have HB1 := Lib.hid (below_next HB0.out (below_next b1 bW))
  have HW := Lib.hid hW
  have HGR := Lib.hid hgr
  have HV2 := Lib.hid V2
  have HVR := Lib.hid VR
  have hgr2 : w.heap.size + 1 < gr := by omega
  clear b1 bW hW hgr V1 V2 VR e0 hsz HB0 HC
  go_wp2_with fail
  rw [HW.out, HGR.out]
  clear HW HGR
  go_loopw [5] (fun i wr => ∃ k : Nat, k ≤ D.length ∧ i = .int .i64 (k : Int) ∧ wr.cell? ⟨gr, 0, none⟩ = some (.int .i64 (mnF Dot.x 5000 (D.take k))) ∧ wr.cell? ⟨gr, 1, none⟩ = some (.int .i64 (mnF Dot.y 5000 (D.take k))) ∧ wr.cell? ⟨gr, 2, none⟩ = some (.int .i64 0) ∧ wr.cell? ⟨gr, 3, none⟩ = some (.int .i64 0) ∧ Var4 wr gr ∧ Var4 wr (w.heap.size + 1) ∧ wr.cell? ⟨w.heap.size, 2, none⟩ = some (.slice A D.length cap) ∧ Below w.heap.size w wr) (fun i _ => D.length - (intOf i).toNat)
  case atStart => exact ⟨0, by omega, rfl, r0, r1, r2, r3, HVR.out, HV2.out, e1, HB1.out⟩
  case round =>
    clear r0 r1 r2 r3 e1 HVR HV2 HB1
    obtain ⟨k, hk, rfl, r0, r1, r2, r3, VR, V2, e1, hB⟩ := hrel
    have HVR := Lib.hid VR
    have HV2 := Lib.hid V2
    have HB := Lib.hid hB
    have hl1 := lt_size e1
    have hl2 := lt_size r0
    clear VR V2
    by_cases hlt : k < D.length
    · obtain ⟨b, o, rfl, c0, c1, -, -⟩ := (HD.out.below hB) k hlt
      have hbw : b < w.heap.size := by
        obtain ⟨b', o', e', x, -⟩ := HD.out k hlt
        injection e' with e'
        injection e' with e1' e2'
        subst e1'
        exact lt_size x
      have hkk : (k : Int) < (D.length : Int) := by omega
      have hk0 : (0 : Int) ≤ (k : Int) := by omega
      have hsx := mnF_snoc Dot.x 5000 (D.take k) (dotAt D k)
      have hsy := mnF_snoc Dot.y 5000 (D.take k) (dotAt D k)
      rw [← take_dot hlt] at hsx hsy
      obtain ⟨x, hx⟩ : ∃ x, (dotAt D k).x = x := ⟨_, rfl⟩
      obtain ⟨y, hy⟩ : ∃ y, (dotAt D k).y = y := ⟨_, rfl⟩
      obtain ⟨X, hX⟩ : ∃ X, mnF Dot.x 5000 (D.take k) = X := ⟨_, rfl⟩
      obtain ⟨Y, hY⟩ : ∃ Y, mnF Dot.y 5000 (D.take k) = Y := ⟨_, rfl⟩
      rw [hX] at r0 hsx
      rw [hY] at r1 hsy
      rw [hx] at c0 hsx
      rw [hy] at c1 hsy
      obtain ⟨X', hX'⟩ : ∃ X', minI X x = X' := ⟨_, rfl⟩
      obtain ⟨Y', hY'⟩ : ∃ Y', minI Y y = Y' := ⟨_, rfl⟩
      rw [hX'] at hsx
      rw [hY'] at hsy
      have HSX := Lib.hid hsx
      have HSY := Lib.hid hsy
      have j1 : (if x < X then x else X) = X' := hX'
      have j2 : (if X < x then X else x) = X' := by rw [← hX']; unfold minI; split <;> split <;> omega
      have j3 : (if x ≤ X then x else X) = X' := by rw [← hX']; unfold minI; split <;> split <;> omega
      have j4 : (if X ≤ x then X else x) = X' := by rw [← hX']; unfold minI; split <;> split <;> omega
      have MY : Hid (minI Y y = Y') := Lib.hid hY'
      clear hx hy hX hY hsx hsy hX' hY' hB
      have hbl := lt_size c0
      go_wp2_with fail
      have g_0 := fun D os => cell_regrown r0 D os
      have g_1 := fun D os => cell_regrown e1 D os
      have g_2 := fun D os => cell_regrown c0 D os
      refine wp_region_head 10 (by kernel_rfl) (by kernel_rfl) ?_
      simp only [List.take_succ_cons, List.take_zero, List.drop_succ_cons, List.drop_zero]
      repeat (go_big_quiet_step (fail))
      refine wpQuiet_nil ?_
      intro wq hq
      clear g_0 g_1 g_2 j1 j2 j3 j4
      have HBQ := Lib.hid (below_next HB.out hq)
      have HVRQ := Lib.hid (HVR.out.then_ hq)
      have HV2Q := Lib.hid (HV2.out.then_ hq)
      replace r0 := cell_then hq r0
      replace r1 := cell_then hq r1
      replace r2 := cell_then hq r2
      replace r3 := cell_then hq r3
      replace c1 := cell_then hq c1
      replace e1 := cell_then hq e1
      have f0 := HVRQ.out.f0
      clear hq HB HVR HV2 c0
      go_wp2_with fail
      obtain ⟨U, hU⟩ : ∃ U, wq.setCell ⟨gr, 0, none⟩ (.int .i64 X') = U := ⟨_, rfl⟩
      have HBU : Hid (Below w.heap.size w U) := Lib.hid (by rw [← hU]; exact HBQ.out.setCell (by dsimp only; omega) _)
      have HVRU : Hid (Var4 U gr) := Lib.hid (by rw [← hU]; exact HVRQ.out.set_ _ _)
      have HV2U : Hid (Var4 U (w.heap.size + 1)) := Lib.hid (by rw [← hU]; exact HV2Q.out.set_ _ _)
      replace r0 : U.cell? ⟨gr, 0, none⟩ = some (.int .i64 X') := by rw [← hU]; exact set_same5 r0
      replace r1 : U.cell? ⟨gr, 1, none⟩ = some (.int .i64 Y) := by rw [← hU]; exact cell_off _ r1 (by omega)
      replace r2 : U.cell? ⟨gr, 2, none⟩ = some (.int .i64 0) := by rw [← hU]; exact cell_off _ r2 (by omega)
      replace r3 : U.cell? ⟨gr, 3, none⟩ = some (.int .i64 0) := by rw [← hU]; exact cell_off _ r3 (by omega)
      replace c1 : U.cell? ⟨b, o + k * 4 + 1, none⟩ = some (.int .i64 y) := by rw [← hU]; exact cell_set _ c1 (by dsimp only; omega)
      replace e1 : U.cell? ⟨w.heap.size, 2, none⟩ = some (.slice (some ⟨b, o, none⟩) D.length cap) := by rw [← hU]; exact cell_set _ e1 (by dsimp only; omega)
      rw [hU]
      clear hU HBQ HVRQ HV2Q f0
      have hbl := lt_size c1
      have hl1 := lt_size e1
      have hl2 := lt_size r0
      have j1 : (if y < Y then y else Y) = Y' := MY.out
      have j2 : (if Y < y then Y else y) = Y' := by rw [← MY.out]; unfold minI; split <;> split <;> omega
      have j3 : (if y ≤ Y then y else Y) = Y' := by rw [← MY.out]; unfold minI; split <;> split <;> omega
      have j4 : (if Y ≤ y then Y else y) = Y' := by rw [← MY.out]; unfold minI; split <;> split <;> omega
      have g_0 := fun D os => cell_regrown r1 D os
      have g_1 := fun D os => cell_regrown e1 D os
      have g_2 := fun D os => cell_regrown c1 D os
      go_wp2_with fail
      refine wp_region_head 10 (by kernel_rfl) (by kernel_rfl) ?_
      simp only [List.take_succ_cons, List.take_zero, List.drop_succ_cons, List.drop_zero]
      repeat (go_big_quiet_step (fail))
      refine wpQuiet_nil ?_
      intro wq hq
      clear g_0 g_1 g_2 j1 j2 j3 j4
      have HBQ := Lib.hid (below_next HBU.out hq)
      have HVRQ := Lib.hid (HVRU.out.then_ hq)
      have HV2Q := Lib.hid (HV2U.out.then_ hq)
      replace r0 := cell_then hq r0
      replace r1 := cell_then hq r1
      replace r2 := cell_then hq r2
      replace r3 := cell_then hq r3
      replace e1 := cell_then hq e1
      have f0 := HVRQ.out.f1
      clear hq HBU HVRU HV2U c1
      go_wp2_with fail
      exact ⟨⟨k + 1, by omega, by go_num, by rw [HSX.out]; exact cell_off _ r0 (by omega), by rw [HSY.out]; exact set_same5 r1, cell_off _ r2 (by omega), cell_off _ r3 (by omega), HVRQ.out.set_ _ _, HV2Q.out.set_ _ _, cell_set _ e1 (by dsimp only; omega), HBQ.out.setCell (by dsimp only; omega) _⟩, by simp [intOf]; omega⟩
    · obtain rfl : k = D.length := by omega
      have hkk : ¬ (D.length : Int) < (D.length : Int) := by omega
      rw [List.take_length, HMX.out] at r0
      rw [List.take_length, HMY.out] at r1
      clear hB hlt
      go_wp2_with fail
      go_loopw [6] (fun i wr => ∃ k : Nat, k ≤ D.length ∧ i = .int .i64 (k : Int) ∧ wr.cell? ⟨gr, 0, none⟩ = some (.int .i64 mx) ∧ wr.cell? ⟨gr, 1, none⟩ = some (.int .i64 my) ∧ wr.cell? ⟨gr, 2, none⟩ = some (.int .i64 (mxF (fun d => d.x - mx) 0 (D.take k))) ∧ wr.cell? ⟨gr, 3, none⟩ = some (.int .i64 (mxF (fun d => d.y - my) 0 (D.take k))) ∧ Var4 wr gr ∧ Var4 wr (w.heap.size + 1) ∧ wr.cell? ⟨w.heap.size, 2, none⟩ = some (.slice A D.length cap) ∧ Below w.heap.size w wr) (fun i _ => D.length - (intOf i).toNat)
      case atStart => exact ⟨0, by omega, rfl, r0, r1, r2, r3, HVR.out, HV2.out, e1, HB.out⟩
      case round =>
        clear r0 r1 r2 r3 e1 HVR HV2 HB hl1 hl2 hkk
        obtain ⟨k, hk, rfl, r0, r1, r2, r3, VR, V2, e1, hB⟩ := hrel
        have HVR := Lib.hid VR
        have HV2 := Lib.hid V2
        have HB := Lib.hid hB
        have hl1 := lt_size e1
        have hl2 := lt_size r0
        clear VR V2
        by_cases hlt : k < D.length
        · obtain ⟨b, o, rfl, c0, c1, -, -⟩ := (HD.out.below hB) k hlt
          have hbw : b < w.heap.size := by
            obtain ⟨b', o', e', x, -⟩ := HD.out k hlt
            injection e' with e'
            injection e' with e1' e2'
            subst e1'
            exact lt_size x
          have hkk : (k : Int) < (D.length : Int) := by omega
          have hk0 : (0 : Int) ≤ (k : Int) := by omega
          have hpd := placeB_iff.1 (HPL.out _ (dotAt_mem hlt))
          have hsx := mxF_snoc (fun d => d.x - mx) 0 (D.take k) (dotAt D k)
          have hsy := mxF_snoc (fun d => d.y - my) 0 (D.take k) (dotAt D k)
          rw [← take_dot hlt] at hsx hsy
          obtain ⟨x, hx⟩ : ∃ x, (dotAt D k).x = x := ⟨_, rfl⟩
          obtain ⟨y, hy⟩ : ∃ y, (dotAt D k).y = y := ⟨_, rfl⟩
          obtain ⟨X, hX⟩ : ∃ X, mxF (fun d => d.x - mx) 0 (D.take k) = X := ⟨_, rfl⟩
          obtain ⟨Y, hY⟩ : ∃ Y, mxF (fun d => d.y - my) 0 (D.take k) = Y := ⟨_, rfl⟩
          rw [hX] at r2 hsx
          rw [hY] at r3 hsy
          rw [hx] at c0 hsx hpd
          rw [hy] at c1 hsy hpd
          have y1 : IntKind.i64.wrap (x - mx) = x - mx := IntWalk.i64_in _ (by omega)
          have y2 : IntKind.i64.wrap (y - my) = y - my := IntWalk.i64_in _ (by omega)
          obtain ⟨X', hX'⟩ : ∃ X', maxI X (x - mx) = X' := ⟨_, rfl⟩
          obtain ⟨Y', hY'⟩ : ∃ Y', maxI Y (y - my) = Y' := ⟨_, rfl⟩
          rw [hX'] at hsx
          rw [hY'] at hsy
          have HSX := Lib.hid hsx
          have HSY := Lib.hid hsy
          have j1 : (if X < x - mx then x - mx else X) = X' := hX'
          have j2 : (if x - mx < X then X else x - mx) = X' := by rw [← hX']; unfold maxI; split <;> split <;> omega
          have j3 : (if X ≤ x - mx then x - mx else X) = X' := by rw [← hX']; unfold maxI; split <;> split <;> omega
          have j4 : (if x - mx ≤ X then X else x - mx) = X' := by rw [← hX']; unfold maxI; split <;> split <;> omega
          have MY : Hid (maxI Y (y - my) = Y') := Lib.hid hY'
          have HY2 := Lib.hid y2
          clear hx hy hX hY hsx hsy hX' hY' hB hpd y2
          have hbl := lt_size c0
          go_wp2_with fail
          have g_0 := fun D os => cell_regrown r0 D os
          have g_1 := fun D os => cell_regrown e1 D os
          have g_2 := fun D os => cell_regrown c0 D os
          have g_3 := fun D os => cell_regrown r2 D os
          refine wp_region_head 13 (by kernel_rfl) (by kernel_rfl) ?_
          simp only [List.take_succ_cons, List.take_zero, List.drop_succ_cons, List.drop_zero]
          repeat (go_big_quiet_step (fail))
          refine wpQuiet_nil ?_
          intro wq hq
          clear g_0 g_1 g_2 g_3 j1 j2 j3 j4 y1
          have HBQ := Lib.hid (below_next HB.out hq)
          have HVRQ := Lib.hid (HVR.out.then_ hq)
          have HV2Q := Lib.hid (HV2.out.then_ hq)
          replace r0 := cell_then hq r0
          replace r1 := cell_then hq r1
          replace r2 := cell_then hq r2
          replace r3 := cell_then hq r3
          replace c1 := cell_then hq c1
          replace e1 := cell_then hq e1
          have f0 := HVRQ.out.f2
          clear hq HB HVR HV2 c0
          go_wp2_with fail
          obtain ⟨U, hU⟩ : ∃ U, wq.setCell ⟨gr, 2, none⟩ (.int .i64 X') = U := ⟨_, rfl⟩
          have HBU : Hid (Below w.heap.size w U) := Lib.hid (by rw [← hU]; exact HBQ.out.setCell (by dsimp only; omega) _)
          have HVRU : Hid (Var4 U gr) := Lib.hid (by rw [← hU]; exact HVRQ.out.set_ _ _)
          have HV2U : Hid (Var4 U (w.heap.size + 1)) := Lib.hid (by rw [← hU]; exact HV2Q.out.set_ _ _)
          replace r2 : U.cell? ⟨gr, 2, none⟩ = some (.int .i64 X') := by rw [← hU]; exact set_same5 r2
          replace r0 : U.cell? ⟨gr, 0, none⟩ = some (.int .i64 mx) := by rw [← hU]; exact cell_off _ r0 (by omega)
          replace r1 : U.cell? ⟨gr, 1, none⟩ = some (.int .i64 my) := by rw [← hU]; exact cell_off _ r1 (by omega)
          replace r3 : U.cell? ⟨gr, 3, none⟩ = some (.int .i64 Y) := by rw [← hU]; exact cell_off _ r3 (by omega)
          replace c1 : U.cell? ⟨b, o + k * 4 + 1, none⟩ = some (.int .i64 y) := by rw [← hU]; exact cell_set _ c1 (by dsimp only; omega)
          replace e1 : U.cell? ⟨w.heap.size, 2, none⟩ = some (.slice (some ⟨b, o, none⟩) D.length cap) := by rw [← hU]; exact cell_set _ e1 (by dsimp only; omega)
          rw [hU]
          clear hU HBQ HVRQ HV2Q f0
          have hbl := lt_size c1
          have hl1 := lt_size e1
          have hl2 := lt_size r0
          have y2 := HY2.out
          have j1 : (if Y < y - my then y - my else Y) = Y' := MY.out
          have j2 : (if y - my < Y then Y else y - my) = Y' := by rw [← MY.out]; unfold maxI; split <;> split <;> omega
          have j3 : (if Y ≤ y - my then y - my else Y) = Y' := by rw [← MY.out]; unfold maxI; split <;> split <;> omega
          have j4 : (if y - my ≤ Y then Y else y - my) = Y' := by rw [← MY.out]; unfold maxI; split <;> split <;> omega
          have g_0 := fun D os => cell_regrown r1 D os
          have g_1 := fun D os => cell_regrown e1 D os
          have g_2 := fun D os => cell_regrown c1 D os
          have g_3 := fun D os => cell_regrown r3 D os
          go_wp2_with fail
          refine wp_region_head 13 (by kernel_rfl) (by kernel_rfl) ?_
          simp only [List.take_succ_cons, List.take_zero, List.drop_succ_cons, List.drop_zero]
          repeat (go_big_quiet_step (fail))
          refine wpQuiet_nil ?_
          intro wq hq
          clear g_0 g_1 g_2 g_3 j1 j2 j3 j4 y2
          have HBQ := Lib.hid (below_next HBU.out hq)
          have HVRQ := Lib.hid (HVRU.out.then_ hq)
          have HV2Q := Lib.hid (HV2U.out.then_ hq)
          replace r0 := cell_then hq r0
          replace r1 := cell_then hq r1
          replace r2 := cell_then hq r2
          replace r3 := cell_then hq r3
          replace e1 := cell_then hq e1
          have f0 := HVRQ.out.f3
          clear hq HBU HVRU HV2U c1
          go_wp2_with fail
          exact ⟨⟨k + 1, by omega, by go_num, cell_off _ r0 (by omega), cell_off _ r1 (by omega), by rw [HSX.out]; exact cell_off _ r2 (by omega), by rw [HSY.out]; exact set_same5 r3, HVRQ.out.set_ _ _, HV2Q.out.set_ _ _, cell_set _ e1 (by dsimp only; omega), HBQ.out.setCell (by dsimp only; omega) _⟩, by simp [intOf]; omega⟩
        · obtain rfl : k = D.length := by omega
          have hkk : ¬ (D.length : Int) < (D.length : Int) := by omega
          rw [List.take_length] at r2 r3
          obtain ⟨X, hX⟩ : ∃ X, mxF (fun d => d.x - mx) 0 D = X := ⟨_, rfl⟩
          obtain ⟨Y, hY⟩ : ∃ Y, mxF (fun d => d.y - my) 0 D = Y := ⟨_, rfl⟩
          rw [hX] at r2 HBX
          rw [hY] at r3 HBX
          have v0 := HV2.out.c0
          have v1 := HV2.out.c1
          have v2 := HV2.out.c2
          have v3 := HV2.out.c3
          have f0 := HV2.out.f0
          have f1 := HV2.out.f1
          have f2 := HV2.out.f2
          have f3 := HV2.out.f3
          have V4 := HV2.out
          clear hB hlt hX hY
          go_wp2_with fail
          exact bodyPost_ret (v := .tuple #[.agg #[.int .i64 (boxF D).1, .int .i64 (boxF D).2.1, .int .i64 (boxF D).2.2.1, .int .i64 (boxF D).2.2.2], .int .i64 0]) (by rw [HBX.out]; simp [results, Try.results15, go_sem, V4.s0, (V4.set_ _ _).s1, ((V4.set_ _ _).set_ _ _).s2, (((V4.set_ _ _).set_ _ _).set_ _ _).s3]) rfl ⟨rfl, (((HB.out.setCell (by dsimp only; omega) _).setCell (by dsimp only; omega) _).setCell (by dsimp only; omega) _).setCell (by dsimp only; omega) _⟩
end Go.Proofs.Ytgmabepdhbnppaa
