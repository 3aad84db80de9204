/- The strokes' reference: Place, Valid, Code, Ends of any stroke. -/
import Derived.Test.YtgmabepdhbnppaaPlotRef05
namespace Go.Proofs.Ytgmabepdhbnppaa
open Go.RowKit Str
attribute [local go_sem] Oper.semAt_some
theorem placeB_and (x y : Int) : placeB x y = (decide (0 ≤ x) && (decide (x ≤ 4095) && (decide (0 ≤ y) && decide (y ≤ 4095)))) := by simp [placeB, isInB, Bool.and_assoc]
theorem placeR_any (x y : Int) (w : World) : Calls Try.prog 48 #[pv x y] w fun e w' => e = .returned (.bool (placeB x y)) ∧ Below w.heap.size w w' := by
  rw [placeB_and]
  unfold pv
  by_cases h1 : 0 ≤ x
  · by_cases h2 : x ≤ 4095
    · by_cases h3 : 0 ≤ y
      · by_cases h4 : y ≤ 4095
        · rw [decide_eq_true h1, decide_eq_true h2, decide_eq_true h3, decide_eq_true h4]
          go_enter Try.func48, Try.ntmps48
          go_wp2_with fail
          go_ret
          exact ⟨rfl, below_alloc (Below.refl _ _) _⟩
        · rw [decide_eq_true h1, decide_eq_true h2, decide_eq_true h3, decide_eq_false h4]
          go_enter Try.func48, Try.ntmps48
          go_wp2_with fail
          go_ret
          exact ⟨rfl, below_alloc (Below.refl _ _) _⟩
      · rw [decide_eq_true h1, decide_eq_true h2, decide_eq_false h3]
        go_enter Try.func48, Try.ntmps48
        go_wp2_with fail
        go_ret
        exact ⟨rfl, below_alloc (Below.refl _ _) _⟩
    · rw [decide_eq_true h1, decide_eq_false h2]
      go_enter Try.func48, Try.ntmps48
      go_wp2_with fail
      go_ret
      exact ⟨rfl, below_alloc (Below.refl _ _) _⟩
  · rw [decide_eq_false h1]
    go_enter Try.func48, Try.ntmps48
    go_wp2_with fail
    go_ret
    exact ⟨rfl, below_alloc (Below.refl _ _) _⟩
set_option maxRecDepth 100000 in
set_option maxHeartbeats 4000000 in
theorem validR_any (P N : Int) (A : Option Addr) (cap : Nat) (D : List Dot) (w : World) (hD : Dots w A D) (hcp : D.length ≤ cap) (hcm : (cap : Int) ≤ 9223372036854775807) :
    Calls Try.prog 21 #[.agg #[.int .i64 P, .int .i64 N, .slice A D.length cap]] w fun e w' => e = .returned (.bool (validB P N D)) ∧ Below w.heap.size w w' := by
  have hcp' : (D.length : Int) ≤ (cap : Int) := by omega
  have hlm : (D.length : Int) ≤ 9223372036854775807 := by omega
  have HD := Lib.hid hD
  clear hD
  cases hh : headB P N D.length with
  | false =>
    rw [show validB P N D = false by rw [validB, hh, Bool.false_and]]
    have hh2 : ¬ ((0 ≤ P ∧ P ≤ 39) ∧ (1 ≤ N ∧ N ≤ 999) ∧ 1 ≤ (D.length : Int) ∧ (D.length : Int) ≤ 200) := by
      intro h
      have h1 : headB P N D.length = true := headB_iff.2 ⟨h.1, h.2.1, by omega, by omega⟩
      rw [hh] at h1
      cases h1
    clear hh
    by_cases a1 : P < 0
    · go_enter Try.func21, Try.ntmps21
      go_wp2_with fail
      go_ret
      exact ⟨rfl, below_alloc (Below.refl _ _) _⟩
    by_cases a2 : 39 < P
    · go_enter Try.func21, Try.ntmps21
      go_wp2_with fail
      go_ret
      exact ⟨rfl, below_alloc (Below.refl _ _) _⟩
    by_cases a3 : N < 1
    · go_enter Try.func21, Try.ntmps21
      go_wp2_with fail
      go_ret
      exact ⟨rfl, below_alloc (Below.refl _ _) _⟩
    by_cases a4 : 999 < N
    · go_enter Try.func21, Try.ntmps21
      go_wp2_with fail
      go_ret
      exact ⟨rfl, below_alloc (Below.refl _ _) _⟩
    by_cases a5 : (D.length : Int) < 1
    · go_enter Try.func21, Try.ntmps21
      go_wp2_with fail
      go_ret
      exact ⟨rfl, below_alloc (Below.refl _ _) _⟩
    have a6 : (200 : Int) < (D.length : Int) := by omega
    go_enter Try.func21, Try.ntmps21
    go_wp2_with fail
    go_ret
    exact ⟨rfl, below_alloc (Below.refl _ _) _⟩
  | true =>
    rw [show validB P N D = dotsB 0 D by rw [validB, hh, Bool.true_and]]
    have h1 := headB_iff.1 hh
    obtain ⟨⟨p1, p2⟩, ⟨p3, p4⟩, p5, p6⟩ := h1
    clear hh
    go_enter Try.func21, Try.ntmps21
    go_wp2_with fail
    obtain ⟨W0, hW0⟩ : ∃ W0, w.alloc (.cells #[.int .i64 P, .int .i64 N, .slice A D.length cap] 27) = W0 := ⟨_, rfl⟩
    have hB0 : Below w.heap.size w W0 := by rw [← hW0]; exact below_alloc (Below.refl _ _) _
    have hc0 : W0.cell? ⟨w.heap.size, 2, none⟩ = some (.slice A D.length cap) := by rw [← hW0]; exact new_cell rfl
    have hs0 : w.heap.size < W0.heap.size := by rw [← hW0]; simp
    rw [hW0]
    clear hW0
    have HB0 := Lib.hid hB0
    have HC0 := Lib.hid hc0
    clear hB0 hc0
    go_loopw [3] (fun i wr => ∃ k : Nat, k ≤ D.length ∧ i = .int .i64 (k : Int) ∧ dotsB 0 (D.take k) = true ∧ Below W0.heap.size W0 wr) (fun i _ => D.length - (intOf i).toNat)
    case atStart => exact ⟨0, by omega, rfl, rfl, Below.refl _ _⟩
    case round =>
      obtain ⟨k, hk, rfl, hok, hB⟩ := hrel
      have hc2 := cell_then hB HC0.out
      by_cases hlt : k < D.length
      · obtain ⟨b, o, rfl, c0, c1, c2, c3⟩ := (HD.out.below (below_next HB0.out hB)) k hlt
        have hsn := dotsB_snoc 0 (D.take k) (dotAt D k)
        rw [← take_dot hlt, hok, Bool.true_and] at hsn
        have hlast : k = 0 ∨ ∃ j, k = j + 1 ∧ lastT 0 (D.take k) = (dotAt D j).t ∧ wr.cell? ⟨b, o + j * 4 + 2, none⟩ = some (.int .i64 (dotAt D j).t) ∧ 0 ≤ (dotAt D j).t := by
          rcases Nat.eq_zero_or_pos k with h | h
          · exact .inl h
          · obtain ⟨j, rfl⟩ : ∃ j, k = j + 1 := ⟨k - 1, by omega⟩
            obtain ⟨b', o', e, _, _, x, _⟩ := (HD.out.below (below_next HB0.out hB)) j (by omega)
            injection e with e
            injection e with e1 e2
            subst e1 e2
            have hm : dotAt D j ∈ D.take (j + 1) := by rw [take_dot (by omega)]; simp
            exact .inr ⟨j, rfl, lastT_take 0 (by omega), x, (dotB_iff.1 (dotsB_mem (Int.le_refl 0) hok _ hm)).2.1.1⟩
        have hbad : dotB (lastT 0 (D.take k)) (dotAt D k) = false → dotsB 0 D = false := fun h => dotsB_take_false (k := k + 1) (by rw [hsn, h])
        have HAT := Lib.hid (fun W => atR_any (dotAt D k) W)
        have HPL := Lib.hid (fun W => placeR_any (dotAt D k).x (dotAt D k).y W)
        unfold pv at HAT HPL
        have hdb : dotB (lastT 0 (D.take k)) (dotAt D k) = (placeB (dotAt D k).x (dotAt D k).y && decide (lastT 0 (D.take k) ≤ (dotAt D k).t) && decide ((dotAt D k).t ≤ 1000000) && decide (0 ≤ (dotAt D k).p) && decide ((dotAt D k).p ≤ 100)) := by simp [dotB, isInB, Bool.and_assoc]
        obtain ⟨L, hL⟩ : ∃ L, lastT 0 (D.take k) = L := ⟨_, rfl⟩
        rw [hL] at hlast hsn hbad hdb
        have hL0 : k = 0 → L = 0 := fun h => by rw [← hL, h]; rfl
        have hLg : 0 ≤ L := by
          rcases hlast with h | ⟨j, _, e, _, h0⟩
          · rw [hL0 h]; exact Int.le_refl 0
          · omega
        obtain ⟨d, hd⟩ : ∃ d, dotAt D k = d := ⟨_, rfl⟩
        rw [hd] at c0 c1 c2 c3 hsn hbad HAT HPL hdb
        obtain ⟨x, y, t, p⟩ := d
        dsimp only at c0 c1 c2 c3 HAT HPL hdb
        obtain ⟨q, hq⟩ : ∃ q, placeB x y = q := ⟨_, rfl⟩
        rw [hq] at HPL hdb
        have hkk : (k : Int) < (D.length : Int) := by omega
        have hk0 : (0 : Int) ≤ (k : Int) := by omega
        have HB := Lib.hid hB
        have HSN := Lib.hid hsn
        have HBAD := Lib.hid hbad
        have HL0 := Lib.hid hL0
        have HLA := Lib.hid hlast
        clear hB hsn hbad hL hd hq hL0 hlast hok
        obtain ⟨V, hV⟩ : ∃ V, wr.alloc (.cells #[.int .i64 x, .int .i64 y, .int .i64 t, .int .i64 p] 24) = V := ⟨_, rfl⟩
        have n0 : V.cell? ⟨wr.heap.size, 0, none⟩ = some (.int .i64 x) := by rw [← hV]; exact new_cell rfl
        have n1 : V.cell? ⟨wr.heap.size, 1, none⟩ = some (.int .i64 y) := by rw [← hV]; exact new_cell rfl
        have n2 : V.cell? ⟨wr.heap.size, 2, none⟩ = some (.int .i64 t) := by rw [← hV]; exact new_cell rfl
        have n3 : V.cell? ⟨wr.heap.size, 3, none⟩ = some (.int .i64 p) := by rw [← hV]; exact new_cell rfl
        have n4 : V.cell? ⟨w.heap.size, 2, none⟩ = some (.slice (some ⟨b, o, none⟩) D.length cap) := by rw [← hV]; exact keep_alloc _ hc2
        have hBV : Below wr.heap.size wr V := by rw [← hV]; exact below_alloc (Below.refl _ _) _
        have HVV := Lib.hid hV
        have HBV := Lib.hid hBV
        clear hV hBV
        go_wp2_with fail
        rw [HVV.out]
        have g_0 := fun D os => cell_regrown n0 D os
        have g_1 := fun D os => cell_regrown n1 D os
        have g_2 := fun D os => cell_regrown n2 D os
        have g_3 := fun D os => cell_regrown n3 D os
        have g_4 := fun D os => cell_regrown n4 D os
        cases q with
        | false =>
          have HX := Lib.hid (HBAD.out (by rw [hdb]; rfl))
          clear hdb
          refine wp_region_quiet_below (by kernel_rfl) (by kernel_rfl) ?_
          repeat (go_big_quiet_step (first | (with_reducible exact Calls.regrown_of (HAT.out _)) | (with_reducible exact Calls.regrown_of (HPL.out _))))
          refine wpQuiet_nil ?_
          intro wq hq0
          have hq := below_of_class hq0
          clear hq0
          have HQ := Lib.hid (below_next HB0.out (below_next HB.out (below_next HBV.out hq)))
          clear hq
          go_wp2_with fail
          go_ret
          exact ⟨by rw [HX.out]; rfl, HQ.out⟩
        | true =>
        by_cases a1 : t < 0
        · have t1 : decide (t < 0) = true := decide_eq_true a1
          have HX := Lib.hid (HBAD.out (by rw [hdb]; simp; omega))
          clear hdb a1
          refine wp_region_quiet_below (by kernel_rfl) (by kernel_rfl) ?_
          repeat (go_big_quiet_step (first | (with_reducible exact Calls.regrown_of (HAT.out _)) | (with_reducible exact Calls.regrown_of (HPL.out _))))
          refine wpQuiet_nil ?_
          intro wq hq0
          have hq := below_of_class hq0
          clear hq0
          have HQ := Lib.hid (below_next HB0.out (below_next HB.out (below_next HBV.out hq)))
          clear hq
          go_wp2_with fail
          go_ret
          exact ⟨by rw [HX.out]; rfl, HQ.out⟩
        have t1 : decide (t < 0) = false := decide_eq_false a1
        by_cases a2 : (1000000 : Int) < t
        · have t2 : decide ((1000000 : Int) < t) = true := decide_eq_true a2
          have HX := Lib.hid (HBAD.out (by rw [hdb]; simp; omega))
          clear hdb a1 a2
          refine wp_region_quiet_below (by kernel_rfl) (by kernel_rfl) ?_
          repeat (go_big_quiet_step (first | (with_reducible exact Calls.regrown_of (HAT.out _)) | (with_reducible exact Calls.regrown_of (HPL.out _))))
          refine wpQuiet_nil ?_
          intro wq hq0
          have hq := below_of_class hq0
          clear hq0
          have HQ := Lib.hid (below_next HB0.out (below_next HB.out (below_next HBV.out hq)))
          clear hq
          go_wp2_with fail
          go_ret
          exact ⟨by rw [HX.out]; rfl, HQ.out⟩
        have t2 : decide ((1000000 : Int) < t) = false := decide_eq_false a2
        by_cases a3 : p < 0
        · have t3 : decide (p < 0) = true := decide_eq_true a3
          have HX := Lib.hid (HBAD.out (by rw [hdb]; simp; omega))
          clear hdb a1 a2 a3
          refine wp_region_quiet_below (by kernel_rfl) (by kernel_rfl) ?_
          repeat (go_big_quiet_step (first | (with_reducible exact Calls.regrown_of (HAT.out _)) | (with_reducible exact Calls.regrown_of (HPL.out _))))
          refine wpQuiet_nil ?_
          intro wq hq0
          have hq := below_of_class hq0
          clear hq0
          have HQ := Lib.hid (below_next HB0.out (below_next HB.out (below_next HBV.out hq)))
          clear hq
          go_wp2_with fail
          go_ret
          exact ⟨by rw [HX.out]; rfl, HQ.out⟩
        have t3 : decide (p < 0) = false := decide_eq_false a3
        by_cases a4 : (100 : Int) < p
        · have t4 : decide ((100 : Int) < p) = true := decide_eq_true a4
          have HX := Lib.hid (HBAD.out (by rw [hdb]; simp; omega))
          clear hdb a1 a2 a3 a4
          refine wp_region_quiet_below (by kernel_rfl) (by kernel_rfl) ?_
          repeat (go_big_quiet_step (first | (with_reducible exact Calls.regrown_of (HAT.out _)) | (with_reducible exact Calls.regrown_of (HPL.out _))))
          refine wpQuiet_nil ?_
          intro wq hq0
          have hq := below_of_class hq0
          clear hq0
          have HQ := Lib.hid (below_next HB0.out (below_next HB.out (below_next HBV.out hq)))
          clear hq
          go_wp2_with fail
          go_ret
          exact ⟨by rw [HX.out]; rfl, HQ.out⟩
        have t4 : decide ((100 : Int) < p) = false := decide_eq_false a4
        rcases HLA.out with hk1 | ⟨j, rfl, hLj, x5, hj0⟩
        · subst hk1
          have hL0 := HL0.out rfl
          have HX := Lib.hid (show dotsB 0 (D.take (0 + 1)) = true by rw [HSN.out, hdb]; simp; omega)
          clear hdb a1 a2 a3 a4 hL0
          refine wp_region_quiet_below (by kernel_rfl) (by kernel_rfl) ?_
          repeat (go_big_quiet_step (first | (with_reducible exact Calls.regrown_of (HAT.out _)) | (with_reducible exact Calls.regrown_of (HPL.out _))))
          refine wpQuiet_nil ?_
          intro wq hq0
          have hq := below_of_class hq0
          clear hq0
          have HQ := Lib.hid (below_next HB.out (below_next HBV.out hq))
          clear hq
          go_wp2_with fail
          exact ⟨⟨1, by omega, by go_num, HX.out, HQ.out⟩, by simp [intOf]; omega⟩
        · have n5 := cell_then HBV.out x5
          obtain ⟨s, hs⟩ : ∃ s, (dotAt D j).t = s := ⟨_, rfl⟩
          rw [hs] at n5 hLj hj0
          have g_5 := fun D os => cell_regrown n5 D os
          have t6 : decide ((0 : Int) < ((j + 1 : Nat) : Int)) = true := decide_eq_true (by omega)
          have t7 : IntKind.i64.wrap (((j + 1 : Nat) : Int) - 1) = (j : Int) := by rw [show ((j + 1 : Nat) : Int) - 1 = (j : Int) by omega]; exact IntWalk.i64_in _ (by omega)
          have j0 : (0 : Int) ≤ (j : Int) := by omega
          have j1 : (j : Int) < (D.length : Int) := by omega
          clear hs x5
          by_cases a5 : t < s
          · have t5 : decide (t < s) = true := decide_eq_true a5
            have HX := Lib.hid (HBAD.out (by rw [hdb]; simp; omega))
            clear hdb a1 a2 a3 a4 a5 hLj hj0
            refine wp_region_quiet_below (by kernel_rfl) (by kernel_rfl) ?_
            repeat (go_big_quiet_step (first | (with_reducible exact Calls.regrown_of (HAT.out _)) | (with_reducible exact Calls.regrown_of (HPL.out _))))
            refine wpQuiet_nil ?_
            intro wq hq0
            have hq := below_of_class hq0
            clear hq0
            have HQ := Lib.hid (below_next HB0.out (below_next HB.out (below_next HBV.out hq)))
            clear hq
            go_wp2_with fail
            go_ret
            exact ⟨by rw [HX.out]; rfl, HQ.out⟩
          · have t5 : decide (t < s) = false := decide_eq_false a5
            have HX := Lib.hid (show dotsB 0 (D.take (j + 1 + 1)) = true by rw [HSN.out, hdb]; simp; omega)
            clear hdb a1 a2 a3 a4 a5 hLj hj0
            refine wp_region_quiet_below (by kernel_rfl) (by kernel_rfl) ?_
            repeat (go_big_quiet_step (first | (with_reducible exact Calls.regrown_of (HAT.out _)) | (with_reducible exact Calls.regrown_of (HPL.out _))))
            refine wpQuiet_nil ?_
            intro wq hq0
            have hq := below_of_class hq0
            clear hq0
            have HQ := Lib.hid (below_next HB.out (below_next HBV.out hq))
            clear hq
            go_wp2_with fail
            exact ⟨⟨j + 1 + 1, by omega, by go_num, HX.out, HQ.out⟩, by simp [intOf]; omega⟩
      · have HB := Lib.hid (below_next HB0.out hB)
        have hkk : ¬ (k : Int) < (D.length : Int) := by omega
        rw [List.take_of_length_le (by omega)] at hok
        have HOK := Lib.hid hok
        clear hB hok
        go_wp2_with fail
        go_ret
        exact ⟨by rw [HOK.out]; rfl, HB.out⟩
end Go.Proofs.Ytgmabepdhbnppaa
