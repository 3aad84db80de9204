/- The strokes' reference: At, Place, Valid, Code of a valid stroke. -/
import Derived.Test.YtgmabepdhbnppaaStrokeCode
import Derived.Test.YtgmabepdhbnppaaStrokeLaws
import Derived.Test.YtgmabepdhbnppaaHead
namespace Go.Proofs.Ytgmabepdhbnppaa
open Go.RowKit Str
attribute [local go_sem] Oper.semAt_some
theorem atR_any (d : Dot) (w : World) : Calls Try.prog 45 #[.agg #[.int .i64 d.x, .int .i64 d.y, .int .i64 d.t, .int .i64 d.p]] w fun e w' => e = .returned (pv d.x d.y) ∧ Below w.heap.size w w' := by
  go_enter Try.func45, Try.ntmps45
  go_wp2_with fail
  exact bodyPost_ret (v := .agg #[.int .i64 d.x, .int .i64 d.y]) (by simp [results, Try.results45, go_sem]) rfl ⟨rfl, ((Below.refl _ _).alloc (Nat.le_refl _) _).alloc (by simp) _⟩
theorem placeR_yes (x y : Int) (w : World) (hx : 0 ≤ x ∧ x ≤ 4095) (hy : 0 ≤ y ∧ y ≤ 4095) : Calls Try.prog 48 #[pv x y] w fun e w' => e = .returned (.bool true) ∧ Below w.heap.size w w' := by
  obtain ⟨h1, h2⟩ := hx
  obtain ⟨h3, h4⟩ := hy
  unfold pv
  go_enter Try.func48, Try.ntmps48
  go_wp2_with fail
  go_ret
  exact ⟨rfl, below_alloc (Below.refl _ _) _⟩
theorem lastT_take {D : List Dot} : ∀ {k : Nat} (l : Int), k < D.length → lastT l (D.take (k + 1)) = (dotAt D k).t := by
  intro k l hk
  rw [take_dot hk]
  have : ∀ (E : List Dot) (l : Int) (d : Dot), lastT l (E ++ [d]) = d.t := by
    intro E
    induction E with
    | nil => intro l d; rfl
    | cons a t ih => intro l d; exact ih a.t d
  exact this _ _ _
theorem dot_facts {D : List Dot} (h : dotsB 0 D = true) {k : Nat} (hk : k < D.length) : (0 ≤ (dotAt D k).x ∧ (dotAt D k).x ≤ 4095) ∧ (0 ≤ (dotAt D k).y ∧ (dotAt D k).y ≤ 4095) ∧ (0 ≤ (dotAt D k).t ∧ (dotAt D k).t ≤ 1000000) ∧ 0 ≤ (dotAt D k).p ∧ (dotAt D k).p ≤ 100 := by
  obtain ⟨h1, h2, h3⟩ := dotB_iff.1 (dotsB_mem (by omega) h _ (dotAt_mem hk))
  exact ⟨h1.1, h1.2, h2, h3⟩
theorem dot_asc {D : List Dot} (h : dotsB 0 D = true) {k : Nat} (hk : k + 1 < D.length) : (dotAt D k).t ≤ (dotAt D (k + 1)).t := by
  have h1 : dotsB 0 (D.take (k + 1 + 1)) = true := by
    cases hb : dotsB 0 (D.take (k + 1 + 1)) with
    | true => rfl
    | false => rw [dotsB_take_false hb] at h; cases h
  rw [take_dot hk, dotsB_snoc, Bool.and_eq_true, lastT_take _ (by omega)] at h1
  exact (dotB_iff.1 h1.2).2.1.1
set_option maxRecDepth 100000 in
set_option maxHeartbeats 4000000 in
theorem validR_yes (P N : Int) (A : Option Addr) (cap : Nat) (D : List Dot) (w : World) (hD : Dots w A D) (hv : validB P N D = true) (hcp : D.length ≤ cap) :
    Calls Try.prog 21 #[.agg #[.int .i64 P, .int .i64 N, .slice A D.length cap]] w fun e w' => e = .returned (.bool true) ∧ Below w.heap.size w w' := by
  have h1 := hv
  rw [validB, Bool.and_eq_true, headB_iff] at h1
  obtain ⟨⟨⟨p1, p2⟩, ⟨p3, p4⟩, p5, p6⟩, hd⟩ := h1
  have HD := Lib.hid hD
  have HV := Lib.hid hd
  have hcp' : (D.length : Int) ≤ (cap : Int) := by omega
  clear hv hD hd
  go_enter Try.func21, Try.ntmps21
  go_wp2_with fail
  obtain ⟨W0, hW0⟩ : ∃ W0, w.alloc (.cells #[.int .i64 P, .int .i64 N, .slice A D.length cap] 27) = W0 := ⟨_, rfl⟩
  have hB0 : Below w.heap.size w W0 := by rw [← hW0]; exact below_alloc (Below.refl _ _) _
  have hc0 : W0.cell? ⟨w.heap.size, 2, none⟩ = some (.slice A D.length cap) := by rw [← hW0]; exact new_cell rfl
  have hs0 : w.heap.size < W0.heap.size := by rw [← hW0]; simp
  rw [hW0]
  clear hW0
  have HB0 := Lib.hid hB0
  have HC0 := Lib.hid hc0
  clear hB0 hc0
  go_loopw [3] (fun i wr => ∃ k : Nat, k ≤ D.length ∧ i = .int .i64 (k : Int) ∧ Below W0.heap.size W0 wr) (fun i _ => D.length - (intOf i).toNat)
  case atStart => exact ⟨0, by omega, rfl, Below.refl _ _⟩
  case round =>
    obtain ⟨k, hk, rfl, hB⟩ := hrel
    have hc2 := cell_then hB HC0.out
    by_cases hlt : k < D.length
    · obtain ⟨b, o, rfl, c0, c1, c2, c3⟩ := (HD.out.below (below_next HB0.out hB)) k hlt
      obtain ⟨f1, f2, f3, f4⟩ := dot_facts HV.out hlt
      have hasc : ∀ j, k = j + 1 → (dotAt D j).t ≤ (dotAt D k).t := fun j hj => by subst hj; exact dot_asc HV.out hlt
      have hpv : ∀ j, k = j + 1 → wr.cell? ⟨b, o + j * 4 + 2, none⟩ = some (.int .i64 (dotAt D j).t) := fun j hj => by
        obtain ⟨b', o', e, _, _, x, _⟩ := (HD.out.below (below_next HB0.out hB)) j (by omega)
        injection e with e
        injection e with e1 e2
        subst e1 e2
        exact x
      have HAT := Lib.hid (fun W => atR_any (dotAt D k) W)
      have HPL := Lib.hid (fun W => placeR_yes (dotAt D k).x (dotAt D k).y W f1 f2)
      unfold pv at HAT HPL
      obtain ⟨x, hx⟩ : ∃ x, (dotAt D k).x = x := ⟨_, rfl⟩
      obtain ⟨y, hy⟩ : ∃ y, (dotAt D k).y = y := ⟨_, rfl⟩
      obtain ⟨t, ht⟩ : ∃ t, (dotAt D k).t = t := ⟨_, rfl⟩
      obtain ⟨p, hp⟩ : ∃ p, (dotAt D k).p = p := ⟨_, rfl⟩
      rw [hx, hy] at HPL
      rw [hx, hy, ht, hp] at HAT
      rw [hx] at c0
      rw [hy] at c1
      rw [ht] at c2 f3 hasc
      rw [hp] at c3 f4
      have hkk : (k : Int) < (D.length : Int) := by omega
      have hk0 : (0 : Int) ≤ (k : Int) := by omega
      have t1 : decide (t < 0) = false := decide_eq_false (by omega)
      have t2 : decide ((1000000 : Int) < t) = false := decide_eq_false (by omega)
      have t3 : decide (p < 0) = false := decide_eq_false (by omega)
      have t4 : decide ((100 : Int) < p) = false := decide_eq_false (by omega)
      have HB := Lib.hid hB
      have HASC := Lib.hid hasc
      have HPV := Lib.hid hpv
      clear hx hy ht hp f1 f2 f3 f4 hB hasc hpv
      obtain ⟨V, hV⟩ : ∃ V, wr.alloc (.cells #[.int .i64 x, .int .i64 y, .int .i64 t, .int .i64 p] 24) = V := ⟨_, rfl⟩
      have n0 : V.cell? ⟨wr.heap.size, 0, none⟩ = some (.int .i64 x) := by rw [← hV]; exact new_cell rfl
      have n1 : V.cell? ⟨wr.heap.size, 1, none⟩ = some (.int .i64 y) := by rw [← hV]; exact new_cell rfl
      have n2 : V.cell? ⟨wr.heap.size, 2, none⟩ = some (.int .i64 t) := by rw [← hV]; exact new_cell rfl
      have n3 : V.cell? ⟨wr.heap.size, 3, none⟩ = some (.int .i64 p) := by rw [← hV]; exact new_cell rfl
      have n4 : V.cell? ⟨w.heap.size, 2, none⟩ = some (.slice (some ⟨b, o, none⟩) D.length cap) := by rw [← hV]; exact keep_alloc _ hc2
      have hBV : Below wr.heap.size wr V := by rw [← hV]; exact below_alloc (Below.refl _ _) _
      have HVV := Lib.hid hV
      have HBV := Lib.hid hBV
      clear hV hBV
      go_wp2_with fail
      rw [HVV.out]
      have g_0 := fun D os => cell_regrown n0 D os
      have g_1 := fun D os => cell_regrown n1 D os
      have g_2 := fun D os => cell_regrown n2 D os
      have g_3 := fun D os => cell_regrown n3 D os
      have g_4 := fun D os => cell_regrown n4 D os
      rcases Nat.eq_zero_or_pos k with hk1 | hk1
      · subst hk1
        refine wp_region_quiet_below (by kernel_rfl) (by kernel_rfl) ?_
        repeat (go_big_quiet_step (first | (with_reducible exact Calls.regrown_of (HAT.out _)) | (with_reducible exact Calls.regrown_of (HPL.out _))))
        refine wpQuiet_nil ?_
        intro wq hq0
        have hq := below_of_class hq0
        clear hq0
        clear g_0 g_1 g_2 g_3 g_4
        have hq2 := Lib.hid (below_next HB.out (below_next HBV.out hq))
        clear hq
        go_wp2_with fail
        exact ⟨⟨1, by omega, by go_num, hq2.out⟩, by simp [intOf]; omega⟩
      · obtain ⟨j, rfl⟩ : ∃ j, k = j + 1 := ⟨k - 1, by omega⟩
        have n5 := cell_then HBV.out (HPV.out j rfl)
        have h5 := HASC.out j rfl
        obtain ⟨s, hs⟩ : ∃ s, (dotAt D j).t = s := ⟨_, rfl⟩
        rw [hs] at n5 h5
        have g_5 := fun D os => cell_regrown n5 D os
        have t5 : decide (t < s) = false := decide_eq_false (by omega)
        have t6 : decide ((0 : Int) < ((j + 1 : Nat) : Int)) = true := decide_eq_true (by omega)
        have t7 : IntKind.i64.wrap (((j + 1 : Nat) : Int) - 1) = (j : Int) := by rw [show ((j + 1 : Nat) : Int) - 1 = (j : Int) by omega]; exact IntWalk.i64_in _ (by omega)
        have j0 : (0 : Int) ≤ (j : Int) := by omega
        have j1 : (j : Int) < (D.length : Int) := by omega
        clear hs h5
        refine wp_region_quiet_below (by kernel_rfl) (by kernel_rfl) ?_
        repeat (go_big_quiet_step (first | (with_reducible exact Calls.regrown_of (HAT.out _)) | (with_reducible exact Calls.regrown_of (HPL.out _))))
        refine wpQuiet_nil ?_
        intro wq hq0
        have hq := below_of_class hq0
        clear hq0
        clear g_0 g_1 g_2 g_3 g_4 g_5 t7
        have hq2 := Lib.hid (below_next HB.out (below_next HBV.out hq))
        clear hq
        go_wp2_with fail
        exact ⟨⟨j + 1 + 1, by omega, by go_num, hq2.out⟩, by simp [intOf]; omega⟩
    · have HB := Lib.hid (below_next HB0.out hB)
      have hkk : ¬ (k : Int) < (D.length : Int) := by omega
      clear hB
      go_wp2_with fail
      go_ret
      exact ⟨rfl, HB.out⟩
set_option maxRecDepth 100000 in
theorem codeR_yes (P N : Int) (A : Option Addr) (cap : Nat) (D : List Dot) (w : World) (hD : Dots w A D) (hv : validB P N D = true) (hcp : D.length ≤ cap) :
    Calls Try.prog 23 #[.agg #[.int .i64 P, .int .i64 N, .slice A D.length cap]] w fun e w' => e = .returned (.int .i64 (1000 * P + N)) ∧ Below w.heap.size w w' := by
  have h1 := hv
  rw [validB, Bool.and_eq_true, headB_iff] at h1
  obtain ⟨⟨⟨p1, p2⟩, ⟨p3, p4⟩, p5, p6⟩, hd⟩ := h1
  have B0 := below_alloc (Below.refl w.heap.size w) (.cells #[.int .i64 P, .int .i64 N, .slice A D.length cap] 27)
  have HC := Lib.hid (validR_yes P N A cap D _ (hD.below B0) hv hcp)
  have n0 : (w.alloc (.cells #[.int .i64 P, .int .i64 N, .slice A D.length cap] 27)).cell? ⟨w.heap.size, 0, none⟩ = some (.int .i64 P) := new_cell rfl
  have n1 : (w.alloc (.cells #[.int .i64 P, .int .i64 N, .slice A D.length cap] 27)).cell? ⟨w.heap.size, 1, none⟩ = some (.int .i64 N) := new_cell rfl
  have HB0 := Lib.hid B0
  have N0 := Lib.hid n0
  have N1 := Lib.hid n1
  clear hv hD hd B0 n0 n1
  go_enter Try.func23, Try.ntmps23
  go_wp2_with fail
  refine HC.out.mono ?_
  rintro e w1 ⟨rfl, b1⟩
  have m0 := cell_then b1 N0.out
  have m1 := cell_then b1 N1.out
  have HB := Lib.hid (below_next HB0.out b1)
  clear b1
  go_wp2_with fail
  go_ret
  exact ⟨rfl, HB.out⟩
end Go.Proofs.Ytgmabepdhbnppaa
