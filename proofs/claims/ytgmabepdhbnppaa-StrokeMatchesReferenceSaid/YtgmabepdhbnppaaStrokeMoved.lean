/- Package stroke: Moved and Turned. -/
import Derived.Test.YtgmabepdhbnppaaStrokeChanged
namespace Go.Proofs.Ytgmabepdhbnppaa
open Go.RowKit Str
set_option maxRecDepth 100000 in
set_option maxHeartbeats 4000000 in
theorem moved_no (P N : Int) (A : Option Addr) (cap : Nat) (D : List Dot) (u v : Int) (w : World) (hn : (D.length : Int) ≤ 4611686018427387904) (hD : Dots w A D)
    (h : isInB u (-4095) 4095 = false ∨ isInB v (-4095) 4095 = false ∨ validB P N D = false ∨ validB P N (moveD u v D) = false) :
    Calls Try.prog 33 #[.agg #[.int .i64 P, .int .i64 N, .slice A D.length cap], .int .i64 u, .int .i64 v] w (NoP w) := by
  have HD := Lib.hid hD
  clear hD
  have B0 : Below w.heap.size w ((((w.alloc (.cells #[.int .i64 P, .int .i64 N, .slice A D.length cap] 27)).alloc (.cells #[.int .i64 u] 3)).alloc (.cells #[.int .i64 v] 3)).alloc (.cells #[.int .i64 0, .int .i64 0, .slice none 0 0] 27)) := below_alloc (below_alloc (below_alloc (below_alloc (Below.refl _ _) _) _) _) _
  cases hu : isInB u (-4095) 4095 with
  | false =>
    clear h
    go_enter Try.func33, Try.ntmps33
    go_wp2_with fail
    refine (isIn_any _ _ _ _).mono ?_
    rintro e w1 ⟨rfl, rfl⟩
    rw [hu]
    go_wp2_with fail
    exact bodyPost_ret (v := .tuple #[.agg #[.int .i64 0, .int .i64 0, .slice none 0 0], .int .i64 50]) (by simp [results, Try.results33, go_sem]) rfl ⟨rfl, B0⟩
  | true =>
    cases hv : isInB v (-4095) 4095 with
    | false =>
      clear h
      go_enter Try.func33, Try.ntmps33
      go_wp2_with fail
      refine (isIn_any _ _ _ _).mono ?_
      rintro e w1 ⟨rfl, rfl⟩
      rw [hu]
      go_wp2_with fail
      refine (isIn_any _ _ _ _).mono ?_
      rintro e w1 ⟨rfl, rfl⟩
      rw [hv]
      go_wp2_with fail
      exact bodyPost_ret (v := .tuple #[.agg #[.int .i64 0, .int .i64 0, .slice none 0 0], .int .i64 50]) (by simp [results, Try.results33, go_sem]) rfl ⟨rfl, B0⟩
    | true =>
      have hb := (h.resolve_left (by rw [hu]; simp)).resolve_left (by rw [hv]; simp)
      have HB := Lib.hid hb
      have ru := isInB_iff.1 hu
      have rv := isInB_iff.1 hv
      clear h hb
      go_enter Try.func33, Try.ntmps33
      go_wp2_with fail
      refine (isIn_any _ _ _ _).mono ?_
      rintro e w1 ⟨rfl, rfl⟩
      rw [hu]
      go_wp2_with fail
      refine (isIn_any _ _ _ _).mono ?_
      rintro e w1 ⟨rfl, rfl⟩
      rw [hv]
      clear hu hv
      go_wp2_with fail
      obtain ⟨W, hW⟩ : ∃ W, (((w.alloc (.cells #[.int .i64 P, .int .i64 N, .slice A D.length cap] 27)).alloc (.cells #[.int .i64 u] 3)).alloc (.cells #[.int .i64 v] 3)).alloc (.cells #[.int .i64 0, .int .i64 0, .slice none 0 0] 27) = W := ⟨_, rfl⟩
      have cu : W.cell? ⟨w.heap.size + 1, 0, none⟩ = some (.int .i64 u) := by rw [← hW]; simp [go_sem]
      have cv : W.cell? ⟨w.heap.size + 1 + 1, 0, none⟩ = some (.int .i64 v) := by rw [← hW]; simp [go_sem]
      have V3 : Var3 W (w.heap.size + 1 + 1 + 1) := by rw [← hW]; exact Var3.of (v0 := .int .i64 0) (by simp [go_sem]) (v1 := .int .i64 0) (by simp [go_sem]) (v2 := .slice none 0 0) (by simp [go_sem])
      rw [hW] at B0 ⊢
      clear hW
      refine (changed_no_mv P N A cap D (mv1 u v) _ _ W hn (HD.out.below B0) HB.out (fun d W2 hv2 hd hB => moved1_any d u v _ _ W2 (placed (validB_dots hv2) d hd) ru rv (cell_then hB cu) (cell_then hB cv))).mono ?_
      rintro e w1 ⟨rfl, b1⟩
      have B1 := below_next B0 b1
      have V4 := V3.then_ b1
      obtain ⟨m0, m1, m2⟩ := And.intro V4.c0 (And.intro V4.c1 V4.c2)
      obtain ⟨z0, z1, z2⟩ := And.intro V4.f0 (And.intro V4.f1 V4.f2)
      clear V3 V4 cu cv b1
      go_wp2_with fail
      exact bodyPost_ret (v := .tuple #[.agg #[.int .i64 0, .int .i64 0, .slice none 0 0], .int .i64 50]) (by simp [results, Try.results33, go_sem, m0, m1, m2]) rfl ⟨rfl, ((B1.setCell (by dsimp only; omega) _).setCell (by dsimp only; omega) _).setCell (by dsimp only; omega) _⟩
set_option maxRecDepth 100000 in
set_option maxHeartbeats 4000000 in
theorem moved_yes (P N : Int) (A : Option Addr) (cap : Nat) (D : List Dot) (u v : Int) (w : World) (hD : Dots w A D) (hu : isInB u (-4095) 4095 = true) (hv : isInB v (-4095) 4095 = true) (h1 : validB P N D = true) (h2 : validB P N (moveD u v D) = true) :
    Calls Try.prog 33 #[.agg #[.int .i64 P, .int .i64 N, .slice A D.length cap], .int .i64 u, .int .i64 v] w (YesP P N (moveD u v D) w) := by
  have HD := Lib.hid hD
  have H1 := Lib.hid h1
  have H2 := Lib.hid h2
  have ru := isInB_iff.1 hu
  have rv := isInB_iff.1 hv
  clear hD h1 h2
  have B0 : Below w.heap.size w ((((w.alloc (.cells #[.int .i64 P, .int .i64 N, .slice A D.length cap] 27)).alloc (.cells #[.int .i64 u] 3)).alloc (.cells #[.int .i64 v] 3)).alloc (.cells #[.int .i64 0, .int .i64 0, .slice none 0 0] 27)) := below_alloc (below_alloc (below_alloc (below_alloc (Below.refl _ _) _) _) _) _
  go_enter Try.func33, Try.ntmps33
  go_wp2_with fail
  refine (isIn_any _ _ _ _).mono ?_
  rintro e w1 ⟨rfl, rfl⟩
  rw [hu]
  go_wp2_with fail
  refine (isIn_any _ _ _ _).mono ?_
  rintro e w1 ⟨rfl, rfl⟩
  rw [hv]
  clear hu hv
  go_wp2_with fail
  obtain ⟨W, hW⟩ : ∃ W, (((w.alloc (.cells #[.int .i64 P, .int .i64 N, .slice A D.length cap] 27)).alloc (.cells #[.int .i64 u] 3)).alloc (.cells #[.int .i64 v] 3)).alloc (.cells #[.int .i64 0, .int .i64 0, .slice none 0 0] 27) = W := ⟨_, rfl⟩
  have cu : W.cell? ⟨w.heap.size + 1, 0, none⟩ = some (.int .i64 u) := by rw [← hW]; simp [go_sem]
  have cv : W.cell? ⟨w.heap.size + 1 + 1, 0, none⟩ = some (.int .i64 v) := by rw [← hW]; simp [go_sem]
  have V3 : Var3 W (w.heap.size + 1 + 1 + 1) := by rw [← hW]; exact Var3.of (v0 := .int .i64 0) (by simp [go_sem]) (v1 := .int .i64 0) (by simp [go_sem]) (v2 := .slice none 0 0) (by simp [go_sem])
  rw [hW] at B0 ⊢
  clear hW
  refine (changed_yes_mv P N A cap D (mv1 u v) _ _ W (HD.out.below B0) H1.out H2.out (fun d W2 hv2 hd hB => moved1_any d u v _ _ W2 (placed (validB_dots hv2) d hd) ru rv (cell_then hB cu) (cell_then hB cv))).mono ?_
  rintro e w1 ⟨g, cap2, rfl, hg, hd2, hc1, hc2, b1⟩
  rw [List.length_map]
  have B1 := below_next B0 b1
  have V4 := V3.then_ b1
  have hR := lt_size V3.c0
  obtain ⟨m0, m1, m2⟩ := And.intro V4.c0 (And.intro V4.c1 V4.c2)
  obtain ⟨z0, z1, z2⟩ := And.intro V4.f0 (And.intro V4.f1 V4.f2)
  have DE := Lib.hid hd2
  clear V3 V4 cu cv b1 hd2
  go_wp2_with fail
  refine bodyPost_ret (v := .tuple #[.agg #[.int .i64 P, .int .i64 N, .slice (some ⟨g, 0, none⟩) D.length cap2], .int .i64 0]) (by simp [results, Try.results33, go_sem, m0, m1, m2]) rfl ?_
  have B6 := ((B1.setCell (p := ⟨w.heap.size + 1 + 1 + 1, 0, none⟩) (by dsimp only; omega) (.int .i64 P)).setCell (p := ⟨w.heap.size + 1 + 1 + 1, 1, none⟩) (by dsimp only; omega) (.int .i64 N)).setCell (p := ⟨w.heap.size + 1 + 1 + 1, 2, none⟩) (by dsimp only; omega) (.slice (some ⟨g, 0, none⟩) D.length cap2)
  refine ⟨g, cap2, by simp [moveD], by omega, fun i hi => ?_, hc1, hc2, B6⟩
  obtain ⟨b, o, hA, c0, c1, c2, c3⟩ := DE.out i hi
  have ne : g = b := by injection hA with hA; injection hA
  exact ⟨b, o, hA, cell_set _ (cell_set _ (cell_set _ c0 (by dsimp only; omega)) (by dsimp only; omega)) (by dsimp only; omega), cell_set _ (cell_set _ (cell_set _ c1 (by dsimp only; omega)) (by dsimp only; omega)) (by dsimp only; omega), cell_set _ (cell_set _ (cell_set _ c2 (by dsimp only; omega)) (by dsimp only; omega)) (by dsimp only; omega), cell_set _ (cell_set _ (cell_set _ c3 (by dsimp only; omega)) (by dsimp only; omega)) (by dsimp only; omega)⟩
set_option maxRecDepth 100000 in
set_option maxHeartbeats 4000000 in
theorem turned_no (P N : Int) (A : Option Addr) (cap : Nat) (D : List Dot) (q : Int) (w : World) (hn : (D.length : Int) ≤ 4611686018427387904) (hq : -9223372036854775808 ≤ q ∧ q ≤ 9223372036854775807) (hD : Dots w A D) (h : validB P N D = false) :
    Calls Try.prog 35 #[.agg #[.int .i64 P, .int .i64 N, .slice A D.length cap], .int .i64 q] w (NoP w) := by
  have HD := Lib.hid hD
  have HV := Lib.hid h
  have HQ := Lib.hid hq
  clear hD h hq
  have B0 : Below w.heap.size w (((w.alloc (.cells #[.int .i64 P, .int .i64 N, .slice A D.length cap] 27)).alloc (.cells #[.int .i64 q] 3)).alloc (.cells #[.int .i64 0, .int .i64 0, .slice none 0 0] 27)) := below_alloc (below_alloc (below_alloc (Below.refl _ _) _) _) _
  go_enter Try.func35, Try.ntmps35
  go_wp2_with fail
  obtain ⟨W, hW⟩ : ∃ W, ((w.alloc (.cells #[.int .i64 P, .int .i64 N, .slice A D.length cap] 27)).alloc (.cells #[.int .i64 q] 3)).alloc (.cells #[.int .i64 0, .int .i64 0, .slice none 0 0] 27) = W := ⟨_, rfl⟩
  have cq : W.cell? ⟨w.heap.size + 1, 0, none⟩ = some (.int .i64 q) := by rw [← hW]; simp [go_sem]
  have V3 : Var3 W (w.heap.size + 1 + 1) := by rw [← hW]; exact Var3.of (v0 := .int .i64 0) (by simp [go_sem]) (v1 := .int .i64 0) (by simp [go_sem]) (v2 := .slice none 0 0) (by simp [go_sem])
  rw [hW] at B0 ⊢
  clear hW
  refine (changed_no_tn P N A cap D (turnN (q % 4).toNat) _ W hn (HD.out.below B0) (.inl HV.out) (fun d W2 hv2 hd hB => turned1_any d q _ W2 (placed (validB_dots hv2) d hd) HQ.out (cell_then hB cq))).mono ?_
  rintro e w1 ⟨rfl, b1⟩
  have B1 := below_next B0 b1
  have V4 := V3.then_ b1
  obtain ⟨m0, m1, m2⟩ := And.intro V4.c0 (And.intro V4.c1 V4.c2)
  obtain ⟨z0, z1, z2⟩ := And.intro V4.f0 (And.intro V4.f1 V4.f2)
  clear V3 V4 cq b1
  go_wp2_with fail
  exact bodyPost_ret (v := .tuple #[.agg #[.int .i64 0, .int .i64 0, .slice none 0 0], .int .i64 50]) (by simp [results, Try.results35, go_sem, m0, m1, m2]) rfl ⟨rfl, ((B1.setCell (by dsimp only; omega) _).setCell (by dsimp only; omega) _).setCell (by dsimp only; omega) _⟩
set_option maxRecDepth 100000 in
set_option maxHeartbeats 4000000 in
theorem turned_yes (P N : Int) (A : Option Addr) (cap : Nat) (D : List Dot) (q : Int) (w : World) (hq : -9223372036854775808 ≤ q ∧ q ≤ 9223372036854775807) (hD : Dots w A D) (h : validB P N D = true) :
    Calls Try.prog 35 #[.agg #[.int .i64 P, .int .i64 N, .slice A D.length cap], .int .i64 q] w (YesP P N (turnD (q % 4).toNat D) w) := by
  have h2 : validB P N (D.map (turnN (q % 4).toNat)) = true := by
    have hd := turnD_dots (q % 4).toNat D 0
    have hl : (D.map (turnN (q % 4).toNat)).length = D.length := List.length_map _
    rw [validB] at h ⊢
    rw [hl]
    show (headB P N D.length && dotsB 0 (turnD (q % 4).toNat D)) = true
    rw [hd]; exact h
  have HD := Lib.hid hD
  have HV := Lib.hid h
  have H2 := Lib.hid h2
  have HQ := Lib.hid hq
  clear hD h hq h2
  have B0 : Below w.heap.size w (((w.alloc (.cells #[.int .i64 P, .int .i64 N, .slice A D.length cap] 27)).alloc (.cells #[.int .i64 q] 3)).alloc (.cells #[.int .i64 0, .int .i64 0, .slice none 0 0] 27)) := below_alloc (below_alloc (below_alloc (Below.refl _ _) _) _) _
  go_enter Try.func35, Try.ntmps35
  go_wp2_with fail
  obtain ⟨W, hW⟩ : ∃ W, ((w.alloc (.cells #[.int .i64 P, .int .i64 N, .slice A D.length cap] 27)).alloc (.cells #[.int .i64 q] 3)).alloc (.cells #[.int .i64 0, .int .i64 0, .slice none 0 0] 27) = W := ⟨_, rfl⟩
  have cq : W.cell? ⟨w.heap.size + 1, 0, none⟩ = some (.int .i64 q) := by rw [← hW]; simp [go_sem]
  have V3 : Var3 W (w.heap.size + 1 + 1) := by rw [← hW]; exact Var3.of (v0 := .int .i64 0) (by simp [go_sem]) (v1 := .int .i64 0) (by simp [go_sem]) (v2 := .slice none 0 0) (by simp [go_sem])
  rw [hW] at B0 ⊢
  clear hW
  refine (changed_yes_tn P N A cap D (turnN (q % 4).toNat) _ W (HD.out.below B0) HV.out H2.out (fun d W2 hv2 hd hB => turned1_any d q _ W2 (placed (validB_dots hv2) d hd) HQ.out (cell_then hB cq))).mono ?_
  rintro e w1 ⟨g, cap2, rfl, hg, hd2, hc1, hc2, b1⟩
  rw [List.length_map]
  have B1 := below_next B0 b1
  have V4 := V3.then_ b1
  have hR := lt_size V3.c0
  obtain ⟨m0, m1, m2⟩ := And.intro V4.c0 (And.intro V4.c1 V4.c2)
  obtain ⟨z0, z1, z2⟩ := And.intro V4.f0 (And.intro V4.f1 V4.f2)
  have DE := Lib.hid hd2
  clear V3 V4 cq b1 hd2
  go_wp2_with fail
  refine bodyPost_ret (v := .tuple #[.agg #[.int .i64 P, .int .i64 N, .slice (some ⟨g, 0, none⟩) D.length cap2], .int .i64 0]) (by simp [results, Try.results35, go_sem, m0, m1, m2]) rfl ?_
  have B6 := ((B1.setCell (p := ⟨w.heap.size + 1 + 1, 0, none⟩) (by dsimp only; omega) (.int .i64 P)).setCell (p := ⟨w.heap.size + 1 + 1, 1, none⟩) (by dsimp only; omega) (.int .i64 N)).setCell (p := ⟨w.heap.size + 1 + 1, 2, none⟩) (by dsimp only; omega) (.slice (some ⟨g, 0, none⟩) D.length cap2)
  refine ⟨g, cap2, by simp [turnD], by omega, fun i hi => ?_, hc1, hc2, B6⟩
  obtain ⟨b, o, hA, c0, c1, c2, c3⟩ := DE.out i hi
  have ne : g = b := by injection hA with hA; injection hA
  exact ⟨b, o, hA, cell_set _ (cell_set _ (cell_set _ c0 (by dsimp only; omega)) (by dsimp only; omega)) (by dsimp only; omega), cell_set _ (cell_set _ (cell_set _ c1 (by dsimp only; omega)) (by dsimp only; omega)) (by dsimp only; omega), cell_set _ (cell_set _ (cell_set _ c2 (by dsimp only; omega)) (by dsimp only; omega)) (by dsimp only; omega), cell_set _ (cell_set _ (cell_set _ c3 (by dsimp only; omega)) (by dsimp only; omega)) (by dsimp only; omega)⟩
end Go.Proofs.Ytgmabepdhbnppaa
