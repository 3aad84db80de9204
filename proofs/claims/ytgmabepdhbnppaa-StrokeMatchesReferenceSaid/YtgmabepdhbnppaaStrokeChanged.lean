/- Package stroke: changed, Moved and Turned. -/
import Derived.Test.YtgmabepdhbnppaaStrokeEach
namespace Go.Proofs.Ytgmabepdhbnppaa
open Go.RowKit Str
/-- a refusal -/
def NoP (w : World) (e : Ending) (w' : World) : Prop := e = .returned (.tuple #[.agg #[.int .i64 0, .int .i64 0, .slice none 0 0], .int .i64 50]) ∧ Below w.heap.size w w'
/-- a stroke -/
def YesP (P N : Int) (E : List Dot) (w : World) (e : Ending) (w' : World) : Prop :=
  ∃ g cap, e = .returned (.tuple #[.agg #[.int .i64 P, .int .i64 N, .slice (some ⟨g, 0, none⟩) E.length cap], .int .i64 0]) ∧ w.heap.size ≤ g ∧ Dots w' (some ⟨g, 0, none⟩) E ∧ E.length ≤ cap ∧ (cap : Int) ≤ 9223372036854775807 ∧ Below w.heap.size w w'
set_option maxRecDepth 100000 in
set_option maxHeartbeats 4000000 in
theorem changed_no_mv (P N : Int) (A : Option Addr) (cap : Nat) (D : List Dot) (f : Dot → Dot) (v1 v2 : Value) (w : World) (hn : (D.length : Int) ≤ 4611686018427387904) (hD : Dots w A D) (h1 : validB P N D = false ∨ validB P N (D.map f) = false)
    (hF : ∀ d W, validB P N D = true → d ∈ D → Below w.heap.size w W → Calls Try.prog 57 #[dv d, v1, v2] W fun e w' => e = .returned (dv (f d)) ∧ Below W.heap.size W w') :
    Calls Try.prog 56 #[.agg #[.int .i64 P, .int .i64 N, .slice A D.length cap], .func (.func 57) #[] #[v1, v2]] w (NoP w) := by
  have HF := Lib.hid hF
  have HD := Lib.hid hD
  clear hF hD
  have B0 : Below w.heap.size w ((w.alloc (.cells #[.int .i64 P, .int .i64 N, .slice A D.length cap] 27)).alloc (.cells #[.int .i64 0, .int .i64 0, .slice none 0 0] 27)) := below_alloc (below_alloc (Below.refl _ _) _) _
  cases hv : validB P N D with
  | false =>
    clear h1
    go_enter Try.func56, Try.ntmps56
    go_wp2_with fail
    refine (valid_any P N A cap D _ (HD.out.below B0) hn).mono ?_
    rintro e w1 ⟨rfl, b1⟩
    rw [hv]
    have V1 : Var3 w1 (w.heap.size + 1) := Var3.of (var_then b1 (v := .int .i64 0) (by simp [go_sem])) (var_then b1 (v := .int .i64 0) (by simp [go_sem])) (var_then b1 (v := .slice none 0 0) (by simp [go_sem]))
    obtain ⟨m0, m1, m2⟩ := And.intro V1.c0 (And.intro V1.c1 V1.c2)
    obtain ⟨z0, z1, z2⟩ := And.intro V1.f0 (And.intro V1.f1 V1.f2)
    clear V1
    go_wp2_with fail
    exact bodyPost_ret (v := .tuple #[.agg #[.int .i64 0, .int .i64 0, .slice none 0 0], .int .i64 50]) (by simp [results, Try.results56, go_sem, m0, m1, m2]) rfl ⟨rfl, (((below_next B0 b1).setCell (by dsimp only; omega) _).setCell (by dsimp only; omega) _).setCell (by dsimp only; omega) _⟩
  | true =>
    have hE := h1.resolve_left (by rw [hv]; simp)
    obtain ⟨⟨p5, p6⟩, p0⟩ := valid_len hv
    have HV := Lib.hid hv
    clear h1 hv
    go_enter Try.func56, Try.ntmps56
    go_wp2_with fail
    refine (valid_any P N A cap D _ (HD.out.below B0) hn).mono ?_
    rintro e w1 ⟨rfl, b1⟩
    rw [HV.out]
    have B1 := below_next B0 b1
    have e0 : w1.cell? ⟨w.heap.size, 0, none⟩ = some (.int .i64 P) := cell_then b1 (by simp [go_sem])
    have e1 : w1.cell? ⟨w.heap.size, 1, none⟩ = some (.int .i64 N) := cell_then b1 (by simp [go_sem])
    obtain ⟨e2, f2⟩ := var_then b1 (a := ⟨w.heap.size, 2, none⟩) (v := .slice A D.length cap) (by simp [go_sem])
    have V0 : Var3 w1 w.heap.size := Var3.of (var_then b1 (v := .int .i64 P) (by simp [go_sem])) (var_then b1 (v := .int .i64 N) (by simp [go_sem])) (var_then b1 (v := .slice A D.length cap) (by simp [go_sem]))
    have V1 : Var3 w1 (w.heap.size + 1) := Var3.of (var_then b1 (v := .int .i64 0) (by simp [go_sem])) (var_then b1 (v := .int .i64 0) (by simp [go_sem])) (var_then b1 (v := .slice none 0 0) (by simp [go_sem]))
    have HV0 := Lib.hid V0
    have HV1 := Lib.hid V1
    have hsz1 := lt_size V1.c0
    clear b1 V0 V1
    go_wp2_with fail
    refine (each_mv A cap D f v1 v2 w1 p6 (HD.out.below B1) (fun d W hd hB => HF.out d W HV.out hd (below_next B1 hB))).mono ?_
    rintro e w2 ⟨g, cap2, rfl, hg, hd2, hc1, hc2, b2⟩
    have B2 := below_next B1 b2
    replace e0 := cell_then b2 e0
    replace e1 := cell_then b2 e1
    obtain ⟨e2, f2⟩ := var_then b2 ⟨e2, f2⟩
    have V0 := HV0.out.then_ b2
    have HV2 := Lib.hid (HV1.out.then_ b2)
    have HV3 := Lib.hid V0
    clear V0
    rw [List.length_map]
    go_wp2_with fail
    have B3 : Below w.heap.size w (w2.setCell ⟨w.heap.size, 2, none⟩ (.slice (some ⟨g, 0, none⟩) D.length cap2)) := B2.setCell (by dsimp only; omega) _
    have D3 : Dots (w2.setCell ⟨w.heap.size, 2, none⟩ (.slice (some ⟨g, 0, none⟩) D.length cap2)) (some ⟨g, 0, none⟩) (D.map f) := fun i hi => by
      obtain ⟨b, o, hA, c0, c1, c2, c3⟩ := hd2 i hi
      have ne : g = b := by injection hA with hA; injection hA
      exact ⟨b, o, hA, cell_set _ c0 (by dsimp only; omega), cell_set _ c1 (by dsimp only; omega), cell_set _ c2 (by dsimp only; omega), cell_set _ c3 (by dsimp only; omega)⟩
    have hvE := valid_any P N (some ⟨g, 0, none⟩) cap2 (D.map f) _ D3 (by rw [List.length_map]; omega)
    rw [List.length_map] at hvE
    refine hvE.mono ?_
    clear hvE
    rintro e w3 ⟨rfl, b3⟩
    have B5 := below_next B3 b3
    have DE := Lib.hid (D3.below b3)
    have V2 := (HV2.out.set_ ⟨w.heap.size, 2, none⟩ (.slice (some ⟨g, 0, none⟩) D.length cap2)).then_ b3
    obtain ⟨m0, m1, m2⟩ := And.intro V2.c0 (And.intro V2.c1 V2.c2)
    obtain ⟨z0, z1, z2⟩ := And.intro V2.f0 (And.intro V2.f1 V2.f2)
    clear V2
    rw [hE]
    go_wp2_with fail
    exact bodyPost_ret (v := .tuple #[.agg #[.int .i64 0, .int .i64 0, .slice none 0 0], .int .i64 50]) (by simp [results, Try.results56, go_sem, m0, m1, m2]) rfl ⟨rfl, ((B5.setCell (by dsimp only; omega) _).setCell (by dsimp only; omega) _).setCell (by dsimp only; omega) _⟩
set_option maxRecDepth 100000 in
set_option maxHeartbeats 4000000 in
theorem changed_yes_mv (P N : Int) (A : Option Addr) (cap : Nat) (D : List Dot) (f : Dot → Dot) (v1 v2 : Value) (w : World) (hD : Dots w A D) (hv : validB P N D = true) (hE : validB P N (D.map f) = true)
    (hF : ∀ d W, validB P N D = true → d ∈ D → Below w.heap.size w W → Calls Try.prog 57 #[dv d, v1, v2] W fun e w' => e = .returned (dv (f d)) ∧ Below W.heap.size W w') :
    Calls Try.prog 56 #[.agg #[.int .i64 P, .int .i64 N, .slice A D.length cap], .func (.func 57) #[] #[v1, v2]] w (YesP P N (D.map f) w) := by
  have HF := Lib.hid hF
  have HD := Lib.hid hD
  clear hF hD
  have B0 : Below w.heap.size w ((w.alloc (.cells #[.int .i64 P, .int .i64 N, .slice A D.length cap] 27)).alloc (.cells #[.int .i64 0, .int .i64 0, .slice none 0 0] 27)) := below_alloc (below_alloc (Below.refl _ _) _) _
  obtain ⟨⟨p5, p6⟩, p0⟩ := valid_len hv
  have HV := Lib.hid hv
  have HE := Lib.hid hE
  clear hv hE
  go_enter Try.func56, Try.ntmps56
  go_wp2_with fail
  refine (valid_any P N A cap D _ (HD.out.below B0) (by omega)).mono ?_
  rintro e w1 ⟨rfl, b1⟩
  rw [HV.out]
  have B1 := below_next B0 b1
  have e0 : w1.cell? ⟨w.heap.size, 0, none⟩ = some (.int .i64 P) := cell_then b1 (by simp [go_sem])
  have e1 : w1.cell? ⟨w.heap.size, 1, none⟩ = some (.int .i64 N) := cell_then b1 (by simp [go_sem])
  obtain ⟨e2, f2⟩ := var_then b1 (a := ⟨w.heap.size, 2, none⟩) (v := .slice A D.length cap) (by simp [go_sem])
  have V0 : Var3 w1 w.heap.size := Var3.of (var_then b1 (v := .int .i64 P) (by simp [go_sem])) (var_then b1 (v := .int .i64 N) (by simp [go_sem])) (var_then b1 (v := .slice A D.length cap) (by simp [go_sem]))
  have V1 : Var3 w1 (w.heap.size + 1) := Var3.of (var_then b1 (v := .int .i64 0) (by simp [go_sem])) (var_then b1 (v := .int .i64 0) (by simp [go_sem])) (var_then b1 (v := .slice none 0 0) (by simp [go_sem]))
  have HV0 := Lib.hid V0
  have HV1 := Lib.hid V1
  have hsz1 := lt_size V1.c0
  clear b1 V0 V1
  go_wp2_with fail
  refine (each_mv A cap D f v1 v2 w1 p6 (HD.out.below B1) (fun d W hd hB => HF.out d W HV.out hd (below_next B1 hB))).mono ?_
  rintro e w2 ⟨g, cap2, rfl, hg, hd2, hc1, hc2, b2⟩
  have B2 := below_next B1 b2
  replace e0 := cell_then b2 e0
  replace e1 := cell_then b2 e1
  obtain ⟨e2, f2⟩ := var_then b2 ⟨e2, f2⟩
  have V0 := HV0.out.then_ b2
  have HV2 := Lib.hid (HV1.out.then_ b2)
  have HV3 := Lib.hid V0
  clear V0
  rw [List.length_map]
  go_wp2_with fail
  have B3 : Below w.heap.size w (w2.setCell ⟨w.heap.size, 2, none⟩ (.slice (some ⟨g, 0, none⟩) D.length cap2)) := B2.setCell (by dsimp only; omega) _
  have D3 : Dots (w2.setCell ⟨w.heap.size, 2, none⟩ (.slice (some ⟨g, 0, none⟩) D.length cap2)) (some ⟨g, 0, none⟩) (D.map f) := fun i hi => by
    obtain ⟨b, o, hA, c0, c1, c2, c3⟩ := hd2 i hi
    have ne : g = b := by injection hA with hA; injection hA
    exact ⟨b, o, hA, cell_set _ c0 (by dsimp only; omega), cell_set _ c1 (by dsimp only; omega), cell_set _ c2 (by dsimp only; omega), cell_set _ c3 (by dsimp only; omega)⟩
  have hvE := valid_any P N (some ⟨g, 0, none⟩) cap2 (D.map f) _ D3 (by rw [List.length_map]; omega)
  rw [List.length_map] at hvE
  refine hvE.mono ?_
  clear hvE
  rintro e w3 ⟨rfl, b3⟩
  have B5 := below_next B3 b3
  have DE := Lib.hid (D3.below b3)
  have V2 := (HV2.out.set_ ⟨w.heap.size, 2, none⟩ (.slice (some ⟨g, 0, none⟩) D.length cap2)).then_ b3
  obtain ⟨m0, m1, m2⟩ := And.intro V2.c0 (And.intro V2.c1 V2.c2)
  obtain ⟨z0, z1, z2⟩ := And.intro V2.f0 (And.intro V2.f1 V2.f2)
  clear V2
  rw [HE.out]
  have g0 := cell_then b3 (a := ⟨w.heap.size, 0, none⟩) (v := .int .i64 P) (cell_off _ e0 (by omega))
  have g1 := cell_then b3 (a := ⟨w.heap.size, 1, none⟩) (v := .int .i64 N) (cell_off _ e1 (by omega))
  have g2 := cell_then b3 (a := ⟨w.heap.size, 2, none⟩) (v := .slice (some ⟨g, 0, none⟩) D.length cap2) (HV3.out.s2 _)
  clear e0 e1 e2
  go_wp2_with fail
  refine bodyPost_ret (v := .tuple #[.agg #[.int .i64 P, .int .i64 N, .slice (some ⟨g, 0, none⟩) D.length cap2], .int .i64 0]) (by simp [results, Try.results56, go_sem, m0, m1, m2]) rfl ?_
  have B6 := ((B5.setCell (p := ⟨w.heap.size + 1, 0, none⟩) (by dsimp only; omega) (.int .i64 P)).setCell (p := ⟨w.heap.size + 1, 1, none⟩) (by dsimp only; omega) (.int .i64 N)).setCell (p := ⟨w.heap.size + 1, 2, none⟩) (by dsimp only; omega) (.slice (some ⟨g, 0, none⟩) D.length cap2)
  refine ⟨g, cap2, by rw [List.length_map], by omega, fun i hi => ?_, hc1, hc2, B6⟩
  obtain ⟨b, o, hA, c0, c1, c2, c3⟩ := DE.out i hi
  have ne : g = b := by injection hA with hA; injection hA
  exact ⟨b, o, hA, cell_set _ (cell_set _ (cell_set _ c0 (by dsimp only; omega)) (by dsimp only; omega)) (by dsimp only; omega), cell_set _ (cell_set _ (cell_set _ c1 (by dsimp only; omega)) (by dsimp only; omega)) (by dsimp only; omega), cell_set _ (cell_set _ (cell_set _ c2 (by dsimp only; omega)) (by dsimp only; omega)) (by dsimp only; omega), cell_set _ (cell_set _ (cell_set _ c3 (by dsimp only; omega)) (by dsimp only; omega)) (by dsimp only; omega)⟩
set_option maxRecDepth 100000 in
set_option maxHeartbeats 4000000 in
theorem changed_no_tn (P N : Int) (A : Option Addr) (cap : Nat) (D : List Dot) (f : Dot → Dot) (v1 : Value) (w : World) (hn : (D.length : Int) ≤ 4611686018427387904) (hD : Dots w A D) (h1 : validB P N D = false ∨ validB P N (D.map f) = false)
    (hF : ∀ d W, validB P N D = true → d ∈ D → Below w.heap.size w W → Calls Try.prog 58 #[dv d, v1] W fun e w' => e = .returned (dv (f d)) ∧ Below W.heap.size W w') :
    Calls Try.prog 56 #[.agg #[.int .i64 P, .int .i64 N, .slice A D.length cap], .func (.func 58) #[] #[v1]] w (NoP w) := by
  have HF := Lib.hid hF
  have HD := Lib.hid hD
  clear hF hD
  have B0 : Below w.heap.size w ((w.alloc (.cells #[.int .i64 P, .int .i64 N, .slice A D.length cap] 27)).alloc (.cells #[.int .i64 0, .int .i64 0, .slice none 0 0] 27)) := below_alloc (below_alloc (Below.refl _ _) _) _
  cases hv : validB P N D with
  | false =>
    clear h1
    go_enter Try.func56, Try.ntmps56
    go_wp2_with fail
    refine (valid_any P N A cap D _ (HD.out.below B0) hn).mono ?_
    rintro e w1 ⟨rfl, b1⟩
    rw [hv]
    have V1 : Var3 w1 (w.heap.size + 1) := Var3.of (var_then b1 (v := .int .i64 0) (by simp [go_sem])) (var_then b1 (v := .int .i64 0) (by simp [go_sem])) (var_then b1 (v := .slice none 0 0) (by simp [go_sem]))
    obtain ⟨m0, m1, m2⟩ := And.intro V1.c0 (And.intro V1.c1 V1.c2)
    obtain ⟨z0, z1, z2⟩ := And.intro V1.f0 (And.intro V1.f1 V1.f2)
    clear V1
    go_wp2_with fail
    exact bodyPost_ret (v := .tuple #[.agg #[.int .i64 0, .int .i64 0, .slice none 0 0], .int .i64 50]) (by simp [results, Try.results56, go_sem, m0, m1, m2]) rfl ⟨rfl, (((below_next B0 b1).setCell (by dsimp only; omega) _).setCell (by dsimp only; omega) _).setCell (by dsimp only; omega) _⟩
  | true =>
    have hE := h1.resolve_left (by rw [hv]; simp)
    obtain ⟨⟨p5, p6⟩, p0⟩ := valid_len hv
    have HV := Lib.hid hv
    clear h1 hv
    go_enter Try.func56, Try.ntmps56
    go_wp2_with fail
    refine (valid_any P N A cap D _ (HD.out.below B0) hn).mono ?_
    rintro e w1 ⟨rfl, b1⟩
    rw [HV.out]
    have B1 := below_next B0 b1
    have e0 : w1.cell? ⟨w.heap.size, 0, none⟩ = some (.int .i64 P) := cell_then b1 (by simp [go_sem])
    have e1 : w1.cell? ⟨w.heap.size, 1, none⟩ = some (.int .i64 N) := cell_then b1 (by simp [go_sem])
    obtain ⟨e2, f2⟩ := var_then b1 (a := ⟨w.heap.size, 2, none⟩) (v := .slice A D.length cap) (by simp [go_sem])
    have V0 : Var3 w1 w.heap.size := Var3.of (var_then b1 (v := .int .i64 P) (by simp [go_sem])) (var_then b1 (v := .int .i64 N) (by simp [go_sem])) (var_then b1 (v := .slice A D.length cap) (by simp [go_sem]))
    have V1 : Var3 w1 (w.heap.size + 1) := Var3.of (var_then b1 (v := .int .i64 0) (by simp [go_sem])) (var_then b1 (v := .int .i64 0) (by simp [go_sem])) (var_then b1 (v := .slice none 0 0) (by simp [go_sem]))
    have HV0 := Lib.hid V0
    have HV1 := Lib.hid V1
    have hsz1 := lt_size V1.c0
    clear b1 V0 V1
    go_wp2_with fail
    refine (each_tn A cap D f v1 w1 p6 (HD.out.below B1) (fun d W hd hB => HF.out d W HV.out hd (below_next B1 hB))).mono ?_
    rintro e w2 ⟨g, cap2, rfl, hg, hd2, hc1, hc2, b2⟩
    have B2 := below_next B1 b2
    replace e0 := cell_then b2 e0
    replace e1 := cell_then b2 e1
    obtain ⟨e2, f2⟩ := var_then b2 ⟨e2, f2⟩
    have V0 := HV0.out.then_ b2
    have HV2 := Lib.hid (HV1.out.then_ b2)
    have HV3 := Lib.hid V0
    clear V0
    rw [List.length_map]
    go_wp2_with fail
    have B3 : Below w.heap.size w (w2.setCell ⟨w.heap.size, 2, none⟩ (.slice (some ⟨g, 0, none⟩) D.length cap2)) := B2.setCell (by dsimp only; omega) _
    have D3 : Dots (w2.setCell ⟨w.heap.size, 2, none⟩ (.slice (some ⟨g, 0, none⟩) D.length cap2)) (some ⟨g, 0, none⟩) (D.map f) := fun i hi => by
      obtain ⟨b, o, hA, c0, c1, c2, c3⟩ := hd2 i hi
      have ne : g = b := by injection hA with hA; injection hA
      exact ⟨b, o, hA, cell_set _ c0 (by dsimp only; omega), cell_set _ c1 (by dsimp only; omega), cell_set _ c2 (by dsimp only; omega), cell_set _ c3 (by dsimp only; omega)⟩
    have hvE := valid_any P N (some ⟨g, 0, none⟩) cap2 (D.map f) _ D3 (by rw [List.length_map]; omega)
    rw [List.length_map] at hvE
    refine hvE.mono ?_
    clear hvE
    rintro e w3 ⟨rfl, b3⟩
    have B5 := below_next B3 b3
    have DE := Lib.hid (D3.below b3)
    have V2 := (HV2.out.set_ ⟨w.heap.size, 2, none⟩ (.slice (some ⟨g, 0, none⟩) D.length cap2)).then_ b3
    obtain ⟨m0, m1, m2⟩ := And.intro V2.c0 (And.intro V2.c1 V2.c2)
    obtain ⟨z0, z1, z2⟩ := And.intro V2.f0 (And.intro V2.f1 V2.f2)
    clear V2
    rw [hE]
    go_wp2_with fail
    exact bodyPost_ret (v := .tuple #[.agg #[.int .i64 0, .int .i64 0, .slice none 0 0], .int .i64 50]) (by simp [results, Try.results56, go_sem, m0, m1, m2]) rfl ⟨rfl, ((B5.setCell (by dsimp only; omega) _).setCell (by dsimp only; omega) _).setCell (by dsimp only; omega) _⟩
set_option maxRecDepth 100000 in
set_option maxHeartbeats 4000000 in
theorem changed_yes_tn (P N : Int) (A : Option Addr) (cap : Nat) (D : List Dot) (f : Dot → Dot) (v1 : Value) (w : World) (hD : Dots w A D) (hv : validB P N D = true) (hE : validB P N (D.map f) = true)
    (hF : ∀ d W, validB P N D = true → d ∈ D → Below w.heap.size w W → Calls Try.prog 58 #[dv d, v1] W fun e w' => e = .returned (dv (f d)) ∧ Below W.heap.size W w') :
    Calls Try.prog 56 #[.agg #[.int .i64 P, .int .i64 N, .slice A D.length cap], .func (.func 58) #[] #[v1]] w (YesP P N (D.map f) w) := by
  have HF := Lib.hid hF
  have HD := Lib.hid hD
  clear hF hD
  have B0 : Below w.heap.size w ((w.alloc (.cells #[.int .i64 P, .int .i64 N, .slice A D.length cap] 27)).alloc (.cells #[.int .i64 0, .int .i64 0, .slice none 0 0] 27)) := below_alloc (below_alloc (Below.refl _ _) _) _
  obtain ⟨⟨p5, p6⟩, p0⟩ := valid_len hv
  have HV := Lib.hid hv
  have HE := Lib.hid hE
  clear hv hE
  go_enter Try.func56, Try.ntmps56
  go_wp2_with fail
  refine (valid_any P N A cap D _ (HD.out.below B0) (by omega)).mono ?_
  rintro e w1 ⟨rfl, b1⟩
  rw [HV.out]
  have B1 := below_next B0 b1
  have e0 : w1.cell? ⟨w.heap.size, 0, none⟩ = some (.int .i64 P) := cell_then b1 (by simp [go_sem])
  have e1 : w1.cell? ⟨w.heap.size, 1, none⟩ = some (.int .i64 N) := cell_then b1 (by simp [go_sem])
  obtain ⟨e2, f2⟩ := var_then b1 (a := ⟨w.heap.size, 2, none⟩) (v := .slice A D.length cap) (by simp [go_sem])
  have V0 : Var3 w1 w.heap.size := Var3.of (var_then b1 (v := .int .i64 P) (by simp [go_sem])) (var_then b1 (v := .int .i64 N) (by simp [go_sem])) (var_then b1 (v := .slice A D.length cap) (by simp [go_sem]))
  have V1 : Var3 w1 (w.heap.size + 1) := Var3.of (var_then b1 (v := .int .i64 0) (by simp [go_sem])) (var_then b1 (v := .int .i64 0) (by simp [go_sem])) (var_then b1 (v := .slice none 0 0) (by simp [go_sem]))
  have HV0 := Lib.hid V0
  have HV1 := Lib.hid V1
  have hsz1 := lt_size V1.c0
  clear b1 V0 V1
  go_wp2_with fail
  refine (each_tn A cap D f v1 w1 p6 (HD.out.below B1) (fun d W hd hB => HF.out d W HV.out hd (below_next B1 hB))).mono ?_
  rintro e w2 ⟨g, cap2, rfl, hg, hd2, hc1, hc2, b2⟩
  have B2 := below_next B1 b2
  replace e0 := cell_then b2 e0
  replace e1 := cell_then b2 e1
  obtain ⟨e2, f2⟩ := var_then b2 ⟨e2, f2⟩
  have V0 := HV0.out.then_ b2
  have HV2 := Lib.hid (HV1.out.then_ b2)
  have HV3 := Lib.hid V0
  clear V0
  rw [List.length_map]
  go_wp2_with fail
  have B3 : Below w.heap.size w (w2.setCell ⟨w.heap.size, 2, none⟩ (.slice (some ⟨g, 0, none⟩) D.length cap2)) := B2.setCell (by dsimp only; omega) _
  have D3 : Dots (w2.setCell ⟨w.heap.size, 2, none⟩ (.slice (some ⟨g, 0, none⟩) D.length cap2)) (some ⟨g, 0, none⟩) (D.map f) := fun i hi => by
    obtain ⟨b, o, hA, c0, c1, c2, c3⟩ := hd2 i hi
    have ne : g = b := by injection hA with hA; injection hA
    exact ⟨b, o, hA, cell_set _ c0 (by dsimp only; omega), cell_set _ c1 (by dsimp only; omega), cell_set _ c2 (by dsimp only; omega), cell_set _ c3 (by dsimp only; omega)⟩
  have hvE := valid_any P N (some ⟨g, 0, none⟩) cap2 (D.map f) _ D3 (by rw [List.length_map]; omega)
  rw [List.length_map] at hvE
  refine hvE.mono ?_
  clear hvE
  rintro e w3 ⟨rfl, b3⟩
  have B5 := below_next B3 b3
  have DE := Lib.hid (D3.below b3)
  have V2 := (HV2.out.set_ ⟨w.heap.size, 2, none⟩ (.slice (some ⟨g, 0, none⟩) D.length cap2)).then_ b3
  obtain ⟨m0, m1, m2⟩ := And.intro V2.c0 (And.intro V2.c1 V2.c2)
  obtain ⟨z0, z1, z2⟩ := And.intro V2.f0 (And.intro V2.f1 V2.f2)
  clear V2
  rw [HE.out]
  have g0 := cell_then b3 (a := ⟨w.heap.size, 0, none⟩) (v := .int .i64 P) (cell_off _ e0 (by omega))
  have g1 := cell_then b3 (a := ⟨w.heap.size, 1, none⟩) (v := .int .i64 N) (cell_off _ e1 (by omega))
  have g2 := cell_then b3 (a := ⟨w.heap.size, 2, none⟩) (v := .slice (some ⟨g, 0, none⟩) D.length cap2) (HV3.out.s2 _)
  clear e0 e1 e2
  go_wp2_with fail
  refine bodyPost_ret (v := .tuple #[.agg #[.int .i64 P, .int .i64 N, .slice (some ⟨g, 0, none⟩) D.length cap2], .int .i64 0]) (by simp [results, Try.results56, go_sem, m0, m1, m2]) rfl ?_
  have B6 := ((B5.setCell (p := ⟨w.heap.size + 1, 0, none⟩) (by dsimp only; omega) (.int .i64 P)).setCell (p := ⟨w.heap.size + 1, 1, none⟩) (by dsimp only; omega) (.int .i64 N)).setCell (p := ⟨w.heap.size + 1, 2, none⟩) (by dsimp only; omega) (.slice (some ⟨g, 0, none⟩) D.length cap2)
  refine ⟨g, cap2, by rw [List.length_map], by omega, fun i hi => ?_, hc1, hc2, B6⟩
  obtain ⟨b, o, hA, c0, c1, c2, c3⟩ := DE.out i hi
  have ne : g = b := by injection hA with hA; injection hA
  exact ⟨b, o, hA, cell_set _ (cell_set _ (cell_set _ c0 (by dsimp only; omega)) (by dsimp only; omega)) (by dsimp only; omega), cell_set _ (cell_set _ (cell_set _ c1 (by dsimp only; omega)) (by dsimp only; omega)) (by dsimp only; omega), cell_set _ (cell_set _ (cell_set _ c2 (by dsimp only; omega)) (by dsimp only; omega)) (by dsimp only; omega), cell_set _ (cell_set _ (cell_set _ c3 (by dsimp only; omega)) (by dsimp only; omega)) (by dsimp only; omega)⟩
end Go.Proofs.Ytgmabepdhbnppaa
