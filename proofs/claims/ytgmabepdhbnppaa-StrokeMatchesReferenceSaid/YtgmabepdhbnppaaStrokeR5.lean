/- The strokes' reference: Moved and Turned of any stroke. -/
import Derived.Test.YtgmabepdhbnppaaStrokeR1
import Derived.Test.YtgmabepdhbnppaaStrokeChanged
import Derived.Test.YtgmabepdhbnppaaApp1
namespace Go.Proofs.Ytgmabepdhbnppaa
open Go.RowKit Str
attribute [local go_sem] Oper.semAt_some
attribute [local go_sem ↓] Var3.c0 Var3.c1 Var3.c2 Var3.f0 Var3.f1 Var3.f2
/-- all moved dots are on the board -/
def moveOk (u v : Int) (D : List Dot) : Bool := D.all fun d => placeB (d.x + u) (d.y + v)
theorem moveOk_snoc (u v : Int) (D : List Dot) (d : Dot) : moveOk u v (D ++ [d]) = (moveOk u v D && placeB (d.x + u) (d.y + v)) := by simp [moveOk]
theorem moveOk_take {u v : Int} {D : List Dot} {k : Nat} (h : moveOk u v (D.take k) = false) : moveOk u v D = false := by
  cases hb : moveOk u v D with
  | false => rfl
  | true =>
    have : moveOk u v (D.take k) = true := by
      rw [moveOk, List.all_eq_true] at hb ⊢
      exact fun d hd => hb d (List.mem_of_mem_take hd)
    rw [h] at this; cases this
theorem dotsB_moveOk (u v : Int) : ∀ (D : List Dot) (l : Int), dotsB l D = true → dotsB l (moveD u v D) = moveOk u v D
  | [], _, _ => rfl
  | d :: r, l, h => by
    simp only [dotsB, Bool.and_eq_true] at h
    have h1 := dotB_iff.1 h.1
    have ih := dotsB_moveOk u v r d.t h.2
    show (dotB l ⟨d.x + u, d.y + v, d.t, d.p⟩ && dotsB d.t (moveD u v r)) = (placeB (d.x + u) (d.y + v) && moveOk u v r)
    rw [ih]
    congr 1
    simp only [dotB]
    rw [isInB_iff.2 h1.2.1, isInB_iff.2 h1.2.2, Bool.and_true, Bool.and_true]
theorem validB_moveOk {u v P N : Int} {D : List Dot} (h : validB P N D = true) : validB P N (moveD u v D) = moveOk u v D := by
  rw [validB, Bool.and_eq_true] at h
  rw [validB, dotsB_moveOk u v D 0 h.2, moveD, List.length_map, h.1, Bool.true_and]
/-- what is returned: a stroke out of the memory of the call -/
theorem out_end {P N : Int} {w wr : World} {B gb g cp : Nat} {t : TypeId} {E : List Dot} {n : Nat} (hown : wr.ownsRow B t 4 (.slice (some ⟨g, 0, none⟩) n cp) n (dcells E)) (hn : E.length = n) (hgb : gb < B) (hwb : w.heap.size ≤ gb) (hB : Below w.heap.size w wr) :
    YesP P N E w (.returned (.tuple #[.agg #[.int .i64 P, .int .i64 N, .slice (some ⟨g, 0, none⟩) n cp], .int .i64 0])) (((wr.setCell ⟨gb, 0, none⟩ (.int .i64 P)).setCell ⟨gb, 1, none⟩ (.int .i64 N)).setCell ⟨gb, 2, none⟩ (.slice (some ⟨g, 0, none⟩) n cp)) := by
  have hg := (hown.lt g rfl).1
  have hcc := own_cap hown
  have hdd := dots_of_own hown
  refine ⟨g, cp, by rw [hn], by omega, fun i hi => ?_, by rw [hn]; exact hcc.1, hcc.2, ((hB.setCell (p := ⟨gb, 0, none⟩) (by dsimp only; omega) _).setCell (p := ⟨gb, 1, none⟩) (by dsimp only; omega) _).setCell (p := ⟨gb, 2, none⟩) (by dsimp only; omega) _⟩
  obtain ⟨b, o, hA, c0, c1, c2, c3⟩ := hdd i hi
  have ne : g = b := by injection hA with hA; injection hA
  exact ⟨b, o, hA, cell_set _ (cell_set _ (cell_set _ c0 (by dsimp only; omega)) (by dsimp only; omega)) (by dsimp only; omega), cell_set _ (cell_set _ (cell_set _ c1 (by dsimp only; omega)) (by dsimp only; omega)) (by dsimp only; omega), cell_set _ (cell_set _ (cell_set _ c2 (by dsimp only; omega)) (by dsimp only; omega)) (by dsimp only; omega), cell_set _ (cell_set _ (cell_set _ c3 (by dsimp only; omega)) (by dsimp only; omega)) (by dsimp only; omega)⟩
theorem var3_under {w wx : World} {g B : Nat} (h : Var3 w g) (hb : Below B w wx) (hg : g < B) : Var3 wx g := by
  unfold Var3 at h ⊢
  intro i hi
  obtain ⟨⟨v, h1⟩, h2⟩ := h i hi
  exact ⟨⟨v, (hb.cell (p := ⟨g, i, none⟩) hg).trans h1⟩, (hb.frozen (p := ⟨g, i, none⟩) hg).trans h2⟩
theorem set_same6 {W : World} {g j : Nat} {x v : Value} (h : W.cell? ⟨g, j, none⟩ = some x) : (W.setCell ⟨g, j, none⟩ v).cell? ⟨g, j, none⟩ = some v := World.cell?_setCell_same _ _ _ h
set_option maxRecDepth 100000 in
set_option maxHeartbeats 4000000 in
theorem movedR_bad (P N : Int) (A : Option Addr) (cap : Nat) (D : List Dot) (u v : Int) (w : World) (hD : Dots w A D) (hcp : D.length ≤ cap) (hcm : (cap : Int) ≤ 9223372036854775807) (h1 : validB P N D = false) :
    Calls Try.prog 34 #[.agg #[.int .i64 P, .int .i64 N, .slice A D.length cap], .int .i64 u, .int .i64 v] w (NoP w) := by
  have B0 : Below w.heap.size w ((w.alloc (.cells #[.int .i64 P, .int .i64 N, .slice A D.length cap] 27)).alloc (.cells #[.int .i64 0, .int .i64 0, .slice none 0 0] 27)) := below_alloc (below_alloc (Below.refl _ _) _) _
  have hc := validR_any P N A cap D _ (hD.below B0) hcp hcm
  rw [h1] at hc
  have HC := Lib.hid hc
  have HB0 := Lib.hid B0
  clear hc B0 h1
  clear hD
  go_enter Try.func34, Try.ntmps34
  go_wp2_with fail
  refine HC.out.mono ?_
  rintro e w1 ⟨rfl, b1⟩
  have V1 : Var3 w1 (w.heap.size + 1) := Var3.of (var_then b1 (v := .int .i64 0) (by simp [go_sem])) (var_then b1 (v := .int .i64 0) (by simp [go_sem])) (var_then b1 (v := .slice none 0 0) (by simp [go_sem]))
  go_wp2_with fail
  exact bodyPost_ret (v := .tuple #[.agg #[.int .i64 0, .int .i64 0, .slice none 0 0], .int .i64 50]) (by simp [results, Try.results34, go_sem, V1.c0, V1.c1, V1.c2]) rfl ⟨rfl, (((below_next HB0.out b1).setCell (by simp) _).setCell (by simp) _).setCell (by simp) _⟩
set_option maxRecDepth 100000 in
set_option maxHeartbeats 4000000 in
theorem movedR_far (P N : Int) (A : Option Addr) (cap : Nat) (D : List Dot) (u v : Int) (w : World) (hD : Dots w A D) (hcp : D.length ≤ cap) (hcm : (cap : Int) ≤ 9223372036854775807) (h1 : validB P N D = true) (hf : ¬ ((-4095 ≤ u ∧ u ≤ 4095) ∧ -4095 ≤ v ∧ v ≤ 4095)) :
    Calls Try.prog 34 #[.agg #[.int .i64 P, .int .i64 N, .slice A D.length cap], .int .i64 u, .int .i64 v] w (NoP w) := by
  have B0 : Below w.heap.size w ((w.alloc (.cells #[.int .i64 P, .int .i64 N, .slice A D.length cap] 27)).alloc (.cells #[.int .i64 0, .int .i64 0, .slice none 0 0] 27)) := below_alloc (below_alloc (Below.refl _ _) _) _
  have hc := validR_any P N A cap D _ (hD.below B0) hcp hcm
  rw [h1] at hc
  have HC := Lib.hid hc
  have HB0 := Lib.hid B0
  clear hc B0 h1
  clear hD
  by_cases a1 : u < -4095
  · go_enter Try.func34, Try.ntmps34
    go_wp2_with fail
    refine HC.out.mono ?_
    rintro e w1 ⟨rfl, b1⟩
    have V1 : Var3 w1 (w.heap.size + 1) := Var3.of (var_then b1 (v := .int .i64 0) (by simp [go_sem])) (var_then b1 (v := .int .i64 0) (by simp [go_sem])) (var_then b1 (v := .slice none 0 0) (by simp [go_sem]))
    go_wp2_with fail
    exact bodyPost_ret (v := .tuple #[.agg #[.int .i64 0, .int .i64 0, .slice none 0 0], .int .i64 50]) (by simp [results, Try.results34, go_sem, V1.c0, V1.c1, V1.c2]) rfl ⟨rfl, (((below_next HB0.out b1).setCell (by simp) _).setCell (by simp) _).setCell (by simp) _⟩
  by_cases a2 : 4095 < u
  · go_enter Try.func34, Try.ntmps34
    go_wp2_with fail
    refine HC.out.mono ?_
    rintro e w1 ⟨rfl, b1⟩
    have V1 : Var3 w1 (w.heap.size + 1) := Var3.of (var_then b1 (v := .int .i64 0) (by simp [go_sem])) (var_then b1 (v := .int .i64 0) (by simp [go_sem])) (var_then b1 (v := .slice none 0 0) (by simp [go_sem]))
    go_wp2_with fail
    exact bodyPost_ret (v := .tuple #[.agg #[.int .i64 0, .int .i64 0, .slice none 0 0], .int .i64 50]) (by simp [results, Try.results34, go_sem, V1.c0, V1.c1, V1.c2]) rfl ⟨rfl, (((below_next HB0.out b1).setCell (by simp) _).setCell (by simp) _).setCell (by simp) _⟩
  by_cases a3 : v < -4095
  · go_enter Try.func34, Try.ntmps34
    go_wp2_with fail
    refine HC.out.mono ?_
    rintro e w1 ⟨rfl, b1⟩
    have V1 : Var3 w1 (w.heap.size + 1) := Var3.of (var_then b1 (v := .int .i64 0) (by simp [go_sem])) (var_then b1 (v := .int .i64 0) (by simp [go_sem])) (var_then b1 (v := .slice none 0 0) (by simp [go_sem]))
    go_wp2_with fail
    exact bodyPost_ret (v := .tuple #[.agg #[.int .i64 0, .int .i64 0, .slice none 0 0], .int .i64 50]) (by simp [results, Try.results34, go_sem, V1.c0, V1.c1, V1.c2]) rfl ⟨rfl, (((below_next HB0.out b1).setCell (by simp) _).setCell (by simp) _).setCell (by simp) _⟩
  have a4 : 4095 < v := by omega
  go_enter Try.func34, Try.ntmps34
  go_wp2_with fail
  refine HC.out.mono ?_
  rintro e w1 ⟨rfl, b1⟩
  have V1 : Var3 w1 (w.heap.size + 1) := Var3.of (var_then b1 (v := .int .i64 0) (by simp [go_sem])) (var_then b1 (v := .int .i64 0) (by simp [go_sem])) (var_then b1 (v := .slice none 0 0) (by simp [go_sem]))
  go_wp2_with fail
  exact bodyPost_ret (v := .tuple #[.agg #[.int .i64 0, .int .i64 0, .slice none 0 0], .int .i64 50]) (by simp [results, Try.results34, go_sem, V1.c0, V1.c1, V1.c2]) rfl ⟨rfl, (((below_next HB0.out b1).setCell (by simp) _).setCell (by simp) _).setCell (by simp) _⟩
set_option maxRecDepth 100000 in
set_option maxHeartbeats 4000000 in
theorem movedR_loop (P N : Int) (A : Option Addr) (cap : Nat) (D : List Dot) (u v : Int) (w : World) (hD : Dots w A D) (hcp : D.length ≤ cap) (hcm : (cap : Int) ≤ 9223372036854775807) (h1 : validB P N D = true) (hu : -4095 ≤ u ∧ u ≤ 4095) (hv : -4095 ≤ v ∧ v ≤ 4095) :
    Calls Try.prog 34 #[.agg #[.int .i64 P, .int .i64 N, .slice A D.length cap], .int .i64 u, .int .i64 v] w fun e w' => (moveOk u v D = true → YesP P N (moveD u v D) w e w') ∧ (moveOk u v D = false → NoP w e w') := by
  obtain ⟨⟨p5, p6⟩, p0⟩ := valid_len h1
  have hpl := placed (validB_dots h1)
  have HPL := Lib.hid hpl
  have hcp' : (D.length : Int) ≤ (cap : Int) := by omega
  obtain ⟨i0, hi0, hz0, hz1, hz2⟩ := info_parts dot_info
  have HI := Lib.hid (And.intro hi0 (And.intro hz0 (And.intro hz1 hz2)))
  have B0 : Below w.heap.size w ((w.alloc (.cells #[.int .i64 P, .int .i64 N, .slice A D.length cap] 27)).alloc (.cells #[.int .i64 0, .int .i64 0, .slice none 0 0] 27)) := below_alloc (below_alloc (Below.refl _ _) _) _
  have hc := validR_any P N A cap D _ (hD.below B0) hcp hcm
  rw [h1] at hc
  have HC := Lib.hid hc
  have HB0 := Lib.hid B0
  clear hc B0 h1
  have HD := Lib.hid hD
  clear hD hi0 hz0 hz1 hz2 hpl
  go_enter Try.func34, Try.ntmps34
  go_wp2_with fail
  refine HC.out.mono ?_
  rintro e w1 ⟨rfl, b1⟩
  have e0 : w1.cell? ⟨w.heap.size, 0, none⟩ = some (.int .i64 P) := cell_then b1 (by simp [go_sem])
  have e1 : w1.cell? ⟨w.heap.size, 1, none⟩ = some (.int .i64 N) := cell_then b1 (by simp [go_sem])
  have e2 : w1.cell? ⟨w.heap.size, 2, none⟩ = some (.slice A D.length cap) := cell_then b1 (by simp [go_sem])
  have V1 : Var3 w1 (w.heap.size + 1) := Var3.of (var_then b1 (v := .int .i64 0) (by simp [go_sem])) (var_then b1 (v := .int .i64 0) (by simp [go_sem])) (var_then b1 (v := .slice none 0 0) (by simp [go_sem]))
  have hsz := lt_size V1.c0
  obtain ⟨W0, hW0⟩ : ∃ W0, w1.alloc (.cells #[.int .i64 P, .int .i64 N, .slice none 0 0] 27) = W0 := ⟨_, rfl⟩
  have BN : Below w1.heap.size w1 W0 := by rw [← hW0]; exact below_alloc (Below.refl _ _) _
  have VO : Var3 W0 w1.heap.size := by rw [← hW0]; exact Var3.new _ _ _ _ _
  have o0 : W0.cell? ⟨w1.heap.size, 0, none⟩ = some (.int .i64 P) := by rw [← hW0]; exact new_cell rfl
  have o1 : W0.cell? ⟨w1.heap.size, 1, none⟩ = some (.int .i64 N) := by rw [← hW0]; exact new_cell rfl
  have o2 : W0.cell? ⟨w1.heap.size, 2, none⟩ = some (.slice none 0 0) := by rw [← hW0]; exact new_cell rfl
  have e3 := cell_then BN e2
  have HB1 := Lib.hid (below_next HB0.out (below_next b1 BN))
  have HV1 := Lib.hid (V1.then_ BN)
  have HVO := Lib.hid VO
  have HW0 := Lib.hid hW0
  obtain ⟨gr, hgr⟩ : ∃ g, w1.heap.size = g := ⟨_, rfl⟩
  rw [hgr] at o0 o1 o2 HVO hsz
  have HGR := Lib.hid hgr
  clear hW0 VO V1 BN b1 HB0 HC hgr e2
  go_wp2_with fail
  rw [HW0.out, HGR.out]
  clear HW0 HGR e0 e1
  go_loopw [9, 10] (fun i _ wr => ∃ (k : Nat) (x : Value), k ≤ D.length ∧ i = .int .i64 (k : Int) ∧ moveOk u v (D.take k) = true ∧ wr.ownsRow (gr + 1) 24 4 x k (dcells (moveD u v (D.take k))) ∧ wr.cell? ⟨gr, 0, none⟩ = some (.int .i64 P) ∧ wr.cell? ⟨gr, 1, none⟩ = some (.int .i64 N) ∧ wr.cell? ⟨gr, 2, none⟩ = some x ∧ Var3 wr gr ∧ Var3 wr (w.heap.size + 1) ∧ wr.cell? ⟨w.heap.size, 2, none⟩ = some (.slice A D.length cap) ∧ Below w.heap.size w wr) (fun i _ _ => D.length - (intOf i).toNat)
  case atStart => exact ⟨0, .slice none 0 0, by omega, rfl, rfl, World.ownsRow_nil _ _ _ _, o0, o1, o2, HVO.out, HV1.out, e3, HB1.out⟩
  case round =>
    clear o0 o1 o2 HVO HV1 e3 HB1
    obtain ⟨k, x, hk, rfl, hok, hown, o0, o1, o2, VO, VR, e2, hB⟩ := hrel
    have HOK := Lib.hid hok
    have HOW := Lib.hid hown
    have HVO := Lib.hid VO
    have HVR := Lib.hid VR
    have HB := Lib.hid hB
    have lo := lt_size o2
    have lr := lt_size VR.c0
    have le := lt_size e2
    clear hok hown VO VR
    by_cases hlt : k < D.length
    · obtain ⟨b, o, rfl, c0, c1, c2, c3⟩ := (HD.out.below hB) k hlt
      have hbl := lt_size c0
      have hpd := placeB_iff.1 (HPL.out _ (dotAt_mem hlt))
      have hsn := moveOk_snoc u v (D.take k) (dotAt D k)
      have hmd : moveD u v (D.take (k + 1)) = moveD u v (D.take k) ++ [⟨(dotAt D k).x + u, (dotAt D k).y + v, (dotAt D k).t, (dotAt D k).p⟩] := by rw [take_dot hlt, moveD, moveD, List.map_append]; rfl
      rw [← take_dot hlt, HOK.out, Bool.true_and] at hsn
      obtain ⟨d, hd⟩ : ∃ d, dotAt D k = d := ⟨_, rfl⟩
      rw [hd] at hsn hmd hpd c0 c1 c2 c3
      obtain ⟨dx, dy, dt, dp⟩ := d
      dsimp only at hsn hmd hpd c0 c1 c2 c3
      have y1 : IntKind.i64.wrap (dx + u) = dx + u := IntWalk.i64_in _ (by omega)
      have y2 : IntKind.i64.wrap (dy + v) = dy + v := IntWalk.i64_in _ (by omega)
      have HAT := Lib.hid (fun W => atR_any ⟨dx + u, dy + v, dt, dp⟩ W)
      have HPR := Lib.hid (fun W => placeR_any (dx + u) (dy + v) W)
      unfold pv at HAT HPR
      obtain ⟨q, hq⟩ : ∃ q, placeB (dx + u) (dy + v) = q := ⟨_, rfl⟩
      rw [hq] at HPR hsn
      have HSN := Lib.hid hsn
      have HMD := Lib.hid hmd
      have hkk : (k : Int) < (D.length : Int) := by omega
      have hk0 : (0 : Int) ≤ (k : Int) := by omega
      clear hsn hmd hd hq hB hpd
      go_wp2_with fail
      clear c0 c1 c2 c3
      obtain ⟨X, hX⟩ : ∃ X, dx + u = X := ⟨_, rfl⟩
      obtain ⟨Y, hY⟩ : ∃ Y, dy + v = Y := ⟨_, rfl⟩
      rw [hX, hY] at HAT HPR HMD ⊢
      clear hX hY y1 y2
      obtain ⟨V, hV⟩ : ∃ V, wr.alloc (.cells #[.int .i64 X, .int .i64 Y, .int .i64 dt, .int .i64 dp] 24) = V := ⟨_, rfl⟩
      have bV : Below wr.heap.size wr V := by rw [← hV]; exact below_alloc (Below.refl _ _) _
      have d0 : V.cell? ⟨wr.heap.size, 0, none⟩ = some (.int .i64 X) := by rw [← hV]; exact new_cell rfl
      have d1 : V.cell? ⟨wr.heap.size, 1, none⟩ = some (.int .i64 Y) := by rw [← hV]; exact new_cell rfl
      have d2 : V.cell? ⟨wr.heap.size, 2, none⟩ = some (.int .i64 dt) := by rw [← hV]; exact new_cell rfl
      have d3 : V.cell? ⟨wr.heap.size, 3, none⟩ = some (.int .i64 dp) := by rw [← hV]; exact new_cell rfl
      rw [hV]
      clear hV
      refine (HAT.out _).mono ?_
      rintro e w3 ⟨rfl, b3⟩
      have B3 := Lib.hid (below_next bV b3)
      replace d0 := cell_then b3 d0
      replace d1 := cell_then b3 d1
      replace d2 := cell_then b3 d2
      replace d3 := cell_then b3 d3
      clear b3 bV HAT
      go_wp2_with fail
      refine (HPR.out _).mono ?_
      rintro e w4 ⟨rfl, b4⟩
      have B4 := Lib.hid (below_next B3.out b4)
      replace d0 := cell_then b4 d0
      replace d1 := cell_then b4 d1
      replace d2 := cell_then b4 d2
      replace d3 := cell_then b4 d3
      clear b4 B3 HPR
      have HB4 := Lib.hid (below_next HB.out B4.out)
      have HVR4 := Lib.hid (HVR.out.then_ B4.out)
      have HVO4 := Lib.hid (HVO.out.then_ B4.out)
      have HOW4 := Lib.hid (own_then HOW.out B4.out)
      replace o0 := cell_then B4.out o0
      replace o1 := cell_then B4.out o1
      replace o2 := cell_then B4.out o2
      replace e2 := cell_then B4.out e2
      have hs4 := B4.out.size
      have lo4 := lt_size o2
      have ld4 := lt_size d0
      have lr4 := lt_size HVR4.out.c0
      cases q with
      | false =>
        have HN := Lib.hid (moveOk_take HSN.out)
        obtain ⟨m0, m1, m2⟩ := And.intro HVR4.out.c0 (And.intro HVR4.out.c1 HVR4.out.c2)
        obtain ⟨z0, z1, z2⟩ := And.intro HVR4.out.f0 (And.intro HVR4.out.f1 HVR4.out.f2)
        clear o0 o1 o2 e2 d0 d1 d2 d3
        go_wp2_with fail
        exact bodyPost_ret (v := .tuple #[.agg #[.int .i64 0, .int .i64 0, .slice none 0 0], .int .i64 50]) (by simp [results, Try.results34, go_sem, m0, m1, m2]) rfl ⟨fun h => (by rw [HN.out] at h; cases h), fun _ => ⟨rfl, ((HB4.out.setCell (by dsimp only; omega) _).setCell (by dsimp only; omega) _).setCell (by dsimp only; omega) _⟩⟩
      | true =>
        have hb4 : gr + 1 ≤ w4.heap.size := by omega
        have z2 := HVO4.out.f2
        go_wp2_with (at_builtin; refine wpList_append1 rfl _ _ 25 rfl (gr + 1) 24 i0 _ 4 32 Try.underlying25 HI.out.1 HI.out.2.1 HI.out.2.2.1 HI.out.2.2.2 rfl (by omega) (by omega) x k _ rfl HOW4.out #[.int .i64 X, .int .i64 Y, .int .i64 dt, .int .i64 dp] rfl rfl (by simp [Value.oneCell']) (by omega) hb4 ?_; intro g' c' w' own' k' n'; have KB := k'.below hb4 (fun q hq => (HOW4.out.lt q (own_mem hq)).1); have y2 : w'.cell? ⟨gr, 2, none⟩ = some x := (KB.cell (p := ⟨gr, 2, none⟩) (by dsimp only; omega)).trans o2; have HV2 := Lib.hid (var3_under HVO4.out KB (by omega)); have g2 := HV2.out.f2; have OW := Lib.hid own'; have HKB := Lib.hid KB; have hgn := Lib.hid (own'.lt g' rfl).1; clear own' k' n' KB)
        have KB := HKB.out
        have hkt := HSN.out
        refine ⟨⟨k + 1, _, by omega, by go_num, hkt, ?_, cell_off _ ((KB.cell (p := ⟨gr, 0, none⟩) (by dsimp only; omega)).trans o0) (by omega), cell_off _ ((KB.cell (p := ⟨gr, 1, none⟩) (by dsimp only; omega)).trans o1) (by omega), set_same6 y2, HV2.out.set_ _ _, (var3_under HVR4.out KB (by omega)).set_ _ _, cell_set _ ((KB.cell (p := ⟨w.heap.size, 2, none⟩) (by dsimp only; omega)).trans e2) (by dsimp only; omega), (HB4.out.trans (KB.mono (by omega))).setCell (by dsimp only; omega) _⟩, by simp [intOf]; omega⟩
        rw [HMD.out, dcells_append]
        exact own_set OW.out (fun h => by have h2 : g' = gr := Option.some.inj h; have := hgn.out; omega) _
    · obtain rfl : k = D.length := by omega
      have hok := HOK.out
      have hown := HOW.out
      rw [List.take_length] at hok hown
      obtain ⟨g7, c7, rfl, hgw7, -⟩ := hown.form (by omega)
      have HOK2 := Lib.hid hok
      have HOW2 := Lib.hid hown
      obtain ⟨m0, m1, m2⟩ := And.intro HVR.out.c0 (And.intro HVR.out.c1 HVR.out.c2)
      obtain ⟨z0, z1, z2⟩ := And.intro HVR.out.f0 (And.intro HVR.out.f1 HVR.out.f2)
      have hkk : ¬ (D.length : Int) < (D.length : Int) := by omega
      clear hok hown hB HOW HOK hlt
      go_wp2_with fail
      exact bodyPost_ret (v := .tuple #[.agg #[.int .i64 P, .int .i64 N, .slice (some ⟨g7, 0, none⟩) D.length c7], .int .i64 0]) (by simp [results, Try.results34, go_sem, m0, m1, m2]) rfl ⟨fun _ => out_end HOW2.out (by rw [moveD, List.length_map]) (by omega) (by omega) HB.out, fun h => (by rw [HOK2.out] at h; cases h)⟩
end Go.Proofs.Ytgmabepdhbnppaa
