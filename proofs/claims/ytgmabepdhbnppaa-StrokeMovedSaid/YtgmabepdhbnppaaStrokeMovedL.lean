/- The walk of the law StrokeMoved. -/
import Derived.Test.YtgmabepdhbnppaaStrokeSane
import Derived.Test.YtgmabepdhbnppaaStrokeLaws
import Derived.Test.YtgmabepdhbnppaaStrokeMade
import Derived.Test.YtgmabepdhbnppaaStrokeRSame
namespace Go.Proofs.Ytgmabepdhbnppaa
open Go.RowKit Str
theorem same_self (P N : Int) (D : List Dot) : sameB P N D P N D = true := by simp [sameB]
set_option maxRecDepth 100000 in
set_option maxHeartbeats 8000000 in
theorem moved_fits_walk (fx fy lx ly wy : Int) (l : List Int) (a b m tol n0 n1 P N z u v X Y V H : Int) (A : Option Addr) (cap : Nat) (es : List E3) (D E : List Dot) (w : World) (ia : I64 a) (ib : I64 b) (it : I64 tol) (i0 : I64 n0) (i1 : I64 n1) (hm : wrap64 (a * 37) = m)
    (hE : Ents w A es) (hI : ∀ e ∈ es, I64 e.a ∧ I64 e.b ∧ I64 e.c) (hn : (es.length : Int) ≤ 9223372036854775807)
    (hD : madeD a b m es = D) (hP : pickI a 40 = P) (hN : 1 + pickI b 999 = N) (hz : pickI tol 400 = z) (hu : pickI n0 3000 - 1500 = u) (hv : pickI n1 3000 - 1500 = v)
    (hval : validB P N D = true) (hbox : boxF D = (X, Y, V, H)) (bx : 0 ≤ X ∧ 0 ≤ V ∧ X + V ≤ 4095) (b_y : 0 ≤ Y ∧ 0 ≤ H ∧ Y + H ≤ 4095) (hME : moveD u v D = E)
    (hvE : validB P N E = true) (f1 : 0 ≤ X + u) (f2 : X + V + u ≤ 4095) (f3 : 0 ≤ Y + v) (f4 : Y + H + v ≤ 4095) (hbE : boxF E = (X + u, Y + v, V, H)) (hw : wayF D = wy) (hwE : wayF E = wy) (hT : natI (thinF D z) = l) (hTE : natI (thinF E z) = l) (hl : (l.length : Int) ≤ 4611686018427387904) (hback : moveD (-u) (-v) E = D)
    (p1 : pv (dotAt D 0).x (dotAt D 0).y = .agg #[.int .i64 fx, .int .i64 fy]) (p2 : pv (dotAt D (D.length - 1)).x (dotAt D (D.length - 1)).y = .agg #[.int .i64 lx, .int .i64 ly]) (p3 : pv (dotAt E 0).x (dotAt E 0).y = .agg #[.int .i64 (fx + u), .int .i64 (fy + v)]) (p4 : pv (dotAt E (E.length - 1)).x (dotAt E (E.length - 1)).y = .agg #[.int .i64 (lx + u), .int .i64 (ly + v)])
    (bf : (0 ≤ fx ∧ fx ≤ 4095) ∧ 0 ≤ fy ∧ fy ≤ 4095) (bl : (0 ≤ lx ∧ lx ≤ 4095) ∧ 0 ≤ ly ∧ ly ≤ 4095) :
    Calls Try.prog 7 #[.int .i64 a, .int .i64 b, .slice A es.length cap, .agg #[.int .i64 n0, .int .i64 n1], .int .i64 tol] w fun e w' => e = .returned (.bool true) ∧ Below w.heap.size w w' := by
  have HhvE := Lib.hid hvE
  clear hvE
  have HhbE := Lib.hid hbE
  clear hbE
  have Hhw := Lib.hid hw
  clear hw
  have HhwE := Lib.hid hwE
  clear hwE
  have HhT := Lib.hid hT
  clear hT
  have HhTE := Lib.hid hTE
  clear hTE
  have Hhback := Lib.hid hback
  clear hback
  have Hp1 := Lib.hid p1
  clear p1
  have Hp2 := Lib.hid p2
  clear p2
  have Hp3 := Lib.hid p3
  clear p3
  have Hp4 := Lib.hid p4
  clear p4
  have Hhm := Lib.hid hm
  clear hm
  have HhE := Lib.hid hE
  clear hE
  have HhI := Lib.hid hI
  clear hI
  have HhD := Lib.hid hD
  clear hD
  have HhP := Lib.hid hP
  clear hP
  have HhN := Lib.hid hN
  clear hN
  have Hhz := Lib.hid hz
  clear hz
  have Hhu := Lib.hid hu
  clear hu
  have Hhv := Lib.hid hv
  clear hv
  have Hhval := Lib.hid hval
  clear hval
  have Hhbox := Lib.hid hbox
  clear hbox
  have HhME := Lib.hid hME
  clear hME
  have p0 := pickI_bd n0 (n := 3000) (by omega)
  have p1 := pickI_bd n1 (n := 3000) (by omega)
  have bu : -1500 ≤ u ∧ u ≤ 1499 := by rw [← Hhu.out]; omega
  have bv : -1500 ≤ v ∧ v ≤ 1499 := by rw [← Hhv.out]; omega
  have bz : 0 ≤ z ∧ z ≤ 399 := by have := pickI_bd tol (n := 400) (by omega); rw [Hhz.out] at this; omega
  have zi : isInB z 0 1000 = true := isInB_iff.2 ⟨by omega, by omega⟩
  have hnD : (D.length : Int) ≤ 4611686018427387904 := by have := (valid_len Hhval.out).1; omega
  go_enter Try.func7, Try.ntmps7
  go_wp2_with fail
  have hB := Below.refl w.heap.size w
  have hEn := HhE.out
  clear HhE
  have hA : Below w.heap.size w (w.alloc (.cells #[.int .i64 n0, .int .i64 n1] 31)) := below_alloc (Below.refl _ _) _
  replace hB := below_next hB hA
  replace hEn := hEn.below hA
  have x0 : (w.alloc (.cells #[.int .i64 n0, .int .i64 n1] 31)).cell? ⟨w.heap.size, 0, none⟩ = some (.int .i64 n0) := new_cell rfl
  have x1 : (w.alloc (.cells #[.int .i64 n0, .int .i64 n1] 31)).cell? ⟨w.heap.size, 1, none⟩ = some (.int .i64 n1) := new_cell rfl
  obtain ⟨v_1, hv_1⟩ : ∃ vv_ : World, (w.alloc (.cells #[.int .i64 n0, .int .i64 n1] 31)) = vv_ := ⟨_, rfl⟩
  rw [hv_1] at hB hEn x0 x1 ⊢
  clear hA hv_1
  have HEn := Lib.hid hEn
  clear hEn
  refine (sane_any _).mono ?_
  rintro e w_2 ⟨rfl, bq⟩
  replace hB := below_next hB bq
  replace HEn := Lib.hid (HEn.out.below bq)
  replace x0 := cell_then bq x0
  replace x1 := cell_then bq x1
  clear bq
  have lx0 := lt_size x0
  go_wp2_with fail
  refine (made_any a b m A cap es _ ia ib Hhm.out HEn.out HhI.out hn).mono ?_
  rintro e w_3 ⟨g, cp, rfl, hgs, sD, hcp, hcp2, bq⟩
  rw [HhD.out] at sD hcp ⊢
  rw [HhP.out, HhN.out]
  clear hgs
  clear lx0
  replace hB := below_next hB bq
  replace HEn := Lib.hid (HEn.out.below bq)
  replace x0 := cell_then bq x0
  replace x1 := cell_then bq x1
  clear bq
  have lx0 := lt_size x0
  go_wp2_with fail
  clear HEn
  have hA : Below w_3.heap.size w_3 (w_3.alloc (.cells #[.int .i64 P, .int .i64 N, .slice (some ⟨g, 0, none⟩) D.length cp] 27)) := below_alloc (Below.refl _ _) _
  clear lx0
  replace hB := below_next hB hA
  replace x0 := cell_then hA x0
  replace x1 := cell_then hA x1
  replace sD := sD.below hA
  have s0 : (w_3.alloc (.cells #[.int .i64 P, .int .i64 N, .slice (some ⟨g, 0, none⟩) D.length cp] 27)).cell? ⟨w_3.heap.size, 0, none⟩ = some (.int .i64 P) := new_cell rfl
  have s1 : (w_3.alloc (.cells #[.int .i64 P, .int .i64 N, .slice (some ⟨g, 0, none⟩) D.length cp] 27)).cell? ⟨w_3.heap.size, 1, none⟩ = some (.int .i64 N) := new_cell rfl
  have s2 : (w_3.alloc (.cells #[.int .i64 P, .int .i64 N, .slice (some ⟨g, 0, none⟩) D.length cp] 27)).cell? ⟨w_3.heap.size, 2, none⟩ = some (.slice (some ⟨g, 0, none⟩) D.length cp) := new_cell rfl
  obtain ⟨v_4, hv_4⟩ : ∃ vv_ : World, (w_3.alloc (.cells #[.int .i64 P, .int .i64 N, .slice (some ⟨g, 0, none⟩) D.length cp] 27)) = vv_ := ⟨_, rfl⟩
  rw [hv_4] at hB x0 x1 sD s0 s1 s2 ⊢
  clear hA hv_4
  have lx0 := lt_size x0
  have ls0 := lt_size s0
  refine (pickL_any _ _ _ it (by omega) (by omega)).mono ?_
  rintro e w_5 ⟨rfl, rfl⟩
  rw [Hhz.out]
  clear lx0 ls0
  have lx0 := lt_size x0
  have ls0 := lt_size s0
  go_wp2_with fail
  refine (pickL_any _ _ _ i0 (by omega) (by omega)).mono ?_
  rintro e w_6 ⟨rfl, rfl⟩
  clear lx0 ls0
  have lx0 := lt_size x0
  have ls0 := lt_size s0
  go_wp2_with fail
  refine (pickL_any _ _ _ i1 (by omega) (by omega)).mono ?_
  rintro e w_7 ⟨rfl, rfl⟩
  clear lx0 ls0
  have lx0 := lt_size x0
  have ls0 := lt_size s0
  go_wp2_with fail
  rw [Hhu.out, Hhv.out]
  clear p0 p1
  refine (box_yes P N _ cp D _ sD Hhval.out).mono ?_
  rintro e w_8 ⟨rfl, bq⟩
  clear lx0 ls0
  replace hB := below_next hB bq
  replace x0 := cell_then bq x0
  replace x1 := cell_then bq x1
  replace sD := sD.below bq
  replace s0 := cell_then bq s0
  replace s1 := cell_then bq s1
  replace s2 := cell_then bq s2
  clear bq
  rw [Hhbox.out]
  have lx0 := lt_size x0
  have ls0 := lt_size s0
  go_wp2_with fail
  have hA : Below w_8.heap.size w_8 (w_8.alloc (.cells #[.int .i64 X, .int .i64 Y, .int .i64 V, .int .i64 H] 40)) := below_alloc (Below.refl _ _) _
  clear lx0 ls0
  replace hB := below_next hB hA
  replace x0 := cell_then hA x0
  replace x1 := cell_then hA x1
  replace sD := sD.below hA
  replace s0 := cell_then hA s0
  replace s1 := cell_then hA s1
  replace s2 := cell_then hA s2
  have r0 : (w_8.alloc (.cells #[.int .i64 X, .int .i64 Y, .int .i64 V, .int .i64 H] 40)).cell? ⟨w_8.heap.size, 0, none⟩ = some (.int .i64 X) := new_cell rfl
  have r1 : (w_8.alloc (.cells #[.int .i64 X, .int .i64 Y, .int .i64 V, .int .i64 H] 40)).cell? ⟨w_8.heap.size, 1, none⟩ = some (.int .i64 Y) := new_cell rfl
  have r2 : (w_8.alloc (.cells #[.int .i64 X, .int .i64 Y, .int .i64 V, .int .i64 H] 40)).cell? ⟨w_8.heap.size, 2, none⟩ = some (.int .i64 V) := new_cell rfl
  have r3 : (w_8.alloc (.cells #[.int .i64 X, .int .i64 Y, .int .i64 V, .int .i64 H] 40)).cell? ⟨w_8.heap.size, 3, none⟩ = some (.int .i64 H) := new_cell rfl
  obtain ⟨v_9, hv_9⟩ : ∃ vv_ : World, (w_8.alloc (.cells #[.int .i64 X, .int .i64 Y, .int .i64 V, .int .i64 H] 40)) = vv_ := ⟨_, rfl⟩
  rw [hv_9] at hB x0 x1 sD s0 s1 s2 r0 r1 r2 r3 ⊢
  clear hA hv_9
  refine (moved_yes P N _ cp D u v _ sD (isInB_iff.2 ⟨by omega, by omega⟩) (isInB_iff.2 ⟨by omega, by omega⟩) Hhval.out (by rw [HhME.out]; exact HhvE.out)).mono ?_
  rintro e w_10 ⟨gm, cm, rfl, hgm, mD, hcm, hcm2, bq⟩
  rw [HhME.out] at mD hcm ⊢
  clear hgm
  replace hB := below_next hB bq
  replace x0 := cell_then bq x0
  replace x1 := cell_then bq x1
  replace sD := sD.below bq
  replace s0 := cell_then bq s0
  replace s1 := cell_then bq s1
  replace s2 := cell_then bq s2
  replace r0 := cell_then bq r0
  replace r1 := cell_then bq r1
  replace r2 := cell_then bq r2
  replace r3 := cell_then bq r3
  clear bq
  have lx0 := lt_size x0
  have ls0 := lt_size s0
  have lr0 := lt_size r0
  go_wp2_with fail
  have hnE : (E.length : Int) ≤ 4611686018427387904 := by have := (valid_len HhvE.out).1; omega
  have hA : Below w_10.heap.size w_10 (w_10.alloc (.cells #[.int .i64 P, .int .i64 N, .slice (some ⟨gm, 0, none⟩) E.length cm] 27)) := below_alloc (Below.refl _ _) _
  clear lx0 ls0 lr0
  replace hB := below_next hB hA
  replace x0 := cell_then hA x0
  replace x1 := cell_then hA x1
  replace sD := sD.below hA
  replace s0 := cell_then hA s0
  replace s1 := cell_then hA s1
  replace s2 := cell_then hA s2
  replace r0 := cell_then hA r0
  replace r1 := cell_then hA r1
  replace r2 := cell_then hA r2
  replace r3 := cell_then hA r3
  replace mD := mD.below hA
  have m0 : (w_10.alloc (.cells #[.int .i64 P, .int .i64 N, .slice (some ⟨gm, 0, none⟩) E.length cm] 27)).cell? ⟨w_10.heap.size, 0, none⟩ = some (.int .i64 P) := new_cell rfl
  have m1 : (w_10.alloc (.cells #[.int .i64 P, .int .i64 N, .slice (some ⟨gm, 0, none⟩) E.length cm] 27)).cell? ⟨w_10.heap.size, 1, none⟩ = some (.int .i64 N) := new_cell rfl
  have m2 : (w_10.alloc (.cells #[.int .i64 P, .int .i64 N, .slice (some ⟨gm, 0, none⟩) E.length cm] 27)).cell? ⟨w_10.heap.size, 2, none⟩ = some (.slice (some ⟨gm, 0, none⟩) E.length cm) := new_cell rfl
  obtain ⟨v_11, hv_11⟩ : ∃ vv_ : World, (w_10.alloc (.cells #[.int .i64 P, .int .i64 N, .slice (some ⟨gm, 0, none⟩) E.length cm] 27)) = vv_ := ⟨_, rfl⟩
  rw [hv_11] at hB x0 x1 sD s0 s1 s2 r0 r1 r2 r3 mD m0 m1 m2 ⊢
  clear hA hv_11
  have lx0 := lt_size x0
  have ls0 := lt_size s0
  have lr0 := lt_size r0
  have lm0 := lt_size m0
  go_wp2_with fail
  refine (box_yes P N _ cm E _ mD HhvE.out).mono ?_
  rintro e w_12 ⟨rfl, bq⟩
  clear lx0 ls0 lr0 lm0
  replace hB := below_next hB bq
  replace x0 := cell_then bq x0
  replace x1 := cell_then bq x1
  replace sD := sD.below bq
  replace s0 := cell_then bq s0
  replace s1 := cell_then bq s1
  replace s2 := cell_then bq s2
  replace r0 := cell_then bq r0
  replace r1 := cell_then bq r1
  replace r2 := cell_then bq r2
  replace r3 := cell_then bq r3
  replace mD := mD.below bq
  replace m0 := cell_then bq m0
  replace m1 := cell_then bq m1
  replace m2 := cell_then bq m2
  clear bq
  rw [HhbE.out]
  have lx0 := lt_size x0
  have ls0 := lt_size s0
  have lr0 := lt_size r0
  have lm0 := lt_size m0
  go_wp2_with fail
  have hA : Below w_12.heap.size w_12 (w_12.alloc (.cells #[.int .i64 (X + u), .int .i64 (Y + v), .int .i64 V, .int .i64 H] 40)) := below_alloc (Below.refl _ _) _
  clear lx0 ls0 lr0 lm0
  replace hB := below_next hB hA
  replace x0 := cell_then hA x0
  replace x1 := cell_then hA x1
  replace sD := sD.below hA
  replace s0 := cell_then hA s0
  replace s1 := cell_then hA s1
  replace s2 := cell_then hA s2
  replace r0 := cell_then hA r0
  replace r1 := cell_then hA r1
  replace r2 := cell_then hA r2
  replace r3 := cell_then hA r3
  replace mD := mD.below hA
  replace m0 := cell_then hA m0
  replace m1 := cell_then hA m1
  replace m2 := cell_then hA m2
  have q0 : (w_12.alloc (.cells #[.int .i64 (X + u), .int .i64 (Y + v), .int .i64 V, .int .i64 H] 40)).cell? ⟨w_12.heap.size, 0, none⟩ = some (.int .i64 (X + u)) := new_cell rfl
  have q1 : (w_12.alloc (.cells #[.int .i64 (X + u), .int .i64 (Y + v), .int .i64 V, .int .i64 H] 40)).cell? ⟨w_12.heap.size, 1, none⟩ = some (.int .i64 (Y + v)) := new_cell rfl
  have q2 : (w_12.alloc (.cells #[.int .i64 (X + u), .int .i64 (Y + v), .int .i64 V, .int .i64 H] 40)).cell? ⟨w_12.heap.size, 2, none⟩ = some (.int .i64 V) := new_cell rfl
  have q3 : (w_12.alloc (.cells #[.int .i64 (X + u), .int .i64 (Y + v), .int .i64 V, .int .i64 H] 40)).cell? ⟨w_12.heap.size, 3, none⟩ = some (.int .i64 H) := new_cell rfl
  obtain ⟨v_13, hv_13⟩ : ∃ vv_ : World, (w_12.alloc (.cells #[.int .i64 (X + u), .int .i64 (Y + v), .int .i64 V, .int .i64 H] 40)) = vv_ := ⟨_, rfl⟩
  rw [hv_13] at hB x0 x1 sD s0 s1 s2 r0 r1 r2 r3 mD m0 m1 m2 q0 q1 q2 q3 ⊢
  clear hA hv_13
  refine (way_yes P N _ cp D _ sD Hhval.out).mono ?_
  rintro e w_14 ⟨rfl, bq⟩
  replace hB := below_next hB bq
  replace x0 := cell_then bq x0
  replace x1 := cell_then bq x1
  replace sD := sD.below bq
  replace s0 := cell_then bq s0
  replace s1 := cell_then bq s1
  replace s2 := cell_then bq s2
  replace r0 := cell_then bq r0
  replace r1 := cell_then bq r1
  replace r2 := cell_then bq r2
  replace r3 := cell_then bq r3
  replace mD := mD.below bq
  replace m0 := cell_then bq m0
  replace m1 := cell_then bq m1
  replace m2 := cell_then bq m2
  replace q0 := cell_then bq q0
  replace q1 := cell_then bq q1
  replace q2 := cell_then bq q2
  replace q3 := cell_then bq q3
  clear bq
  rw [Hhw.out]
  have lx0 := lt_size x0
  have ls0 := lt_size s0
  have lr0 := lt_size r0
  have lm0 := lt_size m0
  have lq0 := lt_size q0
  go_wp2_with fail
  refine (way_yes P N _ cm E _ mD HhvE.out).mono ?_
  rintro e w_15 ⟨rfl, bq⟩
  clear lx0 ls0 lr0 lm0 lq0
  replace hB := below_next hB bq
  replace x0 := cell_then bq x0
  replace x1 := cell_then bq x1
  replace sD := sD.below bq
  replace s0 := cell_then bq s0
  replace s1 := cell_then bq s1
  replace s2 := cell_then bq s2
  replace r0 := cell_then bq r0
  replace r1 := cell_then bq r1
  replace r2 := cell_then bq r2
  replace r3 := cell_then bq r3
  replace mD := mD.below bq
  replace m0 := cell_then bq m0
  replace m1 := cell_then bq m1
  replace m2 := cell_then bq m2
  replace q0 := cell_then bq q0
  replace q1 := cell_then bq q1
  replace q2 := cell_then bq q2
  replace q3 := cell_then bq q3
  clear bq
  rw [HhwE.out]
  have lx0 := lt_size x0
  have ls0 := lt_size s0
  have lr0 := lt_size r0
  have lm0 := lt_size m0
  have lq0 := lt_size q0
  go_wp2_with fail
  refine (thin_yes P N _ cp D z _ sD hcp hcp2 Hhval.out zi).mono ?_
  rintro e w_16 ⟨A1, c1, rfl, iT, hc1, bq⟩
  clear lx0 ls0 lr0 lm0 lq0
  replace hB := below_next hB bq
  replace x0 := cell_then bq x0
  replace x1 := cell_then bq x1
  replace sD := sD.below bq
  replace s0 := cell_then bq s0
  replace s1 := cell_then bq s1
  replace s2 := cell_then bq s2
  replace r0 := cell_then bq r0
  replace r1 := cell_then bq r1
  replace r2 := cell_then bq r2
  replace r3 := cell_then bq r3
  replace mD := mD.below bq
  replace m0 := cell_then bq m0
  replace m1 := cell_then bq m1
  replace m2 := cell_then bq m2
  replace q0 := cell_then bq q0
  replace q1 := cell_then bq q1
  replace q2 := cell_then bq q2
  replace q3 := cell_then bq q3
  clear bq
  rw [← natI_length (thinF D z), HhT.out]
  rw [HhT.out] at iT
  clear hc1
  have lx0 := lt_size x0
  have ls0 := lt_size s0
  have lr0 := lt_size r0
  have lm0 := lt_size m0
  have lq0 := lt_size q0
  go_wp2_with fail
  refine (thin_yes P N _ cm E z _ mD hcm hcm2 HhvE.out zi).mono ?_
  rintro e w_17 ⟨A2, c2, rfl, iS, hc2, bq⟩
  clear lx0 ls0 lr0 lm0 lq0
  replace hB := below_next hB bq
  replace x0 := cell_then bq x0
  replace x1 := cell_then bq x1
  replace sD := sD.below bq
  replace s0 := cell_then bq s0
  replace s1 := cell_then bq s1
  replace s2 := cell_then bq s2
  replace r0 := cell_then bq r0
  replace r1 := cell_then bq r1
  replace r2 := cell_then bq r2
  replace r3 := cell_then bq r3
  replace mD := mD.below bq
  replace m0 := cell_then bq m0
  replace m1 := cell_then bq m1
  replace m2 := cell_then bq m2
  replace q0 := cell_then bq q0
  replace q1 := cell_then bq q1
  replace q2 := cell_then bq q2
  replace q3 := cell_then bq q3
  replace iT := iT.then_ bq
  clear bq
  rw [← natI_length (thinF E z), HhTE.out]
  rw [HhTE.out] at iS
  clear hc2
  have lx0 := lt_size x0
  have ls0 := lt_size s0
  have lr0 := lt_size r0
  have lm0 := lt_size m0
  have lq0 := lt_size q0
  go_wp2_with fail
  refine (moved_yes P N _ cm E (-u) (-v) _ mD (isInB_iff.2 ⟨by omega, by omega⟩) (isInB_iff.2 ⟨by omega, by omega⟩) HhvE.out (by rw [Hhback.out]; exact Hhval.out)).mono ?_
  rintro e w_18 ⟨gb, cb, rfl, hgb, bD, hcb, hcb2, bq⟩
  rw [Hhback.out] at bD hcb ⊢
  clear hgb
  clear lx0 ls0 lr0 lm0 lq0
  replace hB := below_next hB bq
  replace x0 := cell_then bq x0
  replace x1 := cell_then bq x1
  replace sD := sD.below bq
  replace s0 := cell_then bq s0
  replace s1 := cell_then bq s1
  replace s2 := cell_then bq s2
  replace r0 := cell_then bq r0
  replace r1 := cell_then bq r1
  replace r2 := cell_then bq r2
  replace r3 := cell_then bq r3
  replace mD := mD.below bq
  replace m0 := cell_then bq m0
  replace m1 := cell_then bq m1
  replace m2 := cell_then bq m2
  replace q0 := cell_then bq q0
  replace q1 := cell_then bq q1
  replace q2 := cell_then bq q2
  replace q3 := cell_then bq q3
  replace iT := iT.then_ bq
  replace iS := iS.then_ bq
  clear bq
  have lx0 := lt_size x0
  have ls0 := lt_size s0
  have lr0 := lt_size r0
  have lm0 := lt_size m0
  have lq0 := lt_size q0
  go_wp2_with fail
  have hA : Below w_18.heap.size w_18 (w_18.alloc (.cells #[.int .i64 P, .int .i64 N, .slice (some ⟨gb, 0, none⟩) D.length cb] 27)) := below_alloc (Below.refl _ _) _
  clear lx0 ls0 lr0 lm0 lq0
  replace hB := below_next hB hA
  replace x0 := cell_then hA x0
  replace x1 := cell_then hA x1
  replace sD := sD.below hA
  replace s0 := cell_then hA s0
  replace s1 := cell_then hA s1
  replace s2 := cell_then hA s2
  replace r0 := cell_then hA r0
  replace r1 := cell_then hA r1
  replace r2 := cell_then hA r2
  replace r3 := cell_then hA r3
  replace mD := mD.below hA
  replace m0 := cell_then hA m0
  replace m1 := cell_then hA m1
  replace m2 := cell_then hA m2
  replace q0 := cell_then hA q0
  replace q1 := cell_then hA q1
  replace q2 := cell_then hA q2
  replace q3 := cell_then hA q3
  replace iT := iT.then_ hA
  replace iS := iS.then_ hA
  replace bD := bD.below hA
  have k0 : (w_18.alloc (.cells #[.int .i64 P, .int .i64 N, .slice (some ⟨gb, 0, none⟩) D.length cb] 27)).cell? ⟨w_18.heap.size, 0, none⟩ = some (.int .i64 P) := new_cell rfl
  have k1 : (w_18.alloc (.cells #[.int .i64 P, .int .i64 N, .slice (some ⟨gb, 0, none⟩) D.length cb] 27)).cell? ⟨w_18.heap.size, 1, none⟩ = some (.int .i64 N) := new_cell rfl
  have k2 : (w_18.alloc (.cells #[.int .i64 P, .int .i64 N, .slice (some ⟨gb, 0, none⟩) D.length cb] 27)).cell? ⟨w_18.heap.size, 2, none⟩ = some (.slice (some ⟨gb, 0, none⟩) D.length cb) := new_cell rfl
  obtain ⟨v_19, hv_19⟩ : ∃ vv_ : World, (w_18.alloc (.cells #[.int .i64 P, .int .i64 N, .slice (some ⟨gb, 0, none⟩) D.length cb] 27)) = vv_ := ⟨_, rfl⟩
  rw [hv_19] at hB x0 x1 sD s0 s1 s2 r0 r1 r2 r3 mD m0 m1 m2 q0 q1 q2 q3 iT iS bD k0 k1 k2 ⊢
  clear hA hv_19
  refine (ends_yes P N _ cp D _ sD Hhval.out).mono ?_
  rintro e w_20 ⟨rfl, bq⟩
  replace hB := below_next hB bq
  replace x0 := cell_then bq x0
  replace x1 := cell_then bq x1
  replace sD := sD.below bq
  replace s0 := cell_then bq s0
  replace s1 := cell_then bq s1
  replace s2 := cell_then bq s2
  replace r0 := cell_then bq r0
  replace r1 := cell_then bq r1
  replace r2 := cell_then bq r2
  replace r3 := cell_then bq r3
  replace mD := mD.below bq
  replace m0 := cell_then bq m0
  replace m1 := cell_then bq m1
  replace m2 := cell_then bq m2
  replace q0 := cell_then bq q0
  replace q1 := cell_then bq q1
  replace q2 := cell_then bq q2
  replace q3 := cell_then bq q3
  replace iT := iT.then_ bq
  replace iS := iS.then_ bq
  replace bD := bD.below bq
  replace k0 := cell_then bq k0
  replace k1 := cell_then bq k1
  replace k2 := cell_then bq k2
  clear bq
  rw [Hp1.out, Hp2.out]
  have lx0 := lt_size x0
  have ls0 := lt_size s0
  have lr0 := lt_size r0
  have lm0 := lt_size m0
  have lq0 := lt_size q0
  have lk0 := lt_size k0
  go_wp2_with fail
  have hA : Below w_20.heap.size w_20 ((w_20.alloc (.cells #[.int .i64 fx, .int .i64 fy] 29)).alloc (.cells #[.int .i64 lx, .int .i64 ly] 29)) := below_alloc (below_alloc (Below.refl _ _) _) _
  clear lx0 ls0 lr0 lm0 lq0 lk0
  replace hB := below_next hB hA
  replace x0 := cell_then hA x0
  replace x1 := cell_then hA x1
  replace sD := sD.below hA
  replace s0 := cell_then hA s0
  replace s1 := cell_then hA s1
  replace s2 := cell_then hA s2
  replace r0 := cell_then hA r0
  replace r1 := cell_then hA r1
  replace r2 := cell_then hA r2
  replace r3 := cell_then hA r3
  replace mD := mD.below hA
  replace m0 := cell_then hA m0
  replace m1 := cell_then hA m1
  replace m2 := cell_then hA m2
  replace q0 := cell_then hA q0
  replace q1 := cell_then hA q1
  replace q2 := cell_then hA q2
  replace q3 := cell_then hA q3
  replace iT := iT.then_ hA
  replace iS := iS.then_ hA
  replace bD := bD.below hA
  replace k0 := cell_then hA k0
  replace k1 := cell_then hA k1
  replace k2 := cell_then hA k2
  have f0 : ((w_20.alloc (.cells #[.int .i64 fx, .int .i64 fy] 29)).alloc (.cells #[.int .i64 lx, .int .i64 ly] 29)).cell? ⟨w_20.heap.size, 0, none⟩ = some (.int .i64 fx) := keep_alloc _ (new_cell rfl)
  have f1 : ((w_20.alloc (.cells #[.int .i64 fx, .int .i64 fy] 29)).alloc (.cells #[.int .i64 lx, .int .i64 ly] 29)).cell? ⟨w_20.heap.size, 1, none⟩ = some (.int .i64 fy) := keep_alloc _ (new_cell rfl)
  have g0 : ((w_20.alloc (.cells #[.int .i64 fx, .int .i64 fy] 29)).alloc (.cells #[.int .i64 lx, .int .i64 ly] 29)).cell? ⟨w_20.heap.size + 1, 0, none⟩ = some (.int .i64 lx) := new_cell' rfl
  have g1 : ((w_20.alloc (.cells #[.int .i64 fx, .int .i64 fy] 29)).alloc (.cells #[.int .i64 lx, .int .i64 ly] 29)).cell? ⟨w_20.heap.size + 1, 1, none⟩ = some (.int .i64 ly) := new_cell' rfl
  obtain ⟨v_21, hv_21⟩ : ∃ vv_ : World, ((w_20.alloc (.cells #[.int .i64 fx, .int .i64 fy] 29)).alloc (.cells #[.int .i64 lx, .int .i64 ly] 29)) = vv_ := ⟨_, rfl⟩
  rw [hv_21] at hB x0 x1 sD s0 s1 s2 r0 r1 r2 r3 mD m0 m1 m2 q0 q1 q2 q3 iT iS bD k0 k1 k2 f0 f1 g0 g1 ⊢
  clear hA hv_21
  refine (ends_yes P N _ cm E _ mD HhvE.out).mono ?_
  rintro e w_22 ⟨rfl, bq⟩
  replace hB := below_next hB bq
  replace x0 := cell_then bq x0
  replace x1 := cell_then bq x1
  replace sD := sD.below bq
  replace s0 := cell_then bq s0
  replace s1 := cell_then bq s1
  replace s2 := cell_then bq s2
  replace r0 := cell_then bq r0
  replace r1 := cell_then bq r1
  replace r2 := cell_then bq r2
  replace r3 := cell_then bq r3
  replace mD := mD.below bq
  replace m0 := cell_then bq m0
  replace m1 := cell_then bq m1
  replace m2 := cell_then bq m2
  replace q0 := cell_then bq q0
  replace q1 := cell_then bq q1
  replace q2 := cell_then bq q2
  replace q3 := cell_then bq q3
  replace iT := iT.then_ bq
  replace iS := iS.then_ bq
  replace bD := bD.below bq
  replace k0 := cell_then bq k0
  replace k1 := cell_then bq k1
  replace k2 := cell_then bq k2
  replace f0 := cell_then bq f0
  replace f1 := cell_then bq f1
  replace g0 := cell_then bq g0
  replace g1 := cell_then bq g1
  clear bq
  rw [Hp3.out, Hp4.out]
  have lx0 := lt_size x0
  have ls0 := lt_size s0
  have lr0 := lt_size r0
  have lm0 := lt_size m0
  have lq0 := lt_size q0
  have lk0 := lt_size k0
  have lf0 := lt_size f0
  have lg0 := lt_size g0
  go_wp2_with fail
  have hA : Below w_22.heap.size w_22 ((w_22.alloc (.cells #[.int .i64 (fx + u), .int .i64 (fy + v)] 29)).alloc (.cells #[.int .i64 (lx + u), .int .i64 (ly + v)] 29)) := below_alloc (below_alloc (Below.refl _ _) _) _
  clear lx0 ls0 lr0 lm0 lq0 lk0 lf0 lg0
  replace hB := below_next hB hA
  replace x0 := cell_then hA x0
  replace x1 := cell_then hA x1
  replace sD := sD.below hA
  replace s0 := cell_then hA s0
  replace s1 := cell_then hA s1
  replace s2 := cell_then hA s2
  replace r0 := cell_then hA r0
  replace r1 := cell_then hA r1
  replace r2 := cell_then hA r2
  replace r3 := cell_then hA r3
  replace mD := mD.below hA
  replace m0 := cell_then hA m0
  replace m1 := cell_then hA m1
  replace m2 := cell_then hA m2
  replace q0 := cell_then hA q0
  replace q1 := cell_then hA q1
  replace q2 := cell_then hA q2
  replace q3 := cell_then hA q3
  replace iT := iT.then_ hA
  replace iS := iS.then_ hA
  replace bD := bD.below hA
  replace k0 := cell_then hA k0
  replace k1 := cell_then hA k1
  replace k2 := cell_then hA k2
  replace f0 := cell_then hA f0
  replace f1 := cell_then hA f1
  replace g0 := cell_then hA g0
  replace g1 := cell_then hA g1
  have t0 : ((w_22.alloc (.cells #[.int .i64 (fx + u), .int .i64 (fy + v)] 29)).alloc (.cells #[.int .i64 (lx + u), .int .i64 (ly + v)] 29)).cell? ⟨w_22.heap.size, 0, none⟩ = some (.int .i64 (fx + u)) := keep_alloc _ (new_cell rfl)
  have t1 : ((w_22.alloc (.cells #[.int .i64 (fx + u), .int .i64 (fy + v)] 29)).alloc (.cells #[.int .i64 (lx + u), .int .i64 (ly + v)] 29)).cell? ⟨w_22.heap.size, 1, none⟩ = some (.int .i64 (fy + v)) := keep_alloc _ (new_cell rfl)
  have e0 : ((w_22.alloc (.cells #[.int .i64 (fx + u), .int .i64 (fy + v)] 29)).alloc (.cells #[.int .i64 (lx + u), .int .i64 (ly + v)] 29)).cell? ⟨w_22.heap.size + 1, 0, none⟩ = some (.int .i64 (lx + u)) := new_cell' rfl
  have e1 : ((w_22.alloc (.cells #[.int .i64 (fx + u), .int .i64 (fy + v)] 29)).alloc (.cells #[.int .i64 (lx + u), .int .i64 (ly + v)] 29)).cell? ⟨w_22.heap.size + 1, 1, none⟩ = some (.int .i64 (ly + v)) := new_cell' rfl
  obtain ⟨v_23, hv_23⟩ : ∃ vv_ : World, ((w_22.alloc (.cells #[.int .i64 (fx + u), .int .i64 (fy + v)] 29)).alloc (.cells #[.int .i64 (lx + u), .int .i64 (ly + v)] 29)) = vv_ := ⟨_, rfl⟩
  rw [hv_23] at hB x0 x1 sD s0 s1 s2 r0 r1 r2 r3 mD m0 m1 m2 q0 q1 q2 q3 iT iS bD k0 k1 k2 f0 f1 g0 g1 t0 t1 e0 e1 ⊢
  clear hA hv_23
  have q_1 := fun W => eqR W (X + u) (Y + v) V H
  have q_2 := fun W => eqP W (fx + u) (fy + v)
  have q_3 := fun W => eqP W (lx + u) (ly + v)
  have lx0 := lt_size x0
  have ls0 := lt_size s0
  have lr0 := lt_size r0
  have lm0 := lt_size m0
  have lq0 := lt_size q0
  have lk0 := lt_size k0
  have lf0 := lt_size f0
  have lg0 := lt_size g0
  have lt0 := lt_size t0
  have le0 := lt_size e0
  go_wp2_with fail
  refine (ints_any _ _ _ _ l l _ iT iS hl).mono ?_
  rintro e w_24 ⟨rfl, bq⟩
  clear lx0 ls0 lr0 lm0 lq0 lk0 lf0 lg0 lt0 le0
  replace hB := below_next hB bq
  replace x0 := cell_then bq x0
  replace x1 := cell_then bq x1
  replace sD := sD.below bq
  replace s0 := cell_then bq s0
  replace s1 := cell_then bq s1
  replace s2 := cell_then bq s2
  replace r0 := cell_then bq r0
  replace r1 := cell_then bq r1
  replace r2 := cell_then bq r2
  replace r3 := cell_then bq r3
  replace mD := mD.below bq
  replace m0 := cell_then bq m0
  replace m1 := cell_then bq m1
  replace m2 := cell_then bq m2
  replace q0 := cell_then bq q0
  replace q1 := cell_then bq q1
  replace q2 := cell_then bq q2
  replace q3 := cell_then bq q3
  replace iT := iT.then_ bq
  replace iS := iS.then_ bq
  replace bD := bD.below bq
  replace k0 := cell_then bq k0
  replace k1 := cell_then bq k1
  replace k2 := cell_then bq k2
  replace f0 := cell_then bq f0
  replace f1 := cell_then bq f1
  replace g0 := cell_then bq g0
  replace g1 := cell_then bq g1
  replace t0 := cell_then bq t0
  replace t1 := cell_then bq t1
  replace e0 := cell_then bq e0
  replace e1 := cell_then bq e1
  clear bq
  rw [show decide (l = l) = true from decide_eq_true rfl]
  have lx0 := lt_size x0
  have ls0 := lt_size s0
  have lr0 := lt_size r0
  have lm0 := lt_size m0
  have lq0 := lt_size q0
  have lk0 := lt_size k0
  have lf0 := lt_size f0
  have lg0 := lt_size g0
  have lt0 := lt_size t0
  have le0 := lt_size e0
  go_wp2_with fail
  refine (sameR_any P N P N _ _ cb cp D D _ bD sD hnD).mono ?_
  rintro e w_25 ⟨rfl, bq⟩
  clear lx0 ls0 lr0 lm0 lq0 lk0 lf0 lg0 lt0 le0
  replace hB := below_next hB bq
  replace x0 := cell_then bq x0
  replace x1 := cell_then bq x1
  replace sD := sD.below bq
  replace s0 := cell_then bq s0
  replace s1 := cell_then bq s1
  replace s2 := cell_then bq s2
  replace r0 := cell_then bq r0
  replace r1 := cell_then bq r1
  replace r2 := cell_then bq r2
  replace r3 := cell_then bq r3
  replace mD := mD.below bq
  replace m0 := cell_then bq m0
  replace m1 := cell_then bq m1
  replace m2 := cell_then bq m2
  replace q0 := cell_then bq q0
  replace q1 := cell_then bq q1
  replace q2 := cell_then bq q2
  replace q3 := cell_then bq q3
  replace iT := iT.then_ bq
  replace iS := iS.then_ bq
  replace bD := bD.below bq
  replace k0 := cell_then bq k0
  replace k1 := cell_then bq k1
  replace k2 := cell_then bq k2
  replace f0 := cell_then bq f0
  replace f1 := cell_then bq f1
  replace g0 := cell_then bq g0
  replace g1 := cell_then bq g1
  replace t0 := cell_then bq t0
  replace t1 := cell_then bq t1
  replace e0 := cell_then bq e0
  replace e1 := cell_then bq e1
  clear bq
  rw [same_self]
  have lx0 := lt_size x0
  have ls0 := lt_size s0
  have lr0 := lt_size r0
  have lm0 := lt_size m0
  have lq0 := lt_size q0
  have lk0 := lt_size k0
  have lf0 := lt_size f0
  have lg0 := lt_size g0
  have lt0 := lt_size t0
  have le0 := lt_size e0
  go_wp2_with fail
  go_ret
  exact ⟨rfl, hB⟩
set_option maxRecDepth 100000 in
set_option maxHeartbeats 8000000 in
theorem moved_not_walk (a b m tol n0 n1 P N z u v X Y V H : Int) (A : Option Addr) (cap : Nat) (es : List E3) (D E : List Dot) (w : World) (ia : I64 a) (ib : I64 b) (it : I64 tol) (i0 : I64 n0) (i1 : I64 n1) (hm : wrap64 (a * 37) = m)
    (hE : Ents w A es) (hI : ∀ e ∈ es, I64 e.a ∧ I64 e.b ∧ I64 e.c) (hn : (es.length : Int) ≤ 9223372036854775807)
    (hD : madeD a b m es = D) (hP : pickI a 40 = P) (hN : 1 + pickI b 999 = N) (hz : pickI tol 400 = z) (hu : pickI n0 3000 - 1500 = u) (hv : pickI n1 3000 - 1500 = v)
    (hval : validB P N D = true) (hbox : boxF D = (X, Y, V, H)) (bx : 0 ≤ X ∧ 0 ≤ V ∧ X + V ≤ 4095) (b_y : 0 ≤ Y ∧ 0 ≤ H ∧ Y + H ≤ 4095) (hME : moveD u v D = E)
    (hvE : validB P N E = false) (hnf : X + u < 0 ∨ 4095 < X + V + u ∨ Y + v < 0 ∨ 4095 < Y + H + v) :
    Calls Try.prog 7 #[.int .i64 a, .int .i64 b, .slice A es.length cap, .agg #[.int .i64 n0, .int .i64 n1], .int .i64 tol] w fun e w' => e = .returned (.bool true) ∧ Below w.heap.size w w' := by
  have HhvE := Lib.hid hvE
  clear hvE
  have Hhnf := Lib.hid hnf
  clear hnf
  have Hhm := Lib.hid hm
  clear hm
  have HhE := Lib.hid hE
  clear hE
  have HhI := Lib.hid hI
  clear hI
  have HhD := Lib.hid hD
  clear hD
  have HhP := Lib.hid hP
  clear hP
  have HhN := Lib.hid hN
  clear hN
  have Hhz := Lib.hid hz
  clear hz
  have Hhu := Lib.hid hu
  clear hu
  have Hhv := Lib.hid hv
  clear hv
  have Hhval := Lib.hid hval
  clear hval
  have Hhbox := Lib.hid hbox
  clear hbox
  have HhME := Lib.hid hME
  clear hME
  have p0 := pickI_bd n0 (n := 3000) (by omega)
  have p1 := pickI_bd n1 (n := 3000) (by omega)
  have bu : -1500 ≤ u ∧ u ≤ 1499 := by rw [← Hhu.out]; omega
  have bv : -1500 ≤ v ∧ v ≤ 1499 := by rw [← Hhv.out]; omega
  have bz : 0 ≤ z ∧ z ≤ 399 := by have := pickI_bd tol (n := 400) (by omega); rw [Hhz.out] at this; omega
  have zi : isInB z 0 1000 = true := isInB_iff.2 ⟨by omega, by omega⟩
  have hnD : (D.length : Int) ≤ 4611686018427387904 := by have := (valid_len Hhval.out).1; omega
  go_enter Try.func7, Try.ntmps7
  go_wp2_with fail
  have hB := Below.refl w.heap.size w
  have hEn := HhE.out
  clear HhE
  have hA : Below w.heap.size w (w.alloc (.cells #[.int .i64 n0, .int .i64 n1] 31)) := below_alloc (Below.refl _ _) _
  replace hB := below_next hB hA
  replace hEn := hEn.below hA
  have x0 : (w.alloc (.cells #[.int .i64 n0, .int .i64 n1] 31)).cell? ⟨w.heap.size, 0, none⟩ = some (.int .i64 n0) := new_cell rfl
  have x1 : (w.alloc (.cells #[.int .i64 n0, .int .i64 n1] 31)).cell? ⟨w.heap.size, 1, none⟩ = some (.int .i64 n1) := new_cell rfl
  obtain ⟨v_1, hv_1⟩ : ∃ vv_ : World, (w.alloc (.cells #[.int .i64 n0, .int .i64 n1] 31)) = vv_ := ⟨_, rfl⟩
  rw [hv_1] at hB hEn x0 x1 ⊢
  clear hA hv_1
  have HEn := Lib.hid hEn
  clear hEn
  refine (sane_any _).mono ?_
  rintro e w_2 ⟨rfl, bq⟩
  replace hB := below_next hB bq
  replace HEn := Lib.hid (HEn.out.below bq)
  replace x0 := cell_then bq x0
  replace x1 := cell_then bq x1
  clear bq
  have lx0 := lt_size x0
  go_wp2_with fail
  refine (made_any a b m A cap es _ ia ib Hhm.out HEn.out HhI.out hn).mono ?_
  rintro e w_3 ⟨g, cp, rfl, hgs, sD, hcp, hcp2, bq⟩
  rw [HhD.out] at sD hcp ⊢
  rw [HhP.out, HhN.out]
  clear hgs
  clear lx0
  replace hB := below_next hB bq
  replace HEn := Lib.hid (HEn.out.below bq)
  replace x0 := cell_then bq x0
  replace x1 := cell_then bq x1
  clear bq
  have lx0 := lt_size x0
  go_wp2_with fail
  clear HEn
  have hA : Below w_3.heap.size w_3 (w_3.alloc (.cells #[.int .i64 P, .int .i64 N, .slice (some ⟨g, 0, none⟩) D.length cp] 27)) := below_alloc (Below.refl _ _) _
  clear lx0
  replace hB := below_next hB hA
  replace x0 := cell_then hA x0
  replace x1 := cell_then hA x1
  replace sD := sD.below hA
  have s0 : (w_3.alloc (.cells #[.int .i64 P, .int .i64 N, .slice (some ⟨g, 0, none⟩) D.length cp] 27)).cell? ⟨w_3.heap.size, 0, none⟩ = some (.int .i64 P) := new_cell rfl
  have s1 : (w_3.alloc (.cells #[.int .i64 P, .int .i64 N, .slice (some ⟨g, 0, none⟩) D.length cp] 27)).cell? ⟨w_3.heap.size, 1, none⟩ = some (.int .i64 N) := new_cell rfl
  have s2 : (w_3.alloc (.cells #[.int .i64 P, .int .i64 N, .slice (some ⟨g, 0, none⟩) D.length cp] 27)).cell? ⟨w_3.heap.size, 2, none⟩ = some (.slice (some ⟨g, 0, none⟩) D.length cp) := new_cell rfl
  obtain ⟨v_4, hv_4⟩ : ∃ vv_ : World, (w_3.alloc (.cells #[.int .i64 P, .int .i64 N, .slice (some ⟨g, 0, none⟩) D.length cp] 27)) = vv_ := ⟨_, rfl⟩
  rw [hv_4] at hB x0 x1 sD s0 s1 s2 ⊢
  clear hA hv_4
  have lx0 := lt_size x0
  have ls0 := lt_size s0
  refine (pickL_any _ _ _ it (by omega) (by omega)).mono ?_
  rintro e w_5 ⟨rfl, rfl⟩
  rw [Hhz.out]
  clear lx0 ls0
  have lx0 := lt_size x0
  have ls0 := lt_size s0
  go_wp2_with fail
  refine (pickL_any _ _ _ i0 (by omega) (by omega)).mono ?_
  rintro e w_6 ⟨rfl, rfl⟩
  clear lx0 ls0
  have lx0 := lt_size x0
  have ls0 := lt_size s0
  go_wp2_with fail
  refine (pickL_any _ _ _ i1 (by omega) (by omega)).mono ?_
  rintro e w_7 ⟨rfl, rfl⟩
  clear lx0 ls0
  have lx0 := lt_size x0
  have ls0 := lt_size s0
  go_wp2_with fail
  rw [Hhu.out, Hhv.out]
  clear p0 p1
  refine (box_yes P N _ cp D _ sD Hhval.out).mono ?_
  rintro e w_8 ⟨rfl, bq⟩
  clear lx0 ls0
  replace hB := below_next hB bq
  replace x0 := cell_then bq x0
  replace x1 := cell_then bq x1
  replace sD := sD.below bq
  replace s0 := cell_then bq s0
  replace s1 := cell_then bq s1
  replace s2 := cell_then bq s2
  clear bq
  rw [Hhbox.out]
  have lx0 := lt_size x0
  have ls0 := lt_size s0
  go_wp2_with fail
  have hA : Below w_8.heap.size w_8 (w_8.alloc (.cells #[.int .i64 X, .int .i64 Y, .int .i64 V, .int .i64 H] 40)) := below_alloc (Below.refl _ _) _
  clear lx0 ls0
  replace hB := below_next hB hA
  replace x0 := cell_then hA x0
  replace x1 := cell_then hA x1
  replace sD := sD.below hA
  replace s0 := cell_then hA s0
  replace s1 := cell_then hA s1
  replace s2 := cell_then hA s2
  have r0 : (w_8.alloc (.cells #[.int .i64 X, .int .i64 Y, .int .i64 V, .int .i64 H] 40)).cell? ⟨w_8.heap.size, 0, none⟩ = some (.int .i64 X) := new_cell rfl
  have r1 : (w_8.alloc (.cells #[.int .i64 X, .int .i64 Y, .int .i64 V, .int .i64 H] 40)).cell? ⟨w_8.heap.size, 1, none⟩ = some (.int .i64 Y) := new_cell rfl
  have r2 : (w_8.alloc (.cells #[.int .i64 X, .int .i64 Y, .int .i64 V, .int .i64 H] 40)).cell? ⟨w_8.heap.size, 2, none⟩ = some (.int .i64 V) := new_cell rfl
  have r3 : (w_8.alloc (.cells #[.int .i64 X, .int .i64 Y, .int .i64 V, .int .i64 H] 40)).cell? ⟨w_8.heap.size, 3, none⟩ = some (.int .i64 H) := new_cell rfl
  obtain ⟨v_9, hv_9⟩ : ∃ vv_ : World, (w_8.alloc (.cells #[.int .i64 X, .int .i64 Y, .int .i64 V, .int .i64 H] 40)) = vv_ := ⟨_, rfl⟩
  rw [hv_9] at hB x0 x1 sD s0 s1 s2 r0 r1 r2 r3 ⊢
  clear hA hv_9
  refine (moved_no P N _ cp D u v _ hnD sD (.inr (.inr (.inr (by rw [HhME.out]; exact HhvE.out))))).mono ?_
  rintro e w_10 ⟨rfl, bq⟩
  replace hB := below_next hB bq
  replace x0 := cell_then bq x0
  replace x1 := cell_then bq x1
  replace sD := sD.below bq
  replace s0 := cell_then bq s0
  replace s1 := cell_then bq s1
  replace s2 := cell_then bq s2
  replace r0 := cell_then bq r0
  replace r1 := cell_then bq r1
  replace r2 := cell_then bq r2
  replace r3 := cell_then bq r3
  clear bq
  have lx0 := lt_size x0
  have ls0 := lt_size s0
  have lr0 := lt_size r0
  go_upto_region 10 with fail
  have hA : Below w_10.heap.size w_10 (w_10.alloc (.cells #[.int .i64 0, .int .i64 0, .slice none 0 0] 27)) := below_alloc (Below.refl _ _) _
  clear lx0 ls0 lr0
  replace hB := below_next hB hA
  replace x0 := cell_then hA x0
  replace x1 := cell_then hA x1
  replace sD := sD.below hA
  replace s0 := cell_then hA s0
  replace s1 := cell_then hA s1
  replace s2 := cell_then hA s2
  replace r0 := cell_then hA r0
  replace r1 := cell_then hA r1
  replace r2 := cell_then hA r2
  replace r3 := cell_then hA r3
  have m0 : (w_10.alloc (.cells #[.int .i64 0, .int .i64 0, .slice none 0 0] 27)).cell? ⟨w_10.heap.size, 0, none⟩ = some (.int .i64 0) := new_cell rfl
  have m1 : (w_10.alloc (.cells #[.int .i64 0, .int .i64 0, .slice none 0 0] 27)).cell? ⟨w_10.heap.size, 1, none⟩ = some (.int .i64 0) := new_cell rfl
  have m2 : (w_10.alloc (.cells #[.int .i64 0, .int .i64 0, .slice none 0 0] 27)).cell? ⟨w_10.heap.size, 2, none⟩ = some (.slice none 0 0) := new_cell rfl
  obtain ⟨v_11, hv_11⟩ : ∃ vv_ : World, (w_10.alloc (.cells #[.int .i64 0, .int .i64 0, .slice none 0 0] 27)) = vv_ := ⟨_, rfl⟩
  rw [hv_11] at hB x0 x1 sD s0 s1 s2 r0 r1 r2 r3 m0 m1 m2 ⊢
  clear hA hv_11
  have lx0 := lt_size x0
  have ls0 := lt_size s0
  have lr0 := lt_size r0
  have lm0 := lt_size m0
  go_cut [20] (fun s wx => s = .bool false ∧ wx = v_11)
  case first =>
    go_wp2_with fail
    all_goals (go_meet; first | exact ⟨rfl, rfl⟩ | (refine ⟨?_, rfl⟩; have h := Hhnf.out; first | omega | exact congrArg Value.bool (decide_eq_false (by omega)) | (simp; omega)))
  case rest =>
    obtain ⟨rfl, rfl⟩ := hcut
    obtain ⟨v_12, rfl⟩ : ∃ v : World, v = wc := ⟨_, rfl⟩
    clear lx0 ls0 lr0 lm0
    have lx0 := lt_size x0
    have ls0 := lt_size s0
    have lr0 := lt_size r0
    have lm0 := lt_size m0
    go_wp2_with fail
    go_ret
    exact ⟨rfl, hB⟩
end Go.Proofs.Ytgmabepdhbnppaa
