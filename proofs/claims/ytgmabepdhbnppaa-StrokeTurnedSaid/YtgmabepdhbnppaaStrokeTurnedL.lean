/- The walk of the law StrokeTurned. -/
import Derived.Test.YtgmabepdhbnppaaStrokeSane
import Derived.Test.YtgmabepdhbnppaaStrokeLaws
import Derived.Test.YtgmabepdhbnppaaStrokeMade
import Derived.Test.YtgmabepdhbnppaaStrokeRSame
import Derived.Test.YtgmabepdhbnppaaHead
import Derived.Test.YtgmabepdhbnppaaOneWay
namespace Go.Proofs.Ytgmabepdhbnppaa
open Go.RowKit Str
theorem same_self2 (P N : Int) (D : List Dot) : sameB P N D P N D = true := by simp [sameB]
theorem neqR (w : World) (a b c d : Int) : (binOp .neq 40 (.agg #[.int .i64 a, .int .i64 b, .int .i64 c, .int .i64 d]) (.agg #[.int .i64 a, .int .i64 b, .int .i64 c, .int .i64 d])).run Try.prog w = .ok (.bool false) w := by
  have u3 := Try.underlying3
  have hS : Try.prog.underlying 40 = some (.struct (Try.prog.fieldsOf 40)) := by kernel_rfl
  have hp : Try.prog.stoodInHeld 40 = false := by kernel_rfl
  have ia := Try.isAgg3
  have iz := Try.sizeOf3
  rw [run_neq_struct, show (10000 : Nat) = 9999 + 1 from rfl, run_equalIn_agg w 9999 40 _ _ hS hp]
  simp only [Program.fieldsOf, Try.underlying40]
  go_simp
theorem turnedL_any (x y : Int) (w : World) (h : 0 ≤ y ∧ y ≤ 4095) : Calls Try.prog 39 #[.agg #[.int .i64 x, .int .i64 y]] w fun e w' => e = .returned (.agg #[.int .i64 (4095 - y), .int .i64 x]) ∧ Below w.heap.size w w' := by
  obtain ⟨h1, h2⟩ := h
  go_enter Try.func39, Try.ntmps39
  go_wp2_with fail
  exact bodyPost_ret (v := .agg #[.int .i64 (4095 - y), .int .i64 x]) (by simp [results, Try.results39, go_sem]) rfl ⟨rfl, below_alloc (below_alloc (Below.refl _ _) _) _⟩
set_option maxRecDepth 100000 in
set_option maxHeartbeats 8000000 in
theorem turned_walk (a b m tol n0 n1 qs P N z n px py X Y V H wy fx fy lx ly : Int) (wb : Bool) (l : List Int) (A : Option Addr) (cap : Nat) (es : List E3) (D E F : List Dot) (w : World) (ia : I64 a) (ib : I64 b) (it : I64 tol) (i0 : I64 n0) (i1 : I64 n1) (iq : I64 qs) (hm : wrap64 (a * 37) = m)
    (hE : Ents w A es) (hI : ∀ e ∈ es, I64 e.a ∧ I64 e.b ∧ I64 e.c) (hn : (es.length : Int) ≤ 9223372036854775807)
    (hD : madeD a b m es = D) (hP : pickI a 40 = P) (hN : 1 + pickI b 999 = N) (hz : pickI tol 400 = z) (hq : pickI qs 40 = n) (hx : pickI n0 4096 = px) (hy : pickI n1 4096 = py)
    (hval : validB P N D = true) (hvE : validB P N E = true) (hvF : validB P N F = true)
    (h1 : turnD ((1 : Int) % 4).toNat D = E) (h2 : turnD ((-1 : Int) % 4).toNat E = D) (h3 : turnD ((4 : Int) % 4).toNat D = D) (h4 : turnD (n % 4).toNat D = F) (h5 : turnD ((-n) % 4).toNat F = D) (h6 : turnD ((n + 4) % 4).toNat D = F)
    (hbox : boxF D = (X, Y, V, H)) (_bx : 0 ≤ X ∧ 0 ≤ V ∧ X + V ≤ 4095) (_by : 0 ≤ Y ∧ 0 ≤ H ∧ Y + H ≤ 4095) (hbE : boxF E = (4095 - Y - H, X, H, V)) (hw : wayF D = wy) (hwE : wayF E = wy) (hT : natI (thinF D z) = l) (hTE : natI (thinF E z) = l) (hl : (l.length : Int) ≤ 4611686018427387904)
    (p1 : pv (dotAt D 0).x (dotAt D 0).y = .agg #[.int .i64 fx, .int .i64 fy]) (p2 : pv (dotAt D (D.length - 1)).x (dotAt D (D.length - 1)).y = .agg #[.int .i64 lx, .int .i64 ly]) (p3 : pv (dotAt E 0).x (dotAt E 0).y = .agg #[.int .i64 (4095 - fy), .int .i64 fx]) (p4 : pv (dotAt E (E.length - 1)).x (dotAt E (E.length - 1)).y = .agg #[.int .i64 (4095 - ly), .int .i64 lx])
    (bf : (0 ≤ fx ∧ fx ≤ 4095) ∧ 0 ≤ fy ∧ fy ≤ 4095) (bl : (0 ≤ lx ∧ lx ≤ 4095) ∧ 0 ≤ ly ∧ ly ≤ 4095) (hwi : withinF D px py z = wb) (hwt : withinF E (4095 - py) px z = wb) :
    Calls Try.prog 6 #[.int .i64 a, .int .i64 b, .slice A es.length cap, .agg #[.int .i64 n0, .int .i64 n1], .int .i64 qs, .int .i64 tol] w fun e w' => e = .returned (.bool true) ∧ Below w.heap.size w w' := by
  have Hhm := Lib.hid hm
  clear hm
  have HhE := Lib.hid hE
  clear hE
  have HhI := Lib.hid hI
  clear hI
  have HhD := Lib.hid hD
  clear hD
  have HhP := Lib.hid hP
  clear hP
  have HhN := Lib.hid hN
  clear hN
  have Hhz := Lib.hid hz
  clear hz
  have Hhq := Lib.hid hq
  clear hq
  have Hhx := Lib.hid hx
  clear hx
  have Hhy := Lib.hid hy
  clear hy
  have Hhval := Lib.hid hval
  clear hval
  have HhvE := Lib.hid hvE
  clear hvE
  have HhvF := Lib.hid hvF
  clear hvF
  have Hh1 := Lib.hid h1
  clear h1
  have Hh2 := Lib.hid h2
  clear h2
  have Hh3 := Lib.hid h3
  clear h3
  have Hh4 := Lib.hid h4
  clear h4
  have Hh5 := Lib.hid h5
  clear h5
  have Hh6 := Lib.hid h6
  clear h6
  have Hhbox := Lib.hid hbox
  clear hbox
  have HhbE := Lib.hid hbE
  clear hbE
  have Hhw := Lib.hid hw
  clear hw
  have HhwE := Lib.hid hwE
  clear hwE
  have HhT := Lib.hid hT
  clear hT
  have HhTE := Lib.hid hTE
  clear hTE
  have Hp1 := Lib.hid p1
  clear p1
  have Hp2 := Lib.hid p2
  clear p2
  have Hp3 := Lib.hid p3
  clear p3
  have Hp4 := Lib.hid p4
  clear p4
  have Hhwi := Lib.hid hwi
  clear hwi
  have Hhwt := Lib.hid hwt
  clear hwt
  have bz : 0 ≤ z ∧ z ≤ 399 := by have := pickI_bd tol (n := 400) (by omega); rw [Hhz.out] at this; omega
  have bn : 0 ≤ n ∧ n ≤ 39 := by have := pickI_bd qs (n := 40) (by omega); rw [Hhq.out] at this; omega
  have bpx : 0 ≤ px ∧ px ≤ 4095 := by have := pickI_bd n0 (n := 4096) (by omega); rw [Hhx.out] at this; omega
  have bpy : 0 ≤ py ∧ py ≤ 4095 := by have := pickI_bd n1 (n := 4096) (by omega); rw [Hhy.out] at this; omega
  have zi : isInB z 0 1000 = true := isInB_iff.2 ⟨by omega, by omega⟩
  have hnD : (D.length : Int) ≤ 4611686018427387904 := by have := (valid_len Hhval.out).1; omega
  have hnF : (F.length : Int) ≤ 4611686018427387904 := by have := (valid_len HhvF.out).1; omega
  go_enter Try.func6, Try.ntmps6
  go_wp2_with fail
  have hB := Below.refl w.heap.size w
  have hEn := HhE.out
  clear HhE
  have hA : Below w.heap.size w (w.alloc (.cells #[.int .i64 n0, .int .i64 n1] 31)) := below_alloc (Below.refl _ _) _
  replace hB := below_next hB hA
  replace hEn := hEn.below hA
  have x0 : (w.alloc (.cells #[.int .i64 n0, .int .i64 n1] 31)).cell? ⟨w.heap.size, 0, none⟩ = some (.int .i64 n0) := new_cell rfl
  have x1 : (w.alloc (.cells #[.int .i64 n0, .int .i64 n1] 31)).cell? ⟨w.heap.size, 1, none⟩ = some (.int .i64 n1) := new_cell rfl
  obtain ⟨v_1, hv_1⟩ : ∃ vv_ : World, (w.alloc (.cells #[.int .i64 n0, .int .i64 n1] 31)) = vv_ := ⟨_, rfl⟩
  rw [hv_1] at hB hEn x0 x1 ⊢
  clear hA hv_1
  have HEn := Lib.hid hEn
  clear hEn
  refine (sane_any _).mono ?_
  rintro e w_2 ⟨rfl, bq⟩
  replace hB := below_next hB bq
  replace HEn := Lib.hid (HEn.out.below bq)
  replace x0 := cell_then bq x0
  replace x1 := cell_then bq x1
  clear bq
  have lx0 := lt_size x0
  go_wp2_with fail
  refine (made_any a b m A cap es _ ia ib Hhm.out HEn.out HhI.out hn).mono ?_
  rintro e w_3 ⟨g, cp, rfl, hgs, sD, hcp, hcp2, bq⟩
  rw [HhD.out] at sD hcp ⊢
  rw [HhP.out, HhN.out]
  clear hgs
  clear lx0
  replace hB := below_next hB bq
  replace HEn := Lib.hid (HEn.out.below bq)
  replace x0 := cell_then bq x0
  replace x1 := cell_then bq x1
  clear bq
  have lx0 := lt_size x0
  go_wp2_with fail
  clear HEn
  have hA : Below w_3.heap.size w_3 (w_3.alloc (.cells #[.int .i64 P, .int .i64 N, .slice (some ⟨g, 0, none⟩) D.length cp] 27)) := below_alloc (Below.refl _ _) _
  clear lx0
  replace hB := below_next hB hA
  replace x0 := cell_then hA x0
  replace x1 := cell_then hA x1
  replace sD := sD.below hA
  have s0 : (w_3.alloc (.cells #[.int .i64 P, .int .i64 N, .slice (some ⟨g, 0, none⟩) D.length cp] 27)).cell? ⟨w_3.heap.size, 0, none⟩ = some (.int .i64 P) := new_cell rfl
  have s1 : (w_3.alloc (.cells #[.int .i64 P, .int .i64 N, .slice (some ⟨g, 0, none⟩) D.length cp] 27)).cell? ⟨w_3.heap.size, 1, none⟩ = some (.int .i64 N) := new_cell rfl
  have s2 : (w_3.alloc (.cells #[.int .i64 P, .int .i64 N, .slice (some ⟨g, 0, none⟩) D.length cp] 27)).cell? ⟨w_3.heap.size, 2, none⟩ = some (.slice (some ⟨g, 0, none⟩) D.length cp) := new_cell rfl
  obtain ⟨v_4, hv_4⟩ : ∃ vv_ : World, (w_3.alloc (.cells #[.int .i64 P, .int .i64 N, .slice (some ⟨g, 0, none⟩) D.length cp] 27)) = vv_ := ⟨_, rfl⟩
  rw [hv_4] at hB x0 x1 sD s0 s1 s2 ⊢
  clear hA hv_4
  have lx0 := lt_size x0
  have ls0 := lt_size s0
  refine (pickL_any _ _ _ it (by omega) (by omega)).mono ?_
  rintro e w_5 ⟨rfl, rfl⟩
  rw [Hhz.out]
  clear lx0 ls0
  have lx0 := lt_size x0
  have ls0 := lt_size s0
  go_wp2_with fail
  refine (pickL_any _ _ _ iq (by omega) (by omega)).mono ?_
  rintro e w_6 ⟨rfl, rfl⟩
  rw [Hhq.out]
  clear lx0 ls0
  have lx0 := lt_size x0
  have ls0 := lt_size s0
  go_wp2_with fail
  clear lx0 ls0
  have lx0 := lt_size x0
  have ls0 := lt_size s0
  apply wp_same
  case hreg =>
    go_region_held3 (fun w' => Below v_4.heap.size v_4 w' ∧ w'.cell? ⟨w.heap.size, 0, none⟩ = some (.int .i64 n0) ∧ w'.cell? ⟨w.heap.size, 1, none⟩ = some (.int .i64 n1)) ((suffices hB : Below v_4.heap.size v_4 _ from ⟨hB, cell_then hB ‹_›, cell_then hB ‹_›⟩; repeat (first | with_reducible exact Below.refl _ _ | with_reducible refine below_alloc ?_ _ | with_reducible refine Below.setCell ?_ (by dsimp only; omega) _ | with_reducible refine Below.drew ?_ | with_reducible refine below_next ?_ ‹Below _ _ _›))) (first | (go_at_call 12; refine (pickL_any _ _ _ (by assumption) (by omega) (by omega)).mono ?_; rintro e w' ⟨rfl, rfl⟩))
    all_goals exact EndsIn.mk
  case hcont =>
    clear lx0 ls0
    have lx0 := lt_size x0
    have ls0 := lt_size s0
    go_wp2_with fail
    rw [Hhx.out, Hhy.out]
    have hA : Below v_4.heap.size v_4 (v_4.alloc (.cells #[.int .i64 px, .int .i64 py] 29)).drew := (below_alloc (Below.refl _ _) _).drew
    clear lx0 ls0
    replace hB := below_next hB hA
    replace x0 := cell_then hA x0
    replace x1 := cell_then hA x1
    replace sD := sD.below hA
    replace s0 := cell_then hA s0
    replace s1 := cell_then hA s1
    replace s2 := cell_then hA s2
    have o0 : (v_4.alloc (.cells #[.int .i64 px, .int .i64 py] 29)).drew.cell? ⟨v_4.heap.size, 0, none⟩ = some (.int .i64 px) := drew_cell (new_cell rfl)
    have o1 : (v_4.alloc (.cells #[.int .i64 px, .int .i64 py] 29)).drew.cell? ⟨v_4.heap.size, 1, none⟩ = some (.int .i64 py) := drew_cell (new_cell rfl)
    obtain ⟨v_7, hv_7⟩ : ∃ vv_ : World, (v_4.alloc (.cells #[.int .i64 px, .int .i64 py] 29)).drew = vv_ := ⟨_, rfl⟩
    rw [hv_7] at hB x0 x1 sD s0 s1 s2 o0 o1 ⊢
    clear hA hv_7
    clear x0 x1
    refine (turned_yes P N _ cp D (1) _ ⟨by omega, by omega⟩ sD Hhval.out).mono ?_
    rintro e w_8 ⟨gt, ct, rfl, hgt, tD, hct, hdt, bq⟩
    rw [Hh1.out] at tD hct ⊢
    clear hgt
    replace hB := below_next hB bq
    replace sD := sD.below bq
    replace s0 := cell_then bq s0
    replace s1 := cell_then bq s1
    replace s2 := cell_then bq s2
    replace o0 := cell_then bq o0
    replace o1 := cell_then bq o1
    clear bq
    have ls0 := lt_size s0
    have lo0 := lt_size o0
    go_wp2_with fail
    have hA : Below w_8.heap.size w_8 (w_8.alloc (.cells #[.int .i64 P, .int .i64 N, .slice (some ⟨gt, 0, none⟩) E.length ct] 27)) := below_alloc (Below.refl _ _) _
    clear ls0 lo0
    replace hB := below_next hB hA
    replace sD := sD.below hA
    replace s0 := cell_then hA s0
    replace s1 := cell_then hA s1
    replace s2 := cell_then hA s2
    replace o0 := cell_then hA o0
    replace o1 := cell_then hA o1
    replace tD := tD.below hA
    have t0 : (w_8.alloc (.cells #[.int .i64 P, .int .i64 N, .slice (some ⟨gt, 0, none⟩) E.length ct] 27)).cell? ⟨w_8.heap.size, 0, none⟩ = some (.int .i64 P) := new_cell rfl
    have t1 : (w_8.alloc (.cells #[.int .i64 P, .int .i64 N, .slice (some ⟨gt, 0, none⟩) E.length ct] 27)).cell? ⟨w_8.heap.size, 1, none⟩ = some (.int .i64 N) := new_cell rfl
    have t2 : (w_8.alloc (.cells #[.int .i64 P, .int .i64 N, .slice (some ⟨gt, 0, none⟩) E.length ct] 27)).cell? ⟨w_8.heap.size, 2, none⟩ = some (.slice (some ⟨gt, 0, none⟩) E.length ct) := new_cell rfl
    obtain ⟨v_9, hv_9⟩ : ∃ vv_ : World, (w_8.alloc (.cells #[.int .i64 P, .int .i64 N, .slice (some ⟨gt, 0, none⟩) E.length ct] 27)) = vv_ := ⟨_, rfl⟩
    rw [hv_9] at hB sD s0 s1 s2 o0 o1 tD t0 t1 t2 ⊢
    clear hA hv_9
    have ls0 := lt_size s0
    have lo0 := lt_size o0
    have lt0 := lt_size t0
    go_wp2_with fail
    refine (turned_yes P N _ ct E (-1) _ ⟨by omega, by omega⟩ tD HhvE.out).mono ?_
    rintro e w_10 ⟨gu, cu, rfl, hgu, uD, hcu, hdu, bq⟩
    rw [Hh2.out] at uD hcu ⊢
    clear hgu
    clear ls0 lo0 lt0
    replace hB := below_next hB bq
    replace sD := sD.below bq
    replace s0 := cell_then bq s0
    replace s1 := cell_then bq s1
    replace s2 := cell_then bq s2
    replace o0 := cell_then bq o0
    replace o1 := cell_then bq o1
    replace tD := tD.below bq
    replace t0 := cell_then bq t0
    replace t1 := cell_then bq t1
    replace t2 := cell_then bq t2
    clear bq
    have ls0 := lt_size s0
    have lo0 := lt_size o0
    have lt0 := lt_size t0
    go_wp2_with fail
    have hA : Below w_10.heap.size w_10 (w_10.alloc (.cells #[.int .i64 P, .int .i64 N, .slice (some ⟨gu, 0, none⟩) D.length cu] 27)) := below_alloc (Below.refl _ _) _
    clear ls0 lo0 lt0
    replace hB := below_next hB hA
    replace sD := sD.below hA
    replace s0 := cell_then hA s0
    replace s1 := cell_then hA s1
    replace s2 := cell_then hA s2
    replace o0 := cell_then hA o0
    replace o1 := cell_then hA o1
    replace tD := tD.below hA
    replace t0 := cell_then hA t0
    replace t1 := cell_then hA t1
    replace t2 := cell_then hA t2
    replace uD := uD.below hA
    have u0 : (w_10.alloc (.cells #[.int .i64 P, .int .i64 N, .slice (some ⟨gu, 0, none⟩) D.length cu] 27)).cell? ⟨w_10.heap.size, 0, none⟩ = some (.int .i64 P) := new_cell rfl
    have u1 : (w_10.alloc (.cells #[.int .i64 P, .int .i64 N, .slice (some ⟨gu, 0, none⟩) D.length cu] 27)).cell? ⟨w_10.heap.size, 1, none⟩ = some (.int .i64 N) := new_cell rfl
    have u2 : (w_10.alloc (.cells #[.int .i64 P, .int .i64 N, .slice (some ⟨gu, 0, none⟩) D.length cu] 27)).cell? ⟨w_10.heap.size, 2, none⟩ = some (.slice (some ⟨gu, 0, none⟩) D.length cu) := new_cell rfl
    obtain ⟨v_11, hv_11⟩ : ∃ vv_ : World, (w_10.alloc (.cells #[.int .i64 P, .int .i64 N, .slice (some ⟨gu, 0, none⟩) D.length cu] 27)) = vv_ := ⟨_, rfl⟩
    rw [hv_11] at hB sD s0 s1 s2 o0 o1 tD t0 t1 t2 uD u0 u1 u2 ⊢
    clear hA hv_11
    have ls0 := lt_size s0
    have lo0 := lt_size o0
    have lt0 := lt_size t0
    have lu0 := lt_size u0
    go_wp2_with fail
    refine (turned_yes P N _ cp D (4) _ ⟨by omega, by omega⟩ sD Hhval.out).mono ?_
    rintro e w_12 ⟨gv, cv, rfl, hgv, vD, hcv, hdv, bq⟩
    rw [Hh3.out] at vD hcv ⊢
    clear hgv
    clear ls0 lo0 lt0 lu0
    replace hB := below_next hB bq
    replace sD := sD.below bq
    replace s0 := cell_then bq s0
    replace s1 := cell_then bq s1
    replace s2 := cell_then bq s2
    replace o0 := cell_then bq o0
    replace o1 := cell_then bq o1
    replace tD := tD.below bq
    replace t0 := cell_then bq t0
    replace t1 := cell_then bq t1
    replace t2 := cell_then bq t2
    replace uD := uD.below bq
    replace u0 := cell_then bq u0
    replace u1 := cell_then bq u1
    replace u2 := cell_then bq u2
    clear bq
    have ls0 := lt_size s0
    have lo0 := lt_size o0
    have lt0 := lt_size t0
    have lu0 := lt_size u0
    go_wp2_with fail
    have hA : Below w_12.heap.size w_12 (w_12.alloc (.cells #[.int .i64 P, .int .i64 N, .slice (some ⟨gv, 0, none⟩) D.length cv] 27)) := below_alloc (Below.refl _ _) _
    clear ls0 lo0 lt0 lu0
    replace hB := below_next hB hA
    replace sD := sD.below hA
    replace s0 := cell_then hA s0
    replace s1 := cell_then hA s1
    replace s2 := cell_then hA s2
    replace o0 := cell_then hA o0
    replace o1 := cell_then hA o1
    replace tD := tD.below hA
    replace t0 := cell_then hA t0
    replace t1 := cell_then hA t1
    replace t2 := cell_then hA t2
    replace uD := uD.below hA
    replace u0 := cell_then hA u0
    replace u1 := cell_then hA u1
    replace u2 := cell_then hA u2
    replace vD := vD.below hA
    have v0 : (w_12.alloc (.cells #[.int .i64 P, .int .i64 N, .slice (some ⟨gv, 0, none⟩) D.length cv] 27)).cell? ⟨w_12.heap.size, 0, none⟩ = some (.int .i64 P) := new_cell rfl
    have v1 : (w_12.alloc (.cells #[.int .i64 P, .int .i64 N, .slice (some ⟨gv, 0, none⟩) D.length cv] 27)).cell? ⟨w_12.heap.size, 1, none⟩ = some (.int .i64 N) := new_cell rfl
    have v2 : (w_12.alloc (.cells #[.int .i64 P, .int .i64 N, .slice (some ⟨gv, 0, none⟩) D.length cv] 27)).cell? ⟨w_12.heap.size, 2, none⟩ = some (.slice (some ⟨gv, 0, none⟩) D.length cv) := new_cell rfl
    obtain ⟨v_13, hv_13⟩ : ∃ vv_ : World, (w_12.alloc (.cells #[.int .i64 P, .int .i64 N, .slice (some ⟨gv, 0, none⟩) D.length cv] 27)) = vv_ := ⟨_, rfl⟩
    rw [hv_13] at hB sD s0 s1 s2 o0 o1 tD t0 t1 t2 uD u0 u1 u2 vD v0 v1 v2 ⊢
    clear hA hv_13
    have ls0 := lt_size s0
    have lo0 := lt_size o0
    have lt0 := lt_size t0
    have lu0 := lt_size u0
    have lv0 := lt_size v0
    go_wp2_with fail
    refine (turned_yes P N _ cp D (n) _ ⟨by omega, by omega⟩ sD Hhval.out).mono ?_
    rintro e w_14 ⟨gw, cw, rfl, hgw, wD, hcw, hdw, bq⟩
    rw [Hh4.out] at wD hcw ⊢
    clear hgw
    clear ls0 lo0 lt0 lu0 lv0
    replace hB := below_next hB bq
    replace sD := sD.below bq
    replace s0 := cell_then bq s0
    replace s1 := cell_then bq s1
    replace s2 := cell_then bq s2
    replace o0 := cell_then bq o0
    replace o1 := cell_then bq o1
    replace tD := tD.below bq
    replace t0 := cell_then bq t0
    replace t1 := cell_then bq t1
    replace t2 := cell_then bq t2
    replace uD := uD.below bq
    replace u0 := cell_then bq u0
    replace u1 := cell_then bq u1
    replace u2 := cell_then bq u2
    replace vD := vD.below bq
    replace v0 := cell_then bq v0
    replace v1 := cell_then bq v1
    replace v2 := cell_then bq v2
    clear bq
    have ls0 := lt_size s0
    have lo0 := lt_size o0
    have lt0 := lt_size t0
    have lu0 := lt_size u0
    have lv0 := lt_size v0
    go_wp2_with fail
    have hA : Below w_14.heap.size w_14 (w_14.alloc (.cells #[.int .i64 P, .int .i64 N, .slice (some ⟨gw, 0, none⟩) F.length cw] 27)) := below_alloc (Below.refl _ _) _
    clear ls0 lo0 lt0 lu0 lv0
    replace hB := below_next hB hA
    replace sD := sD.below hA
    replace s0 := cell_then hA s0
    replace s1 := cell_then hA s1
    replace s2 := cell_then hA s2
    replace o0 := cell_then hA o0
    replace o1 := cell_then hA o1
    replace tD := tD.below hA
    replace t0 := cell_then hA t0
    replace t1 := cell_then hA t1
    replace t2 := cell_then hA t2
    replace uD := uD.below hA
    replace u0 := cell_then hA u0
    replace u1 := cell_then hA u1
    replace u2 := cell_then hA u2
    replace vD := vD.below hA
    replace v0 := cell_then hA v0
    replace v1 := cell_then hA v1
    replace v2 := cell_then hA v2
    replace wD := wD.below hA
    have w0 : (w_14.alloc (.cells #[.int .i64 P, .int .i64 N, .slice (some ⟨gw, 0, none⟩) F.length cw] 27)).cell? ⟨w_14.heap.size, 0, none⟩ = some (.int .i64 P) := new_cell rfl
    have w1 : (w_14.alloc (.cells #[.int .i64 P, .int .i64 N, .slice (some ⟨gw, 0, none⟩) F.length cw] 27)).cell? ⟨w_14.heap.size, 1, none⟩ = some (.int .i64 N) := new_cell rfl
    have w2 : (w_14.alloc (.cells #[.int .i64 P, .int .i64 N, .slice (some ⟨gw, 0, none⟩) F.length cw] 27)).cell? ⟨w_14.heap.size, 2, none⟩ = some (.slice (some ⟨gw, 0, none⟩) F.length cw) := new_cell rfl
    obtain ⟨v_15, hv_15⟩ : ∃ vv_ : World, (w_14.alloc (.cells #[.int .i64 P, .int .i64 N, .slice (some ⟨gw, 0, none⟩) F.length cw] 27)) = vv_ := ⟨_, rfl⟩
    rw [hv_15] at hB sD s0 s1 s2 o0 o1 tD t0 t1 t2 uD u0 u1 u2 vD v0 v1 v2 wD w0 w1 w2 ⊢
    clear hA hv_15
    have ls0 := lt_size s0
    have lo0 := lt_size o0
    have lt0 := lt_size t0
    have lu0 := lt_size u0
    have lv0 := lt_size v0
    have lw0 := lt_size w0
    go_wp2_with fail
    refine (turned_yes P N _ cw F (-n) _ ⟨by omega, by omega⟩ wD HhvF.out).mono ?_
    rintro e w_16 ⟨gb, cb, rfl, hgb, bD, hcb, hdb, bq⟩
    rw [Hh5.out] at bD hcb ⊢
    clear hgb
    clear ls0 lo0 lt0 lu0 lv0 lw0
    replace hB := below_next hB bq
    replace sD := sD.below bq
    replace s0 := cell_then bq s0
    replace s1 := cell_then bq s1
    replace s2 := cell_then bq s2
    replace o0 := cell_then bq o0
    replace o1 := cell_then bq o1
    replace tD := tD.below bq
    replace t0 := cell_then bq t0
    replace t1 := cell_then bq t1
    replace t2 := cell_then bq t2
    replace uD := uD.below bq
    replace u0 := cell_then bq u0
    replace u1 := cell_then bq u1
    replace u2 := cell_then bq u2
    replace vD := vD.below bq
    replace v0 := cell_then bq v0
    replace v1 := cell_then bq v1
    replace v2 := cell_then bq v2
    replace wD := wD.below bq
    replace w0 := cell_then bq w0
    replace w1 := cell_then bq w1
    replace w2 := cell_then bq w2
    clear bq
    have ls0 := lt_size s0
    have lo0 := lt_size o0
    have lt0 := lt_size t0
    have lu0 := lt_size u0
    have lv0 := lt_size v0
    have lw0 := lt_size w0
    go_wp2_with fail
    have hA : Below w_16.heap.size w_16 (w_16.alloc (.cells #[.int .i64 P, .int .i64 N, .slice (some ⟨gb, 0, none⟩) D.length cb] 27)) := below_alloc (Below.refl _ _) _
    clear ls0 lo0 lt0 lu0 lv0 lw0
    replace hB := below_next hB hA
    replace sD := sD.below hA
    replace s0 := cell_then hA s0
    replace s1 := cell_then hA s1
    replace s2 := cell_then hA s2
    replace o0 := cell_then hA o0
    replace o1 := cell_then hA o1
    replace tD := tD.below hA
    replace t0 := cell_then hA t0
    replace t1 := cell_then hA t1
    replace t2 := cell_then hA t2
    replace uD := uD.below hA
    replace u0 := cell_then hA u0
    replace u1 := cell_then hA u1
    replace u2 := cell_then hA u2
    replace vD := vD.below hA
    replace v0 := cell_then hA v0
    replace v1 := cell_then hA v1
    replace v2 := cell_then hA v2
    replace wD := wD.below hA
    replace w0 := cell_then hA w0
    replace w1 := cell_then hA w1
    replace w2 := cell_then hA w2
    replace bD := bD.below hA
    have b0 : (w_16.alloc (.cells #[.int .i64 P, .int .i64 N, .slice (some ⟨gb, 0, none⟩) D.length cb] 27)).cell? ⟨w_16.heap.size, 0, none⟩ = some (.int .i64 P) := new_cell rfl
    have b1 : (w_16.alloc (.cells #[.int .i64 P, .int .i64 N, .slice (some ⟨gb, 0, none⟩) D.length cb] 27)).cell? ⟨w_16.heap.size, 1, none⟩ = some (.int .i64 N) := new_cell rfl
    have b2 : (w_16.alloc (.cells #[.int .i64 P, .int .i64 N, .slice (some ⟨gb, 0, none⟩) D.length cb] 27)).cell? ⟨w_16.heap.size, 2, none⟩ = some (.slice (some ⟨gb, 0, none⟩) D.length cb) := new_cell rfl
    obtain ⟨v_17, hv_17⟩ : ∃ vv_ : World, (w_16.alloc (.cells #[.int .i64 P, .int .i64 N, .slice (some ⟨gb, 0, none⟩) D.length cb] 27)) = vv_ := ⟨_, rfl⟩
    rw [hv_17] at hB sD s0 s1 s2 o0 o1 tD t0 t1 t2 uD u0 u1 u2 vD v0 v1 v2 wD w0 w1 w2 bD b0 b1 b2 ⊢
    clear hA hv_17
    have ls0 := lt_size s0
    have lo0 := lt_size o0
    have lt0 := lt_size t0
    have lu0 := lt_size u0
    have lv0 := lt_size v0
    have lw0 := lt_size w0
    have lb0 := lt_size b0
    go_wp2_with fail
    refine (turned_yes P N _ cp D (n + 4) _ ⟨by omega, by omega⟩ sD Hhval.out).mono ?_
    rintro e w_18 ⟨ge, ce, rfl, hge, eD, hce, hde, bq⟩
    rw [Hh6.out] at eD hce ⊢
    clear hge
    clear ls0 lo0 lt0 lu0 lv0 lw0 lb0
    replace hB := below_next hB bq
    replace sD := sD.below bq
    replace s0 := cell_then bq s0
    replace s1 := cell_then bq s1
    replace s2 := cell_then bq s2
    replace o0 := cell_then bq o0
    replace o1 := cell_then bq o1
    replace tD := tD.below bq
    replace t0 := cell_then bq t0
    replace t1 := cell_then bq t1
    replace t2 := cell_then bq t2
    replace uD := uD.below bq
    replace u0 := cell_then bq u0
    replace u1 := cell_then bq u1
    replace u2 := cell_then bq u2
    replace vD := vD.below bq
    replace v0 := cell_then bq v0
    replace v1 := cell_then bq v1
    replace v2 := cell_then bq v2
    replace wD := wD.below bq
    replace w0 := cell_then bq w0
    replace w1 := cell_then bq w1
    replace w2 := cell_then bq w2
    replace bD := bD.below bq
    replace b0 := cell_then bq b0
    replace b1 := cell_then bq b1
    replace b2 := cell_then bq b2
    clear bq
    have ls0 := lt_size s0
    have lo0 := lt_size o0
    have lt0 := lt_size t0
    have lu0 := lt_size u0
    have lv0 := lt_size v0
    have lw0 := lt_size w0
    have lb0 := lt_size b0
    go_wp2_with fail
    have hA : Below w_18.heap.size w_18 (w_18.alloc (.cells #[.int .i64 P, .int .i64 N, .slice (some ⟨ge, 0, none⟩) F.length ce] 27)) := below_alloc (Below.refl _ _) _
    clear ls0 lo0 lt0 lu0 lv0 lw0 lb0
    replace hB := below_next hB hA
    replace sD := sD.below hA
    replace s0 := cell_then hA s0
    replace s1 := cell_then hA s1
    replace s2 := cell_then hA s2
    replace o0 := cell_then hA o0
    replace o1 := cell_then hA o1
    replace tD := tD.below hA
    replace t0 := cell_then hA t0
    replace t1 := cell_then hA t1
    replace t2 := cell_then hA t2
    replace uD := uD.below hA
    replace u0 := cell_then hA u0
    replace u1 := cell_then hA u1
    replace u2 := cell_then hA u2
    replace vD := vD.below hA
    replace v0 := cell_then hA v0
    replace v1 := cell_then hA v1
    replace v2 := cell_then hA v2
    replace wD := wD.below hA
    replace w0 := cell_then hA w0
    replace w1 := cell_then hA w1
    replace w2 := cell_then hA w2
    replace bD := bD.below hA
    replace b0 := cell_then hA b0
    replace b1 := cell_then hA b1
    replace b2 := cell_then hA b2
    replace eD := eD.below hA
    have e0 : (w_18.alloc (.cells #[.int .i64 P, .int .i64 N, .slice (some ⟨ge, 0, none⟩) F.length ce] 27)).cell? ⟨w_18.heap.size, 0, none⟩ = some (.int .i64 P) := new_cell rfl
    have e1 : (w_18.alloc (.cells #[.int .i64 P, .int .i64 N, .slice (some ⟨ge, 0, none⟩) F.length ce] 27)).cell? ⟨w_18.heap.size, 1, none⟩ = some (.int .i64 N) := new_cell rfl
    have e2 : (w_18.alloc (.cells #[.int .i64 P, .int .i64 N, .slice (some ⟨ge, 0, none⟩) F.length ce] 27)).cell? ⟨w_18.heap.size, 2, none⟩ = some (.slice (some ⟨ge, 0, none⟩) F.length ce) := new_cell rfl
    obtain ⟨v_19, hv_19⟩ : ∃ vv_ : World, (w_18.alloc (.cells #[.int .i64 P, .int .i64 N, .slice (some ⟨ge, 0, none⟩) F.length ce] 27)) = vv_ := ⟨_, rfl⟩
    rw [hv_19] at hB sD s0 s1 s2 o0 o1 tD t0 t1 t2 uD u0 u1 u2 vD v0 v1 v2 wD w0 w1 w2 bD b0 b1 b2 eD e0 e1 e2 ⊢
    clear hA hv_19
    have ls0 := lt_size s0
    have lo0 := lt_size o0
    have lt0 := lt_size t0
    have lu0 := lt_size u0
    have lv0 := lt_size v0
    have lw0 := lt_size w0
    have lb0 := lt_size b0
    have le0 := lt_size e0
    go_wp2_with fail
    refine (sameR_any P N P N _ _ cu cp D D _ uD sD hnD).mono ?_
    rintro e w_20 ⟨rfl, bq⟩
    clear ls0 lo0 lt0 lu0 lv0 lw0 lb0 le0
    replace hB := below_next hB bq
    replace sD := sD.below bq
    replace s0 := cell_then bq s0
    replace s1 := cell_then bq s1
    replace s2 := cell_then bq s2
    replace o0 := cell_then bq o0
    replace o1 := cell_then bq o1
    replace tD := tD.below bq
    replace t0 := cell_then bq t0
    replace t1 := cell_then bq t1
    replace t2 := cell_then bq t2
    replace uD := uD.below bq
    replace u0 := cell_then bq u0
    replace u1 := cell_then bq u1
    replace u2 := cell_then bq u2
    replace vD := vD.below bq
    replace v0 := cell_then bq v0
    replace v1 := cell_then bq v1
    replace v2 := cell_then bq v2
    replace wD := wD.below bq
    replace w0 := cell_then bq w0
    replace w1 := cell_then bq w1
    replace w2 := cell_then bq w2
    replace bD := bD.below bq
    replace b0 := cell_then bq b0
    replace b1 := cell_then bq b1
    replace b2 := cell_then bq b2
    replace eD := eD.below bq
    replace e0 := cell_then bq e0
    replace e1 := cell_then bq e1
    replace e2 := cell_then bq e2
    clear bq
    rw [same_self2]
    have ls0 := lt_size s0
    have lo0 := lt_size o0
    have lt0 := lt_size t0
    have lu0 := lt_size u0
    have lv0 := lt_size v0
    have lw0 := lt_size w0
    have lb0 := lt_size b0
    have le0 := lt_size e0
    go_wp2_with fail
    refine (sameR_any P N P N _ _ cv cp D D _ vD sD hnD).mono ?_
    rintro e w_21 ⟨rfl, bq⟩
    clear ls0 lo0 lt0 lu0 lv0 lw0 lb0 le0
    replace hB := below_next hB bq
    replace sD := sD.below bq
    replace s0 := cell_then bq s0
    replace s1 := cell_then bq s1
    replace s2 := cell_then bq s2
    replace o0 := cell_then bq o0
    replace o1 := cell_then bq o1
    replace tD := tD.below bq
    replace t0 := cell_then bq t0
    replace t1 := cell_then bq t1
    replace t2 := cell_then bq t2
    replace uD := uD.below bq
    replace u0 := cell_then bq u0
    replace u1 := cell_then bq u1
    replace u2 := cell_then bq u2
    replace vD := vD.below bq
    replace v0 := cell_then bq v0
    replace v1 := cell_then bq v1
    replace v2 := cell_then bq v2
    replace wD := wD.below bq
    replace w0 := cell_then bq w0
    replace w1 := cell_then bq w1
    replace w2 := cell_then bq w2
    replace bD := bD.below bq
    replace b0 := cell_then bq b0
    replace b1 := cell_then bq b1
    replace b2 := cell_then bq b2
    replace eD := eD.below bq
    replace e0 := cell_then bq e0
    replace e1 := cell_then bq e1
    replace e2 := cell_then bq e2
    clear bq
    rw [same_self2]
    have ls0 := lt_size s0
    have lo0 := lt_size o0
    have lt0 := lt_size t0
    have lu0 := lt_size u0
    have lv0 := lt_size v0
    have lw0 := lt_size w0
    have lb0 := lt_size b0
    have le0 := lt_size e0
    go_wp2_with fail
    refine (sameR_any P N P N _ _ cb cp D D _ bD sD hnD).mono ?_
    rintro e w_22 ⟨rfl, bq⟩
    clear ls0 lo0 lt0 lu0 lv0 lw0 lb0 le0
    replace hB := below_next hB bq
    replace sD := sD.below bq
    replace s0 := cell_then bq s0
    replace s1 := cell_then bq s1
    replace s2 := cell_then bq s2
    replace o0 := cell_then bq o0
    replace o1 := cell_then bq o1
    replace tD := tD.below bq
    replace t0 := cell_then bq t0
    replace t1 := cell_then bq t1
    replace t2 := cell_then bq t2
    replace uD := uD.below bq
    replace u0 := cell_then bq u0
    replace u1 := cell_then bq u1
    replace u2 := cell_then bq u2
    replace vD := vD.below bq
    replace v0 := cell_then bq v0
    replace v1 := cell_then bq v1
    replace v2 := cell_then bq v2
    replace wD := wD.below bq
    replace w0 := cell_then bq w0
    replace w1 := cell_then bq w1
    replace w2 := cell_then bq w2
    replace bD := bD.below bq
    replace b0 := cell_then bq b0
    replace b1 := cell_then bq b1
    replace b2 := cell_then bq b2
    replace eD := eD.below bq
    replace e0 := cell_then bq e0
    replace e1 := cell_then bq e1
    replace e2 := cell_then bq e2
    clear bq
    rw [same_self2]
    have ls0 := lt_size s0
    have lo0 := lt_size o0
    have lt0 := lt_size t0
    have lu0 := lt_size u0
    have lv0 := lt_size v0
    have lw0 := lt_size w0
    have lb0 := lt_size b0
    have le0 := lt_size e0
    go_wp2_with fail
    refine (sameR_any P N P N _ _ ce cw F F _ eD wD hnF).mono ?_
    rintro e w_23 ⟨rfl, bq⟩
    clear ls0 lo0 lt0 lu0 lv0 lw0 lb0 le0
    replace hB := below_next hB bq
    replace sD := sD.below bq
    replace s0 := cell_then bq s0
    replace s1 := cell_then bq s1
    replace s2 := cell_then bq s2
    replace o0 := cell_then bq o0
    replace o1 := cell_then bq o1
    replace tD := tD.below bq
    replace t0 := cell_then bq t0
    replace t1 := cell_then bq t1
    replace t2 := cell_then bq t2
    replace uD := uD.below bq
    replace u0 := cell_then bq u0
    replace u1 := cell_then bq u1
    replace u2 := cell_then bq u2
    replace vD := vD.below bq
    replace v0 := cell_then bq v0
    replace v1 := cell_then bq v1
    replace v2 := cell_then bq v2
    replace wD := wD.below bq
    replace w0 := cell_then bq w0
    replace w1 := cell_then bq w1
    replace w2 := cell_then bq w2
    replace bD := bD.below bq
    replace b0 := cell_then bq b0
    replace b1 := cell_then bq b1
    replace b2 := cell_then bq b2
    replace eD := eD.below bq
    replace e0 := cell_then bq e0
    replace e1 := cell_then bq e1
    replace e2 := cell_then bq e2
    clear bq
    rw [same_self2]
    have ls0 := lt_size s0
    have lo0 := lt_size o0
    have lt0 := lt_size t0
    have lu0 := lt_size u0
    have lv0 := lt_size v0
    have lw0 := lt_size w0
    have lb0 := lt_size b0
    have le0 := lt_size e0
    go_wp2_with fail
    clear uD u0 u1 u2 vD v0 v1 v2 bD b0 b1 b2 eD e0 e1 e2 wD w0 w1 w2
    refine (box_yes P N _ cp D _ sD Hhval.out).mono ?_
    rintro e w_24 ⟨rfl, bq⟩
    clear ls0 lo0 lt0 lu0 lv0 lw0 lb0 le0
    replace hB := below_next hB bq
    replace sD := sD.below bq
    replace s0 := cell_then bq s0
    replace s1 := cell_then bq s1
    replace s2 := cell_then bq s2
    replace o0 := cell_then bq o0
    replace o1 := cell_then bq o1
    replace tD := tD.below bq
    replace t0 := cell_then bq t0
    replace t1 := cell_then bq t1
    replace t2 := cell_then bq t2
    clear bq
    rw [Hhbox.out]
    have ls0 := lt_size s0
    have lo0 := lt_size o0
    have lt0 := lt_size t0
    go_wp2_with fail
    have hA : Below w_24.heap.size w_24 (w_24.alloc (.cells #[.int .i64 X, .int .i64 Y, .int .i64 V, .int .i64 H] 40)) := below_alloc (Below.refl _ _) _
    clear ls0 lo0 lt0
    replace hB := below_next hB hA
    replace sD := sD.below hA
    replace s0 := cell_then hA s0
    replace s1 := cell_then hA s1
    replace s2 := cell_then hA s2
    replace o0 := cell_then hA o0
    replace o1 := cell_then hA o1
    replace tD := tD.below hA
    replace t0 := cell_then hA t0
    replace t1 := cell_then hA t1
    replace t2 := cell_then hA t2
    have r0 : (w_24.alloc (.cells #[.int .i64 X, .int .i64 Y, .int .i64 V, .int .i64 H] 40)).cell? ⟨w_24.heap.size, 0, none⟩ = some (.int .i64 X) := new_cell rfl
    have r1 : (w_24.alloc (.cells #[.int .i64 X, .int .i64 Y, .int .i64 V, .int .i64 H] 40)).cell? ⟨w_24.heap.size, 1, none⟩ = some (.int .i64 Y) := new_cell rfl
    have r2 : (w_24.alloc (.cells #[.int .i64 X, .int .i64 Y, .int .i64 V, .int .i64 H] 40)).cell? ⟨w_24.heap.size, 2, none⟩ = some (.int .i64 V) := new_cell rfl
    have r3 : (w_24.alloc (.cells #[.int .i64 X, .int .i64 Y, .int .i64 V, .int .i64 H] 40)).cell? ⟨w_24.heap.size, 3, none⟩ = some (.int .i64 H) := new_cell rfl
    obtain ⟨v_25, hv_25⟩ : ∃ vv_ : World, (w_24.alloc (.cells #[.int .i64 X, .int .i64 Y, .int .i64 V, .int .i64 H] 40)) = vv_ := ⟨_, rfl⟩
    rw [hv_25] at hB sD s0 s1 s2 o0 o1 tD t0 t1 t2 r0 r1 r2 r3 ⊢
    clear hA hv_25
    refine (box_yes P N _ ct E _ tD HhvE.out).mono ?_
    rintro e w_26 ⟨rfl, bq⟩
    replace hB := below_next hB bq
    replace sD := sD.below bq
    replace s0 := cell_then bq s0
    replace s1 := cell_then bq s1
    replace s2 := cell_then bq s2
    replace o0 := cell_then bq o0
    replace o1 := cell_then bq o1
    replace tD := tD.below bq
    replace t0 := cell_then bq t0
    replace t1 := cell_then bq t1
    replace t2 := cell_then bq t2
    replace r0 := cell_then bq r0
    replace r1 := cell_then bq r1
    replace r2 := cell_then bq r2
    replace r3 := cell_then bq r3
    clear bq
    rw [HhbE.out]
    have ls0 := lt_size s0
    have lo0 := lt_size o0
    have lt0 := lt_size t0
    have lr0 := lt_size r0
    go_wp2_with fail
    have hA : Below w_26.heap.size w_26 (w_26.alloc (.cells #[.int .i64 (4095 - Y - H), .int .i64 X, .int .i64 H, .int .i64 V] 40)) := below_alloc (Below.refl _ _) _
    clear ls0 lo0 lt0 lr0
    replace hB := below_next hB hA
    replace sD := sD.below hA
    replace s0 := cell_then hA s0
    replace s1 := cell_then hA s1
    replace s2 := cell_then hA s2
    replace o0 := cell_then hA o0
    replace o1 := cell_then hA o1
    replace tD := tD.below hA
    replace t0 := cell_then hA t0
    replace t1 := cell_then hA t1
    replace t2 := cell_then hA t2
    replace r0 := cell_then hA r0
    replace r1 := cell_then hA r1
    replace r2 := cell_then hA r2
    replace r3 := cell_then hA r3
    have q0 : (w_26.alloc (.cells #[.int .i64 (4095 - Y - H), .int .i64 X, .int .i64 H, .int .i64 V] 40)).cell? ⟨w_26.heap.size, 0, none⟩ = some (.int .i64 (4095 - Y - H)) := new_cell rfl
    have q1 : (w_26.alloc (.cells #[.int .i64 (4095 - Y - H), .int .i64 X, .int .i64 H, .int .i64 V] 40)).cell? ⟨w_26.heap.size, 1, none⟩ = some (.int .i64 X) := new_cell rfl
    have q2 : (w_26.alloc (.cells #[.int .i64 (4095 - Y - H), .int .i64 X, .int .i64 H, .int .i64 V] 40)).cell? ⟨w_26.heap.size, 2, none⟩ = some (.int .i64 H) := new_cell rfl
    have q3 : (w_26.alloc (.cells #[.int .i64 (4095 - Y - H), .int .i64 X, .int .i64 H, .int .i64 V] 40)).cell? ⟨w_26.heap.size, 3, none⟩ = some (.int .i64 V) := new_cell rfl
    obtain ⟨v_27, hv_27⟩ : ∃ vv_ : World, (w_26.alloc (.cells #[.int .i64 (4095 - Y - H), .int .i64 X, .int .i64 H, .int .i64 V] 40)) = vv_ := ⟨_, rfl⟩
    rw [hv_27] at hB sD s0 s1 s2 o0 o1 tD t0 t1 t2 r0 r1 r2 r3 q0 q1 q2 q3 ⊢
    clear hA hv_27
    refine (way_yes P N _ cp D _ sD Hhval.out).mono ?_
    rintro e w_28 ⟨rfl, bq⟩
    replace hB := below_next hB bq
    replace sD := sD.below bq
    replace s0 := cell_then bq s0
    replace s1 := cell_then bq s1
    replace s2 := cell_then bq s2
    replace o0 := cell_then bq o0
    replace o1 := cell_then bq o1
    replace tD := tD.below bq
    replace t0 := cell_then bq t0
    replace t1 := cell_then bq t1
    replace t2 := cell_then bq t2
    replace r0 := cell_then bq r0
    replace r1 := cell_then bq r1
    replace r2 := cell_then bq r2
    replace r3 := cell_then bq r3
    replace q0 := cell_then bq q0
    replace q1 := cell_then bq q1
    replace q2 := cell_then bq q2
    replace q3 := cell_then bq q3
    clear bq
    rw [Hhw.out]
    have ls0 := lt_size s0
    have lo0 := lt_size o0
    have lt0 := lt_size t0
    have lr0 := lt_size r0
    have lq0 := lt_size q0
    go_wp2_with fail
    refine (way_yes P N _ ct E _ tD HhvE.out).mono ?_
    rintro e w_29 ⟨rfl, bq⟩
    clear ls0 lo0 lt0 lr0 lq0
    replace hB := below_next hB bq
    replace sD := sD.below bq
    replace s0 := cell_then bq s0
    replace s1 := cell_then bq s1
    replace s2 := cell_then bq s2
    replace o0 := cell_then bq o0
    replace o1 := cell_then bq o1
    replace tD := tD.below bq
    replace t0 := cell_then bq t0
    replace t1 := cell_then bq t1
    replace t2 := cell_then bq t2
    replace r0 := cell_then bq r0
    replace r1 := cell_then bq r1
    replace r2 := cell_then bq r2
    replace r3 := cell_then bq r3
    replace q0 := cell_then bq q0
    replace q1 := cell_then bq q1
    replace q2 := cell_then bq q2
    replace q3 := cell_then bq q3
    clear bq
    rw [HhwE.out]
    have ls0 := lt_size s0
    have lo0 := lt_size o0
    have lt0 := lt_size t0
    have lr0 := lt_size r0
    have lq0 := lt_size q0
    go_wp2_with fail
    refine (thin_yes P N _ cp D z _ sD hcp hcp2 Hhval.out zi).mono ?_
    rintro e w_30 ⟨A1, c1, rfl, iT, hc1, bq⟩
    clear ls0 lo0 lt0 lr0 lq0
    replace hB := below_next hB bq
    replace sD := sD.below bq
    replace s0 := cell_then bq s0
    replace s1 := cell_then bq s1
    replace s2 := cell_then bq s2
    replace o0 := cell_then bq o0
    replace o1 := cell_then bq o1
    replace tD := tD.below bq
    replace t0 := cell_then bq t0
    replace t1 := cell_then bq t1
    replace t2 := cell_then bq t2
    replace r0 := cell_then bq r0
    replace r1 := cell_then bq r1
    replace r2 := cell_then bq r2
    replace r3 := cell_then bq r3
    replace q0 := cell_then bq q0
    replace q1 := cell_then bq q1
    replace q2 := cell_then bq q2
    replace q3 := cell_then bq q3
    clear bq
    rw [← natI_length (thinF D z), HhT.out]
    rw [HhT.out] at iT
    clear hc1
    have ls0 := lt_size s0
    have lo0 := lt_size o0
    have lt0 := lt_size t0
    have lr0 := lt_size r0
    have lq0 := lt_size q0
    go_wp2_with fail
    refine (thin_yes P N _ ct E z _ tD hct hdt HhvE.out zi).mono ?_
    rintro e w_31 ⟨A2, c2, rfl, iS, hc2, bq⟩
    clear ls0 lo0 lt0 lr0 lq0
    replace hB := below_next hB bq
    replace sD := sD.below bq
    replace s0 := cell_then bq s0
    replace s1 := cell_then bq s1
    replace s2 := cell_then bq s2
    replace o0 := cell_then bq o0
    replace o1 := cell_then bq o1
    replace tD := tD.below bq
    replace t0 := cell_then bq t0
    replace t1 := cell_then bq t1
    replace t2 := cell_then bq t2
    replace r0 := cell_then bq r0
    replace r1 := cell_then bq r1
    replace r2 := cell_then bq r2
    replace r3 := cell_then bq r3
    replace q0 := cell_then bq q0
    replace q1 := cell_then bq q1
    replace q2 := cell_then bq q2
    replace q3 := cell_then bq q3
    replace iT := iT.then_ bq
    clear bq
    rw [← natI_length (thinF E z), HhTE.out]
    rw [HhTE.out] at iS
    clear hc2
    have ls0 := lt_size s0
    have lo0 := lt_size o0
    have lt0 := lt_size t0
    have lr0 := lt_size r0
    have lq0 := lt_size q0
    go_wp2_with fail
    have q_1 := fun W => neqR W (4095 - Y - H) X H V
    refine (ints_any _ _ _ _ l l _ iT iS hl).mono ?_
    rintro e w_32 ⟨rfl, bq⟩
    clear ls0 lo0 lt0 lr0 lq0
    replace hB := below_next hB bq
    replace sD := sD.below bq
    replace s0 := cell_then bq s0
    replace s1 := cell_then bq s1
    replace s2 := cell_then bq s2
    replace o0 := cell_then bq o0
    replace o1 := cell_then bq o1
    replace tD := tD.below bq
    replace t0 := cell_then bq t0
    replace t1 := cell_then bq t1
    replace t2 := cell_then bq t2
    replace r0 := cell_then bq r0
    replace r1 := cell_then bq r1
    replace r2 := cell_then bq r2
    replace r3 := cell_then bq r3
    replace q0 := cell_then bq q0
    replace q1 := cell_then bq q1
    replace q2 := cell_then bq q2
    replace q3 := cell_then bq q3
    replace iT := iT.then_ bq
    replace iS := iS.then_ bq
    clear bq
    rw [show decide (l = l) = true from decide_eq_true rfl]
    have ls0 := lt_size s0
    have lo0 := lt_size o0
    have lt0 := lt_size t0
    have lr0 := lt_size r0
    have lq0 := lt_size q0
    go_wp2_with fail
    clear q_1
    refine (ends_yes P N _ cp D _ sD Hhval.out).mono ?_
    rintro e w_33 ⟨rfl, bq⟩
    clear ls0 lo0 lt0 lr0 lq0
    replace hB := below_next hB bq
    replace sD := sD.below bq
    replace s0 := cell_then bq s0
    replace s1 := cell_then bq s1
    replace s2 := cell_then bq s2
    replace o0 := cell_then bq o0
    replace o1 := cell_then bq o1
    replace tD := tD.below bq
    replace t0 := cell_then bq t0
    replace t1 := cell_then bq t1
    replace t2 := cell_then bq t2
    replace r0 := cell_then bq r0
    replace r1 := cell_then bq r1
    replace r2 := cell_then bq r2
    replace r3 := cell_then bq r3
    replace q0 := cell_then bq q0
    replace q1 := cell_then bq q1
    replace q2 := cell_then bq q2
    replace q3 := cell_then bq q3
    replace iT := iT.then_ bq
    replace iS := iS.then_ bq
    clear bq
    rw [Hp1.out, Hp2.out]
    have ls0 := lt_size s0
    have lo0 := lt_size o0
    have lt0 := lt_size t0
    have lr0 := lt_size r0
    have lq0 := lt_size q0
    go_wp2_with fail
    have hA : Below w_33.heap.size w_33 ((w_33.alloc (.cells #[.int .i64 fx, .int .i64 fy] 29)).alloc (.cells #[.int .i64 lx, .int .i64 ly] 29)) := below_alloc (below_alloc (Below.refl _ _) _) _
    clear ls0 lo0 lt0 lr0 lq0
    replace hB := below_next hB hA
    replace sD := sD.below hA
    replace s0 := cell_then hA s0
    replace s1 := cell_then hA s1
    replace s2 := cell_then hA s2
    replace o0 := cell_then hA o0
    replace o1 := cell_then hA o1
    replace tD := tD.below hA
    replace t0 := cell_then hA t0
    replace t1 := cell_then hA t1
    replace t2 := cell_then hA t2
    replace r0 := cell_then hA r0
    replace r1 := cell_then hA r1
    replace r2 := cell_then hA r2
    replace r3 := cell_then hA r3
    replace q0 := cell_then hA q0
    replace q1 := cell_then hA q1
    replace q2 := cell_then hA q2
    replace q3 := cell_then hA q3
    replace iT := iT.then_ hA
    replace iS := iS.then_ hA
    have f0 : ((w_33.alloc (.cells #[.int .i64 fx, .int .i64 fy] 29)).alloc (.cells #[.int .i64 lx, .int .i64 ly] 29)).cell? ⟨w_33.heap.size, 0, none⟩ = some (.int .i64 fx) := keep_alloc _ (new_cell rfl)
    have f1 : ((w_33.alloc (.cells #[.int .i64 fx, .int .i64 fy] 29)).alloc (.cells #[.int .i64 lx, .int .i64 ly] 29)).cell? ⟨w_33.heap.size, 1, none⟩ = some (.int .i64 fy) := keep_alloc _ (new_cell rfl)
    have g0 : ((w_33.alloc (.cells #[.int .i64 fx, .int .i64 fy] 29)).alloc (.cells #[.int .i64 lx, .int .i64 ly] 29)).cell? ⟨w_33.heap.size + 1, 0, none⟩ = some (.int .i64 lx) := new_cell' rfl
    have g1 : ((w_33.alloc (.cells #[.int .i64 fx, .int .i64 fy] 29)).alloc (.cells #[.int .i64 lx, .int .i64 ly] 29)).cell? ⟨w_33.heap.size + 1, 1, none⟩ = some (.int .i64 ly) := new_cell' rfl
    obtain ⟨v_34, hv_34⟩ : ∃ vv_ : World, ((w_33.alloc (.cells #[.int .i64 fx, .int .i64 fy] 29)).alloc (.cells #[.int .i64 lx, .int .i64 ly] 29)) = vv_ := ⟨_, rfl⟩
    rw [hv_34] at hB sD s0 s1 s2 o0 o1 tD t0 t1 t2 r0 r1 r2 r3 q0 q1 q2 q3 iT iS f0 f1 g0 g1 ⊢
    clear hA hv_34
    refine (ends_yes P N _ ct E _ tD HhvE.out).mono ?_
    rintro e w_35 ⟨rfl, bq⟩
    replace hB := below_next hB bq
    replace sD := sD.below bq
    replace s0 := cell_then bq s0
    replace s1 := cell_then bq s1
    replace s2 := cell_then bq s2
    replace o0 := cell_then bq o0
    replace o1 := cell_then bq o1
    replace tD := tD.below bq
    replace t0 := cell_then bq t0
    replace t1 := cell_then bq t1
    replace t2 := cell_then bq t2
    replace r0 := cell_then bq r0
    replace r1 := cell_then bq r1
    replace r2 := cell_then bq r2
    replace r3 := cell_then bq r3
    replace q0 := cell_then bq q0
    replace q1 := cell_then bq q1
    replace q2 := cell_then bq q2
    replace q3 := cell_then bq q3
    replace iT := iT.then_ bq
    replace iS := iS.then_ bq
    replace f0 := cell_then bq f0
    replace f1 := cell_then bq f1
    replace g0 := cell_then bq g0
    replace g1 := cell_then bq g1
    clear bq
    rw [Hp3.out, Hp4.out]
    have ls0 := lt_size s0
    have lo0 := lt_size o0
    have lt0 := lt_size t0
    have lr0 := lt_size r0
    have lq0 := lt_size q0
    have lf0 := lt_size f0
    have lg0 := lt_size g0
    go_wp2_with fail
    have hA : Below w_35.heap.size w_35 ((w_35.alloc (.cells #[.int .i64 (4095 - fy), .int .i64 fx] 29)).alloc (.cells #[.int .i64 (4095 - ly), .int .i64 lx] 29)) := below_alloc (below_alloc (Below.refl _ _) _) _
    clear ls0 lo0 lt0 lr0 lq0 lf0 lg0
    replace hB := below_next hB hA
    replace sD := sD.below hA
    replace s0 := cell_then hA s0
    replace s1 := cell_then hA s1
    replace s2 := cell_then hA s2
    replace o0 := cell_then hA o0
    replace o1 := cell_then hA o1
    replace tD := tD.below hA
    replace t0 := cell_then hA t0
    replace t1 := cell_then hA t1
    replace t2 := cell_then hA t2
    replace r0 := cell_then hA r0
    replace r1 := cell_then hA r1
    replace r2 := cell_then hA r2
    replace r3 := cell_then hA r3
    replace q0 := cell_then hA q0
    replace q1 := cell_then hA q1
    replace q2 := cell_then hA q2
    replace q3 := cell_then hA q3
    replace iT := iT.then_ hA
    replace iS := iS.then_ hA
    replace f0 := cell_then hA f0
    replace f1 := cell_then hA f1
    replace g0 := cell_then hA g0
    replace g1 := cell_then hA g1
    have i0_ : ((w_35.alloc (.cells #[.int .i64 (4095 - fy), .int .i64 fx] 29)).alloc (.cells #[.int .i64 (4095 - ly), .int .i64 lx] 29)).cell? ⟨w_35.heap.size, 0, none⟩ = some (.int .i64 (4095 - fy)) := keep_alloc _ (new_cell rfl)
    have i1_ : ((w_35.alloc (.cells #[.int .i64 (4095 - fy), .int .i64 fx] 29)).alloc (.cells #[.int .i64 (4095 - ly), .int .i64 lx] 29)).cell? ⟨w_35.heap.size, 1, none⟩ = some (.int .i64 fx) := keep_alloc _ (new_cell rfl)
    have j0 : ((w_35.alloc (.cells #[.int .i64 (4095 - fy), .int .i64 fx] 29)).alloc (.cells #[.int .i64 (4095 - ly), .int .i64 lx] 29)).cell? ⟨w_35.heap.size + 1, 0, none⟩ = some (.int .i64 (4095 - ly)) := new_cell' rfl
    have j1 : ((w_35.alloc (.cells #[.int .i64 (4095 - fy), .int .i64 fx] 29)).alloc (.cells #[.int .i64 (4095 - ly), .int .i64 lx] 29)).cell? ⟨w_35.heap.size + 1, 1, none⟩ = some (.int .i64 lx) := new_cell' rfl
    obtain ⟨v_36, hv_36⟩ : ∃ vv_ : World, ((w_35.alloc (.cells #[.int .i64 (4095 - fy), .int .i64 fx] 29)).alloc (.cells #[.int .i64 (4095 - ly), .int .i64 lx] 29)) = vv_ := ⟨_, rfl⟩
    rw [hv_36] at hB sD s0 s1 s2 o0 o1 tD t0 t1 t2 r0 r1 r2 r3 q0 q1 q2 q3 iT iS f0 f1 g0 g1 i0_ i1_ j0 j1 ⊢
    clear hA hv_36
    have q_2 := fun W => eqP W (4095 - fy) fx
    have q_3 := fun W => eqP W (4095 - ly) lx
    have ls0 := lt_size s0
    have lo0 := lt_size o0
    have lt0 := lt_size t0
    have lr0 := lt_size r0
    have lq0 := lt_size q0
    have lf0 := lt_size f0
    have lg0 := lt_size g0
    have li0_ := lt_size i0_
    have lj0 := lt_size j0
    have CD := Lib.hid (fun (W : World) (hW : Dots W (some ⟨g, 0, none⟩) D) => (by have h := within_yes P N _ cp D px py z W hW Hhval.out; rw [Hhwi.out] at h; exact h : Calls Try.prog 31 #[.agg #[.int .i64 P, .int .i64 N, .slice (some ⟨g, 0, none⟩) D.length cp], .agg #[.int .i64 px, .int .i64 py], .int .i64 z] W fun e w' => e = .returned (.bool wb) ∧ Below W.heap.size W w'))
    have CE := Lib.hid (fun (W : World) (hW : Dots W (some ⟨gt, 0, none⟩) E) => (by have h := within_yes P N _ ct E (4095 - py) px z W hW HhvE.out; rw [Hhwt.out] at h; exact h : Calls Try.prog 31 #[.agg #[.int .i64 P, .int .i64 N, .slice (some ⟨gt, 0, none⟩) E.length ct], .agg #[.int .i64 (4095 - py), .int .i64 px], .int .i64 z] W fun e w' => e = .returned (.bool wb) ∧ Below W.heap.size W w'))
    clear ls0 lo0 lt0 lr0 lq0 lf0 lg0 li0_ lj0
    have g_i0_ := fun D os => cell_regrown i0_ D os
    have g_i1_ := fun D os => cell_regrown i1_ D os
    have g_f0 := fun D os => cell_regrown f0 D os
    have g_f1 := fun D os => cell_regrown f1 D os
    have g_j0 := fun D os => cell_regrown j0 D os
    have g_j1 := fun D os => cell_regrown j1 D os
    have g_g0 := fun D os => cell_regrown g0 D os
    have g_g1 := fun D os => cell_regrown g1 D os
    have g_s0 := fun D os => cell_regrown s0 D os
    have g_s1 := fun D os => cell_regrown s1 D os
    have g_s2 := fun D os => cell_regrown s2 D os
    have g_o0 := fun D os => cell_regrown o0 D os
    have g_o1 := fun D os => cell_regrown o1 D os
    have g_t0 := fun D os => cell_regrown t0 D os
    have g_t1 := fun D os => cell_regrown t1 D os
    have g_t2 := fun D os => cell_regrown t2 D os
    have ls0 := lt_size s0
    have lo0 := lt_size o0
    have lt0 := lt_size t0
    have lr0 := lt_size r0
    have lq0 := lt_size q0
    have lf0 := lt_size f0
    have lg0 := lt_size g0
    have li0_ := lt_size i0_
    have lj0 := lt_size j0
    refine wp_region_quiet_below (by kernel_rfl) (by kernel_rfl) ?_
    repeat (go_big_quiet_step (first | (with_reducible exact Calls.regrown_of (turnedL_any _ _ _ (by omega))) | (with_reducible exact Calls.regrown_of (CD.out _ (sD.below (below_regrown _ _ _)))) | (with_reducible exact Calls.regrown_of (CE.out _ (tD.below (below_regrown _ _ _))))))
    refine wpQuiet_nil ?_
    intro wq_37 hq0
    have hq_38 := below_of_class hq0
    clear hq0
    clear g_i0_ g_i1_ g_f0 g_f1 g_j0 g_j1 g_g0 g_g1 g_s0 g_s1 g_s2 g_o0 g_o1 g_t0 g_t1 g_t2
    clear ls0 lo0 lt0 lr0 lq0 lf0 lg0 li0_ lj0
    replace hB := below_next hB hq_38
    replace sD := sD.below hq_38
    replace s0 := cell_then hq_38 s0
    replace s1 := cell_then hq_38 s1
    replace s2 := cell_then hq_38 s2
    replace o0 := cell_then hq_38 o0
    replace o1 := cell_then hq_38 o1
    replace tD := tD.below hq_38
    replace t0 := cell_then hq_38 t0
    replace t1 := cell_then hq_38 t1
    replace t2 := cell_then hq_38 t2
    replace r0 := cell_then hq_38 r0
    replace r1 := cell_then hq_38 r1
    replace r2 := cell_then hq_38 r2
    replace r3 := cell_then hq_38 r3
    replace q0 := cell_then hq_38 q0
    replace q1 := cell_then hq_38 q1
    replace q2 := cell_then hq_38 q2
    replace q3 := cell_then hq_38 q3
    replace iT := iT.then_ hq_38
    replace iS := iS.then_ hq_38
    replace f0 := cell_then hq_38 f0
    replace f1 := cell_then hq_38 f1
    replace g0 := cell_then hq_38 g0
    replace g1 := cell_then hq_38 g1
    replace i0_ := cell_then hq_38 i0_
    replace i1_ := cell_then hq_38 i1_
    replace j0 := cell_then hq_38 j0
    replace j1 := cell_then hq_38 j1
    clear hq_38
    clear q_2 q_3
    have ls0 := lt_size s0
    have lo0 := lt_size o0
    have lt0 := lt_size t0
    have lr0 := lt_size r0
    have lq0 := lt_size q0
    have lf0 := lt_size f0
    have lg0 := lt_size g0
    have li0_ := lt_size i0_
    have lj0 := lt_size j0
    go_wp2_with fail
    go_ret
    exact ⟨rfl, hB⟩
end Go.Proofs.Ytgmabepdhbnppaa
