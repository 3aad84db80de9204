/- The walk of the law StrokeBox. -/
import Derived.Test.YtgmabepdhbnppaaStrokeSane
import Derived.Test.YtgmabepdhbnppaaStrokeLaws
import Derived.Test.YtgmabepdhbnppaaStrokeMade
import Derived.Test.YtgmabepdhbnppaaHead
namespace Go.Proofs.Ytgmabepdhbnppaa
open Go.RowKit Str
/-- what is known of the four sides behind a dot -/
def SideQ (X Y V H : Int) (d : Dot) (c0 c1 c2 c3 : Bool) : Prop := (d.x = X → c0 = true) ∧ (d.x = X + V → c1 = true) ∧ (d.y = Y → c2 = true) ∧ (d.y = Y + H → c3 = true)
def SidesQ (X Y V H : Int) (D : List Dot) (k : Nat) (c0 c1 c2 c3 : Bool) : Prop := ∀ j, j < k → SideQ X Y V H (dotAt D j) c0 c1 c2 c3
/-- c' is c, or true behind the condition -/
def Grows (p : Prop) (c c' : Bool) : Prop := (c = true → c' = true) ∧ (p → c' = true)
theorem Grows.yes {p : Prop} {c : Bool} : Grows p c true := ⟨fun _ => rfl, fun _ => rfl⟩
theorem Grows.dec {p : Prop} [Decidable p] : Grows p false (decide p) := ⟨fun h => (by cases h), fun h => decide_eq_true h⟩
theorem Grows.beq {x y : Int} : Grows (x = y) false (x == y) := ⟨fun h => (by cases h), fun h => by simp [h]⟩
theorem sides_next {X Y V H : Int} {D : List Dot} {k : Nat} {c0 c1 c2 c3 e0 e1 e2 e3 : Bool} (h : SidesQ X Y V H D k c0 c1 c2 c3) (h0 : Grows ((dotAt D k).x = X) c0 e0) (h1 : Grows ((dotAt D k).x = X + V) c1 e1) (h2 : Grows ((dotAt D k).y = Y) c2 e2) (h3 : Grows ((dotAt D k).y = Y + H) c3 e3) :
    SidesQ X Y V H D (k + 1) e0 e1 e2 e3 := fun j hj => by
  by_cases hk : j = k
  · subst hk; exact ⟨h0.2, h1.2, h2.2, h3.2⟩
  · have := h j (by omega)
    exact ⟨fun x => h0.1 (this.1 x), fun x => h1.1 (this.2.1 x), fun x => h2.1 (this.2.2.1 x), fun x => h3.1 (this.2.2.2 x)⟩
set_option maxRecDepth 100000 in
set_option maxHeartbeats 8000000 in
theorem box_walk (a b m a2 b2 m2 tol P N Q M X Y V H wy z : Int) (A : Option Addr) (cap : Nat) (es : List E3) (D E : List Dot) (w : World) (ia : I64 a) (ib : I64 b) (ia2 : I64 a2) (ib2 : I64 b2) (it : I64 tol) (hm : wrap64 (a * 37) = m) (hm2 : wrap64 (a2 * 37) = m2)
    (hE : Ents w A es) (hI : ∀ e ∈ es, I64 e.a ∧ I64 e.b ∧ I64 e.c) (hn : (es.length : Int) ≤ 9223372036854775807)
    (hD : madeD a b m es = D) (hDE : madeD a2 b2 m2 es = E) (hP : pickI a 40 = P) (hN : 1 + pickI b 999 = N) (hQ : pickI a2 40 = Q) (hM : 1 + pickI b2 999 = M) (hz : pickI tol 1001 = z)
    (hval : validB P N D = true) (hvE : validB Q M E = true) (hbox : boxF D = (X, Y, V, H)) (bx : 0 ≤ X ∧ 0 ≤ V ∧ X + V ≤ 4095) (b_y : 0 ≤ Y ∧ 0 ≤ H ∧ Y + H ≤ 4095) (hw : wayF D = wy) (bw1 : V ≤ wy) (bw2 : H ≤ wy)
    (hin : ∀ j, j < D.length → X ≤ (dotAt D j).x ∧ (dotAt D j).x ≤ X + V ∧ Y ≤ (dotAt D j).y ∧ (dotAt D j).y ≤ Y + H) (hwi : ∀ j, j < D.length → withinF D (dotAt D j).x (dotAt D j).y z = true)
    (hall : ∀ c0 c1 c2 c3, (∀ j, j < D.length → SideQ X Y V H (dotAt D j) c0 c1 c2 c3) → c0 = true ∧ c1 = true ∧ c2 = true ∧ c3 = true) (hcode : (1000 * P + N == 1000 * Q + M) = ((P == Q) && (N == M))) :
    Calls Try.prog 9 #[.int .i64 a, .int .i64 b, .slice A es.length cap, .agg #[.int .i64 a2, .int .i64 b2], .int .i64 tol] w fun e w' => e = .returned (.bool true) ∧ Below w.heap.size w w' := by
  have Hhm := Lib.hid hm
  clear hm
  have Hhm2 := Lib.hid hm2
  clear hm2
  have HhE := Lib.hid hE
  clear hE
  have HhI := Lib.hid hI
  clear hI
  have HhD := Lib.hid hD
  clear hD
  have HhDE := Lib.hid hDE
  clear hDE
  have HhP := Lib.hid hP
  clear hP
  have HhN := Lib.hid hN
  clear hN
  have HhQ := Lib.hid hQ
  clear hQ
  have HhM := Lib.hid hM
  clear hM
  have Hhz := Lib.hid hz
  clear hz
  have Hhval := Lib.hid hval
  clear hval
  have HhvE := Lib.hid hvE
  clear hvE
  have Hhbox := Lib.hid hbox
  clear hbox
  have Hhw := Lib.hid hw
  clear hw
  have Hhin := Lib.hid hin
  clear hin
  have Hhwi := Lib.hid hwi
  clear hwi
  have Hhall := Lib.hid hall
  clear hall
  have Hhcode := Lib.hid hcode
  clear hcode
  have hnD : (D.length : Int) ≤ 200 ∧ 1 ≤ (D.length : Int) := by have := (valid_len Hhval.out).1; omega
  have hnE : (E.length : Int) ≤ 200 := by have := (valid_len HhvE.out).1; omega
  go_enter Try.func9, Try.ntmps9
  go_wp2_with fail
  have hB := Below.refl w.heap.size w
  have hEn := HhE.out
  clear HhE
  have hA : Below w.heap.size w (w.alloc (.cells #[.int .i64 a2, .int .i64 b2] 31)) := below_alloc (Below.refl _ _) _
  replace hB := below_next hB hA
  replace hEn := hEn.below hA
  have x0 : (w.alloc (.cells #[.int .i64 a2, .int .i64 b2] 31)).cell? ⟨w.heap.size, 0, none⟩ = some (.int .i64 a2) := new_cell rfl
  have x1 : (w.alloc (.cells #[.int .i64 a2, .int .i64 b2] 31)).cell? ⟨w.heap.size, 1, none⟩ = some (.int .i64 b2) := new_cell rfl
  obtain ⟨v_1, hv_1⟩ : ∃ vv_ : World, (w.alloc (.cells #[.int .i64 a2, .int .i64 b2] 31)) = vv_ := ⟨_, rfl⟩
  rw [hv_1] at hB hEn x0 x1 ⊢
  clear hA hv_1
  have HEn := Lib.hid hEn
  clear hEn
  refine (sane_any _).mono ?_
  rintro e w_2 ⟨rfl, bq⟩
  replace hB := below_next hB bq
  replace HEn := Lib.hid (HEn.out.below bq)
  replace x0 := cell_then bq x0
  replace x1 := cell_then bq x1
  clear bq
  have lx0 := lt_size x0
  go_wp2_with fail
  refine (made_any a b m A cap es _ ia ib Hhm.out HEn.out HhI.out hn).mono ?_
  rintro e w_3 ⟨g, cp, rfl, hgs, sD, hcp, hcp2, bq⟩
  rw [HhD.out] at sD hcp ⊢
  rw [HhP.out, HhN.out]
  clear hgs
  clear lx0
  replace hB := below_next hB bq
  replace HEn := Lib.hid (HEn.out.below bq)
  replace x0 := cell_then bq x0
  replace x1 := cell_then bq x1
  clear bq
  have lx0 := lt_size x0
  go_wp2_with fail
  have hA : Below w_3.heap.size w_3 (w_3.alloc (.cells #[.int .i64 P, .int .i64 N, .slice (some ⟨g, 0, none⟩) D.length cp] 27)) := below_alloc (Below.refl _ _) _
  clear lx0
  replace hB := below_next hB hA
  replace HEn := Lib.hid (HEn.out.below hA)
  replace x0 := cell_then hA x0
  replace x1 := cell_then hA x1
  replace sD := sD.below hA
  have s0 : (w_3.alloc (.cells #[.int .i64 P, .int .i64 N, .slice (some ⟨g, 0, none⟩) D.length cp] 27)).cell? ⟨w_3.heap.size, 0, none⟩ = some (.int .i64 P) := new_cell rfl
  have s1 : (w_3.alloc (.cells #[.int .i64 P, .int .i64 N, .slice (some ⟨g, 0, none⟩) D.length cp] 27)).cell? ⟨w_3.heap.size, 1, none⟩ = some (.int .i64 N) := new_cell rfl
  have s2 : (w_3.alloc (.cells #[.int .i64 P, .int .i64 N, .slice (some ⟨g, 0, none⟩) D.length cp] 27)).cell? ⟨w_3.heap.size, 2, none⟩ = some (.slice (some ⟨g, 0, none⟩) D.length cp) := new_cell rfl
  obtain ⟨v_4, hv_4⟩ : ∃ vv_ : World, (w_3.alloc (.cells #[.int .i64 P, .int .i64 N, .slice (some ⟨g, 0, none⟩) D.length cp] 27)) = vv_ := ⟨_, rfl⟩
  have HEn_ := HEn.out
  clear HEn
  rw [hv_4] at hB x0 x1 sD s0 s1 s2 HEn_ ⊢
  have HEn := Lib.hid HEn_
  clear HEn_
  clear hA hv_4
  have lx0 := lt_size x0
  have ls0 := lt_size s0
  refine (made_any a2 b2 m2 A cap es _ ia2 ib2 Hhm2.out HEn.out HhI.out hn).mono ?_
  rintro e w_5 ⟨ge, ce, rfl, hgs, tD, hce, hce2, bq⟩
  rw [HhDE.out] at tD hce ⊢
  rw [HhQ.out, HhM.out]
  clear hgs
  clear lx0 ls0
  replace hB := below_next hB bq
  replace HEn := Lib.hid (HEn.out.below bq)
  replace x0 := cell_then bq x0
  replace x1 := cell_then bq x1
  replace sD := sD.below bq
  replace s0 := cell_then bq s0
  replace s1 := cell_then bq s1
  replace s2 := cell_then bq s2
  clear bq
  have lx0 := lt_size x0
  have ls0 := lt_size s0
  go_wp2_with fail
  clear HEn
  have hA : Below w_5.heap.size w_5 (w_5.alloc (.cells #[.int .i64 Q, .int .i64 M, .slice (some ⟨ge, 0, none⟩) E.length ce] 27)) := below_alloc (Below.refl _ _) _
  clear lx0 ls0
  replace hB := below_next hB hA
  replace x0 := cell_then hA x0
  replace x1 := cell_then hA x1
  replace sD := sD.below hA
  replace s0 := cell_then hA s0
  replace s1 := cell_then hA s1
  replace s2 := cell_then hA s2
  replace tD := tD.below hA
  have t0 : (w_5.alloc (.cells #[.int .i64 Q, .int .i64 M, .slice (some ⟨ge, 0, none⟩) E.length ce] 27)).cell? ⟨w_5.heap.size, 0, none⟩ = some (.int .i64 Q) := new_cell rfl
  have t1 : (w_5.alloc (.cells #[.int .i64 Q, .int .i64 M, .slice (some ⟨ge, 0, none⟩) E.length ce] 27)).cell? ⟨w_5.heap.size, 1, none⟩ = some (.int .i64 M) := new_cell rfl
  have t2 : (w_5.alloc (.cells #[.int .i64 Q, .int .i64 M, .slice (some ⟨ge, 0, none⟩) E.length ce] 27)).cell? ⟨w_5.heap.size, 2, none⟩ = some (.slice (some ⟨ge, 0, none⟩) E.length ce) := new_cell rfl
  obtain ⟨v_6, hv_6⟩ : ∃ vv_ : World, (w_5.alloc (.cells #[.int .i64 Q, .int .i64 M, .slice (some ⟨ge, 0, none⟩) E.length ce] 27)) = vv_ := ⟨_, rfl⟩
  rw [hv_6] at hB x0 x1 sD s0 s1 s2 tD t0 t1 t2 ⊢
  clear hA hv_6
  clear x0 x1
  have ls0 := lt_size s0
  have lt0 := lt_size t0
  refine (box_yes P N _ cp D _ sD Hhval.out).mono ?_
  rintro e w_7 ⟨rfl, bq⟩
  clear ls0 lt0
  replace hB := below_next hB bq
  replace sD := sD.below bq
  replace s0 := cell_then bq s0
  replace s1 := cell_then bq s1
  replace s2 := cell_then bq s2
  replace tD := tD.below bq
  replace t0 := cell_then bq t0
  replace t1 := cell_then bq t1
  replace t2 := cell_then bq t2
  clear bq
  rw [Hhbox.out]
  have ls0 := lt_size s0
  have lt0 := lt_size t0
  go_wp2_with fail
  have hA : Below w_7.heap.size w_7 (w_7.alloc (.cells #[.int .i64 X, .int .i64 Y, .int .i64 V, .int .i64 H] 40)) := below_alloc (Below.refl _ _) _
  clear ls0 lt0
  replace hB := below_next hB hA
  replace sD := sD.below hA
  replace s0 := cell_then hA s0
  replace s1 := cell_then hA s1
  replace s2 := cell_then hA s2
  replace tD := tD.below hA
  replace t0 := cell_then hA t0
  replace t1 := cell_then hA t1
  replace t2 := cell_then hA t2
  have r0 : (w_7.alloc (.cells #[.int .i64 X, .int .i64 Y, .int .i64 V, .int .i64 H] 40)).cell? ⟨w_7.heap.size, 0, none⟩ = some (.int .i64 X) := new_cell rfl
  have r1 : (w_7.alloc (.cells #[.int .i64 X, .int .i64 Y, .int .i64 V, .int .i64 H] 40)).cell? ⟨w_7.heap.size, 1, none⟩ = some (.int .i64 Y) := new_cell rfl
  have r2 : (w_7.alloc (.cells #[.int .i64 X, .int .i64 Y, .int .i64 V, .int .i64 H] 40)).cell? ⟨w_7.heap.size, 2, none⟩ = some (.int .i64 V) := new_cell rfl
  have r3 : (w_7.alloc (.cells #[.int .i64 X, .int .i64 Y, .int .i64 V, .int .i64 H] 40)).cell? ⟨w_7.heap.size, 3, none⟩ = some (.int .i64 H) := new_cell rfl
  obtain ⟨v_8, hv_8⟩ : ∃ vv_ : World, (w_7.alloc (.cells #[.int .i64 X, .int .i64 Y, .int .i64 V, .int .i64 H] 40)) = vv_ := ⟨_, rfl⟩
  rw [hv_8] at hB sD s0 s1 s2 tD t0 t1 t2 r0 r1 r2 r3 ⊢
  clear hA hv_8
  refine (way_yes P N _ cp D _ sD Hhval.out).mono ?_
  rintro e w_9 ⟨rfl, bq⟩
  replace hB := below_next hB bq
  replace sD := sD.below bq
  replace s0 := cell_then bq s0
  replace s1 := cell_then bq s1
  replace s2 := cell_then bq s2
  replace tD := tD.below bq
  replace t0 := cell_then bq t0
  replace t1 := cell_then bq t1
  replace t2 := cell_then bq t2
  replace r0 := cell_then bq r0
  replace r1 := cell_then bq r1
  replace r2 := cell_then bq r2
  replace r3 := cell_then bq r3
  clear bq
  rw [Hhw.out]
  obtain ⟨MX, hMX⟩ : ∃ x, (if V < H then H else V) = x := ⟨_, rfl⟩
  have bMX : MX ≤ wy := by rw [← hMX]; split <;> omega
  have ls0 := lt_size s0
  have lt0 := lt_size t0
  have lr0 := lt_size r0
  go_wp2_with fail
  clear hMX
  go_loopw [19] (fun i wr => ∃ (k : Nat) (c0 c1 c2 c3 : Bool), k ≤ D.length ∧ i = .int .i64 (k : Int) ∧ SidesQ X Y V H D k c0 c1 c2 c3 ∧ wr.cell? ⟨w_9.heap.size, 0, none⟩ = some (.bool c0) ∧ wr.cell? ⟨w_9.heap.size, 1, none⟩ = some (.bool c1) ∧ wr.cell? ⟨w_9.heap.size, 2, none⟩ = some (.bool c2) ∧ wr.cell? ⟨w_9.heap.size, 3, none⟩ = some (.bool c3) ∧ Var4 wr w_9.heap.size ∧ Below w_9.heap.size w_9 wr) (fun i _ => D.length - (intOf i).toNat)
  case atStart => exact ⟨0, false, false, false, false, by omega, rfl, fun j hj => by omega, new_cell rfl, new_cell rfl, new_cell rfl, new_cell rfl, Var4.new _ _ _ _ _ _, below_alloc (Below.refl _ _) _⟩
  case round =>
    clear ls0 lt0 lr0
    obtain ⟨k, c0, c1, c2, c3, hk, rfl, hsq, y0, y1, y2, y3, SV, hL⟩ := hrel
    have Hsq := Lib.hid hsq
    clear hsq
    have lG := lt_size y0
    have b_sD := sD.below hL
    have b_s0 := cell_then hL s0
    have b_s1 := cell_then hL s1
    have b_s2 := cell_then hL s2
    have b_tD := tD.below hL
    have b_t0 := cell_then hL t0
    have b_t1 := cell_then hL t1
    have b_t2 := cell_then hL t2
    have b_r0 := cell_then hL r0
    have b_r1 := cell_then hL r1
    have b_r2 := cell_then hL r2
    have b_r3 := cell_then hL r3
    by_cases hlt : k < D.length
    · have hki : (k : Int) < (D.length : Int) := by omega
      have hk0 : (0 : Int) ≤ (k : Int) := by omega
      obtain ⟨b_, o_, hA_, d0, d1, d2, d3⟩ := b_sD k hlt
      cases hA_
      obtain ⟨d, hd⟩ : ∃ d, dotAt D k = d := ⟨_, rfl⟩
      have di := Hhin.out k hlt
      have dw := Hhwi.out k hlt
      rw [hd] at d0 d1 d2 d3 di dw
      have Hd := Lib.hid hd
      have Hdw := Lib.hid dw
      clear hd dw
      simp only [Nat.zero_add] at d0 d1 d2 d3
      have lb_s0 := lt_size b_s0
      have lb_t0 := lt_size b_t0
      have lb_r0 := lt_size b_r0
      have ly0 := lt_size y0
      go_wp2_with fail
      have hA : Below wr.heap.size wr (wr.alloc (.cells #[.int .i64 d.x, .int .i64 d.y, .int .i64 d.t, .int .i64 d.p] 24)) := below_alloc (Below.refl _ _) _
      clear lb_s0 lb_t0 lb_r0 ly0
      clear b_sD b_s0 b_s1 b_s2 b_tD b_t0 b_t1 b_t2 b_r0 b_r1 b_r2 b_r3
      replace hL := below_next hL hA
      have b_sD := sD.below hL
      have b_s0 := cell_then hL s0
      have b_s1 := cell_then hL s1
      have b_s2 := cell_then hL s2
      have b_tD := tD.below hL
      have b_t0 := cell_then hL t0
      have b_t1 := cell_then hL t1
      have b_t2 := cell_then hL t2
      have b_r0 := cell_then hL r0
      have b_r1 := cell_then hL r1
      have b_r2 := cell_then hL r2
      have b_r3 := cell_then hL r3
      replace y0 := cell_then hA y0
      replace y1 := cell_then hA y1
      replace y2 := cell_then hA y2
      replace y3 := cell_then hA y3
      replace SV := SV.then_ hA
      replace d0 := cell_then hA d0
      replace d1 := cell_then hA d1
      replace d2 := cell_then hA d2
      replace d3 := cell_then hA d3
      have z0 : (wr.alloc (.cells #[.int .i64 d.x, .int .i64 d.y, .int .i64 d.t, .int .i64 d.p] 24)).cell? ⟨wr.heap.size, 0, none⟩ = some (.int .i64 d.x) := new_cell rfl
      have z1 : (wr.alloc (.cells #[.int .i64 d.x, .int .i64 d.y, .int .i64 d.t, .int .i64 d.p] 24)).cell? ⟨wr.heap.size, 1, none⟩ = some (.int .i64 d.y) := new_cell rfl
      have z2 : (wr.alloc (.cells #[.int .i64 d.x, .int .i64 d.y, .int .i64 d.t, .int .i64 d.p] 24)).cell? ⟨wr.heap.size, 2, none⟩ = some (.int .i64 d.t) := new_cell rfl
      have z3 : (wr.alloc (.cells #[.int .i64 d.x, .int .i64 d.y, .int .i64 d.t, .int .i64 d.p] 24)).cell? ⟨wr.heap.size, 3, none⟩ = some (.int .i64 d.p) := new_cell rfl
      obtain ⟨v_10, hv_10⟩ : ∃ vv_ : World, (wr.alloc (.cells #[.int .i64 d.x, .int .i64 d.y, .int .i64 d.t, .int .i64 d.p] 24)) = vv_ := ⟨_, rfl⟩
      rw [hv_10] at hL y0 y1 y2 y3 SV d0 d1 d2 d3 z0 z1 z2 z3 b_sD b_s0 b_s1 b_s2 b_tD b_t0 b_t1 b_t2 b_r0 b_r1 b_r2 b_r3 ⊢
      clear hA hv_10
      clear d0 d1 d2 d3
      have hw1 : IntKind.i64.wrap (X + V) = X + V := IntWalk.i64_in _ (by omega)
      have hw2 : IntKind.i64.wrap (Y + H) = Y + H := IntWalk.i64_in _ (by omega)
      have CW := Lib.hid (fun (W : World) (hW : Dots W (some ⟨g, 0, none⟩) D) => (by have h := within_yes P N _ cp D d.x d.y z W hW Hhval.out; rw [Hdw.out] at h; exact h : Calls Try.prog 31 #[.agg #[.int .i64 P, .int .i64 N, .slice (some ⟨g, 0, none⟩) D.length cp], .agg #[.int .i64 d.x, .int .i64 d.y], .int .i64 z] W fun e w' => e = .returned (.bool true) ∧ Below W.heap.size W w'))
      have CZ := Lib.hid (fun (W : World) => (by have h := pickL_any tol 1001 W it (by omega) (by omega); rw [Hhz.out] at h; exact h : Calls Try.prog 12 #[.int .i64 tol, .int .i64 1001] W fun e w' => e = .returned (.int .i64 z) ∧ W = w'))
      have u1 : decide (d.x < X) = false := decide_eq_false (by omega)
      have u2 : decide (X + V < d.x) = false := decide_eq_false (by omega)
      have u3 : decide (d.y < Y) = false := decide_eq_false (by omega)
      have u4 : decide (Y + H < d.y) = false := decide_eq_false (by omega)
      have g_z0 := fun D os => cell_regrown z0 D os
      have g_z1 := fun D os => cell_regrown z1 D os
      have g_b_r0 := fun D os => cell_regrown b_r0 D os
      have g_b_r1 := fun D os => cell_regrown b_r1 D os
      have g_b_r2 := fun D os => cell_regrown b_r2 D os
      have g_b_r3 := fun D os => cell_regrown b_r3 D os
      have g_b_s0 := fun D os => cell_regrown b_s0 D os
      have g_b_s1 := fun D os => cell_regrown b_s1 D os
      have g_b_s2 := fun D os => cell_regrown b_s2 D os
      have lb_s0 := lt_size b_s0
      have lb_t0 := lt_size b_t0
      have lb_r0 := lt_size b_r0
      have ly0 := lt_size y0
      have lz0 := lt_size z0
      refine wp_region_quiet_below (by kernel_rfl) (by kernel_rfl) ?_
      repeat (go_big_quiet_step (first | (with_reducible exact Calls.regrown_of ((CZ.out _).mono fun e w' h => ⟨h.1, h.2 ▸ Below.refl _ _⟩)) | (with_reducible exact Calls.regrown_of (CW.out _ (b_sD.below (below_regrown _ _ _))))))
      refine wpQuiet_nil ?_
      intro wq_11 hq0
      have hq_12 := below_of_class hq0
      clear hq0
      clear g_z0 g_z1 g_b_r0 g_b_r1 g_b_r2 g_b_r3 g_b_s0 g_b_s1 g_b_s2
      clear lb_s0 lb_t0 lb_r0 ly0 lz0
      clear b_sD b_s0 b_s1 b_s2 b_tD b_t0 b_t1 b_t2 b_r0 b_r1 b_r2 b_r3
      replace hL := below_next hL hq_12
      have b_sD := sD.below hL
      have b_s0 := cell_then hL s0
      have b_s1 := cell_then hL s1
      have b_s2 := cell_then hL s2
      have b_tD := tD.below hL
      have b_t0 := cell_then hL t0
      have b_t1 := cell_then hL t1
      have b_t2 := cell_then hL t2
      have b_r0 := cell_then hL r0
      have b_r1 := cell_then hL r1
      have b_r2 := cell_then hL r2
      have b_r3 := cell_then hL r3
      replace y0 := cell_then hq_12 y0
      replace y1 := cell_then hq_12 y1
      replace y2 := cell_then hq_12 y2
      replace y3 := cell_then hq_12 y3
      replace SV := SV.then_ hq_12
      replace z0 := cell_then hq_12 z0
      replace z1 := cell_then hq_12 z1
      replace z2 := cell_then hq_12 z2
      replace z3 := cell_then hq_12 z3
      clear hq_12
      clear hw1 hw2 CW CZ u1 u2 u3 u4
      have lb_s0 := lt_size b_s0
      have lb_t0 := lt_size b_t0
      have lb_r0 := lt_size b_r0
      have ly0 := lt_size y0
      have lz0 := lt_size z0
      have fz := SV.f0
      clear lb_s0 lb_t0 lb_r0 ly0 lz0
      have lb_s0 := lt_size b_s0
      have lb_t0 := lt_size b_t0
      have lb_r0 := lt_size b_r0
      have ly0 := lt_size y0
      have lz0 := lt_size z0
      go_upto_region 17 with fail
      go_cut [19] (fun s wx => ∃ c : Bool, s = .int .i64 (k : Int) ∧ Grows (d.x = X) c0 c ∧ wx = wq_11.setCell ⟨w_9.heap.size, 0, none⟩ (.bool c))
      case first =>
        go_wp2_with fail
        all_goals (go_meet; refine ⟨_, rfl, ?_, rfl⟩; first | exact Grows.yes | exact Grows.dec | exact Grows.beq | (constructor <;> simp_all))
      case rest =>
        obtain ⟨e0, rfl, Ge0, rfl⟩ := hcut
        clear fz
        have He0 := Lib.hid Ge0
        clear Ge0
        clear lb_s0 lb_t0 lb_r0 ly0 lz0
        have lb_s0 := lt_size b_s0
        have lb_t0 := lt_size b_t0
        have lb_r0 := lt_size b_r0
        have ly0 := lt_size y0
        have lz0 := lt_size z0
        clear b_sD b_s0 b_s1 b_s2 b_tD b_t0 b_t1 b_t2 b_r0 b_r1 b_r2 b_r3
        replace hL := hL.setCell (p := ⟨w_9.heap.size, 0, none⟩) (by dsimp only; omega) (.bool e0)
        have b_sD := sD.below hL
        have b_s0 := cell_then hL s0
        have b_s1 := cell_then hL s1
        have b_s2 := cell_then hL s2
        have b_tD := tD.below hL
        have b_t0 := cell_then hL t0
        have b_t1 := cell_then hL t1
        have b_t2 := cell_then hL t2
        have b_r0 := cell_then hL r0
        have b_r1 := cell_then hL r1
        have b_r2 := cell_then hL r2
        have b_r3 := cell_then hL r3
        replace y0 := SV.s0 (.bool e0)
        replace y1 := cell_off (.bool e0) y1 (show (1 : Nat) ≠ 0 by omega)
        replace y2 := cell_off (.bool e0) y2 (show (2 : Nat) ≠ 0 by omega)
        replace y3 := cell_off (.bool e0) y3 (show (3 : Nat) ≠ 0 by omega)
        replace SV := SV.set_ ⟨w_9.heap.size, 0, none⟩ (.bool e0)
        replace z0 := cell_set (p := ⟨w_9.heap.size, 0, none⟩) (.bool e0) z0 (by dsimp only; omega)
        replace z1 := cell_set (p := ⟨w_9.heap.size, 0, none⟩) (.bool e0) z1 (by dsimp only; omega)
        replace z2 := cell_set (p := ⟨w_9.heap.size, 0, none⟩) (.bool e0) z2 (by dsimp only; omega)
        replace z3 := cell_set (p := ⟨w_9.heap.size, 0, none⟩) (.bool e0) z3 (by dsimp only; omega)
        clear lb_s0 lb_t0 lb_r0 ly0 lz0
        obtain ⟨v_13, hv_13⟩ : ∃ vv_ : World, wq_11.setCell ⟨w_9.heap.size, 0, none⟩ (.bool e0) = vv_ := ⟨_, rfl⟩
        rw [hv_13] at hL y0 y1 y2 y3 SV z0 z1 z2 z3 b_sD b_s0 b_s1 b_s2 b_tD b_t0 b_t1 b_t2 b_r0 b_r1 b_r2 b_r3 ⊢
        clear hv_13
        have fz := SV.f1
        have lb_s0 := lt_size b_s0
        have lb_t0 := lt_size b_t0
        have lb_r0 := lt_size b_r0
        have ly0 := lt_size y0
        have lz0 := lt_size z0
        go_upto_region 18 with fail
        go_cut [19] (fun s wx => ∃ c : Bool, s = .int .i64 (k : Int) ∧ Grows (d.x = X + V) c1 c ∧ wx = v_13.setCell ⟨w_9.heap.size, 1, none⟩ (.bool c))
        case first =>
          go_wp2_with fail
          all_goals (go_meet; refine ⟨_, rfl, ?_, rfl⟩; first | exact Grows.yes | exact Grows.dec | exact Grows.beq | (constructor <;> simp_all))
        case rest =>
          obtain ⟨e1, rfl, Ge1, rfl⟩ := hcut
          clear fz
          have He1 := Lib.hid Ge1
          clear Ge1
          clear lb_s0 lb_t0 lb_r0 ly0 lz0
          have lb_s0 := lt_size b_s0
          have lb_t0 := lt_size b_t0
          have lb_r0 := lt_size b_r0
          have ly0 := lt_size y0
          have lz0 := lt_size z0
          clear b_sD b_s0 b_s1 b_s2 b_tD b_t0 b_t1 b_t2 b_r0 b_r1 b_r2 b_r3
          replace hL := hL.setCell (p := ⟨w_9.heap.size, 1, none⟩) (by dsimp only; omega) (.bool e1)
          have b_sD := sD.below hL
          have b_s0 := cell_then hL s0
          have b_s1 := cell_then hL s1
          have b_s2 := cell_then hL s2
          have b_tD := tD.below hL
          have b_t0 := cell_then hL t0
          have b_t1 := cell_then hL t1
          have b_t2 := cell_then hL t2
          have b_r0 := cell_then hL r0
          have b_r1 := cell_then hL r1
          have b_r2 := cell_then hL r2
          have b_r3 := cell_then hL r3
          replace y0 := cell_off (.bool e1) y0 (show (0 : Nat) ≠ 1 by omega)
          replace y1 := SV.s1 (.bool e1)
          replace y2 := cell_off (.bool e1) y2 (show (2 : Nat) ≠ 1 by omega)
          replace y3 := cell_off (.bool e1) y3 (show (3 : Nat) ≠ 1 by omega)
          replace SV := SV.set_ ⟨w_9.heap.size, 1, none⟩ (.bool e1)
          replace z0 := cell_set (p := ⟨w_9.heap.size, 1, none⟩) (.bool e1) z0 (by dsimp only; omega)
          replace z1 := cell_set (p := ⟨w_9.heap.size, 1, none⟩) (.bool e1) z1 (by dsimp only; omega)
          replace z2 := cell_set (p := ⟨w_9.heap.size, 1, none⟩) (.bool e1) z2 (by dsimp only; omega)
          replace z3 := cell_set (p := ⟨w_9.heap.size, 1, none⟩) (.bool e1) z3 (by dsimp only; omega)
          clear lb_s0 lb_t0 lb_r0 ly0 lz0
          obtain ⟨v_14, hv_14⟩ : ∃ vv_ : World, v_13.setCell ⟨w_9.heap.size, 1, none⟩ (.bool e1) = vv_ := ⟨_, rfl⟩
          rw [hv_14] at hL y0 y1 y2 y3 SV z0 z1 z2 z3 b_sD b_s0 b_s1 b_s2 b_tD b_t0 b_t1 b_t2 b_r0 b_r1 b_r2 b_r3 ⊢
          clear hv_14
          have fz := SV.f2
          have lb_s0 := lt_size b_s0
          have lb_t0 := lt_size b_t0
          have lb_r0 := lt_size b_r0
          have ly0 := lt_size y0
          have lz0 := lt_size z0
          go_upto_region 19 with fail
          go_cut [19] (fun s wx => ∃ c : Bool, s = .int .i64 (k : Int) ∧ Grows (d.y = Y) c2 c ∧ wx = v_14.setCell ⟨w_9.heap.size, 2, none⟩ (.bool c))
          case first =>
            go_wp2_with fail
            all_goals (go_meet; refine ⟨_, rfl, ?_, rfl⟩; first | exact Grows.yes | exact Grows.dec | exact Grows.beq | (constructor <;> simp_all))
          case rest =>
            obtain ⟨e2, rfl, Ge2, rfl⟩ := hcut
            clear fz
            have He2 := Lib.hid Ge2
            clear Ge2
            clear lb_s0 lb_t0 lb_r0 ly0 lz0
            have lb_s0 := lt_size b_s0
            have lb_t0 := lt_size b_t0
            have lb_r0 := lt_size b_r0
            have ly0 := lt_size y0
            have lz0 := lt_size z0
            clear b_sD b_s0 b_s1 b_s2 b_tD b_t0 b_t1 b_t2 b_r0 b_r1 b_r2 b_r3
            replace hL := hL.setCell (p := ⟨w_9.heap.size, 2, none⟩) (by dsimp only; omega) (.bool e2)
            have b_sD := sD.below hL
            have b_s0 := cell_then hL s0
            have b_s1 := cell_then hL s1
            have b_s2 := cell_then hL s2
            have b_tD := tD.below hL
            have b_t0 := cell_then hL t0
            have b_t1 := cell_then hL t1
            have b_t2 := cell_then hL t2
            have b_r0 := cell_then hL r0
            have b_r1 := cell_then hL r1
            have b_r2 := cell_then hL r2
            have b_r3 := cell_then hL r3
            replace y0 := cell_off (.bool e2) y0 (show (0 : Nat) ≠ 2 by omega)
            replace y1 := cell_off (.bool e2) y1 (show (1 : Nat) ≠ 2 by omega)
            replace y2 := SV.s2 (.bool e2)
            replace y3 := cell_off (.bool e2) y3 (show (3 : Nat) ≠ 2 by omega)
            replace SV := SV.set_ ⟨w_9.heap.size, 2, none⟩ (.bool e2)
            replace z0 := cell_set (p := ⟨w_9.heap.size, 2, none⟩) (.bool e2) z0 (by dsimp only; omega)
            replace z1 := cell_set (p := ⟨w_9.heap.size, 2, none⟩) (.bool e2) z1 (by dsimp only; omega)
            replace z2 := cell_set (p := ⟨w_9.heap.size, 2, none⟩) (.bool e2) z2 (by dsimp only; omega)
            replace z3 := cell_set (p := ⟨w_9.heap.size, 2, none⟩) (.bool e2) z3 (by dsimp only; omega)
            clear lb_s0 lb_t0 lb_r0 ly0 lz0
            obtain ⟨v_15, hv_15⟩ : ∃ vv_ : World, v_14.setCell ⟨w_9.heap.size, 2, none⟩ (.bool e2) = vv_ := ⟨_, rfl⟩
            rw [hv_15] at hL y0 y1 y2 y3 SV z0 z1 z2 z3 b_sD b_s0 b_s1 b_s2 b_tD b_t0 b_t1 b_t2 b_r0 b_r1 b_r2 b_r3 ⊢
            clear hv_15
            have fz := SV.f3
            cases c3 with
            | true =>
              have lb_s0 := lt_size b_s0
              have lb_t0 := lt_size b_t0
              have lb_r0 := lt_size b_r0
              have ly0 := lt_size y0
              have lz0 := lt_size z0
              go_wp2_with fail
              refine ⟨⟨k + 1, e0, e1, e2, _, by omega, by go_num, sides_next Hsq.out (by rw [Hd.out]; exact He0.out) (by rw [Hd.out]; exact He1.out) (by rw [Hd.out]; exact He2.out) ?_, cell_off _ y0 (show (0 : Nat) ≠ 3 by omega), cell_off _ y1 (show (1 : Nat) ≠ 3 by omega), cell_off _ y2 (show (2 : Nat) ≠ 3 by omega), SV.s3 _, SV.set_ _ _, hL.setCell (by dsimp only; omega) _⟩, by simp [intOf]; omega⟩
              rw [Hd.out]
              first | exact Grows.yes | exact Grows.dec | exact Grows.beq
            
            | false =>
              have lb_s0 := lt_size b_s0
              have lb_t0 := lt_size b_t0
              have lb_r0 := lt_size b_r0
              have ly0 := lt_size y0
              have lz0 := lt_size z0
              go_wp2_with fail
              refine ⟨⟨k + 1, e0, e1, e2, _, by omega, by go_num, sides_next Hsq.out (by rw [Hd.out]; exact He0.out) (by rw [Hd.out]; exact He1.out) (by rw [Hd.out]; exact He2.out) ?_, cell_off _ y0 (show (0 : Nat) ≠ 3 by omega), cell_off _ y1 (show (1 : Nat) ≠ 3 by omega), cell_off _ y2 (show (2 : Nat) ≠ 3 by omega), SV.s3 _, SV.set_ _ _, hL.setCell (by dsimp only; omega) _⟩, by simp [intOf]; omega⟩
              rw [Hd.out]
              first | exact Grows.yes | exact Grows.dec | exact Grows.beq
    · obtain rfl : k = D.length := by omega
      obtain ⟨h0, h1, h2, h3⟩ := Hhall.out _ _ _ _ Hsq.out
      subst h0 h1 h2 h3
      have hc9 := Hhcode.out
      clear Hhcode
      cases hPQ : (P == Q) with
      | true =>
        obtain rfl : P = Q := by simpa using hPQ
        clear hPQ
        cases hNM : (N == M) with
        | true =>
          obtain rfl : N = M := by simpa using hNM
          clear hNM hc9
          have CD := Lib.hid (fun (W : World) (hW : Dots W (some ⟨g, 0, none⟩) D) => (by have h := code_any P N _ cp D W hW (by omega); rw [if_pos Hhval.out] at h; exact h : Calls Try.prog 22 #[.agg #[.int .i64 P, .int .i64 N, .slice (some ⟨g, 0, none⟩) D.length cp]] W fun e w' => e = .returned (.int .i64 (1000 * P + N)) ∧ Below W.heap.size W w'))
          have CE := Lib.hid (fun (W : World) (hW : Dots W (some ⟨ge, 0, none⟩) E) => (by have h := code_any P N _ ce E W hW (by omega); rw [if_pos HhvE.out] at h; exact h : Calls Try.prog 22 #[.agg #[.int .i64 P, .int .i64 N, .slice (some ⟨ge, 0, none⟩) E.length ce]] W fun e w' => e = .returned (.int .i64 (1000 * P + N)) ∧ Below W.heap.size W w'))
          have lb_s0 := lt_size b_s0
          have lb_t0 := lt_size b_t0
          have lb_r0 := lt_size b_r0
          have ly0 := lt_size y0
          go_wp2_with fail
          clear lb_s0 lb_t0 lb_r0 ly0
          have g_y0 := fun D os => cell_regrown y0 D os
          have g_y1 := fun D os => cell_regrown y1 D os
          have g_y2 := fun D os => cell_regrown y2 D os
          have g_y3 := fun D os => cell_regrown y3 D os
          have g_b_s0 := fun D os => cell_regrown b_s0 D os
          have g_b_s1 := fun D os => cell_regrown b_s1 D os
          have g_b_s2 := fun D os => cell_regrown b_s2 D os
          have g_b_t0 := fun D os => cell_regrown b_t0 D os
          have g_b_t1 := fun D os => cell_regrown b_t1 D os
          have g_b_t2 := fun D os => cell_regrown b_t2 D os
          have lb_s0 := lt_size b_s0
          have lb_t0 := lt_size b_t0
          have lb_r0 := lt_size b_r0
          have ly0 := lt_size y0
          refine wp_region_quiet_below (by kernel_rfl) (by kernel_rfl) ?_
          repeat (go_big_quiet_step (first | (with_reducible exact Calls.regrown_of (CD.out _ (b_sD.below (below_regrown _ _ _)))) | (with_reducible exact Calls.regrown_of (CE.out _ (b_tD.below (below_regrown _ _ _))))))
          refine wpQuiet_nil ?_
          intro wq_10 hq0
          have hq_11 := below_of_class hq0
          clear hq0
          clear g_y0 g_y1 g_y2 g_y3 g_b_s0 g_b_s1 g_b_s2 g_b_t0 g_b_t1 g_b_t2
          clear lb_s0 lb_t0 lb_r0 ly0
          clear b_sD b_s0 b_s1 b_s2 b_tD b_t0 b_t1 b_t2 b_r0 b_r1 b_r2 b_r3
          replace hL := below_next hL hq_11
          have b_sD := sD.below hL
          have b_s0 := cell_then hL s0
          have b_s1 := cell_then hL s1
          have b_s2 := cell_then hL s2
          have b_tD := tD.below hL
          have b_t0 := cell_then hL t0
          have b_t1 := cell_then hL t1
          have b_t2 := cell_then hL t2
          have b_r0 := cell_then hL r0
          have b_r1 := cell_then hL r1
          have b_r2 := cell_then hL r2
          have b_r3 := cell_then hL r3
          replace y0 := cell_then hq_11 y0
          replace y1 := cell_then hq_11 y1
          replace y2 := cell_then hq_11 y2
          replace y3 := cell_then hq_11 y3
          replace SV := SV.then_ hq_11
          clear hq_11
          have lb_s0 := lt_size b_s0
          have lb_t0 := lt_size b_t0
          have lb_r0 := lt_size b_r0
          have ly0 := lt_size y0
          go_wp2_with fail
          go_ret
          exact ⟨rfl, below_next hB hL⟩
        | false =>
          simp only [hNM, Bool.and_false] at hc9
          have CD := Lib.hid (fun (W : World) (hW : Dots W (some ⟨g, 0, none⟩) D) => (by have h := code_any P N _ cp D W hW (by omega); rw [if_pos Hhval.out] at h; exact h : Calls Try.prog 22 #[.agg #[.int .i64 P, .int .i64 N, .slice (some ⟨g, 0, none⟩) D.length cp]] W fun e w' => e = .returned (.int .i64 (1000 * P + N)) ∧ Below W.heap.size W w'))
          have CE := Lib.hid (fun (W : World) (hW : Dots W (some ⟨ge, 0, none⟩) E) => (by have h := code_any P M _ ce E W hW (by omega); rw [if_pos HhvE.out] at h; exact h : Calls Try.prog 22 #[.agg #[.int .i64 P, .int .i64 M, .slice (some ⟨ge, 0, none⟩) E.length ce]] W fun e w' => e = .returned (.int .i64 (1000 * P + M)) ∧ Below W.heap.size W w'))
          have lb_s0 := lt_size b_s0
          have lb_t0 := lt_size b_t0
          have lb_r0 := lt_size b_r0
          have ly0 := lt_size y0
          go_wp2_with fail
          clear lb_s0 lb_t0 lb_r0 ly0
          have g_y0 := fun D os => cell_regrown y0 D os
          have g_y1 := fun D os => cell_regrown y1 D os
          have g_y2 := fun D os => cell_regrown y2 D os
          have g_y3 := fun D os => cell_regrown y3 D os
          have g_b_s0 := fun D os => cell_regrown b_s0 D os
          have g_b_s1 := fun D os => cell_regrown b_s1 D os
          have g_b_s2 := fun D os => cell_regrown b_s2 D os
          have g_b_t0 := fun D os => cell_regrown b_t0 D os
          have g_b_t1 := fun D os => cell_regrown b_t1 D os
          have g_b_t2 := fun D os => cell_regrown b_t2 D os
          have lb_s0 := lt_size b_s0
          have lb_t0 := lt_size b_t0
          have lb_r0 := lt_size b_r0
          have ly0 := lt_size y0
          refine wp_region_quiet_below (by kernel_rfl) (by kernel_rfl) ?_
          repeat (go_big_quiet_step (first | (with_reducible exact Calls.regrown_of (CD.out _ (b_sD.below (below_regrown _ _ _)))) | (with_reducible exact Calls.regrown_of (CE.out _ (b_tD.below (below_regrown _ _ _))))))
          refine wpQuiet_nil ?_
          intro wq_10 hq0
          have hq_11 := below_of_class hq0
          clear hq0
          clear g_y0 g_y1 g_y2 g_y3 g_b_s0 g_b_s1 g_b_s2 g_b_t0 g_b_t1 g_b_t2
          clear lb_s0 lb_t0 lb_r0 ly0
          clear b_sD b_s0 b_s1 b_s2 b_tD b_t0 b_t1 b_t2 b_r0 b_r1 b_r2 b_r3
          replace hL := below_next hL hq_11
          have b_sD := sD.below hL
          have b_s0 := cell_then hL s0
          have b_s1 := cell_then hL s1
          have b_s2 := cell_then hL s2
          have b_tD := tD.below hL
          have b_t0 := cell_then hL t0
          have b_t1 := cell_then hL t1
          have b_t2 := cell_then hL t2
          have b_r0 := cell_then hL r0
          have b_r1 := cell_then hL r1
          have b_r2 := cell_then hL r2
          have b_r3 := cell_then hL r3
          replace y0 := cell_then hq_11 y0
          replace y1 := cell_then hq_11 y1
          replace y2 := cell_then hq_11 y2
          replace y3 := cell_then hq_11 y3
          replace SV := SV.then_ hq_11
          clear hq_11
          have lb_s0 := lt_size b_s0
          have lb_t0 := lt_size b_t0
          have lb_r0 := lt_size b_r0
          have ly0 := lt_size y0
          go_wp2_with fail
          go_ret
          exact ⟨rfl, below_next hB hL⟩
      | false =>
        simp only [hPQ, Bool.false_and] at hc9
        have CD := Lib.hid (fun (W : World) (hW : Dots W (some ⟨g, 0, none⟩) D) => (by have h := code_any P N _ cp D W hW (by omega); rw [if_pos Hhval.out] at h; exact h : Calls Try.prog 22 #[.agg #[.int .i64 P, .int .i64 N, .slice (some ⟨g, 0, none⟩) D.length cp]] W fun e w' => e = .returned (.int .i64 (1000 * P + N)) ∧ Below W.heap.size W w'))
        have CE := Lib.hid (fun (W : World) (hW : Dots W (some ⟨ge, 0, none⟩) E) => (by have h := code_any Q M _ ce E W hW (by omega); rw [if_pos HhvE.out] at h; exact h : Calls Try.prog 22 #[.agg #[.int .i64 Q, .int .i64 M, .slice (some ⟨ge, 0, none⟩) E.length ce]] W fun e w' => e = .returned (.int .i64 (1000 * Q + M)) ∧ Below W.heap.size W w'))
        have lb_s0 := lt_size b_s0
        have lb_t0 := lt_size b_t0
        have lb_r0 := lt_size b_r0
        have ly0 := lt_size y0
        go_wp2_with fail
        clear lb_s0 lb_t0 lb_r0 ly0
        have g_y0 := fun D os => cell_regrown y0 D os
        have g_y1 := fun D os => cell_regrown y1 D os
        have g_y2 := fun D os => cell_regrown y2 D os
        have g_y3 := fun D os => cell_regrown y3 D os
        have g_b_s0 := fun D os => cell_regrown b_s0 D os
        have g_b_s1 := fun D os => cell_regrown b_s1 D os
        have g_b_s2 := fun D os => cell_regrown b_s2 D os
        have g_b_t0 := fun D os => cell_regrown b_t0 D os
        have g_b_t1 := fun D os => cell_regrown b_t1 D os
        have g_b_t2 := fun D os => cell_regrown b_t2 D os
        have lb_s0 := lt_size b_s0
        have lb_t0 := lt_size b_t0
        have lb_r0 := lt_size b_r0
        have ly0 := lt_size y0
        refine wp_region_quiet_below (by kernel_rfl) (by kernel_rfl) ?_
        repeat (go_big_quiet_step (first | (with_reducible exact Calls.regrown_of (CD.out _ (b_sD.below (below_regrown _ _ _)))) | (with_reducible exact Calls.regrown_of (CE.out _ (b_tD.below (below_regrown _ _ _))))))
        refine wpQuiet_nil ?_
        intro wq_10 hq0
        have hq_11 := below_of_class hq0
        clear hq0
        clear g_y0 g_y1 g_y2 g_y3 g_b_s0 g_b_s1 g_b_s2 g_b_t0 g_b_t1 g_b_t2
        clear lb_s0 lb_t0 lb_r0 ly0
        clear b_sD b_s0 b_s1 b_s2 b_tD b_t0 b_t1 b_t2 b_r0 b_r1 b_r2 b_r3
        replace hL := below_next hL hq_11
        have b_sD := sD.below hL
        have b_s0 := cell_then hL s0
        have b_s1 := cell_then hL s1
        have b_s2 := cell_then hL s2
        have b_tD := tD.below hL
        have b_t0 := cell_then hL t0
        have b_t1 := cell_then hL t1
        have b_t2 := cell_then hL t2
        have b_r0 := cell_then hL r0
        have b_r1 := cell_then hL r1
        have b_r2 := cell_then hL r2
        have b_r3 := cell_then hL r3
        replace y0 := cell_then hq_11 y0
        replace y1 := cell_then hq_11 y1
        replace y2 := cell_then hq_11 y2
        replace y3 := cell_then hq_11 y3
        replace SV := SV.then_ hq_11
        clear hq_11
        have lb_s0 := lt_size b_s0
        have lb_t0 := lt_size b_t0
        have lb_r0 := lt_size b_r0
        have ly0 := lt_size y0
        go_wp2_with fail
        go_ret
        exact ⟨rfl, below_next hB hL⟩
end Go.Proofs.Ytgmabepdhbnppaa
