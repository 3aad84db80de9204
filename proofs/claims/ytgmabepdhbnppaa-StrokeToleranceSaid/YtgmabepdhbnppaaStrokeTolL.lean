/- The walk of the law StrokeTolerance. -/
import Derived.Test.YtgmabepdhbnppaaStrokeSane
import Derived.Test.YtgmabepdhbnppaaStrokeChain
import Derived.Test.YtgmabepdhbnppaaStrokeMade
import Derived.Test.YtgmabepdhbnppaaHead
import Derived.Test.YtgmabepdhbnppaaOneWay
namespace Go.Proofs.Ytgmabepdhbnppaa
open Go.RowKit Str
/-- where the law's loop stands in the list of indices -/
def AtQ (T : List Nat) (k q : Nat) : Prop := q < T.length ∧ T.getD q 0 ≤ k ∧ (q + 1 < T.length → k ≤ T.getD (q + 1) 0)
/-- a slice of indices -/
def NatsAt (w : World) (A : Option Addr) (T : List Nat) : Prop := ∀ i, i < T.length → ∃ b o, A = some ⟨b, o, none⟩ ∧ w.cell? ⟨b, o + i, none⟩ = some (.int .i64 ((T.getD i 0 : Nat) : Int))
theorem NatsAt.then_ {w w' : World} {A : Option Addr} {T : List Nat} (h : NatsAt w A T) (hb : Below w.heap.size w w') : NatsAt w' A T := fun i hi => by
  obtain ⟨b, o, hA, hc⟩ := h i hi
  exact ⟨b, o, hA, cell_then hb hc⟩
theorem natI_getD (T : List Nat) (i : Nat) : (natI T).getD i 0 = ((T.getD i 0 : Nat) : Int) := by
  rw [List.getD, List.getD, natI, List.getElem?_map]
  cases T[i]? <;> rfl
theorem nats_of {w : World} {A : Option Addr} {T : List Nat} (h : IntsAt w A (natI T)) : NatsAt w A T := fun i hi => by
  obtain ⟨b, o, hA, hc⟩ := h i (by rw [natI_length]; exact hi)
  exact ⟨b, o, hA, by rw [← natI_getD]; exact hc⟩
set_option maxRecDepth 100000 in
set_option maxHeartbeats 8000000 in
theorem tol_walk (a b m tol more P N X Y V H X2 Y2 V2 H2 z y : Int) (A : Option Addr) (cap : Nat) (es : List E3) (D K : List Dot) (l : List Int) (nb : Nat) (T : List Nat) (w : World) (ia : I64 a) (ib : I64 b) (it : I64 tol) (im : I64 more) (hm : wrap64 (a * 37) = m)
    (hE : Ents w A es) (hI : ∀ e ∈ es, I64 e.a ∧ I64 e.b ∧ I64 e.c) (hn : (es.length : Int) ≤ 9223372036854775807)
    (hD : madeD a b m es = D) (hP : pickI a 40 = P) (hN : 1 + pickI b 999 = N) (hz : pickI tol 400 = z) (hy : z + pickI more 600 = y)
    (hval : validB P N D = true) (hl : natI (thinF D z) = l) (hb : (thinF D y).length = nb) (hT : thinF D 0 = T) (l1 : nb ≤ l.length) (l2 : l.length ≤ T.length) (l3 : 1 ≤ T.length) (l4 : T.length ≤ 200) (l5 : 1 ≤ l.length)
    (hT0 : T.getD 0 0 = 0) (hTl : T.getD (T.length - 1) 0 = D.length - 1) (hTs : ∀ i, i + 1 < T.length → T.getD i 0 < T.getD (i + 1) 0 ∧ ∀ k, T.getD i 0 < k → k < T.getD (i + 1) 0 →
      ((dotAt D (T.getD (i + 1) 0)).x - (dotAt D (T.getD i 0)).x) * ((dotAt D k).y - (dotAt D (T.getD i 0)).y) = ((dotAt D (T.getD (i + 1) 0)).y - (dotAt D (T.getD i 0)).y) * ((dotAt D k).x - (dotAt D (T.getD i 0)).x)) (hTi : ∀ i, i < T.length → T.getD i 0 < D.length)
    (hk1 : keptFrom D.length (-1) l = true) (hK : keptE D l = K) (hvK : validB P N K = true) (hbox : boxF D = (X, Y, V, H)) (hbK : boxF K = (X2, Y2, V2, H2)) (bx : 0 ≤ X ∧ 0 ≤ V ∧ X + V ≤ 4095) (b_y : 0 ≤ Y ∧ 0 ≤ H ∧ Y + H ≤ 4095) (bx2 : 0 ≤ V2 ∧ X ≤ X2 ∧ X2 + V2 ≤ X + V) (by2 : 0 ≤ H2 ∧ Y ≤ Y2 ∧ Y2 + H2 ≤ Y + H) :
    Calls Try.prog 5 #[.int .i64 a, .int .i64 b, .slice A es.length cap, .int .i64 tol, .int .i64 more] w fun e w' => e = .returned (.bool true) ∧ Below w.heap.size w w' := by
  have Hhm := Lib.hid hm
  clear hm
  have HhE := Lib.hid hE
  clear hE
  have HhI := Lib.hid hI
  clear hI
  have HhD := Lib.hid hD
  clear hD
  have HhP := Lib.hid hP
  clear hP
  have HhN := Lib.hid hN
  clear hN
  have Hhz := Lib.hid hz
  clear hz
  have Hhy := Lib.hid hy
  clear hy
  have Hhval := Lib.hid hval
  clear hval
  have Hhl := Lib.hid hl
  clear hl
  have Hhb := Lib.hid hb
  clear hb
  have HhT := Lib.hid hT
  clear hT
  have HhT0 := Lib.hid hT0
  clear hT0
  have HhTl := Lib.hid hTl
  clear hTl
  have HhTs := Lib.hid hTs
  clear hTs
  have HhTi := Lib.hid hTi
  clear hTi
  have Hhk1 := Lib.hid hk1
  clear hk1
  have HhK := Lib.hid hK
  clear hK
  have HhvK := Lib.hid hvK
  clear hvK
  have Hhbox := Lib.hid hbox
  clear hbox
  have HhbK := Lib.hid hbK
  clear hbK
  have bz : 0 ≤ z ∧ z ≤ 399 := by have := pickI_bd tol (n := 400) (by omega); rw [Hhz.out] at this; omega
  have bm := pickI_bd more (n := 600) (by omega)
  have b_y2 : z ≤ y ∧ y ≤ 999 := by have := Hhy.out; omega
  have zi : isInB z 0 1000 = true := isInB_iff.2 ⟨by omega, by omega⟩
  have yi : isInB y 0 1000 = true := isInB_iff.2 ⟨by omega, by omega⟩
  have hnD : (D.length : Int) ≤ 200 ∧ 1 ≤ (D.length : Int) := by have := (valid_len Hhval.out).1; omega
  have hnK : (K.length : Int) ≤ 200 := by have := (valid_len HhvK.out).1; omega
  go_enter Try.func5, Try.ntmps5
  go_wp2_with fail
  have hB := Below.refl w.heap.size w
  have HEn := HhE
  clear HhE
  refine (sane_any _).mono ?_
  rintro e w_1 ⟨rfl, bq⟩
  replace hB := below_next hB bq
  replace HEn := Lib.hid (HEn.out.below bq)
  clear bq
  go_wp2_with fail
  refine (made_any a b m A cap es _ ia ib Hhm.out HEn.out HhI.out hn).mono ?_
  rintro e w_2 ⟨g, cp, rfl, hgs, sD, hcp, hcp2, bq⟩
  rw [HhD.out] at sD hcp ⊢
  rw [HhP.out, HhN.out]
  clear hgs
  replace hB := below_next hB bq
  replace HEn := Lib.hid (HEn.out.below bq)
  clear bq
  go_wp2_with fail
  clear HEn
  have hA : Below w_2.heap.size w_2 (w_2.alloc (.cells #[.int .i64 P, .int .i64 N, .slice (some ⟨g, 0, none⟩) D.length cp] 27)) := below_alloc (Below.refl _ _) _
  replace hB := below_next hB hA
  replace sD := sD.below hA
  have s0 : (w_2.alloc (.cells #[.int .i64 P, .int .i64 N, .slice (some ⟨g, 0, none⟩) D.length cp] 27)).cell? ⟨w_2.heap.size, 0, none⟩ = some (.int .i64 P) := new_cell rfl
  have s1 : (w_2.alloc (.cells #[.int .i64 P, .int .i64 N, .slice (some ⟨g, 0, none⟩) D.length cp] 27)).cell? ⟨w_2.heap.size, 1, none⟩ = some (.int .i64 N) := new_cell rfl
  have s2 : (w_2.alloc (.cells #[.int .i64 P, .int .i64 N, .slice (some ⟨g, 0, none⟩) D.length cp] 27)).cell? ⟨w_2.heap.size, 2, none⟩ = some (.slice (some ⟨g, 0, none⟩) D.length cp) := new_cell rfl
  obtain ⟨v_3, hv_3⟩ : ∃ vv_ : World, (w_2.alloc (.cells #[.int .i64 P, .int .i64 N, .slice (some ⟨g, 0, none⟩) D.length cp] 27)) = vv_ := ⟨_, rfl⟩
  rw [hv_3] at hB sD s0 s1 s2 ⊢
  clear hA hv_3
  have ls0 := lt_size s0
  refine (pickL_any _ _ _ it (by omega) (by omega)).mono ?_
  rintro e w_4 ⟨rfl, rfl⟩
  rw [Hhz.out]
  clear ls0
  have ls0 := lt_size s0
  go_wp2_with fail
  refine (thin_yes P N _ cp D z _ sD hcp hcp2 Hhval.out zi).mono ?_
  rintro e w_5 ⟨A1, c1, rfl, iA, hc1, bq⟩
  clear ls0
  replace hB := below_next hB bq
  replace sD := sD.below bq
  replace s0 := cell_then bq s0
  replace s1 := cell_then bq s1
  replace s2 := cell_then bq s2
  clear bq
  rw [← natI_length (thinF D z), Hhl.out]
  rw [Hhl.out] at iA
  clear hc1
  have ls0 := lt_size s0
  go_wp2_with fail
  have CZ := Lib.hid (fun (W : World) => (by have h := pickL_any more 600 W im (by omega) (by omega); exact h : Calls Try.prog 12 #[.int .i64 more, .int .i64 600] W fun e w' => e = .returned (.int .i64 (pickI more 600)) ∧ W = w'))
  have hw1 : IntKind.i64.wrap (z + pickI more 600) = z + pickI more 600 := IntWalk.i64_in _ (by omega)
  have yi2 : isInB (z + pickI more 600) 0 1000 = true := by rw [Hhy.out]; exact yi
  clear ls0
  have ls0 := lt_size s0
  go_region_held3 (fun w' => Below w_5.heap.size w_5 w' ∧ w'.cell? ⟨w_2.heap.size, 0, none⟩ = some (.int .i64 P) ∧ w'.cell? ⟨w_2.heap.size, 1, none⟩ = some (.int .i64 N) ∧ w'.cell? ⟨w_2.heap.size, 2, none⟩ = some (.slice (some ⟨g, 0, none⟩) D.length cp)) ((suffices hB : Below w_5.heap.size w_5 _ from ⟨hB, cell_then hB ‹_›, cell_then hB ‹_›, cell_then hB ‹_›⟩; repeat (first | with_reducible exact Below.refl _ _ | with_reducible refine below_alloc ?_ _ | with_reducible refine Below.setCell ?_ (by dsimp only; omega) _ | with_reducible refine Below.drew ?_ | with_reducible refine below_next ?_ ‹Below _ _ _›))) (first | (go_at_call 12; refine (CZ.out _).mono ?_; rintro e w' ⟨rfl, rfl⟩) | (go_at_call 28; refine (thin_yes P N _ cp D (z + pickI more 600) _ (sD.below (by first | assumption | exact And.left (by assumption) | exact And.left ‹Below _ _ _ ∧ _› | exact Below.drew (Below.refl _ _))) hcp hcp2 Hhval.out yi2).mono ?_; rintro e w' ⟨A2, c2, rfl, iB, hc2, bq⟩))
  obtain ⟨F1, -⟩ := ‹Below w_5.heap.size w_5 _ ∧ _›
  clear ls0
  replace hB := below_next hB F1
  replace sD := sD.below F1
  replace s0 := cell_then F1 s0
  replace s1 := cell_then F1 s1
  replace s2 := cell_then F1 s2
  replace iA := iA.then_ F1
  clear F1 CZ hw1 yi2
  rw [Hhy.out, Hhb.out]
  have ls0 := lt_size s0
  go_wp2_with fail
  refine (thin_yes P N _ cp D 0 _ sD hcp hcp2 Hhval.out (by decide)).mono ?_
  rintro e w_6 ⟨A3, c3, rfl, iC0, hc3, bq⟩
  clear ls0
  replace hB := below_next hB bq
  replace sD := sD.below bq
  replace s0 := cell_then bq s0
  replace s1 := cell_then bq s1
  replace s2 := cell_then bq s2
  replace iA := iA.then_ bq
  clear bq
  rw [HhT.out] at iC0 ⊢
  have iC := nats_of iC0
  clear hc3 iC0
  obtain ⟨bc, oc, rfl, lc⟩ := iC (T.length - 1) (by omega)
  rw [HhTl.out] at lc
  obtain ⟨last, hlast⟩ : ∃ q, D.length - 1 = q := ⟨_, rfl⟩
  rw [hlast] at lc
  have hlast2 : (last : Int) = (D.length : Int) - 1 := by omega
  have ls0 := lt_size s0
  go_wp2_with fail
  have eq1 : ((T.length : Int) - 1).toNat = T.length - 1 := by omega
  have wq1 : IntKind.i64.wrap ((T.length : Int) - 1) = (T.length : Int) - 1 := IntWalk.i64_in _ (by omega)
  have wq2 : IntKind.i64.wrap ((D.length : Int) - 1) = (D.length : Int) - 1 := IntWalk.i64_in _ (by omega)
  have b01 : (0 : Int) ≤ (T.length : Int) - 1 := by omega
  have b02 : (T.length : Int) - 1 < (T.length : Int) := by omega
  have u1 : decide ((l.length : Int) < (nb : Int)) = false := decide_eq_false (by omega)
  have u2 : decide ((T.length : Int) < (l.length : Int)) = false := decide_eq_false (by omega)
  have u3 : ((T.length : Int) == 0) = false := by rw [beq_eq_false_iff_ne]; omega
  have u4 : ((last : Int) != (D.length : Int) - 1) = false := by rw [bne_eq_false_iff_eq]; omega
  have u5 : decide (l.length < nb) = false := decide_eq_false (by omega)
  have u6 : decide (T.length < l.length) = false := decide_eq_false (by omega)
  have u7 : (T.length == 0) = false := by rw [beq_eq_false_iff_ne]; omega
  clear ls0
  have g_s2 := fun D os => cell_regrown s2 D os
  have g_lc := fun D os => cell_regrown lc D os
  have ls0 := lt_size s0
  refine wp_region_quiet_below (by kernel_rfl) (by kernel_rfl) ?_
  repeat (go_big_quiet_step (fail))
  refine wpQuiet_nil ?_
  intro wq_7 hq0
  have hq_8 := below_of_class hq0
  clear hq0
  clear g_s2 g_lc
  clear ls0
  replace hB := below_next hB hq_8
  replace sD := sD.below hq_8
  replace s0 := cell_then hq_8 s0
  replace s1 := cell_then hq_8 s1
  replace s2 := cell_then hq_8 s2
  replace iA := iA.then_ hq_8
  replace iC := iC.then_ hq_8
  replace lc := cell_then hq_8 lc
  clear hq_8
  clear eq1 wq1 wq2 b01 b02 u1 u2 u3 u4 u5 u6 u7
  have ls0 := lt_size s0
  go_wp2_with fail
  clear hlast hlast2 lc
  go_loopw [20, 21] (fun t i wr => ∃ (k q : Nat), k ≤ D.length ∧ i = .int .i64 (k : Int) ∧ t = .int .i64 (q : Int) ∧ AtQ T k q ∧ Below wq_7.heap.size wq_7 wr) (fun _ i _ => D.length - (intOf i).toNat)
  case atStart => exact ⟨0, 0, by omega, rfl, rfl, ⟨by omega, by rw [HhT0.out]; omega, fun _ => Nat.zero_le _⟩, Below.refl _ _⟩
  case round =>
    clear ls0
    obtain ⟨k, q, hk, rfl, rfl, hat, hL⟩ := hrel
    obtain ⟨hq1, hq2, hq3⟩ := hat
    have b_sD := sD.below hL
    have b_s0 := cell_then hL s0
    have b_s1 := cell_then hL s1
    have b_s2 := cell_then hL s2
    have b_iA := iA.then_ hL
    have b_iC := iC.then_ hL
    by_cases hlt : k < D.length
    · have hki : (k : Int) < (D.length : Int) := by omega
      have hk0 : (0 : Int) ≤ (k : Int) := by omega
      have hqi : (q : Int) < (T.length : Int) := by omega
      have hq0 : (0 : Int) ≤ (q : Int) := by omega
      obtain ⟨b_, o_, hA_, cq⟩ := b_iC q hq1
      cases hA_
      obtain ⟨tq, htq⟩ : ∃ x, T.getD q 0 = x := ⟨_, rfl⟩
      rw [htq] at cq hq2
      have ltq : tq < D.length := by rw [← htq]; exact HhTi.out q hq1
      have Htq := Lib.hid htq
      clear htq
      by_cases h1 : q + 1 < T.length
      · have hq1i : (q : Int) + 1 < (T.length : Int) := by omega
        have hq10 : (0 : Int) ≤ (q : Int) + 1 := by omega
        obtain ⟨b_, o_, hA_, c1_⟩ := b_iC (q + 1) h1
        cases hA_
        obtain ⟨t1, ht1⟩ : ∃ x, T.getD (q + 1) 0 = x := ⟨_, rfl⟩
        have hst := HhTs.out q h1
        rw [Htq.out, ht1] at hst
        rw [ht1] at c1_ hq3
        have lt1 : t1 < D.length := by rw [← ht1]; exact HhTi.out _ h1
        have hq4 := hq3 h1
        have hst1 := hst.1
        have Hst := Lib.hid hst.2
        have Ht1 := Lib.hid ht1
        clear hst ht1 hq3
        by_cases h2 : t1 = k
        · subst h2
          have hle : t1 ≤ t1 := Nat.le_refl _
          have lb_s0 := lt_size b_s0
          go_wp2_with fail
          refine ⟨⟨t1 + 1, q + 1, by omega, by go_num, by go_num, ⟨h1, by rw [Ht1.out]; omega, fun h => ?_⟩, hL⟩, by simp [intOf]; omega⟩
          have := (HhTs.out (q + 1) h).1
          rw [Ht1.out] at this
          omega
        · have hkt : k < t1 := by omega
          have hkt2 : (k : Int) < (t1 : Int) := by omega
          by_cases h3 : tq = k
          · subst h3
            have lb_s0 := lt_size b_s0
            go_wp2_with fail
            exact ⟨⟨tq + 1, q, by omega, by go_num, rfl, ⟨hq1, by rw [Htq.out]; omega, fun _ => by rw [Ht1.out]; omega⟩, hL⟩, by simp [intOf]; omega⟩
          · have hne : ((tq : Int) == (k : Int)) = false := by rw [beq_eq_false_iff_ne]; omega
            have hne2 : (tq == k) = false := by rw [beq_eq_false_iff_ne]; omega
            have htk : tq < k := by omega
            have lb_s0 := lt_size b_s0
            go_wp2_with fail
            have x1 : IntKind.i64.wrap ((q : Int) + 1) = (q : Int) + 1 := IntWalk.i64_in _ (by omega)
            have x2 : ((q : Int) + 1).toNat = q + 1 := by omega
            have u1 : decide ((T.length : Int) ≤ (q : Int) + 1) = false := decide_eq_false (by omega)
            have u2 : decide ((tq : Int) < 0) = false := decide_eq_false (by omega)
            have u3 : decide (D.length ≤ t1) = false := decide_eq_false (by omega)
            have u4 : decide ((D.length : Int) ≤ (t1 : Int)) = false := decide_eq_false (by omega)
            clear lb_s0
            have g_cq := fun D os => cell_regrown cq D os
            have g_c1_ := fun D os => cell_regrown c1_ D os
            have g_b_s2 := fun D os => cell_regrown b_s2 D os
            have lb_s0 := lt_size b_s0
            refine wp_region_quiet_below (by kernel_rfl) (by kernel_rfl) ?_
            repeat (go_big_quiet_step (fail))
            refine wpQuiet_nil ?_
            intro wq_9 hq0
            have hq_10 := below_of_class hq0
            clear hq0
            clear g_cq g_c1_ g_b_s2
            clear lb_s0
            clear b_sD b_s0 b_s1 b_s2 b_iA b_iC
            replace hL := below_next hL hq_10
            have b_sD := sD.below hL
            have b_s0 := cell_then hL s0
            have b_s1 := cell_then hL s1
            have b_s2 := cell_then hL s2
            have b_iA := iA.then_ hL
            have b_iC := iC.then_ hL
            replace cq := cell_then hq_10 cq
            replace c1_ := cell_then hq_10 c1_
            clear hq_10
            clear u1 u2 u3 u4 x1 x2
            obtain ⟨b_, o_, hA_, p0_, p1_, p2_, p3_⟩ := b_sD tq ltq
            cases hA_
            simp only [Nat.zero_add] at p0_ p1_ p2_ p3_
            obtain ⟨b_, o_, hA_, r0_, r1_, r2_, r3_⟩ := b_sD t1 lt1
            cases hA_
            simp only [Nat.zero_add] at r0_ r1_ r2_ r3_
            obtain ⟨b_, o_, hA_, d0_, d1_, d2_, d3_⟩ := b_sD k hlt
            cases hA_
            simp only [Nat.zero_add] at d0_ d1_ d2_ d3_
            have hst9 := Hst.out k htk hkt
            obtain ⟨p, hp⟩ : ∃ x, dotAt D tq = x := ⟨_, rfl⟩
            obtain ⟨r, hr⟩ : ∃ x, dotAt D t1 = x := ⟨_, rfl⟩
            obtain ⟨d, hd⟩ : ∃ x, dotAt D k = x := ⟨_, rfl⟩
            have bp := placeB_iff.1 (placed (validB_dots Hhval.out) _ (dotAt_mem ltq))
            have br := placeB_iff.1 (placed (validB_dots Hhval.out) _ (dotAt_mem lt1))
            have bd := placeB_iff.1 (placed (validB_dots Hhval.out) _ (dotAt_mem hlt))
            rw [hp] at bp p0_ p1_ p2_ p3_
            rw [hr] at br r0_ r1_ r2_ r3_
            rw [hd] at bd d0_ d1_ d2_ d3_
            rw [hp, hr, hd] at hst9
            have Hst9 := Lib.hid hst9
            clear hst9 hp hr hd
            have itq : (tq : Int) < (D.length : Int) := by omega
            have it1 : (t1 : Int) < (D.length : Int) := by omega
            have itq0 : (0 : Int) ≤ (tq : Int) := by omega
            have it10 : (0 : Int) ≤ (t1 : Int) := by omega
            have jx : (if (tq : Int) < 0 then (0 : Int) else (tq : Int)) = (tq : Int) := if_neg (by omega)
            have lb_s0 := lt_size b_s0
            go_wp2_with fail
            clear lb_s0
            have lb_s0 := lt_size b_s0
            apply wp_same
            case hreg =>
              go_region_held3 (fun w' => Below wq_9.heap.size wq_9 w' ∧ w'.cell? ⟨w_2.heap.size, 2, none⟩ = some (.slice (some ⟨g, 0, none⟩) D.length cp) ∧ w'.cell? ⟨bc, oc + q, none⟩ = some (.int .i64 (tq : Int)) ∧ w'.cell? ⟨g, tq * 4, none⟩ = some (.int .i64 p.x) ∧ w'.cell? ⟨g, tq * 4 + 1, none⟩ = some (.int .i64 p.y) ∧ w'.cell? ⟨g, tq * 4 + 2, none⟩ = some (.int .i64 p.t) ∧ w'.cell? ⟨g, tq * 4 + 3, none⟩ = some (.int .i64 p.p)) ((suffices hB : Below wq_9.heap.size wq_9 _ from ⟨hB, cell_then hB ‹_›, cell_then hB ‹_›, cell_then hB ‹_›, cell_then hB ‹_›, cell_then hB ‹_›, cell_then hB ‹_›⟩; repeat (first | with_reducible exact Below.refl _ _ | with_reducible refine below_alloc ?_ _ | with_reducible refine Below.setCell ?_ (by dsimp only; omega) _ | with_reducible refine Below.drew ?_ | with_reducible refine below_next ?_ ‹Below _ _ _›))) (fail)
              all_goals exact EndsIn.mk
            case hcont =>
              clear jx
              have hA : Below wq_9.heap.size wq_9 (wq_9.alloc (.cells #[.int .i64 p.x, .int .i64 p.y, .int .i64 p.t, .int .i64 p.p] 24)).drew := (below_alloc (Below.refl _ _) _).drew
              clear lb_s0
              clear b_sD b_s0 b_s1 b_s2 b_iA b_iC
              replace hL := below_next hL hA
              have b_sD := sD.below hL
              have b_s0 := cell_then hL s0
              have b_s1 := cell_then hL s1
              have b_s2 := cell_then hL s2
              have b_iA := iA.then_ hL
              have b_iC := iC.then_ hL
              replace cq := cell_then hA cq
              replace c1_ := cell_then hA c1_
              replace p0_ := cell_then hA p0_
              replace p1_ := cell_then hA p1_
              replace p2_ := cell_then hA p2_
              replace p3_ := cell_then hA p3_
              replace r0_ := cell_then hA r0_
              replace r1_ := cell_then hA r1_
              replace r2_ := cell_then hA r2_
              replace r3_ := cell_then hA r3_
              replace d0_ := cell_then hA d0_
              replace d1_ := cell_then hA d1_
              replace d2_ := cell_then hA d2_
              replace d3_ := cell_then hA d3_
              have P0 : (wq_9.alloc (.cells #[.int .i64 p.x, .int .i64 p.y, .int .i64 p.t, .int .i64 p.p] 24)).drew.cell? ⟨wq_9.heap.size, 0, none⟩ = some (.int .i64 p.x) := drew_cell (new_cell rfl)
              have P1 : (wq_9.alloc (.cells #[.int .i64 p.x, .int .i64 p.y, .int .i64 p.t, .int .i64 p.p] 24)).drew.cell? ⟨wq_9.heap.size, 1, none⟩ = some (.int .i64 p.y) := drew_cell (new_cell rfl)
              have P2 : (wq_9.alloc (.cells #[.int .i64 p.x, .int .i64 p.y, .int .i64 p.t, .int .i64 p.p] 24)).drew.cell? ⟨wq_9.heap.size, 2, none⟩ = some (.int .i64 p.t) := drew_cell (new_cell rfl)
              have P3 : (wq_9.alloc (.cells #[.int .i64 p.x, .int .i64 p.y, .int .i64 p.t, .int .i64 p.p] 24)).drew.cell? ⟨wq_9.heap.size, 3, none⟩ = some (.int .i64 p.p) := drew_cell (new_cell rfl)
              obtain ⟨v_11, hv_11⟩ : ∃ vv_ : World, (wq_9.alloc (.cells #[.int .i64 p.x, .int .i64 p.y, .int .i64 p.t, .int .i64 p.p] 24)).drew = vv_ := ⟨_, rfl⟩
              rw [hv_11] at hL cq c1_ p0_ p1_ p2_ p3_ r0_ r1_ r2_ r3_ d0_ d1_ d2_ d3_ P0 P1 P2 P3 b_sD b_s0 b_s1 b_s2 b_iA b_iC ⊢
              clear hA hv_11
              have lb_s0 := lt_size b_s0
              have ld0_ := lt_size d0_
              have lP0 := lt_size P0
              go_wp2_with fail
              have x1 : IntKind.i64.wrap ((q : Int) + 1) = (q : Int) + 1 := IntWalk.i64_in _ (by omega)
              have x2 : ((q : Int) + 1).toNat = q + 1 := by omega
              have x3 : IntKind.i64.wrap ((D.length : Int) - 1) = (D.length : Int) - 1 := IntWalk.i64_in _ (by omega)
              have jx : (if (t1 : Int) < 0 then (0 : Int) else (t1 : Int)) = (t1 : Int) := if_neg (by omega)
              have jy : (if (D.length : Int) - 1 < (t1 : Int) then (D.length : Int) - 1 else (t1 : Int)) = (t1 : Int) := if_neg (by omega)
              clear lb_s0 ld0_ lP0
              have lb_s0 := lt_size b_s0
              have ld0_ := lt_size d0_
              have lP0 := lt_size P0
              apply wp_same
              case hreg =>
                go_region_held3 (fun w' => Below v_11.heap.size v_11 w' ∧ w'.cell? ⟨w_2.heap.size, 2, none⟩ = some (.slice (some ⟨g, 0, none⟩) D.length cp) ∧ w'.cell? ⟨bc, oc + (q + 1), none⟩ = some (.int .i64 (t1 : Int)) ∧ w'.cell? ⟨g, t1 * 4, none⟩ = some (.int .i64 r.x) ∧ w'.cell? ⟨g, t1 * 4 + 1, none⟩ = some (.int .i64 r.y) ∧ w'.cell? ⟨g, t1 * 4 + 2, none⟩ = some (.int .i64 r.t) ∧ w'.cell? ⟨g, t1 * 4 + 3, none⟩ = some (.int .i64 r.p)) ((suffices hB : Below v_11.heap.size v_11 _ from ⟨hB, cell_then hB ‹_›, cell_then hB ‹_›, cell_then hB ‹_›, cell_then hB ‹_›, cell_then hB ‹_›, cell_then hB ‹_›⟩; repeat (first | with_reducible exact Below.refl _ _ | with_reducible refine below_alloc ?_ _ | with_reducible refine Below.setCell ?_ (by dsimp only; omega) _ | with_reducible refine Below.drew ?_ | with_reducible refine below_next ?_ ‹Below _ _ _›))) (fail)
                all_goals exact EndsIn.mk
              case hcont =>
                clear jx jy x1 x2 x3
                have hA : Below v_11.heap.size v_11 (v_11.alloc (.cells #[.int .i64 r.x, .int .i64 r.y, .int .i64 r.t, .int .i64 r.p] 24)).drew := (below_alloc (Below.refl _ _) _).drew
                clear lb_s0 ld0_ lP0
                clear b_sD b_s0 b_s1 b_s2 b_iA b_iC
                replace hL := below_next hL hA
                have b_sD := sD.below hL
                have b_s0 := cell_then hL s0
                have b_s1 := cell_then hL s1
                have b_s2 := cell_then hL s2
                have b_iA := iA.then_ hL
                have b_iC := iC.then_ hL
                replace cq := cell_then hA cq
                replace c1_ := cell_then hA c1_
                replace p0_ := cell_then hA p0_
                replace p1_ := cell_then hA p1_
                replace p2_ := cell_then hA p2_
                replace p3_ := cell_then hA p3_
                replace r0_ := cell_then hA r0_
                replace r1_ := cell_then hA r1_
                replace r2_ := cell_then hA r2_
                replace r3_ := cell_then hA r3_
                replace d0_ := cell_then hA d0_
                replace d1_ := cell_then hA d1_
                replace d2_ := cell_then hA d2_
                replace d3_ := cell_then hA d3_
                replace P0 := cell_then hA P0
                replace P1 := cell_then hA P1
                replace P2 := cell_then hA P2
                replace P3 := cell_then hA P3
                have R0 : (v_11.alloc (.cells #[.int .i64 r.x, .int .i64 r.y, .int .i64 r.t, .int .i64 r.p] 24)).drew.cell? ⟨v_11.heap.size, 0, none⟩ = some (.int .i64 r.x) := drew_cell (new_cell rfl)
                have R1 : (v_11.alloc (.cells #[.int .i64 r.x, .int .i64 r.y, .int .i64 r.t, .int .i64 r.p] 24)).drew.cell? ⟨v_11.heap.size, 1, none⟩ = some (.int .i64 r.y) := drew_cell (new_cell rfl)
                have R2 : (v_11.alloc (.cells #[.int .i64 r.x, .int .i64 r.y, .int .i64 r.t, .int .i64 r.p] 24)).drew.cell? ⟨v_11.heap.size, 2, none⟩ = some (.int .i64 r.t) := drew_cell (new_cell rfl)
                have R3 : (v_11.alloc (.cells #[.int .i64 r.x, .int .i64 r.y, .int .i64 r.t, .int .i64 r.p] 24)).drew.cell? ⟨v_11.heap.size, 3, none⟩ = some (.int .i64 r.p) := drew_cell (new_cell rfl)
                obtain ⟨v_12, hv_12⟩ : ∃ vv_ : World, (v_11.alloc (.cells #[.int .i64 r.x, .int .i64 r.y, .int .i64 r.t, .int .i64 r.p] 24)).drew = vv_ := ⟨_, rfl⟩
                rw [hv_12] at hL cq c1_ p0_ p1_ p2_ p3_ r0_ r1_ r2_ r3_ d0_ d1_ d2_ d3_ P0 P1 P2 P3 R0 R1 R2 R3 b_sD b_s0 b_s1 b_s2 b_iA b_iC ⊢
                clear hA hv_12
                have m1 := mul_bd (a := r.x - p.x) (b := d.y - p.y) (m := 4095) (by omega) (by omega) (by omega) (by omega) (by omega)
                have m2 := mul_bd (a := r.y - p.y) (b := d.x - p.x) (m := 4095) (by omega) (by omega) (by omega) (by omega) (by omega)
                obtain ⟨M, hM⟩ : ∃ M, (r.y - p.y) * (d.x - p.x) = M := ⟨_, rfl⟩
                have hM2 := Hst9.out
                rw [hM] at hM2 m2
                have lb_s0 := lt_size b_s0
                have ld0_ := lt_size d0_
                have lP0 := lt_size P0
                have lR0 := lt_size R0
                go_wp2_with fail
                clear m1 m2 hM hM2
                exact ⟨⟨k + 1, q, by omega, by go_num, rfl, ⟨hq1, by rw [Htq.out]; omega, fun _ => by rw [Ht1.out]; omega⟩, below_alloc hL _⟩, by simp [intOf]; omega⟩
      · have hql : q = T.length - 1 := by omega
        have hqn : (T.length : Int) ≤ (q : Int) + 1 := by omega
        have h3 : tq = k := by
          have := Htq.out
          rw [hql, HhTl.out] at this
          omega
        subst h3
        clear hql
        have lb_s0 := lt_size b_s0
        go_wp2_with fail
        exact ⟨⟨tq + 1, q, by omega, by go_num, rfl, ⟨hq1, by rw [Htq.out]; omega, fun h => absurd h h1⟩, hL⟩, by simp [intOf]; omega⟩
    · have hkk : (D.length : Int) ≤ (k : Int) := by omega
      have lb_s0 := lt_size b_s0
      go_wp2_with fail
      refine (kept_any P N _ _ cp c1 D l _ b_sD b_iA (by omega) (by omega) Hhval.out).mono ?_
      rintro e w_9 ⟨hk1, hk2⟩
      clear hk2
      obtain ⟨gk, ck, rfl, hgk, kD, hck, hck2, bq⟩ := hk1 Hhk1.out
      clear hk1
      rw [HhK.out] at kD hck ⊢
      clear hgk
      clear lb_s0
      clear b_sD b_s0 b_s1 b_s2 b_iA b_iC
      replace hL := below_next hL bq
      have b_sD := sD.below hL
      have b_s0 := cell_then hL s0
      have b_s1 := cell_then hL s1
      have b_s2 := cell_then hL s2
      have b_iA := iA.then_ hL
      have b_iC := iC.then_ hL
      clear bq
      have lb_s0 := lt_size b_s0
      go_wp2_with fail
      have hA : Below w_9.heap.size w_9 (w_9.alloc (.cells #[.int .i64 P, .int .i64 N, .slice (some ⟨gk, 0, none⟩) K.length ck] 27)) := below_alloc (Below.refl _ _) _
      clear lb_s0
      clear b_sD b_s0 b_s1 b_s2 b_iA b_iC
      replace hL := below_next hL hA
      have b_sD := sD.below hL
      have b_s0 := cell_then hL s0
      have b_s1 := cell_then hL s1
      have b_s2 := cell_then hL s2
      have b_iA := iA.then_ hL
      have b_iC := iC.then_ hL
      replace kD := kD.below hA
      have k0 : (w_9.alloc (.cells #[.int .i64 P, .int .i64 N, .slice (some ⟨gk, 0, none⟩) K.length ck] 27)).cell? ⟨w_9.heap.size, 0, none⟩ = some (.int .i64 P) := new_cell rfl
      have k1 : (w_9.alloc (.cells #[.int .i64 P, .int .i64 N, .slice (some ⟨gk, 0, none⟩) K.length ck] 27)).cell? ⟨w_9.heap.size, 1, none⟩ = some (.int .i64 N) := new_cell rfl
      have k2 : (w_9.alloc (.cells #[.int .i64 P, .int .i64 N, .slice (some ⟨gk, 0, none⟩) K.length ck] 27)).cell? ⟨w_9.heap.size, 2, none⟩ = some (.slice (some ⟨gk, 0, none⟩) K.length ck) := new_cell rfl
      obtain ⟨v_10, hv_10⟩ : ∃ vv_ : World, (w_9.alloc (.cells #[.int .i64 P, .int .i64 N, .slice (some ⟨gk, 0, none⟩) K.length ck] 27)) = vv_ := ⟨_, rfl⟩
      rw [hv_10] at hL kD k0 k1 k2 b_sD b_s0 b_s1 b_s2 b_iA b_iC ⊢
      clear hA hv_10
      have lb_s0 := lt_size b_s0
      have lk0 := lt_size k0
      go_wp2_with fail
      refine (valid_any P N _ ck K _ kD (by omega)).mono ?_
      rintro e w_11 ⟨rfl, bq⟩
      clear lb_s0 lk0
      clear b_sD b_s0 b_s1 b_s2 b_iA b_iC
      replace hL := below_next hL bq
      have b_sD := sD.below hL
      have b_s0 := cell_then hL s0
      have b_s1 := cell_then hL s1
      have b_s2 := cell_then hL s2
      have b_iA := iA.then_ hL
      have b_iC := iC.then_ hL
      replace kD := kD.below bq
      replace k0 := cell_then bq k0
      replace k1 := cell_then bq k1
      replace k2 := cell_then bq k2
      clear bq
      rw [HhvK.out]
      have lb_s0 := lt_size b_s0
      have lk0 := lt_size k0
      go_wp2_with fail
      refine (box_yes P N _ cp D _ b_sD Hhval.out).mono ?_
      rintro e w_12 ⟨rfl, bq⟩
      clear lb_s0 lk0
      clear b_sD b_s0 b_s1 b_s2 b_iA b_iC
      replace hL := below_next hL bq
      have b_sD := sD.below hL
      have b_s0 := cell_then hL s0
      have b_s1 := cell_then hL s1
      have b_s2 := cell_then hL s2
      have b_iA := iA.then_ hL
      have b_iC := iC.then_ hL
      replace kD := kD.below bq
      replace k0 := cell_then bq k0
      replace k1 := cell_then bq k1
      replace k2 := cell_then bq k2
      clear bq
      rw [Hhbox.out]
      have lb_s0 := lt_size b_s0
      have lk0 := lt_size k0
      go_wp2_with fail
      have hA : Below w_12.heap.size w_12 (w_12.alloc (.cells #[.int .i64 X, .int .i64 Y, .int .i64 V, .int .i64 H] 40)) := below_alloc (Below.refl _ _) _
      clear lb_s0 lk0
      clear b_sD b_s0 b_s1 b_s2 b_iA b_iC
      replace hL := below_next hL hA
      have b_sD := sD.below hL
      have b_s0 := cell_then hL s0
      have b_s1 := cell_then hL s1
      have b_s2 := cell_then hL s2
      have b_iA := iA.then_ hL
      have b_iC := iC.then_ hL
      replace kD := kD.below hA
      replace k0 := cell_then hA k0
      replace k1 := cell_then hA k1
      replace k2 := cell_then hA k2
      have r0 : (w_12.alloc (.cells #[.int .i64 X, .int .i64 Y, .int .i64 V, .int .i64 H] 40)).cell? ⟨w_12.heap.size, 0, none⟩ = some (.int .i64 X) := new_cell rfl
      have r1 : (w_12.alloc (.cells #[.int .i64 X, .int .i64 Y, .int .i64 V, .int .i64 H] 40)).cell? ⟨w_12.heap.size, 1, none⟩ = some (.int .i64 Y) := new_cell rfl
      have r2 : (w_12.alloc (.cells #[.int .i64 X, .int .i64 Y, .int .i64 V, .int .i64 H] 40)).cell? ⟨w_12.heap.size, 2, none⟩ = some (.int .i64 V) := new_cell rfl
      have r3 : (w_12.alloc (.cells #[.int .i64 X, .int .i64 Y, .int .i64 V, .int .i64 H] 40)).cell? ⟨w_12.heap.size, 3, none⟩ = some (.int .i64 H) := new_cell rfl
      obtain ⟨v_13, hv_13⟩ : ∃ vv_ : World, (w_12.alloc (.cells #[.int .i64 X, .int .i64 Y, .int .i64 V, .int .i64 H] 40)) = vv_ := ⟨_, rfl⟩
      rw [hv_13] at hL kD k0 k1 k2 r0 r1 r2 r3 b_sD b_s0 b_s1 b_s2 b_iA b_iC ⊢
      clear hA hv_13
      refine (box_yes P N _ ck K _ kD HhvK.out).mono ?_
      rintro e w_14 ⟨rfl, bq⟩
      clear b_sD b_s0 b_s1 b_s2 b_iA b_iC
      replace hL := below_next hL bq
      have b_sD := sD.below hL
      have b_s0 := cell_then hL s0
      have b_s1 := cell_then hL s1
      have b_s2 := cell_then hL s2
      have b_iA := iA.then_ hL
      have b_iC := iC.then_ hL
      replace kD := kD.below bq
      replace k0 := cell_then bq k0
      replace k1 := cell_then bq k1
      replace k2 := cell_then bq k2
      replace r0 := cell_then bq r0
      replace r1 := cell_then bq r1
      replace r2 := cell_then bq r2
      replace r3 := cell_then bq r3
      clear bq
      rw [HhbK.out]
      have lb_s0 := lt_size b_s0
      have lk0 := lt_size k0
      have lr0 := lt_size r0
      go_wp2_with fail
      have hA : Below w_14.heap.size w_14 (w_14.alloc (.cells #[.int .i64 X2, .int .i64 Y2, .int .i64 V2, .int .i64 H2] 40)) := below_alloc (Below.refl _ _) _
      clear lb_s0 lk0 lr0
      clear b_sD b_s0 b_s1 b_s2 b_iA b_iC
      replace hL := below_next hL hA
      have b_sD := sD.below hL
      have b_s0 := cell_then hL s0
      have b_s1 := cell_then hL s1
      have b_s2 := cell_then hL s2
      have b_iA := iA.then_ hL
      have b_iC := iC.then_ hL
      replace kD := kD.below hA
      replace k0 := cell_then hA k0
      replace k1 := cell_then hA k1
      replace k2 := cell_then hA k2
      replace r0 := cell_then hA r0
      replace r1 := cell_then hA r1
      replace r2 := cell_then hA r2
      replace r3 := cell_then hA r3
      have q0 : (w_14.alloc (.cells #[.int .i64 X2, .int .i64 Y2, .int .i64 V2, .int .i64 H2] 40)).cell? ⟨w_14.heap.size, 0, none⟩ = some (.int .i64 X2) := new_cell rfl
      have q1 : (w_14.alloc (.cells #[.int .i64 X2, .int .i64 Y2, .int .i64 V2, .int .i64 H2] 40)).cell? ⟨w_14.heap.size, 1, none⟩ = some (.int .i64 Y2) := new_cell rfl
      have q2 : (w_14.alloc (.cells #[.int .i64 X2, .int .i64 Y2, .int .i64 V2, .int .i64 H2] 40)).cell? ⟨w_14.heap.size, 2, none⟩ = some (.int .i64 V2) := new_cell rfl
      have q3 : (w_14.alloc (.cells #[.int .i64 X2, .int .i64 Y2, .int .i64 V2, .int .i64 H2] 40)).cell? ⟨w_14.heap.size, 3, none⟩ = some (.int .i64 H2) := new_cell rfl
      obtain ⟨v_15, hv_15⟩ : ∃ vv_ : World, (w_14.alloc (.cells #[.int .i64 X2, .int .i64 Y2, .int .i64 V2, .int .i64 H2] 40)) = vv_ := ⟨_, rfl⟩
      rw [hv_15] at hL kD k0 k1 k2 r0 r1 r2 r3 q0 q1 q2 q3 b_sD b_s0 b_s1 b_s2 b_iA b_iC ⊢
      clear hA hv_15
      have lb_s0 := lt_size b_s0
      have lk0 := lt_size k0
      have lr0 := lt_size r0
      have lq0 := lt_size q0
      go_wp2_with fail
      go_ret
      exact ⟨rfl, below_next hB hL⟩
end Go.Proofs.Ytgmabepdhbnppaa
