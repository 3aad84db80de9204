/- The law StrokeThin. -/
import Derived.Test.YtgmabepdhbnppaaStrokeSane
import Derived.Test.YtgmabepdhbnppaaStrokeListQ
import Derived.Test.YtgmabepdhbnppaaStrokeMade
import Derived.Test.YtgmabepdhbnppaaHead
import Derived.Test.YtgmabepdhbnppaaApp1
namespace Go.Proofs.Ytgmabepdhbnppaa
open Go.RowKit Str
attribute [local go_sem] Oper.semAt_some
/-- a slice of indices -/
def NtsAt (w : World) (A : Option Addr) (T : List Nat) : Prop := ∀ i, i < T.length → ∃ b o, A = some ⟨b, o, none⟩ ∧ w.cell? ⟨b, o + i, none⟩ = some (.int .i64 ((T.getD i 0 : Nat) : Int))
theorem NtsAt.then_ {w w' : World} {A : Option Addr} {T : List Nat} (h : NtsAt w A T) (hb : Below w.heap.size w w') : NtsAt w' A T := fun i hi => by
  obtain ⟨b, o, hA, hc⟩ := h i hi
  exact ⟨b, o, hA, cell_then hb hc⟩
theorem nts_of {w : World} {A : Option Addr} {T : List Nat} (h : IntsAt w A (natI T)) : NtsAt w A T := fun i hi => by
  obtain ⟨b, o, hA, hc⟩ := h i (by rw [natI_length]; exact hi)
  refine ⟨b, o, hA, ?_⟩
  rw [hc, List.getD, List.getD, natI, List.getElem?_map]
  cases T[i]? <;> rfl
theorem nearB_in2 {ax ay bx b_y px py z : Int} (h1 : placeB ax ay = true) (h2 : placeB bx b_y = true) (h3 : placeB px py = true) (h4 : 0 ≤ z) (h5 : z ≤ 1000) : nearB ax ay bx b_y px py z = nearI ax ay bx b_y px py z := by
  simp [nearB, h1, h2, h3, isInB_iff.2 ⟨h4, h5⟩]
set_option maxRecDepth 100000 in
set_option maxHeartbeats 8000000 in
theorem thin_law (a b tol bits : Int) (A : Option Addr) (cap : Nat) (es : List E3) (w : World) (ia : I64 a) (ib : I64 b) (it : I64 tol) (ibs : I64 bits) (hE : Ents w A es) (hI : ∀ e ∈ es, I64 e.a ∧ I64 e.b ∧ I64 e.c) (hn : (es.length : Int) ≤ 9223372036854775807) :
    Calls Try.prog 4 #[.int .i64 a, .int .i64 b, .slice A es.length cap, .int .i64 tol, .int .i64 bits] w fun e w' => e = .returned (.bool true) ∧ Below w.heap.size w w' := by
  obtain ⟨i0, hi0, hz0, hz1, hz2⟩ := info_parts int_info
  have HI := Lib.hid (And.intro hi0 (And.intro hz0 (And.intro hz1 hz2)))
  have HSA := Lib.hid (fun W => sane_any W)
  have HMA := Lib.hid (fun W (hW : Below w.heap.size w W) => made_any a b (wrap64 (a * 37)) A cap es W ia ib rfl (hE.below hW) hI hn)
  have HPT := Lib.hid (fun W => pickL_any tol 400 W it (by omega) (by omega))
  have HPB := Lib.hid (fun W => pickL_any bits 16777216 W ibs (by omega) (by omega))
  have hval : validB (pickI a 40) (1 + pickI b 999) (madeD a b (wrap64 (a * 37)) es) = true := made_valid a b (wrap64 (a * 37)) es
  have hlen : (madeD a b (wrap64 (a * 37)) es).length ≤ 24 := by rw [madeD_length]; omega
  have bz := pickI_bd tol (n := 400) (by omega)
  have bb := pickI_bd bits (n := 16777216) (by omega)
  obtain ⟨D, hD⟩ : ∃ D, madeD a b (wrap64 (a * 37)) es = D := ⟨_, rfl⟩
  obtain ⟨P, hP⟩ : ∃ P, pickI a 40 = P := ⟨_, rfl⟩
  obtain ⟨N, hN⟩ : ∃ N, 1 + pickI b 999 = N := ⟨_, rfl⟩
  obtain ⟨z, hz⟩ : ∃ z, pickI tol 400 = z := ⟨_, rfl⟩
  obtain ⟨u, hu⟩ : ∃ u, pickI bits 16777216 = u := ⟨_, rfl⟩
  rw [hD, hP, hN] at HMA
  rw [hD] at hlen
  rw [hz] at HPT bz
  rw [hu] at HPB bb
  rw [hD, hP, hN] at hval
  obtain ⟨n, hn'⟩ : ∃ n, D.length = n := ⟨_, rfl⟩
  have hl := valid_len hval
  obtain ⟨hlq, hls⟩ := thin_list (D := D) (by omega) (by omega) z
  have hlb := fun {O : List Nat} => thin_least (D := D) (by omega) (by omega) z (O := O)
  have hpl := placed (validB_dots hval)
  have HTH := Lib.hid (fun W A c (hD' : Dots W A D) (h1 : D.length ≤ c) (h2 : (c : Int) ≤ 9223372036854775807) => thin_yes P N A c D z W hD' h1 h2 hval (isInB_iff.2 ⟨by omega, by omega⟩))
  obtain ⟨L, hL⟩ : ∃ L, thinF D z = L := ⟨_, rfl⟩
  unfold ThinP at HTH
  rw [hL] at hlq hls hlb HTH
  rw [hn'] at HMA hlen hl HTH
  have HN := Lib.hid hn'
  have HLQ := Lib.hid hlq
  have HLS := Lib.hid hls
  have HLB := Lib.hid (fun O h1 h2 => hlb (O := O) h1 h2)
  have HPL := Lib.hid hpl
  have hL1 := hlq.pos
  have hL2 := hlq.len
  have hn24 : (n : Int) ≤ 24 := by omega
  have hn1 : (1 : Int) ≤ (n : Int) := by omega
  clear hE hI hn hval hD hP hN hz hu hn' hl hlq hls hlb hpl hL ia ib it ibs hi0 hz0 hz1 hz2
  go_enter Try.func4, Try.ntmps4
  go_wp2_with fail
  refine (HSA.out _).mono ?_
  rintro e w1 ⟨rfl, b1⟩
  have HB1 := Lib.hid b1
  have HM1 := Lib.hid (HMA.out _ b1)
  clear b1 HSA
  go_wp2_with fail
  refine HM1.out.mono ?_
  rintro e w2 ⟨g, cp, rfl, hgs, sD, hcp, hcp2, b2⟩
  have hcpi : (n : Int) ≤ (cp : Int) := by omega
  obtain ⟨V, hV⟩ : ∃ V, w2.alloc (.cells #[.int .i64 P, .int .i64 N, .slice (some ⟨g, 0, none⟩) n cp] 27) = V := ⟨_, rfl⟩
  obtain ⟨sb, hsb⟩ : ∃ sb, w2.heap.size = sb := ⟨_, rfl⟩
  have bV : Below w2.heap.size w2 V := by rw [← hV]; exact below_alloc (Below.refl _ _) _
  have s0 : V.cell? ⟨sb, 0, none⟩ = some (.int .i64 P) := by rw [← hV, ← hsb]; exact new_cell rfl
  have s1 : V.cell? ⟨sb, 1, none⟩ = some (.int .i64 N) := by rw [← hV, ← hsb]; exact new_cell rfl
  have s2 : V.cell? ⟨sb, 2, none⟩ = some (.slice (some ⟨g, 0, none⟩) n cp) := by rw [← hV, ← hsb]; exact new_cell rfl
  have HB2 := Lib.hid (below_next HB1.out (below_next b2 bV))
  have HDD := Lib.hid (sD.below bV)
  have HVV := Lib.hid hV
  have HT2 := Lib.hid (HTH.out V (some ⟨g, 0, none⟩) cp (sD.below bV) hcp hcp2)
  clear hV bV b2 sD HTH HMA HM1 HB1 hgs
  go_wp2_with fail
  rw [HVV.out]
  clear HVV hsb
  refine (HPT.out _).mono ?_
  rintro e w3 ⟨rfl, rfl⟩
  go_wp2_with fail
  refine HT2.out.mono ?_
  rintro e w3 ⟨AL, cL, rfl, iL, hcL, b3⟩
  have s2' := cell_then b3 s2
  have HDD3 := Lib.hid (HDD.out.below b3)
  have HB3 := Lib.hid (below_next HB2.out b3)
  have HNL := Lib.hid (nts_of iL)
  obtain ⟨bL, oL, rfl, l0⟩ := HNL.out 0 (by omega)
  rw [HLQ.out.first, Nat.add_zero] at l0
  have hcLi : (L.length : Int) ≤ (cL : Int) := by omega
  have hLi : (L.length : Int) ≤ 200 := by omega
  have hL0 : (0 : Int) < (L.length : Int) := by omega
  have q1 : ((L.length : Int) == 0) = false := by rw [beq_eq_false_iff_ne]; omega
  clear b3 s0 s1 s2 HT2 HDD HB2 iL hcL
  go_wp2_with fail
  -- one
  go_loopw [16, 17] (fun v i wr => ∃ (k : Nat) (O : List Nat), k ≤ n ∧ i = .int .i64 (k : Int) ∧ OthQ D k O ∧ wr.ownsRow w3.heap.size 3 1 v O.length (ivs (natI O)) ∧ Below w3.heap.size w3 wr) (fun _ i _ => n - (intOf i).toNat)
  case atStart => exact ⟨0, [], by omega, rfl, oth_start D, World.ownsRow_nil _ _ _ _, Below.refl _ _⟩
  case round =>
    clear l0 q1
    obtain ⟨k, O, hk, rfl, hoq, hown, hB⟩ := hrel
    have s2w := cell_then hB s2'
    have hlw := lt_size s2w
    have HOQ := Lib.hid hoq
    have HOW := Lib.hid hown
    have HB := Lib.hid hB
    have hol := hoq.len
    have hbs := hB.size
    clear hoq hown hB
    obtain ⟨wo, hwo⟩ : ∃ wo, wo = wr := ⟨_, rfl⟩
    subst hwo
    by_cases hlt : k < n
    · have hki : (k : Int) < (n : Int) := by omega
      have hk0 : (0 : Int) ≤ (k : Int) := by omega
      have hk64 : (k : Int) ≤ 64 := by omega
      have wq2 : IntKind.i64.wrap ((n : Int) - 1) = (n : Int) - 1 := IntWalk.i64_in _ (by omega)
      by_cases hz : k = 0
      · have q0 : ((k : Int) == 0) = true := by rw [beq_iff_eq]; omega
        clear hz
        go_wp2_with ((at_builtin; refine wpList_append1 rfl _ _ 32 rfl w3.heap.size 3 i0 _ 1 8 Try.underlying32 HI.out.1 HI.out.2.1 HI.out.2.2.1 HI.out.2.2.2 rfl (by omega) (by omega) u16 O.length _ rfl HOW.out #[.int .i64 (k : Int)] rfl rfl (by simp [Value.oneCell']) (by omega) hbs ?_; intro g' c' w' own' k' n'; have OW := Lib.hid own'; have KW := Lib.hid k'; clear own' k' n'))
        refine ⟨⟨k + 1, O ++ [k], by omega, by go_num, oth_take HOQ.out (by rw [HN.out]; exact hlt), ?_, KW.out.below_next HB.out hbs (fun q hq => (HOW.out.lt q (own_mem hq)).1)⟩, by simp [intOf]; omega⟩
        rw [natI_append, ivs_append, List.length_append]
        exact OW.out
      · have q0 : ((k : Int) == 0) = false := by rw [beq_eq_false_iff_ne]; omega
        by_cases hl : k = n - 1
        · have q1 : ((k : Int) == (n : Int) - 1) = true := by rw [beq_iff_eq]; omega
          clear hl
          go_wp2_with ((at_builtin; refine wpList_append1 rfl _ _ 32 rfl w3.heap.size 3 i0 _ 1 8 Try.underlying32 HI.out.1 HI.out.2.1 HI.out.2.2.1 HI.out.2.2.2 rfl (by omega) (by omega) u16 O.length _ rfl HOW.out #[.int .i64 (k : Int)] rfl rfl (by simp [Value.oneCell']) (by omega) hbs ?_; intro g' c' w' own' k' n'; have OW := Lib.hid own'; have KW := Lib.hid k'; clear own' k' n'))
          refine ⟨⟨k + 1, O ++ [k], by omega, by go_num, oth_take HOQ.out (by rw [HN.out]; exact hlt), ?_, KW.out.below_next HB.out hbs (fun q hq => (HOW.out.lt q (own_mem hq)).1)⟩, by simp [intOf]; omega⟩
          rw [natI_append, ivs_append, List.length_append]
          exact OW.out
        · have q1 : ((k : Int) == (n : Int) - 1) = false := by rw [beq_eq_false_iff_ne]; omega
          go_wp2_with (first | (go_at_call 12; refine (HPB.out _).mono ?_; rintro e w' ⟨rfl, rfl⟩) | (at_builtin; refine wpList_append1 rfl _ _ 32 rfl w3.heap.size 3 i0 _ 1 8 Try.underlying32 HI.out.1 HI.out.2.1 HI.out.2.2.1 HI.out.2.2.2 rfl (by omega) (by omega) u16 O.length _ rfl HOW.out #[.int .i64 (k : Int)] rfl rfl (by simp [Value.oneCell']) (by omega) hbs ?_; intro g' c' w' own' k' n'; have OW := Lib.hid own'; have KW := Lib.hid k'; clear own' k' n'))
          · refine ⟨⟨k + 1, O ++ [k], by omega, by go_num, oth_take HOQ.out (by rw [HN.out]; exact hlt), ?_, KW.out.below_next HB.out hbs (fun q hq => (HOW.out.lt q (own_mem hq)).1)⟩, by simp [intOf]; omega⟩
            rw [natI_append, ivs_append, List.length_append]
            exact OW.out
          · exact ⟨⟨k + 1, O, by omega, by go_num, oth_skip HOQ.out (by omega) (by rw [HN.out]; exact hl) (by rw [HN.out]; exact hlt), HOW.out, HB.out⟩, by simp [intOf]; omega⟩
    · obtain rfl : n = k := by omega
      have hO := oth_list (D := D) (O := O) (by rw [HN.out]; exact HOQ.out) (by rw [HN.out]; omega) (by rw [HN.out]; omega)
      obtain ⟨gO, cO, rfl, hgO, -⟩ := HOW.out.form (by have := hO.pos; omega)
      have hcO := own_cap HOW.out
      have HNO := Lib.hid (nts_of (ints_of_own HOW.out))
      have HLO := Lib.hid hO
      have hO1 := hO.pos
      have hO2 := hO.len
      have hOi : (O.length : Int) ≤ 200 := by omega
      have hcOi : (O.length : Int) ≤ (cO : Int) := by omega
      have HNL2 := Lib.hid (HNL.out.then_ HB.out)
      have HDD4 := Lib.hid (HDD3.out.below HB.out)
      have HB4 := Lib.hid (below_next HB3.out HB.out)
      have hki : ¬ (n : Int) < (n : Int) := by omega
      clear HOQ HOW hO hbs HNL HDD3 HB3 HB s2' hlt hk hol HPB
      go_wp2_with fail
      go_loopw [18, 19, 20, 21, 22, 23, 24] (fun t _ _ _ _ _ _ wr => ∃ q : Nat, q ≤ 2 ∧ t = .int .i64 (q : Int) ∧ Below wo.heap.size wo wr) (fun t _ _ _ _ _ _ _ => 2 - (intOf t).toNat)
      case atStart => exact ⟨0, by omega, rfl, Below.refl _ _⟩
      case round =>
        obtain ⟨q, hq, rfl, hX⟩ := hrel
        obtain ⟨wx, hwx⟩ : ∃ wx, wx = wr := ⟨_, rfl⟩
        subst hwx
        have HX := Lib.hid hX
        have s2x := cell_then hX s2w
        have hlx := lt_size s2x
        clear hX hki
        rcases (show q = 0 ∨ q = 1 ∨ q = 2 by omega) with rfl | rfl | rfl
        · obtain ⟨b_, o_, e_, lc⟩ := (HNL2.out.then_ HX.out) (L.length - 1) (by omega)
          cases e_
          rw [HLQ.out.last, HN.out] at lc
          obtain ⟨last, hlast⟩ : ∃ q, n - 1 = q := ⟨_, rfl⟩
          rw [hlast] at lc
          have hlast2 : (last : Int) = (n : Int) - 1 := by omega
          have eq1 : ((L.length : Int) - 1).toNat = L.length - 1 := by omega
          have wq1 : IntKind.i64.wrap ((L.length : Int) - 1) = (L.length : Int) - 1 := IntWalk.i64_in _ (by omega)
          have wq2 : IntKind.i64.wrap ((n : Int) - 1) = (n : Int) - 1 := IntWalk.i64_in _ (by omega)
          have b01 : (0 : Int) ≤ (L.length : Int) - 1 := by omega
          have b02 : (L.length : Int) - 1 < (L.length : Int) := by omega
          have u4 : ((last : Int) == (n : Int) - 1) = true := by rw [beq_iff_eq]; omega
          go_wp2_with fail
          have g_0 := fun D os => cell_regrown s2x D os
          have g_1 := fun D os => cell_regrown lc D os
          refine wp_region_quiet_below (by kernel_rfl) (by kernel_rfl) ?_
          repeat (go_big_quiet_step (fail))
          refine wpQuiet_nil ?_
          intro wq hq0
          have hq := below_of_class hq0
          clear hq0
          clear g_0 g_1 eq1 wq1 wq2 b01 b02 u4 hlast hlast2 lc
          have HQ := Lib.hid hq
          clear hq
          go_wp2_with fail
          go_loopw [20, 21, 22, 23, 24] (fun sv iv _ _ _ wr => ∃ j : Nat, 1 ≤ j ∧ j ≤ L.length ∧ iv = .int .i64 (j : Int) ∧ sv = .bool (saysTo D z L j) ∧ Below wx.heap.size wx wr) (fun _ iv _ _ _ _ => L.length - (intOf iv).toNat)
          case atStart => exact ⟨1, by omega, by omega, rfl, rfl, HQ.out⟩
          case round =>
            obtain ⟨j, hj1, hj2, rfl, rfl, hY⟩ := hrel
            obtain ⟨wy, hwy⟩ : ∃ wy, wy = wr := ⟨_, rfl⟩
            subst hwy
            have HY := Lib.hid (below_next HX.out hY)
            have HYX := Lib.hid hY
            have s2y := cell_then hY s2x
            have hly := lt_size s2y
            clear hY
            by_cases hjl : j < L.length
            · obtain ⟨i, hi⟩ : ∃ i, j = i + 1 := ⟨j - 1, by omega⟩
              obtain ⟨b_, o_, e_, cj⟩ := (HNL2.out.then_ HY.out) j hjl
              cases e_
              obtain ⟨b_, o_, e_, ci⟩ := (HNL2.out.then_ HY.out) i (by omega)
              cases e_
              have hsn := says_next (D := D) (z := z) (T := L) (j := j) (by omega)
              rw [show j - 1 = i by omega] at hsn
              have ltt := HLQ.out.asc i (by omega)
              rw [← hi] at ltt
              have lt1 := HLQ.out.lt j hjl
              rw [HN.out] at lt1
              obtain ⟨t1, ht1⟩ : ∃ x, L.getD j 0 = x := ⟨_, rfl⟩
              obtain ⟨ti, hti⟩ : ∃ x, L.getD i 0 = x := ⟨_, rfl⟩
              rw [ht1] at cj ltt lt1 hsn
              rw [hti] at ci ltt hsn
              obtain ⟨sv, hsv⟩ : ∃ sv, saysTo D z L j = sv := ⟨_, rfl⟩
              rw [hsv] at hsn ⊢
              have HSN := Lib.hid hsn
              clear ht1 hti hsv hsn
              have hji : (j : Int) < (L.length : Int) := by omega
              have hj0 : (0 : Int) ≤ (j : Int) := by omega
              have hji1 : (i : Int) < (L.length : Int) := by omega
              have hj01 : (0 : Int) ≤ (i : Int) := by omega
              have x1 : IntKind.i64.wrap ((j : Int) - 1) = (i : Int) := by rw [show (j : Int) - 1 = (i : Int) by omega]; exact IntWalk.i64_in _ (by omega)
              have HJI := Lib.hid hi
              clear hi
              have u1 : decide (t1 ≤ ti) = false := decide_eq_false (by omega)
              have u2 : decide ((t1 : Int) ≤ (ti : Int)) = false := decide_eq_false (by omega)
              have u3 : decide (n ≤ t1) = false := decide_eq_false (by omega)
              have u4 : decide ((n : Int) ≤ (t1 : Int)) = false := decide_eq_false (by omega)
              go_wp2_with fail
              have g_0 := fun D os => cell_regrown s2y D os
              have g_1 := fun D os => cell_regrown cj D os
              have g_2 := fun D os => cell_regrown ci D os
              refine wp_region_quiet_below (by kernel_rfl) (by kernel_rfl) ?_
              repeat (go_big_quiet_step (fail))
              refine wpQuiet_nil ?_
              intro wq hq0
              have hq := below_of_class hq0
              clear hq0
              clear g_0 g_1 g_2 u1 u2 u3 u4
              have s2z := cell_then hq s2y
              have hlz := lt_size s2z
              have cj2 := cell_then hq cj
              have ci2 := cell_then hq ci
              have HZ := Lib.hid (below_next HY.out hq)
              have HZX := Lib.hid (below_next HYX.out hq)
              obtain ⟨wz, hwz⟩ : ∃ wz, wz = wq := ⟨_, rfl⟩
              subst hwz
              clear hq s2y cj ci
              obtain ⟨b_, o_, e_, p0, p1, -, -⟩ := (HDD4.out.below HZ.out) ti (by rw [HN.out]; omega)
              cases e_
              obtain ⟨b_, o_, e_, r0, r1, -, -⟩ := (HDD4.out.below HZ.out) t1 (by rw [HN.out]; omega)
              cases e_
              simp only [Nat.zero_add] at p0 p1 r0 r1
              have hlg := lt_size p0
              have bp := HPL.out _ (dotAt_mem (show ti < D.length by rw [HN.out]; omega))
              have br := HPL.out _ (dotAt_mem (show t1 < D.length by rw [HN.out]; omega))
              have hnx := fun q4 (h : ti < q4) => okTo_next (D := D) (z := z) (i := ti) (k := t1) (j := q4) h
              obtain ⟨p, hp⟩ : ∃ x, dotAt D ti = x := ⟨_, rfl⟩
              obtain ⟨r, hr⟩ : ∃ x, dotAt D t1 = x := ⟨_, rfl⟩
              rw [hp] at bp p0 p1
              rw [hr] at br r0 r1
              simp only [hp, hr] at hnx
              have HNX := Lib.hid hnx
              have HBP := Lib.hid bp
              have HBR := Lib.hid br
              clear hp hr bp br hnx
              have iti : (ti : Int) < (n : Int) := by omega
              have it1 : (t1 : Int) < (n : Int) := by omega
              have iti0 : (0 : Int) ≤ (ti : Int) := by omega
              have it10 : (0 : Int) ≤ (t1 : Int) := by omega
              have hci : (n : Int) ≤ (cp : Int) := hcpi
              go_wp2_with fail
              go_region_held3 (fun w' => Below wz.heap.size wz w' ∧ w'.cell? ⟨sb, 2, none⟩ = some (.slice (some ⟨g, 0, none⟩) n cp) ∧ w'.cell? ⟨bL, oL + i, none⟩ = some (.int .i64 (ti : Int)) ∧ w'.cell? ⟨g, ti * 4, none⟩ = some (.int .i64 p.x) ∧ w'.cell? ⟨g, ti * 4 + 1, none⟩ = some (.int .i64 p.y)) ((suffices hB : Below wz.heap.size wz _ from ⟨hB, cell_then hB ‹_›, cell_then hB ‹_›, cell_then hB ‹_›, cell_then hB ‹_›⟩; repeat (first | with_reducible exact Below.refl _ _ | with_reducible refine below_alloc ?_ _ | with_reducible refine Below.setCell ?_ (by dsimp only; omega) _ | with_reducible refine Below.drew ?_ | with_reducible refine below_next ?_ ‹Below _ _ _›))) (fail)
              obtain ⟨VA, hVA⟩ : ∃ V, (wz.alloc (.cells #[.int .i64 p.x, .int .i64 p.y] 29)).drew = V := ⟨_, rfl⟩
              have bA : Below wz.heap.size wz VA := by rw [← hVA]; exact (below_alloc (Below.refl _ _) _).drew
              have a0 : VA.cell? ⟨wz.heap.size, 0, none⟩ = some (.int .i64 p.x) := by rw [← hVA]; exact new_cell rfl
              have a1 : VA.cell? ⟨wz.heap.size, 1, none⟩ = some (.int .i64 p.y) := by rw [← hVA]; exact new_cell rfl
              obtain ⟨gA, hgA⟩ : ∃ g, wz.heap.size = g := ⟨_, rfl⟩
              have HVA := Lib.hid hVA
              have HGA := Lib.hid hgA
              rw [hgA] at a0 a1
              have s2a := cell_then bA s2z
              have hla := lt_size s2a
              have hlga := lt_size (cell_then bA p0)
              have cja := cell_then bA cj2
              have r0a := cell_then bA r0
              have r1a := cell_then bA r1
              have HBA := Lib.hid bA
              have cia := cell_then bA ci2
              clear hVA hgA bA ci2 p0 p1 s2z cj2 r0 r1
              rw [HVA.out, HGA.out]
              clear HVA HGA
              go_wp2_with fail
              go_region_held3 (fun w' => Below VA.heap.size VA w' ∧ w'.cell? ⟨sb, 2, none⟩ = some (.slice (some ⟨g, 0, none⟩) n cp) ∧ w'.cell? ⟨bL, oL + j, none⟩ = some (.int .i64 (t1 : Int)) ∧ w'.cell? ⟨g, t1 * 4, none⟩ = some (.int .i64 r.x) ∧ w'.cell? ⟨g, t1 * 4 + 1, none⟩ = some (.int .i64 r.y)) ((suffices hB : Below VA.heap.size VA _ from ⟨hB, cell_then hB ‹_›, cell_then hB ‹_›, cell_then hB ‹_›, cell_then hB ‹_›⟩; repeat (first | with_reducible exact Below.refl _ _ | with_reducible refine below_alloc ?_ _ | with_reducible refine Below.setCell ?_ (by dsimp only; omega) _ | with_reducible refine Below.drew ?_ | with_reducible refine below_next ?_ ‹Below _ _ _›))) (fail)
              have x3 : IntKind.i64.wrap ((ti : Int) + 1) = (ti : Int) + 1 := IntWalk.i64_in _ (by omega)
              obtain ⟨VB, hVB⟩ : ∃ V, (VA.alloc (.cells #[.int .i64 r.x, .int .i64 r.y] 29)).drew = V := ⟨_, rfl⟩
              have bB : Below VA.heap.size VA VB := by rw [← hVB]; exact (below_alloc (Below.refl _ _) _).drew
              have e0 : VB.cell? ⟨VA.heap.size, 0, none⟩ = some (.int .i64 r.x) := by rw [← hVB]; exact new_cell rfl
              have e1 : VB.cell? ⟨VA.heap.size, 1, none⟩ = some (.int .i64 r.y) := by rw [← hVB]; exact new_cell rfl
              obtain ⟨gB, hgB⟩ : ∃ g, VA.heap.size = g := ⟨_, rfl⟩
              have HVB := Lib.hid hVB
              have HGB := Lib.hid hgB
              rw [hgB] at e0 e1
              have cib := cell_then bB cia
              have s2b := cell_then bB s2a
              have cjb := cell_then bB cja
              have a0b := cell_then bB a0
              have a1b := cell_then bB a1
              have HBB := Lib.hid (below_next HZ.out (below_next HBA.out bB))
              have HBX := Lib.hid (below_next HZX.out (below_next HBA.out bB))
              clear hVB hgB bB a0 a1 cia cja s2a r0a r1a HBA HZ HZX
              rw [HVB.out, HGB.out]
              clear HVB HGB
              go_wp2_with fail
              clear x1 x3 cib
              go_loopw [20, 24] (fun sv4 kv wr => ∃ q4 : Nat, ti + 1 ≤ q4 ∧ q4 ≤ t1 ∧ kv = .int .i64 (q4 : Int) ∧ sv4 = .bool (sv && okTo D z ti t1 q4) ∧ Below VB.heap.size VB wr) (fun _ kv _ => t1 - (intOf kv).toNat)
              case atStart => exact ⟨ti + 1, by omega, by omega, by go_num, by rw [okTo_first, Bool.and_true], Below.refl _ _⟩
              case round =>
                obtain ⟨q4, hq1, hq2, rfl, rfl, h4⟩ := hrel
                have s2c := cell_then h4 s2b
                have cjc := cell_then h4 cjb
                have a0c := cell_then h4 a0b
                have a1c := cell_then h4 a1b
                have e0c := cell_then h4 e0
                have e1c := cell_then h4 e1
                have hlc := lt_size s2c
                have H4 := Lib.hid h4
                clear h4
                by_cases hq3 : q4 < t1
                · have hqi : (q4 : Int) < (t1 : Int) := by omega
                  have hqD : (q4 : Int) < (n : Int) := by omega
                  have hq0 : (0 : Int) ≤ (q4 : Int) := by omega
                  obtain ⟨b_, o_, e_, d0, d1, -, -⟩ := (HDD4.out.below (below_next HBB.out H4.out)) q4 (by rw [HN.out]; omega)
                  cases e_
                  simp only [Nat.zero_add] at d0 d1
                  have hld := lt_size d0
                  have hnx := HNX.out q4 (by omega)
                  have bd := HPL.out _ (dotAt_mem (show q4 < D.length by rw [HN.out]; omega))
                  obtain ⟨d, hd⟩ : ∃ x, dotAt D q4 = x := ⟨_, rfl⟩
                  rw [hd] at bd d0 d1 hnx
                  have HNX4 := Lib.hid hnx
                  have CN := Lib.hid (fun (W : World) => (by have h := nearB_any p.x p.y r.x r.y d.x d.y z W; rw [nearB_in2 HBP.out HBR.out bd (by omega) (by omega)] at h; exact h : Calls Try.prog 37 #[.agg #[.int .i64 p.x, .int .i64 p.y], .agg #[.int .i64 r.x, .int .i64 r.y], .agg #[.int .i64 d.x, .int .i64 d.y], .int .i64 z] W fun e w' => e = .returned (.bool (nearD p r d z)) ∧ Below W.heap.size W w'))
                  clear bd hd hnx
                  have g_0 := fun D os => cell_regrown s2c D os
                  have g_1 := fun D os => cell_regrown a0c D os
                  have g_2 := fun D os => cell_regrown a1c D os
                  have g_3 := fun D os => cell_regrown e0c D os
                  have g_4 := fun D os => cell_regrown e1c D os
                  have g_5 := fun D os => cell_regrown d0 D os
                  have g_6 := fun D os => cell_regrown d1 D os
                  cases hs : (sv && okTo D z ti t1 q4) with
                  | true =>
                    have Hs := Lib.hid hs
                    clear hs
                    go_wp2_with fail
                    refine wp_region_quiet_below (by kernel_rfl) (by kernel_rfl) ?_
                    repeat (go_big_quiet_step (with_reducible exact Calls.regrown_of (CN.out _)))
                    refine wpQuiet_nil ?_
                    intro wq hq0
                    have hq := below_of_class hq0
                    clear hq0
                    clear g_0 g_1 g_2 g_3 g_4 g_5 g_6
                    have H5 := Lib.hid (below_next H4.out hq)
                    clear hq
                    go_wp2_with fail
                    exact ⟨⟨q4 + 1, by omega, by omega, by go_num, by rw [HNX4.out, ← Bool.and_assoc, Hs.out, Bool.true_and], H5.out⟩, by simp [intOf]; omega⟩
                  | false =>
                    have Hs := Lib.hid hs
                    clear hs
                    go_wp2_with fail
                    refine wp_region_quiet_below (by kernel_rfl) (by kernel_rfl) ?_
                    repeat (go_big_quiet_step (fail))
                    refine wpQuiet_nil ?_
                    intro wq hq0
                    have hq := below_of_class hq0
                    clear hq0
                    clear g_0 g_1 g_2 g_3 g_4 g_5 g_6
                    have H5 := Lib.hid (below_next H4.out hq)
                    clear hq
                    go_wp2_with fail
                    exact ⟨⟨q4 + 1, by omega, by omega, by go_num, by rw [HNX4.out, ← Bool.and_assoc, Hs.out, Bool.false_and], H5.out⟩, by simp [intOf]; omega⟩
                · obtain rfl : t1 = q4 := by omega
                  have hqi : ¬ (t1 : Int) < (t1 : Int) := by omega
                  go_wp2_with fail
                  refine ⟨?_, ?_⟩
                  · repeat apply Exists.intro
                    refine And.intro ?_ rfl
                    exact ⟨j + 1, by omega, by omega, by go_num, by rw [HSN.out, ← okTo_all], below_next HBX.out H4.out⟩
                  · show L.length - (intOf (.int .i64 ((j : Int) + 1))).toNat < L.length - (intOf (.int .i64 (j : Int))).toNat
                    simp [intOf]; omega
            · obtain rfl : L.length = j := by omega
              have hji : ¬ (L.length : Int) < (L.length : Int) := by omega
              rw [HLS.out]
              clear hji
              go_wp2_with fail
              refine ⟨?_, ?_⟩
              · first | exact ⟨1, by omega, by first | rfl | go_num, HY.out⟩ | (repeat apply Exists.intro; refine And.intro ?_ rfl; exact ⟨1, by omega, by first | rfl | go_num, HY.out⟩)
              · show 2 - (intOf (.int .i64 ((1 : Int)))).toNat < 2 - (intOf (.int .i64 (0 : Int))).toNat
                simp [intOf]
        · obtain ⟨b_, o_, e_, lc⟩ := (HNO.out.then_ HX.out) (O.length - 1) (by omega)
          cases e_
          rw [HLO.out.last, HN.out] at lc
          simp only [Nat.zero_add] at lc
          obtain ⟨last, hlast⟩ : ∃ q, n - 1 = q := ⟨_, rfl⟩
          rw [hlast] at lc
          have hlast2 : (last : Int) = (n : Int) - 1 := by omega
          have eq1 : ((O.length : Int) - 1).toNat = O.length - 1 := by omega
          have wq1 : IntKind.i64.wrap ((O.length : Int) - 1) = (O.length : Int) - 1 := IntWalk.i64_in _ (by omega)
          have wq2 : IntKind.i64.wrap ((n : Int) - 1) = (n : Int) - 1 := IntWalk.i64_in _ (by omega)
          have b01 : (0 : Int) ≤ (O.length : Int) - 1 := by omega
          have b02 : (O.length : Int) - 1 < (O.length : Int) := by omega
          have u4 : ((last : Int) == (n : Int) - 1) = true := by rw [beq_iff_eq]; omega
          go_wp2_with fail
          have g_0 := fun D os => cell_regrown s2x D os
          have g_1 := fun D os => cell_regrown lc D os
          refine wp_region_quiet_below (by kernel_rfl) (by kernel_rfl) ?_
          repeat (go_big_quiet_step (fail))
          refine wpQuiet_nil ?_
          intro wq hq0
          have hq := below_of_class hq0
          clear hq0
          clear g_0 g_1 eq1 wq1 wq2 b01 b02 u4 hlast hlast2 lc
          have HQ := Lib.hid hq
          clear hq
          go_wp2_with fail
          go_loopw [20, 21, 22, 23, 24] (fun sv iv _ _ _ wr => ∃ j : Nat, 1 ≤ j ∧ j ≤ O.length ∧ iv = .int .i64 (j : Int) ∧ sv = .bool (saysTo D z O j) ∧ Below wx.heap.size wx wr) (fun _ iv _ _ _ _ => O.length - (intOf iv).toNat)
          case atStart => exact ⟨1, by omega, by omega, rfl, rfl, HQ.out⟩
          case round =>
            obtain ⟨j, hj1, hj2, rfl, rfl, hY⟩ := hrel
            obtain ⟨wy, hwy⟩ : ∃ wy, wy = wr := ⟨_, rfl⟩
            subst hwy
            have HY := Lib.hid (below_next HX.out hY)
            have HYX := Lib.hid hY
            have s2y := cell_then hY s2x
            have hly := lt_size s2y
            clear hY
            by_cases hjl : j < O.length
            · obtain ⟨i, hi⟩ : ∃ i, j = i + 1 := ⟨j - 1, by omega⟩
              obtain ⟨b_, o_, e_, cj⟩ := (HNO.out.then_ HY.out) j hjl
              cases e_
              obtain ⟨b_, o_, e_, ci⟩ := (HNO.out.then_ HY.out) i (by omega)
              cases e_
              have hsn := says_next (D := D) (z := z) (T := O) (j := j) (by omega)
              rw [show j - 1 = i by omega] at hsn
              have ltt := HLO.out.asc i (by omega)
              rw [← hi] at ltt
              have lt1 := HLO.out.lt j hjl
              rw [HN.out] at lt1
              obtain ⟨t1, ht1⟩ : ∃ x, O.getD j 0 = x := ⟨_, rfl⟩
              obtain ⟨ti, hti⟩ : ∃ x, O.getD i 0 = x := ⟨_, rfl⟩
              rw [ht1] at cj ltt lt1 hsn
              rw [hti] at ci ltt hsn
              simp only [Nat.zero_add] at cj ci
              obtain ⟨sv, hsv⟩ : ∃ sv, saysTo D z O j = sv := ⟨_, rfl⟩
              rw [hsv] at hsn ⊢
              have HSN := Lib.hid hsn
              clear ht1 hti hsv hsn
              have hji : (j : Int) < (O.length : Int) := by omega
              have hj0 : (0 : Int) ≤ (j : Int) := by omega
              have hji1 : (i : Int) < (O.length : Int) := by omega
              have hj01 : (0 : Int) ≤ (i : Int) := by omega
              have x1 : IntKind.i64.wrap ((j : Int) - 1) = (i : Int) := by rw [show (j : Int) - 1 = (i : Int) by omega]; exact IntWalk.i64_in _ (by omega)
              have HJI := Lib.hid hi
              clear hi
              have u1 : decide (t1 ≤ ti) = false := decide_eq_false (by omega)
              have u2 : decide ((t1 : Int) ≤ (ti : Int)) = false := decide_eq_false (by omega)
              have u3 : decide (n ≤ t1) = false := decide_eq_false (by omega)
              have u4 : decide ((n : Int) ≤ (t1 : Int)) = false := decide_eq_false (by omega)
              go_wp2_with fail
              have g_0 := fun D os => cell_regrown s2y D os
              have g_1 := fun D os => cell_regrown cj D os
              have g_2 := fun D os => cell_regrown ci D os
              refine wp_region_quiet_below (by kernel_rfl) (by kernel_rfl) ?_
              repeat (go_big_quiet_step (fail))
              refine wpQuiet_nil ?_
              intro wq hq0
              have hq := below_of_class hq0
              clear hq0
              clear g_0 g_1 g_2 u1 u2 u3 u4
              have s2z := cell_then hq s2y
              have hlz := lt_size s2z
              have cj2 := cell_then hq cj
              have ci2 := cell_then hq ci
              have HZ := Lib.hid (below_next HY.out hq)
              have HZX := Lib.hid (below_next HYX.out hq)
              obtain ⟨wz, hwz⟩ : ∃ wz, wz = wq := ⟨_, rfl⟩
              subst hwz
              clear hq s2y cj ci
              obtain ⟨b_, o_, e_, p0, p1, -, -⟩ := (HDD4.out.below HZ.out) ti (by rw [HN.out]; omega)
              cases e_
              obtain ⟨b_, o_, e_, r0, r1, -, -⟩ := (HDD4.out.below HZ.out) t1 (by rw [HN.out]; omega)
              cases e_
              simp only [Nat.zero_add] at p0 p1 r0 r1
              have hlg := lt_size p0
              have bp := HPL.out _ (dotAt_mem (show ti < D.length by rw [HN.out]; omega))
              have br := HPL.out _ (dotAt_mem (show t1 < D.length by rw [HN.out]; omega))
              have hnx := fun q4 (h : ti < q4) => okTo_next (D := D) (z := z) (i := ti) (k := t1) (j := q4) h
              obtain ⟨p, hp⟩ : ∃ x, dotAt D ti = x := ⟨_, rfl⟩
              obtain ⟨r, hr⟩ : ∃ x, dotAt D t1 = x := ⟨_, rfl⟩
              rw [hp] at bp p0 p1
              rw [hr] at br r0 r1
              simp only [hp, hr] at hnx
              have HNX := Lib.hid hnx
              have HBP := Lib.hid bp
              have HBR := Lib.hid br
              clear hp hr bp br hnx
              have iti : (ti : Int) < (n : Int) := by omega
              have it1 : (t1 : Int) < (n : Int) := by omega
              have iti0 : (0 : Int) ≤ (ti : Int) := by omega
              have it10 : (0 : Int) ≤ (t1 : Int) := by omega
              have hci : (n : Int) ≤ (cp : Int) := hcpi
              go_wp2_with fail
              go_region_held3 (fun w' => Below wz.heap.size wz w' ∧ w'.cell? ⟨sb, 2, none⟩ = some (.slice (some ⟨g, 0, none⟩) n cp) ∧ w'.cell? ⟨gO, i, none⟩ = some (.int .i64 (ti : Int)) ∧ w'.cell? ⟨g, ti * 4, none⟩ = some (.int .i64 p.x) ∧ w'.cell? ⟨g, ti * 4 + 1, none⟩ = some (.int .i64 p.y)) ((suffices hB : Below wz.heap.size wz _ from ⟨hB, cell_then hB ‹_›, cell_then hB ‹_›, cell_then hB ‹_›, cell_then hB ‹_›⟩; repeat (first | with_reducible exact Below.refl _ _ | with_reducible refine below_alloc ?_ _ | with_reducible refine Below.setCell ?_ (by dsimp only; omega) _ | with_reducible refine Below.drew ?_ | with_reducible refine below_next ?_ ‹Below _ _ _›))) (fail)
              obtain ⟨VA, hVA⟩ : ∃ V, (wz.alloc (.cells #[.int .i64 p.x, .int .i64 p.y] 29)).drew = V := ⟨_, rfl⟩
              have bA : Below wz.heap.size wz VA := by rw [← hVA]; exact (below_alloc (Below.refl _ _) _).drew
              have a0 : VA.cell? ⟨wz.heap.size, 0, none⟩ = some (.int .i64 p.x) := by rw [← hVA]; exact new_cell rfl
              have a1 : VA.cell? ⟨wz.heap.size, 1, none⟩ = some (.int .i64 p.y) := by rw [← hVA]; exact new_cell rfl
              obtain ⟨gA, hgA⟩ : ∃ g, wz.heap.size = g := ⟨_, rfl⟩
              have HVA := Lib.hid hVA
              have HGA := Lib.hid hgA
              rw [hgA] at a0 a1
              have s2a := cell_then bA s2z
              have hla := lt_size s2a
              have hlga := lt_size (cell_then bA p0)
              have cja := cell_then bA cj2
              have r0a := cell_then bA r0
              have r1a := cell_then bA r1
              have HBA := Lib.hid bA
              have cia := cell_then bA ci2
              clear hVA hgA bA ci2 p0 p1 s2z cj2 r0 r1
              rw [HVA.out, HGA.out]
              clear HVA HGA
              go_wp2_with fail
              go_region_held3 (fun w' => Below VA.heap.size VA w' ∧ w'.cell? ⟨sb, 2, none⟩ = some (.slice (some ⟨g, 0, none⟩) n cp) ∧ w'.cell? ⟨gO, j, none⟩ = some (.int .i64 (t1 : Int)) ∧ w'.cell? ⟨g, t1 * 4, none⟩ = some (.int .i64 r.x) ∧ w'.cell? ⟨g, t1 * 4 + 1, none⟩ = some (.int .i64 r.y)) ((suffices hB : Below VA.heap.size VA _ from ⟨hB, cell_then hB ‹_›, cell_then hB ‹_›, cell_then hB ‹_›, cell_then hB ‹_›⟩; repeat (first | with_reducible exact Below.refl _ _ | with_reducible refine below_alloc ?_ _ | with_reducible refine Below.setCell ?_ (by dsimp only; omega) _ | with_reducible refine Below.drew ?_ | with_reducible refine below_next ?_ ‹Below _ _ _›))) (fail)
              have x3 : IntKind.i64.wrap ((ti : Int) + 1) = (ti : Int) + 1 := IntWalk.i64_in _ (by omega)
              obtain ⟨VB, hVB⟩ : ∃ V, (VA.alloc (.cells #[.int .i64 r.x, .int .i64 r.y] 29)).drew = V := ⟨_, rfl⟩
              have bB : Below VA.heap.size VA VB := by rw [← hVB]; exact (below_alloc (Below.refl _ _) _).drew
              have e0 : VB.cell? ⟨VA.heap.size, 0, none⟩ = some (.int .i64 r.x) := by rw [← hVB]; exact new_cell rfl
              have e1 : VB.cell? ⟨VA.heap.size, 1, none⟩ = some (.int .i64 r.y) := by rw [← hVB]; exact new_cell rfl
              obtain ⟨gB, hgB⟩ : ∃ g, VA.heap.size = g := ⟨_, rfl⟩
              have HVB := Lib.hid hVB
              have HGB := Lib.hid hgB
              rw [hgB] at e0 e1
              have cib := cell_then bB cia
              have s2b := cell_then bB s2a
              have cjb := cell_then bB cja
              have a0b := cell_then bB a0
              have a1b := cell_then bB a1
              have HBB := Lib.hid (below_next HZ.out (below_next HBA.out bB))
              have HBX := Lib.hid (below_next HZX.out (below_next HBA.out bB))
              clear hVB hgB bB a0 a1 cia cja s2a r0a r1a HBA HZ HZX
              rw [HVB.out, HGB.out]
              clear HVB HGB
              go_wp2_with fail
              clear x1 x3 cib
              go_loopw [20, 24] (fun sv4 kv wr => ∃ q4 : Nat, ti + 1 ≤ q4 ∧ q4 ≤ t1 ∧ kv = .int .i64 (q4 : Int) ∧ sv4 = .bool (sv && okTo D z ti t1 q4) ∧ Below VB.heap.size VB wr) (fun _ kv _ => t1 - (intOf kv).toNat)
              case atStart => exact ⟨ti + 1, by omega, by omega, by go_num, by rw [okTo_first, Bool.and_true], Below.refl _ _⟩
              case round =>
                obtain ⟨q4, hq1, hq2, rfl, rfl, h4⟩ := hrel
                have s2c := cell_then h4 s2b
                have cjc := cell_then h4 cjb
                have a0c := cell_then h4 a0b
                have a1c := cell_then h4 a1b
                have e0c := cell_then h4 e0
                have e1c := cell_then h4 e1
                have hlc := lt_size s2c
                have H4 := Lib.hid h4
                clear h4
                by_cases hq3 : q4 < t1
                · have hqi : (q4 : Int) < (t1 : Int) := by omega
                  have hqD : (q4 : Int) < (n : Int) := by omega
                  have hq0 : (0 : Int) ≤ (q4 : Int) := by omega
                  obtain ⟨b_, o_, e_, d0, d1, -, -⟩ := (HDD4.out.below (below_next HBB.out H4.out)) q4 (by rw [HN.out]; omega)
                  cases e_
                  simp only [Nat.zero_add] at d0 d1
                  have hld := lt_size d0
                  have hnx := HNX.out q4 (by omega)
                  have bd := HPL.out _ (dotAt_mem (show q4 < D.length by rw [HN.out]; omega))
                  obtain ⟨d, hd⟩ : ∃ x, dotAt D q4 = x := ⟨_, rfl⟩
                  rw [hd] at bd d0 d1 hnx
                  have HNX4 := Lib.hid hnx
                  have CN := Lib.hid (fun (W : World) => (by have h := nearB_any p.x p.y r.x r.y d.x d.y z W; rw [nearB_in2 HBP.out HBR.out bd (by omega) (by omega)] at h; exact h : Calls Try.prog 37 #[.agg #[.int .i64 p.x, .int .i64 p.y], .agg #[.int .i64 r.x, .int .i64 r.y], .agg #[.int .i64 d.x, .int .i64 d.y], .int .i64 z] W fun e w' => e = .returned (.bool (nearD p r d z)) ∧ Below W.heap.size W w'))
                  clear bd hd hnx
                  have g_0 := fun D os => cell_regrown s2c D os
                  have g_1 := fun D os => cell_regrown a0c D os
                  have g_2 := fun D os => cell_regrown a1c D os
                  have g_3 := fun D os => cell_regrown e0c D os
                  have g_4 := fun D os => cell_regrown e1c D os
                  have g_5 := fun D os => cell_regrown d0 D os
                  have g_6 := fun D os => cell_regrown d1 D os
                  cases hs : (sv && okTo D z ti t1 q4) with
                  | true =>
                    have Hs := Lib.hid hs
                    clear hs
                    go_wp2_with fail
                    refine wp_region_quiet_below (by kernel_rfl) (by kernel_rfl) ?_
                    repeat (go_big_quiet_step (with_reducible exact Calls.regrown_of (CN.out _)))
                    refine wpQuiet_nil ?_
                    intro wq hq0
                    have hq := below_of_class hq0
                    clear hq0
                    clear g_0 g_1 g_2 g_3 g_4 g_5 g_6
                    have H5 := Lib.hid (below_next H4.out hq)
                    clear hq
                    go_wp2_with fail
                    exact ⟨⟨q4 + 1, by omega, by omega, by go_num, by rw [HNX4.out, ← Bool.and_assoc, Hs.out, Bool.true_and], H5.out⟩, by simp [intOf]; omega⟩
                  | false =>
                    have Hs := Lib.hid hs
                    clear hs
                    go_wp2_with fail
                    refine wp_region_quiet_below (by kernel_rfl) (by kernel_rfl) ?_
                    repeat (go_big_quiet_step (fail))
                    refine wpQuiet_nil ?_
                    intro wq hq0
                    have hq := below_of_class hq0
                    clear hq0
                    clear g_0 g_1 g_2 g_3 g_4 g_5 g_6
                    have H5 := Lib.hid (below_next H4.out hq)
                    clear hq
                    go_wp2_with fail
                    exact ⟨⟨q4 + 1, by omega, by omega, by go_num, by rw [HNX4.out, ← Bool.and_assoc, Hs.out, Bool.false_and], H5.out⟩, by simp [intOf]; omega⟩
                · obtain rfl : t1 = q4 := by omega
                  have hqi : ¬ (t1 : Int) < (t1 : Int) := by omega
                  go_wp2_with fail
                  refine ⟨?_, ?_⟩
                  · repeat apply Exists.intro
                    refine And.intro ?_ rfl
                    exact ⟨j + 1, by omega, by omega, by go_num, by rw [HSN.out, ← okTo_all], below_next HBX.out H4.out⟩
                  · show O.length - (intOf (.int .i64 ((j : Int) + 1))).toNat < O.length - (intOf (.int .i64 (j : Int))).toNat
                    simp [intOf]; omega
            · obtain rfl : O.length = j := by omega
              have hji : ¬ (O.length : Int) < (O.length : Int) := by omega
              cases hs : saysTo D z O O.length with
              | true =>
                have hle := HLB.out O HLO.out hs
                have u1 : decide (O.length < L.length) = false := decide_eq_false (by omega)
                have u2 : decide ((O.length : Int) < (L.length : Int)) = false := decide_eq_false (by omega)
                clear hs hle hji
                go_wp2_with fail
                refine ⟨?_, ?_⟩
                · first | exact ⟨2, by omega, by first | rfl | go_num, HY.out⟩ | (repeat apply Exists.intro; refine And.intro ?_ rfl; exact ⟨2, by omega, by first | rfl | go_num, HY.out⟩)
                · show 2 - (intOf (.int .i64 ((2 : Int)))).toNat < 2 - (intOf (.int .i64 (1 : Int))).toNat
                  simp [intOf]
              | false =>
                clear hs hji
                go_wp2_with fail
                refine ⟨?_, ?_⟩
                · first | exact ⟨2, by omega, by first | rfl | go_num, HY.out⟩ | (repeat apply Exists.intro; refine And.intro ?_ rfl; exact ⟨2, by omega, by first | rfl | go_num, HY.out⟩)
                · show 2 - (intOf (.int .i64 ((2 : Int)))).toNat < 2 - (intOf (.int .i64 (1 : Int))).toNat
                  simp [intOf]
        · have HZ := Lib.hid (below_next HB4.out HX.out)
          clear HX
          go_wp2_with fail
          go_ret
          exact ⟨rfl, HZ.out⟩
end Go.Proofs.Ytgmabepdhbnppaa
