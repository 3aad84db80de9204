/- The law StrokeMatchesReference. -/
import Derived.Test.YtgmabepdhbnppaaStrokeMatA
import Derived.Test.YtgmabepdhbnppaaStrokeSane
import Derived.Test.YtgmabepdhbnppaaOneWay
import Derived.Test.YtgmabepdhbnppaaApp1
namespace Go.Proofs.Ytgmabepdhbnppaa
open Go.RowKit Str
attribute [local go_sem] Oper.semAt_some
set_option maxRecDepth 100000 in
set_option maxHeartbeats 16000000 in
theorem match_law (a b tol bits : Int) (A : Option Addr) (cap : Nat) (es : List E3) (d : Dot) (P3 N3 : Int) (A3 : Option Addr) (c3 : Nat) (D3 : List Dot) (f3 : Nat → Int × Int) (n0 n1 : Int) (AK : Option Addr) (cK : Nat) (K : List Int) (w : World)
    (ia : I64 a) (ib : I64 b) (it : I64 tol) (ibs : I64 bits) (hE : Ents w A es) (hI : ∀ e ∈ es, I64 e.a ∧ I64 e.b ∧ I64 e.c) (hn : (es.length : Int) ≤ 9223372036854775807)
    (hD3 : Dots w A3 D3) (hc3 : D3.length ≤ c3) (hm3 : (c3 : Int) ≤ 9223372036854775807) (hf3 : ∀ j, j < 3 → I64 (f3 j).1 ∧ I64 (f3 j).2) (in0 : I64 n0) (in1 : I64 n1) (hK : IntsAt w AK K) (hcK : K.length ≤ cK) (hmK : (cK : Int) ≤ 9223372036854775807) :
    Calls Try.prog 3 #[.int .i64 a, .int .i64 b, .slice A es.length cap, .agg #[.int .i64 d.x, .int .i64 d.y, .int .i64 d.t, .int .i64 d.p], .agg #[.int .i64 P3, .int .i64 N3, .slice A3 D3.length c3], .agg #[.int .i64 (f3 0).1, .int .i64 (f3 0).2, .int .i64 (f3 1).1, .int .i64 (f3 1).2, .int .i64 (f3 2).1, .int .i64 (f3 2).2], .int .i64 tol, .agg #[.int .i64 n0, .int .i64 n1], .slice AK K.length cK, .int .i64 bits] w fun e w' => e = .returned (.bool true) ∧ Below w.heap.size w w' := by
  obtain ⟨i0, hi0, hz0, hz1, hz2⟩ := info_parts int_info
  have HI := Lib.hid (And.intro hi0 (And.intro hz0 (And.intro hz1 hz2)))
  have HSA := Lib.hid (fun W => sane_any W)
  have HMA := Lib.hid (fun W (hW : Below w.heap.size w W) => made_own a b (wrap64 (a * 37)) A cap es W ia ib rfl (hE.below hW) hI hn)
  have hpB := fun (n : Int) W (h0 : 0 < n) (h1 : n ≤ 9223372036854775807) => pickL_any bits n W ibs h0 h1
  have hpT := fun (n : Int) W (h0 : 0 < n) (h1 : n ≤ 9223372036854775807) => pickL_any tol n W it h0 h1
  have HPB := Lib.hid hpB
  have HPT := Lib.hid hpT
  have HN0 := Lib.hid (fun (n : Int) W (h0 : 0 < n) (h1 : n ≤ 9223372036854775807) => pickL_any n0 n W in0 h0 h1)
  have HN1 := Lib.hid (fun (n : Int) W (h0 : 0 < n) (h1 : n ≤ 9223372036854775807) => pickL_any n1 n W in1 h0 h1)
  have HF3 := Lib.hid hf3
  have hlen : 1 ≤ (madeD a b (wrap64 (a * 37)) es).length ∧ (madeD a b (wrap64 (a * 37)) es).length ≤ 24 := by rw [madeD_length]; omega
  obtain ⟨D, hD⟩ : ∃ D, madeD a b (wrap64 (a * 37)) es = D := ⟨_, rfl⟩
  obtain ⟨P, hP⟩ : ∃ P, pickI a 40 = P := ⟨_, rfl⟩
  obtain ⟨N, hN⟩ : ∃ N, 1 + pickI b 999 = N := ⟨_, rfl⟩
  rw [hD, hP, hN] at HMA
  rw [hD] at hlen
  have HLEN := Lib.hid hlen
  have HD3 := Lib.hid hD3
  have HK := Lib.hid hK
  have HMX := Lib.hid (And.intro hc3 (And.intro hm3 (And.intro hcK hmK)))
  have HIT := Lib.hid it
  have HIN := Lib.hid in0
  obtain ⟨m3, hm3'⟩ : ∃ m, D3.length = m := ⟨_, rfl⟩
  obtain ⟨mK, hmK'⟩ : ∃ m, K.length = m := ⟨_, rfl⟩
  obtain ⟨n, hn'⟩ : ∃ m, D.length = m := ⟨_, rfl⟩
  have HM3 := Lib.hid hm3'
  have HMK := Lib.hid hmK'
  have HNN := Lib.hid hn'
  obtain ⟨q0, hq0⟩ : ∃ v, f3 0 = v := ⟨_, rfl⟩
  obtain ⟨q1, hq1⟩ : ∃ v, f3 1 = v := ⟨_, rfl⟩
  obtain ⟨q2, hq2⟩ : ∃ v, f3 2 = v := ⟨_, rfl⟩
  have HQQ := Lib.hid (And.intro hq0 (And.intro hq1 hq2))
  rw [hm3', hmK', hq0, hq1, hq2]
  rw [hn'] at HMA hlen
  clear hpB hpT hE hI hn hD hP hN hf3 hD3 hc3 hm3 hK hcK hmK in0 in1 it ib ia ibs hi0 hz0 hz1 hz2 hm3' hmK' hn' hq0 hq1 hq2
  go_enter Try.func3, Try.ntmps3
  go_wp2_with fail
  obtain ⟨W0, hW0⟩ : ∃ W, (((w.alloc (.cells #[.int .i64 d.x, .int .i64 d.y, .int .i64 d.t, .int .i64 d.p] 24)).alloc (.cells #[.int .i64 P3, .int .i64 N3, .slice A3 m3 c3] 27)).alloc (.cells #[.int .i64 q0.1, .int .i64 q0.2, .int .i64 q1.1, .int .i64 q1.2, .int .i64 q2.1, .int .i64 q2.2] 30)).alloc (.cells #[.int .i64 n0, .int .i64 n1] 31) = W := ⟨_, rfl⟩
  have BW0 : Below w.heap.size w W0 := by rw [← hW0]; exact below_alloc (below_alloc (below_alloc (below_alloc (Below.refl _ _) _) _) _) _
  have HA0 : Hid (ArgsAt W0 w.heap.size d P3 N3 A3 m3 c3 f3 n0 n1) := Lib.hid (by
    obtain ⟨h0, h1, h2⟩ := HQQ.out
    rw [← hW0]
    refine ⟨⟨by simp [go_sem], by simp [go_sem], by simp [go_sem], by simp [go_sem]⟩, by simp [go_sem], by simp [go_sem], by simp [go_sem], fun j hj => ?_, ⟨by simp [go_sem], by simp [go_sem]⟩⟩
    rcases (show j = 0 ∨ j = 1 ∨ j = 2 by omega) with rfl | rfl | rfl
    · rw [h0]; exact ⟨by simp [go_sem], by simp [go_sem]⟩
    · rw [h1]; exact ⟨by simp [go_sem], by simp [go_sem]⟩
    · rw [h2]; exact ⟨by simp [go_sem], by simp [go_sem]⟩)
  rw [hW0]
  clear hW0
  refine (HSA.out _).mono ?_
  rintro e w1 ⟨rfl, b1⟩
  have HA1 := Lib.hid (HA0.out.then_ b1)
  have HW1 := Lib.hid (below_next BW0 b1)
  clear b1 BW0 HA0 HSA
  go_wp2_with fail
  refine (HMA.out _ HW1.out).mono ?_
  rintro e w2 ⟨g, cp, rfl, -, hown, -, hcp, hcpm, b2⟩
  obtain ⟨V2, hV2⟩ : ∃ V, w2.alloc (.cells #[.int .i64 P, .int .i64 N, .slice (some ⟨g, 0, none⟩) n cp] 27) = V := ⟨_, rfl⟩
  obtain ⟨bO, hbO⟩ : ∃ b, w2.heap.size = b := ⟨_, rfl⟩
  have bV2 : Below w2.heap.size w2 V2 := by rw [← hV2]; exact below_alloc (Below.refl _ _) _
  have HO2 : Hid (SrAt V2 bO 0 ⟨P, N, some ⟨g, 0, none⟩, cp, D⟩) := Lib.hid (by
    refine ⟨?_, ?_, ?_, ?_⟩
    · rw [← hV2, ← hbO]; exact new_cell rfl
    · rw [← hV2, ← hbO]; exact new_cell rfl
    · rw [← hV2, ← hbO]; dsimp only; rw [HNN.out]; exact new_cell rfl
    · exact own_str (own_then hown bV2) HNN.out (by omega))
  have HA2 := Lib.hid (HA1.out.then_ (below_next b2 bV2))
  have HW2 := Lib.hid (below_next HW1.out (below_next b2 bV2))
  have HVV := Lib.hid hV2
  clear b2 bV2 hown hcp hcpm HA1 HW1 hV2
  go_wp2_with fail
  rw [HVV.out]
  clear HVV hbO
  refine (HMA.out _ HW2.out).mono ?_
  rintro e w3 ⟨g2, cp2, rfl, -, hown, -, hcp, hcpm, b3⟩
  obtain ⟨V3, hV3⟩ : ∃ V, w3.alloc (.cells #[.int .i64 P, .int .i64 N, .slice (some ⟨g2, 0, none⟩) n cp2] 27) = V := ⟨_, rfl⟩
  obtain ⟨bB, hbB⟩ : ∃ b, w3.heap.size = b := ⟨_, rfl⟩
  have bV3 : Below w3.heap.size w3 V3 := by rw [← hV3]; exact below_alloc (Below.refl _ _) _
  have k0 : V3.cell? ⟨bB, 0, none⟩ = some (.int .i64 P) := by rw [← hV3, ← hbB]; exact new_cell rfl
  have k1 : V3.cell? ⟨bB, 1, none⟩ = some (.int .i64 N) := by rw [← hV3, ← hbB]; exact new_cell rfl
  have k2 : V3.cell? ⟨bB, 2, none⟩ = some (.slice (some ⟨g2, 0, none⟩) n cp2) := by rw [← hV3, ← hbB]; exact new_cell rfl
  have hbB2 : V3.heap.size = bB + 1 := by rw [← hV3, ← hbB]; simp [go_sem]
  have hgl := hown.lt g2 rfl
  have HOW3 := Lib.hid (own_then hown bV3)
  have HB3 := Lib.hid (below_next b3 bV3)
  have HVV := Lib.hid hV3
  have hv2 : V2.heap.size ≤ g2 := hgl.1
  have hg2 : g2 < bB := by omega
  clear b3 bV3 hown hV3 HMA hgl
  go_wp2_with fail
  rw [HVV.out]
  clear HVV
  obtain ⟨kb, hkb, hkbn⟩ : ∃ k : Nat, pickI bits (n : Int) = (k : Int) ∧ k < n := by
    have h := pickI_bd bits (n := (n : Int)) (by omega)
    exact ⟨(pickI bits (n : Int)).toNat, by omega, by omega⟩
  have HPK := Lib.hid (fun W => by have h := HPB.out (n : Int) W (by omega) (by omega); rw [hkb] at h; exact h)
  obtain ⟨d0, d1, d2, d3⟩ := (HA2.out.then_ HB3.out).dd
  have lk := lt_size k0
  have ld := lt_size d0
  have hkb0 : (0 : Int) ≤ (kb : Int) := by omega
  have hkb1 : (kb : Int) < (n : Int) := by omega
  have hncp : (n : Int) ≤ (cp2 : Int) := by omega
  have g_0 := fun D os => cell_regrown k2 D os
  have g_1 := fun D os => cell_regrown d0 D os
  have g_2 := fun D os => cell_regrown d1 D os
  have g_3 := fun D os => cell_regrown d2 D os
  have g_4 := fun D os => cell_regrown d3 D os
  refine wp_region_head 9 (by kernel_rfl) (by kernel_rfl) ?_
  simp only [List.take_succ_cons, List.take_zero, List.drop_succ_cons, List.drop_zero]
  repeat (go_big_quiet_step ((with_reducible exact Calls.regrown_of ((HPK.out _).mono fun e w' h => ⟨h.1, h.2 ▸ Below.refl _ _⟩))))
  refine wpQuiet_nil ?_
  intro wq hq
  clear g_0 g_1 g_2 g_3 g_4
  have HOWQ := Lib.hid (own_then HOW3.out hq)
  have HBQ := Lib.hid (below_next HB3.out hq)
  replace k0 := cell_then hq k0
  replace k1 := cell_then hq k1
  replace k2 := cell_then hq k2
  have y0 := HOWQ.out.frozenAt (kb * 4)
  have y1 := HOWQ.out.frozenAt (kb * 4 + 1)
  have y2 := HOWQ.out.frozenAt (kb * 4 + 2)
  have y3 := HOWQ.out.frozenAt (kb * 4 + 3)
  obtain ⟨b_, o_, e_, x0, x1, x2, x3⟩ := dots_of_own HOWQ.out kb (by rw [HNN.out]; exact hkbn)
  injection e_ with e_
  injection e_ with e1_ e2_ e3_
  subst e1_ e2_
  rw [Nat.zero_add] at x0 x1 x2 x3
  have lx := lt_size x0
  clear hq d0 d1 d2 d3 lk ld HPK hkb HB3 HOW3 e3_
  go_wp2_with fail
  obtain ⟨W7, hW7⟩ : ∃ W, (((wq.setCell ⟨g2, kb * 4, none⟩ (.int .i64 d.x)).setCell ⟨g2, kb * 4 + 1, none⟩ (.int .i64 d.y)).setCell ⟨g2, kb * 4 + 2, none⟩ (.int .i64 d.t)).setCell ⟨g2, kb * 4 + 3, none⟩ (.int .i64 d.p) = W := ⟨_, rfl⟩
  have hb7 : Below V2.heap.size V2 W7 := by
    rw [← hW7]
    exact (((HBQ.out.setCell (p := ⟨g2, kb * 4, none⟩) hv2 _).setCell (p := ⟨g2, kb * 4 + 1, none⟩) hv2 _).setCell (p := ⟨g2, kb * 4 + 2, none⟩) hv2 _).setCell (p := ⟨g2, kb * 4 + 3, none⟩) hv2 _
  have HS7 : Hid (SrAt W7 bB 0 ⟨P, N, some ⟨g2, 0, none⟩, cp2, D.set kb d⟩) := Lib.hid (by
    have hcc := own_cap HOWQ.out
    have hdp := dots_put HOWQ.out HNN.out d hkbn
    have hl : (D.set kb d).length = n := by rw [List.length_set]; exact HNN.out
    rw [hW7] at hdp
    refine ⟨?_, ?_, ?_, hdp, by dsimp only; omega, hcc.2, by dsimp only; omega⟩
    · rw [← hW7]; exact cell_set _ (cell_set _ (cell_set _ (cell_set _ k0 (by dsimp only; omega)) (by dsimp only; omega)) (by dsimp only; omega)) (by dsimp only; omega)
    · rw [← hW7]; exact cell_set _ (cell_set _ (cell_set _ (cell_set _ k1 (by dsimp only; omega)) (by dsimp only; omega)) (by dsimp only; omega)) (by dsimp only; omega)
    · rw [← hW7]; dsimp only; rw [hl]; exact cell_set _ (cell_set _ (cell_set _ (cell_set _ k2 (by dsimp only; omega)) (by dsimp only; omega)) (by dsimp only; omega)) (by dsimp only; omega))
  have HA7 := Lib.hid (HA2.out.then_ hb7)
  have HO7 := Lib.hid (HO2.out.then_ hb7)
  have HW7 := Lib.hid (below_next HW2.out hb7)
  have HLW : Hid (w.heap.size + 1 + 1 + 1 < W7.heap.size) := Lib.hid (lt_size HA7.out.nn.1)
  have hsz : W7.heap.size = wq.heap.size := by rw [← hW7]; simp
  rw [hW7]
  clear hW7 hb7 k0 k1 k2 y0 y1 y2 y3 x0 x1 x2 x3 lx HOWQ HBQ hv2 hg2 hkbn hkb0 hkb1 hncp hcp hcpm HA2 HO2 HW2 hbB2
  obtain ⟨gp, hgp2⟩ : ∃ g, wq.heap.size = g := ⟨_, rfl⟩
  have hgp : W7.heap.size = gp := by rw [hsz, hgp2]
  obtain ⟨V7, hV7⟩ : ∃ V, W7.alloc (.cells #[.int .i64 0, .int .i64 0, .int .i64 0, .int .i64 0, .int .i64 0, .int .i64 0, .int .i64 0, .int .i64 0, .int .i64 0, .int .i64 0, .int .i64 0, .int .i64 0] 36) = V := ⟨_, rfl⟩
  have HP7 : Hid (PlsF V7 gp (fun _ => (0, 0))) := Lib.hid (by rw [← hV7, ← hgp]; exact plsf_new _ _)
  have HB7 : Hid (Below gp W7 V7) := Lib.hid (by rw [← hV7, ← hgp]; exact below_alloc (Below.refl _ _) _)
  rw [hV7, hgp2]
  rw [hgp] at HLW
  have HGP := Lib.hid hgp
  clear hV7 hgp hgp2 hsz
  go_loopw [25] (fun i wr => ∃ (k : Nat) (f : Nat → Int × Int), k ≤ 3 ∧ i = .int .i64 (k : Int) ∧ PlsF wr gp f ∧ Below gp W7 wr) (fun i _ => 3 - (intOf i).toNat)
  case atStart => exact ⟨0, _, by omega, rfl, HP7.out, HB7.out⟩
  case round =>
    obtain ⟨k, f, hk, rfl, hpf, hB⟩ := hrel
    have HPF := Lib.hid hpf
    have HBR := Lib.hid hB
    have HAR := Lib.hid (HA7.out.then_ (by rw [HGP.out]; exact hB))
    clear hpf hB
    obtain ⟨wo, hwo⟩ : ∃ wo, wo = wr := ⟨_, rfl⟩
    subst hwo
    rcases (show k = 0 ∨ k = 1 ∨ k = 2 ∨ k = 3 by omega) with rfl | rfl | rfl | rfl
    · obtain ⟨p0, p1⟩ := HAR.out.pp 0 (by omega)
      obtain ⟨z0, z1⟩ := HPF.out.1 0 (by omega)
      have f0 := HPF.out.2 (0 * 2) (by omega)
      have f1 := HPF.out.2 (0 * 2 + 1) (by omega)
      have fi := HF3.out 0 (by omega)
      obtain ⟨X, hX⟩ : ∃ x, (f3 0).1 = x := ⟨_, rfl⟩
      obtain ⟨Y, hY⟩ : ∃ x, (f3 0).2 = x := ⟨_, rfl⟩
      rw [hX] at p0 fi
      rw [hY] at p1 fi
      have lp := lt_size p0
      have lz := lt_size z0
      have HPX := Lib.hid (fun W => pickL_any X 4096 W fi.1 (by omega) (by omega))
      have HPY := Lib.hid (fun W => pickL_any Y 4096 W fi.2 (by omega) (by omega))
      have hgp : w.heap.size + 1 + 1 < gp := by have := HLW.out; omega
      clear hX hY fi
      go_wp2_with fail
      obtain ⟨ws, hws⟩ : ∃ W, (wo.setCell ⟨gp, 0 * 2, none⟩ (.int .i64 X)).setCell ⟨gp, 0 * 2 + 1, none⟩ (.int .i64 Y) = W := ⟨_, rfl⟩
      have HP2 : Hid (PlsF ws gp (fun q => if q = 0 then (X, Y) else f q)) := Lib.hid (by rw [← hws]; exact HPF.out.set_ (by omega) X Y)
      have hb2 : Below gp W7 ws := by rw [← hws]; exact (HBR.out.setCell (by dsimp only; omega) _).setCell (by dsimp only; omega) _
      replace p0 : ws.cell? ⟨w.heap.size + 1 + 1, 0 * 2, none⟩ = some (.int .i64 X) := by rw [← hws]; exact cell_set _ (cell_set _ p0 (by dsimp only; omega)) (by dsimp only; omega)
      replace p1 : ws.cell? ⟨w.heap.size + 1 + 1, 0 * 2 + 1, none⟩ = some (.int .i64 Y) := by rw [← hws]; exact cell_set _ (cell_set _ p1 (by dsimp only; omega)) (by dsimp only; omega)
      have HB2 := Lib.hid hb2
      have HWS := Lib.hid hws
      replace lp := lt_size p0
      replace p0 : ws.cell? ⟨w.heap.size + 1 + 1, 0, none⟩ = some (.int .i64 X) := p0
      replace p1 : ws.cell? ⟨w.heap.size + 1 + 1, 1, none⟩ = some (.int .i64 Y) := p1
      have hws2 : (wo.setCell ⟨gp, 0, none⟩ (.int .i64 X)).setCell ⟨gp, 1, none⟩ (.int .i64 Y) = ws := HWS.out
      rw [hws2]
      clear hb2 hws hws2 HWS z0 z1 f0 f1
      have g_0 := fun D os => cell_regrown p0 D os
      have g_1 := fun D os => cell_regrown p1 D os
      refine wp_region_head 14 (by kernel_rfl) (by kernel_rfl) ?_
      simp only [List.take_succ_cons, List.take_zero, List.drop_succ_cons, List.drop_zero]
      repeat (go_big_quiet_step ((first | (with_reducible exact Calls.regrown_of ((HPX.out _).mono fun e w' h => ⟨h.1, h.2 ▸ Below.refl _ _⟩)) | (with_reducible exact Calls.regrown_of ((HPY.out _).mono fun e w' h => ⟨h.1, h.2 ▸ Below.refl _ _⟩)))))
      refine wpQuiet_nil ?_
      intro wq hq
      clear g_0 g_1 p0 p1
      have HP3 := Lib.hid (HP2.out.then_ hq)
      have zz := HP3.out.1 3 (by omega)
      have z0 : wq.cell? ⟨gp, 6, none⟩ = some (.int .i64 (if 3 = 0 then (X, Y) else f 3).1) := zz.1
      have z1 : wq.cell? ⟨gp, 7, none⟩ = some (.int .i64 (if 3 = 0 then (X, Y) else f 3).2) := zz.2
      have f0 := HP3.out.2 6 (by omega)
      have f1 := HP3.out.2 7 (by omega)
      clear zz
      have lz := lt_size z0
      have HB4 := Lib.hid (below_next HB2.out hq (Nat.le_of_eq HGP.out.symm))
      clear hq
      go_wp2_with fail
      exact ⟨⟨0 + 1, _, by omega, rfl, HP3.out.set_ (j := 0 + 3) (by omega) _ _, (HB4.out.setCell (by dsimp only; omega) _).setCell (by dsimp only; omega) _⟩, by simp [intOf]⟩
    · obtain ⟨p0, p1⟩ := HAR.out.pp 1 (by omega)
      obtain ⟨z0, z1⟩ := HPF.out.1 1 (by omega)
      have f0 := HPF.out.2 (1 * 2) (by omega)
      have f1 := HPF.out.2 (1 * 2 + 1) (by omega)
      have fi := HF3.out 1 (by omega)
      obtain ⟨X, hX⟩ : ∃ x, (f3 1).1 = x := ⟨_, rfl⟩
      obtain ⟨Y, hY⟩ : ∃ x, (f3 1).2 = x := ⟨_, rfl⟩
      rw [hX] at p0 fi
      rw [hY] at p1 fi
      have lp := lt_size p0
      have lz := lt_size z0
      have HPX := Lib.hid (fun W => pickL_any X 4096 W fi.1 (by omega) (by omega))
      have HPY := Lib.hid (fun W => pickL_any Y 4096 W fi.2 (by omega) (by omega))
      have hgp : w.heap.size + 1 + 1 < gp := by have := HLW.out; omega
      clear hX hY fi
      go_wp2_with fail
      obtain ⟨ws, hws⟩ : ∃ W, (wo.setCell ⟨gp, 1 * 2, none⟩ (.int .i64 X)).setCell ⟨gp, 1 * 2 + 1, none⟩ (.int .i64 Y) = W := ⟨_, rfl⟩
      have HP2 : Hid (PlsF ws gp (fun q => if q = 1 then (X, Y) else f q)) := Lib.hid (by rw [← hws]; exact HPF.out.set_ (by omega) X Y)
      have hb2 : Below gp W7 ws := by rw [← hws]; exact (HBR.out.setCell (by dsimp only; omega) _).setCell (by dsimp only; omega) _
      replace p0 : ws.cell? ⟨w.heap.size + 1 + 1, 1 * 2, none⟩ = some (.int .i64 X) := by rw [← hws]; exact cell_set _ (cell_set _ p0 (by dsimp only; omega)) (by dsimp only; omega)
      replace p1 : ws.cell? ⟨w.heap.size + 1 + 1, 1 * 2 + 1, none⟩ = some (.int .i64 Y) := by rw [← hws]; exact cell_set _ (cell_set _ p1 (by dsimp only; omega)) (by dsimp only; omega)
      have HB2 := Lib.hid hb2
      have HWS := Lib.hid hws
      replace lp := lt_size p0
      replace p0 : ws.cell? ⟨w.heap.size + 1 + 1, 2, none⟩ = some (.int .i64 X) := p0
      replace p1 : ws.cell? ⟨w.heap.size + 1 + 1, 3, none⟩ = some (.int .i64 Y) := p1
      have hws2 : (wo.setCell ⟨gp, 2, none⟩ (.int .i64 X)).setCell ⟨gp, 3, none⟩ (.int .i64 Y) = ws := HWS.out
      rw [hws2]
      clear hb2 hws hws2 HWS z0 z1 f0 f1
      have g_0 := fun D os => cell_regrown p0 D os
      have g_1 := fun D os => cell_regrown p1 D os
      refine wp_region_head 14 (by kernel_rfl) (by kernel_rfl) ?_
      simp only [List.take_succ_cons, List.take_zero, List.drop_succ_cons, List.drop_zero]
      repeat (go_big_quiet_step ((first | (with_reducible exact Calls.regrown_of ((HPX.out _).mono fun e w' h => ⟨h.1, h.2 ▸ Below.refl _ _⟩)) | (with_reducible exact Calls.regrown_of ((HPY.out _).mono fun e w' h => ⟨h.1, h.2 ▸ Below.refl _ _⟩)))))
      refine wpQuiet_nil ?_
      intro wq hq
      clear g_0 g_1 p0 p1
      have HP3 := Lib.hid (HP2.out.then_ hq)
      have zz := HP3.out.1 4 (by omega)
      have z0 : wq.cell? ⟨gp, 8, none⟩ = some (.int .i64 (if 4 = 1 then (X, Y) else f 4).1) := zz.1
      have z1 : wq.cell? ⟨gp, 9, none⟩ = some (.int .i64 (if 4 = 1 then (X, Y) else f 4).2) := zz.2
      have f0 := HP3.out.2 8 (by omega)
      have f1 := HP3.out.2 9 (by omega)
      clear zz
      have lz := lt_size z0
      have HB4 := Lib.hid (below_next HB2.out hq (Nat.le_of_eq HGP.out.symm))
      clear hq
      go_wp2_with fail
      exact ⟨⟨1 + 1, _, by omega, rfl, HP3.out.set_ (j := 1 + 3) (by omega) _ _, (HB4.out.setCell (by dsimp only; omega) _).setCell (by dsimp only; omega) _⟩, by simp [intOf]⟩
    · obtain ⟨p0, p1⟩ := HAR.out.pp 2 (by omega)
      obtain ⟨z0, z1⟩ := HPF.out.1 2 (by omega)
      have f0 := HPF.out.2 (2 * 2) (by omega)
      have f1 := HPF.out.2 (2 * 2 + 1) (by omega)
      have fi := HF3.out 2 (by omega)
      obtain ⟨X, hX⟩ : ∃ x, (f3 2).1 = x := ⟨_, rfl⟩
      obtain ⟨Y, hY⟩ : ∃ x, (f3 2).2 = x := ⟨_, rfl⟩
      rw [hX] at p0 fi
      rw [hY] at p1 fi
      have lp := lt_size p0
      have lz := lt_size z0
      have HPX := Lib.hid (fun W => pickL_any X 4096 W fi.1 (by omega) (by omega))
      have HPY := Lib.hid (fun W => pickL_any Y 4096 W fi.2 (by omega) (by omega))
      have hgp : w.heap.size + 1 + 1 < gp := by have := HLW.out; omega
      clear hX hY fi
      go_wp2_with fail
      obtain ⟨ws, hws⟩ : ∃ W, (wo.setCell ⟨gp, 2 * 2, none⟩ (.int .i64 X)).setCell ⟨gp, 2 * 2 + 1, none⟩ (.int .i64 Y) = W := ⟨_, rfl⟩
      have HP2 : Hid (PlsF ws gp (fun q => if q = 2 then (X, Y) else f q)) := Lib.hid (by rw [← hws]; exact HPF.out.set_ (by omega) X Y)
      have hb2 : Below gp W7 ws := by rw [← hws]; exact (HBR.out.setCell (by dsimp only; omega) _).setCell (by dsimp only; omega) _
      replace p0 : ws.cell? ⟨w.heap.size + 1 + 1, 2 * 2, none⟩ = some (.int .i64 X) := by rw [← hws]; exact cell_set _ (cell_set _ p0 (by dsimp only; omega)) (by dsimp only; omega)
      replace p1 : ws.cell? ⟨w.heap.size + 1 + 1, 2 * 2 + 1, none⟩ = some (.int .i64 Y) := by rw [← hws]; exact cell_set _ (cell_set _ p1 (by dsimp only; omega)) (by dsimp only; omega)
      have HB2 := Lib.hid hb2
      have HWS := Lib.hid hws
      replace lp := lt_size p0
      replace p0 : ws.cell? ⟨w.heap.size + 1 + 1, 4, none⟩ = some (.int .i64 X) := p0
      replace p1 : ws.cell? ⟨w.heap.size + 1 + 1, 5, none⟩ = some (.int .i64 Y) := p1
      have hws2 : (wo.setCell ⟨gp, 4, none⟩ (.int .i64 X)).setCell ⟨gp, 5, none⟩ (.int .i64 Y) = ws := HWS.out
      rw [hws2]
      clear hb2 hws hws2 HWS z0 z1 f0 f1
      have g_0 := fun D os => cell_regrown p0 D os
      have g_1 := fun D os => cell_regrown p1 D os
      refine wp_region_head 14 (by kernel_rfl) (by kernel_rfl) ?_
      simp only [List.take_succ_cons, List.take_zero, List.drop_succ_cons, List.drop_zero]
      repeat (go_big_quiet_step ((first | (with_reducible exact Calls.regrown_of ((HPX.out _).mono fun e w' h => ⟨h.1, h.2 ▸ Below.refl _ _⟩)) | (with_reducible exact Calls.regrown_of ((HPY.out _).mono fun e w' h => ⟨h.1, h.2 ▸ Below.refl _ _⟩)))))
      refine wpQuiet_nil ?_
      intro wq hq
      clear g_0 g_1 p0 p1
      have HP3 := Lib.hid (HP2.out.then_ hq)
      have zz := HP3.out.1 5 (by omega)
      have z0 : wq.cell? ⟨gp, 10, none⟩ = some (.int .i64 (if 5 = 2 then (X, Y) else f 5).1) := zz.1
      have z1 : wq.cell? ⟨gp, 11, none⟩ = some (.int .i64 (if 5 = 2 then (X, Y) else f 5).2) := zz.2
      have f0 := HP3.out.2 10 (by omega)
      have f1 := HP3.out.2 11 (by omega)
      clear zz
      have lz := lt_size z0
      have HB4 := Lib.hid (below_next HB2.out hq (Nat.le_of_eq HGP.out.symm))
      clear hq
      go_wp2_with fail
      exact ⟨⟨2 + 1, _, by omega, rfl, HP3.out.set_ (j := 2 + 3) (by omega) _ _, (HB4.out.setCell (by dsimp only; omega) _).setCell (by dsimp only; omega) _⟩, by simp [intOf]⟩
    · have HO8 := Lib.hid (HO7.out.then_ (by rw [HGP.out]; exact HBR.out))
      have HS8 := Lib.hid (HS7.out.then_ (by rw [HGP.out]; exact HBR.out))
      have HW8 := Lib.hid (below_next HW7.out (by rw [HGP.out]; exact HBR.out))
      have HP8 := Lib.hid HPF.out.1
      clear HO7 HS7 HA7 HW7 HPF HBR HP7 HB7 HGP HLW
      obtain ⟨mf, hmf⟩ : ∃ m, min m3 30 = m := ⟨_, rfl⟩
      have hmf2 : (D3.take 30).length = mf := by rw [List.length_take, HM3.out, Nat.min_comm]; exact hmf
      have hnl : (D.set kb d).length = n := by rw [List.length_set]; exact HNN.out
      obtain ⟨h31, h32, -, -⟩ := HMX.out
      rw [HM3.out] at h31
      have hfw := fun W => few_any P3 N3 A3 m3 c3 W h31 h32
      rw [hmf] at hfw
      have HFW := Lib.hid hfw
      have HNL := Lib.hid hnl
      have HMF := Lib.hid hmf2
      have o0 := HO8.out.c0
      have o1 := HO8.out.c1
      have o2 := HO8.out.c2
      have k0 := HS8.out.c0
      have k1 := HS8.out.c1
      have k2 := HS8.out.c2
      dsimp only at o0 o1 o2 k0 k1 k2
      rw [HNN.out] at o2
      rw [HNL.out] at k2
      simp only [Nat.zero_add] at o1 o2 k1 k2
      have r0 := HAR.out.r0
      have r1 := HAR.out.r1
      have r2 := HAR.out.r2
      have lo := lt_size o0
      have lk := lt_size k0
      have lr := lt_size r0
      clear hmf hmf2 hnl hfw h31 h32
      go_wp2_with fail
      go_region_held3 (fun w' => Below wo.heap.size wo w' ∧ w'.cell? ⟨bO, 0, none⟩ = some (.int .i64 P) ∧ w'.cell? ⟨bO, 1, none⟩ = some (.int .i64 N) ∧ w'.cell? ⟨bO, 2, none⟩ = some (.slice (some ⟨g, 0, none⟩) n cp) ∧ w'.cell? ⟨bB, 0, none⟩ = some (.int .i64 P) ∧ w'.cell? ⟨bB, 1, none⟩ = some (.int .i64 N) ∧ w'.cell? ⟨bB, 2, none⟩ = some (.slice (some ⟨g2, 0, none⟩) n cp2) ∧ w'.cell? ⟨w.heap.size + 1, 0, none⟩ = some (.int .i64 P3) ∧ w'.cell? ⟨w.heap.size + 1, 1, none⟩ = some (.int .i64 N3) ∧ w'.cell? ⟨w.heap.size + 1, 2, none⟩ = some (.slice A3 m3 c3)) ((suffices hB : Below wo.heap.size wo _ from ⟨hB, cell_then hB ‹_›, cell_then hB ‹_›, cell_then hB ‹_›, cell_then hB ‹_›, cell_then hB ‹_›, cell_then hB ‹_›, cell_then hB ‹_›, cell_then hB ‹_›, cell_then hB ‹_›⟩; repeat (first | with_reducible exact Below.refl _ _ | with_reducible refine below_alloc ?_ _ | with_reducible refine Below.setCell ?_ (by dsimp only; omega) _ | with_reducible refine Below.drew ?_ | with_reducible refine below_next ?_ ‹Below _ _ _›))) (first | (go_at_call 13; refine (HFW.out _).mono ?_; rintro e wf ⟨rfl, bf⟩))
      rename_i hHeld
      clear hHeld
      have bf2 : Below wo.heap.size wo wf := below_next ((Below.refl _ _).drew) bf
      obtain ⟨Wl, hWl⟩ : ∃ W, wf.alloc (.cells #[.int .i64 P, .int .i64 N, .slice (some ⟨g, 0, none⟩) n cp, .int .i64 P, .int .i64 N, .slice (some ⟨g2, 0, none⟩) n cp2, .int .i64 P3, .int .i64 N3, .slice A3 mf c3] 27) = W := ⟨_, rfl⟩
      obtain ⟨gl, hgl⟩ : ∃ g, wf.heap.size = g := ⟨_, rfl⟩
      have bl : Below wo.heap.size wo Wl := by rw [← hWl]; exact below_next bf2 (below_alloc (Below.refl _ _) _)
      have HL : Hid (LitAt Wl gl [⟨P, N, some ⟨g, 0, none⟩, cp, D⟩, ⟨P, N, some ⟨g2, 0, none⟩, cp2, D.set kb d⟩, ⟨P3, N3, A3, c3, D3.take 30⟩]) := Lib.hid (fun j hj => by
        have h1 := (HO8.out.then_ bl).str
        have h2 := (HS8.out.then_ bl).str
        have h3 := take_dots (HD3.out.below (below_next HW8.out bl)) 30
        have e1 := HNN.out
        have e2 := HNL.out
        have e3 := HMF.out
        have h4 := HMX.out
        have e5 := HM3.out
        rw [List.length_cons, List.length_cons, List.length_cons, List.length_nil] at hj
        rcases (show j = 0 ∨ j = 1 ∨ j = 2 by omega) with rfl | rfl | rfl
        · exact ⟨by rw [← hWl, ← hgl]; exact new_cell rfl, by rw [← hWl, ← hgl]; exact new_cell rfl, by rw [← hWl, ← hgl]; show _ = some (Value.slice _ D.length _); rw [e1]; exact new_cell rfl, h1⟩
        · exact ⟨by rw [← hWl, ← hgl]; exact new_cell rfl, by rw [← hWl, ← hgl]; exact new_cell rfl, by rw [← hWl, ← hgl]; show _ = some (Value.slice _ (D.set kb d).length _); rw [e2]; exact new_cell rfl, h2⟩
        · refine ⟨by rw [← hWl, ← hgl]; exact new_cell rfl, by rw [← hWl, ← hgl]; exact new_cell rfl, by rw [← hWl, ← hgl]; show _ = some (Value.slice _ (D3.take 30).length _); rw [e3]; exact new_cell rfl, ⟨h3, ?_, h4.2.1, ?_⟩⟩
          · show (D3.take 30).length ≤ c3; rw [List.length_take]; omega
          · show (D3.take 30).length ≤ 200; rw [List.length_take]; omega)
      have HM : Hid (MatAt Wl bO ⟨P, N, some ⟨g, 0, none⟩, cp, D⟩ (w.heap.size + 1 + 1 + 1) n0 n1 gp f AK K) := Lib.hid ⟨HO8.out.then_ bl, HAR.out.nn.then_ bl, HP8.out.then_ bl, HK.out.then_ (below_next HW8.out bl)⟩
      have HWl := Lib.hid (below_next HW8.out bl)
      have hws : w.heap.size + 1 + 1 + 1 < Wl.heap.size := lt_size HM.out.nn.1
      rw [hWl, hgl]
      clear bf bf2 bl hWl hgl o0 o1 o2 k0 k1 k2 r0 r1 r2 lo lk lr HO8 HS8 HAR HW8 HP8 HFW HMF HNL HD3 HF3 HQQ
      obtain ⟨L, hL⟩ : ∃ L, [(⟨P, N, some ⟨g, 0, none⟩, cp, D⟩ : SRec), ⟨P, N, some ⟨g2, 0, none⟩, cp2, D.set kb d⟩, ⟨P3, N3, A3, c3, D3.take 30⟩] = L := ⟨_, rfl⟩
      have hL3 : L.length = 3 := by rw [← hL]; rfl
      have h30 : ∀ j, j < 3 → (L.getD j sr0).D.length ≤ 30 := fun j hj => by
        have e1 := HNN.out
        have e4 : (D.set kb d).length = n := by rw [List.length_set]; exact HNN.out
        rw [← hL]
        rcases (show j = 0 ∨ j = 1 ∨ j = 2 by omega) with rfl | rfl | rfl
        · show D.length ≤ 30; omega
        · show (D.set kb d).length ≤ 30; omega
        · show (D3.take 30).length ≤ 30; rw [List.length_take]; omega
      have HL30 := Lib.hid h30
      rw [hL] at HL
      have HL3 := Lib.hid hL3
      clear hL hL3 h30
      go_wp2_with fail
      go_loopw [120] (fun v wr => ∃ j : Nat, j ≤ 3 ∧ v = .int .i64 (j : Int) ∧ Below Wl.heap.size Wl wr) (fun v _ => 3 - (intOf v).toNat)
      case atStart => exact ⟨0, by omega, rfl, Below.refl _ _⟩
      case round =>
        obtain ⟨j, hj, rfl, hB⟩ := hrel
        obtain ⟨wj, hwj⟩ : ∃ wo, wo = wr := ⟨_, rfl⟩
        subst hwj
        by_cases hlt : j < 3
        · as_aux_lemma =>
          have hj0 : (0 : Int) ≤ (j : Int) := by omega
          have hj3 : (j : Int) < 3 := by omega
          have HMJ := Lib.hid (HM.out.then_ hB)
          have HBJ := Lib.hid hB
          obtain ⟨s0, s1, s2, hst⟩ := (HL.out.then_ hB) j (by rw [HL3.out]; omega)
          obtain ⟨s, hs⟩ : ∃ s, L.getD j sr0 = s := ⟨_, rfl⟩
          have hm30 := HL30.out j hlt
          rw [hs] at s0 s1 s2 hst hm30
          obtain ⟨P', N', A', c', D'⟩ := s
          dsimp only at s0 s1 s2 hst hm30
          obtain ⟨m, hm⟩ : ∃ m, D'.length = m := ⟨_, rfl⟩
          rw [hm] at s2 hm30
          have HST0 := Lib.hid hst
          have HDM := Lib.hid hm
          have lj := lt_size s0
          clear hs hst hm hB
          -- steps
          obtain ⟨bS, hbS⟩ : ∃ b, wj.heap.size = b := ⟨_, rfl⟩
          obtain ⟨ws, hws1⟩ : ∃ W, wj.alloc (.cells #[.int .i64 P', .int .i64 N', .slice A' m c'] 27) = W := ⟨_, rfl⟩
          have bws : Below wj.heap.size wj ws := by rw [← hws1]; exact below_alloc (Below.refl _ _) _
          have HS : Hid (ws.cell? ⟨bS, 0, none⟩ = some (.int .i64 P') ∧ ws.cell? ⟨bS, 1, none⟩ = some (.int .i64 N') ∧ ws.cell? ⟨bS, 2, none⟩ = some (.slice A' m c')) := Lib.hid (by rw [← hws1, ← hbS]; exact ⟨new_cell rfl, new_cell rfl, new_cell rfl⟩)
          have HST := Lib.hid (HST0.out.then_ bws)
          have HMS := Lib.hid (HMJ.out.then_ bws)
          have HBS := Lib.hid (below_next HBJ.out bws)
          have HWS1 := Lib.hid hws1
          have hSA : StrAt ws P' N' A' c' D' := HST.out
          obtain ⟨x1, y1, u1, v1, e1, hbox⟩ := box_two hSA
          obtain ⟨wy, e2, hway⟩ := way_two hSA
          obtain ⟨x3, y3, u3, v3, e3, hends⟩ := ends_two hSA
          obtain ⟨bv, hval⟩ := valid_two hSA
          obtain ⟨cv, hcod⟩ := code_two hSA
          obtain ⟨sv, hsam⟩ := same_two hSA (Q := P) (M := N) (cb := cp) HMS.out.own.str.dots
          dsimp only at hsam
          rw [HDM.out] at hbox hway hends hval hcod hsam
          rw [HNN.out] at hsam
          have HBOX := Lib.hid hbox
          have HWAY := Lib.hid hway
          have HENDS := Lib.hid hends
          have HVAL := Lib.hid hval
          have HCOD := Lib.hid hcod
          have HSAM := Lib.hid hsam
          clear hws1 bws hSA hbox hway hends hval hcod hsam HST0 HMJ
          go_wp2_with fail
          rw [HWS1.out]
          clear HWS1 lj s0 s1 s2
          obtain ⟨s0, s1, s2⟩ := HS.out
          have ls := lt_size s0
          have HB0 := Lib.hid (Below.refl ws.heap.size ws)
          refine ((HBOX.out _ HB0.out).1).mono ?_
          rintro e w1_ ⟨rfl, bq⟩
          obtain ⟨v1_, hv1_⟩ : ∃ W, (w1_.alloc (.cells #[.int .i64 x1, .int .i64 y1, .int .i64 u1, .int .i64 v1] 40)) = W := ⟨_, rfl⟩
          have ba : Below w1_.heap.size w1_ v1_ := by rw [← hv1_]; exact below_alloc (Below.refl _ _) _
          obtain ⟨g1a, hg1a⟩ : ∃ b, w1_.heap.size = b := ⟨_, rfl⟩
          have Hg1a : Hid (Cel4 v1_ g1a (x1) (y1) (u1) (v1)) := Lib.hid (by
            rw [← hv1_, ← hg1a]
            exact ⟨new_cell rfl, new_cell rfl, new_cell rfl, new_cell rfl⟩)
          have HB1 := Lib.hid (below_next HB0.out (below_next bq ba))
          replace s0 := cell_then bq s0
          replace s1 := cell_then bq s1
          replace s2 := cell_then bq s2
          have ls := lt_size s0
          have s0x := cell_then ba s0
          have s1x := cell_then ba s1
          have s2x := cell_then ba s2
          have lsx := lt_size s0x
          rw [← hv1_] at s0x s1x s2x lsx
          have HVV := Lib.hid hv1_
          clear hv1_
          go_wp2_with fail
          rw [HVV.out]
          clear HVV
          replace s0 := cell_then ba s0
          replace s1 := cell_then ba s1
          replace s2 := cell_then ba s2
          replace ls := lt_size s0
          clear bq ba HB0 s0x s1x s2x lsx hg1a
          refine ((HBOX.out _ HB1.out).2).mono ?_
          rintro e w2_ ⟨rfl, bq⟩
          obtain ⟨v2_, hv2_⟩ : ∃ W, (w2_.alloc (.cells #[.int .i64 x1, .int .i64 y1, .int .i64 u1, .int .i64 v1] 40)) = W := ⟨_, rfl⟩
          have ba : Below w2_.heap.size w2_ v2_ := by rw [← hv2_]; exact below_alloc (Below.refl _ _) _
          obtain ⟨g2a, hg2a⟩ : ∃ b, w2_.heap.size = b := ⟨_, rfl⟩
          have Hg2a : Hid (Cel4 v2_ g2a (x1) (y1) (u1) (v1)) := Lib.hid (by
            rw [← hv2_, ← hg2a]
            exact ⟨new_cell rfl, new_cell rfl, new_cell rfl, new_cell rfl⟩)
          replace Hg1a := Lib.hid (Hg1a.out.then_ (below_next bq ba))
          have HB2 := Lib.hid (below_next HB1.out (below_next bq ba))
          replace s0 := cell_then bq s0
          replace s1 := cell_then bq s1
          replace s2 := cell_then bq s2
          have ls := lt_size s0
          have s0x := cell_then ba s0
          have s1x := cell_then ba s1
          have s2x := cell_then ba s2
          have lsx := lt_size s0x
          rw [← hv2_] at s0x s1x s2x lsx
          have HVV := Lib.hid hv2_
          clear hv2_
          go_wp2_with fail
          rw [HVV.out]
          clear HVV
          replace s0 := cell_then ba s0
          replace s1 := cell_then ba s1
          replace s2 := cell_then ba s2
          replace ls := lt_size s0
          clear bq ba HB1 s0x s1x s2x lsx hg2a
          refine ((HWAY.out _ HB2.out).1).mono ?_
          rintro e w3_ ⟨rfl, bq⟩
          replace Hg1a := Lib.hid (Hg1a.out.then_ bq)
          replace Hg2a := Lib.hid (Hg2a.out.then_ bq)
          have HB3 := Lib.hid (below_next HB2.out bq)
          replace s0 := cell_then bq s0
          replace s1 := cell_then bq s1
          replace s2 := cell_then bq s2
          replace ls := lt_size s0
          clear bq HB2
          go_wp2_with fail
          refine ((HWAY.out _ HB3.out).2).mono ?_
          rintro e w4_ ⟨rfl, bq⟩
          replace Hg1a := Lib.hid (Hg1a.out.then_ bq)
          replace Hg2a := Lib.hid (Hg2a.out.then_ bq)
          have HB4 := Lib.hid (below_next HB3.out bq)
          replace s0 := cell_then bq s0
          replace s1 := cell_then bq s1
          replace s2 := cell_then bq s2
          replace ls := lt_size s0
          clear bq HB3
          go_wp2_with fail
          refine ((HENDS.out _ HB4.out).1).mono ?_
          rintro e w5_ ⟨rfl, bq⟩
          obtain ⟨v5_, hv5_⟩ : ∃ W, ((w5_.alloc (.cells #[.int .i64 x3, .int .i64 y3] 29)).alloc (.cells #[.int .i64 u3, .int .i64 v3] 29)) = W := ⟨_, rfl⟩
          have ba : Below w5_.heap.size w5_ v5_ := by rw [← hv5_]; exact below_alloc (below_alloc (Below.refl _ _) _) _
          obtain ⟨g5a, hg5a⟩ : ∃ b, w5_.heap.size = b := ⟨_, rfl⟩
          have Hg5a : Hid (Cel2 v5_ g5a (x3) (y3)) := Lib.hid (by
            rw [← hv5_, ← hg5a]
            exact ⟨by simp [go_sem], by simp [go_sem]⟩)
          have Hg5b : Hid (Cel2 v5_ (g5a + 1) (u3) (v3)) := Lib.hid (by
            rw [← hv5_, ← hg5a]
            exact ⟨by simp [go_sem], by simp [go_sem]⟩)
          replace Hg1a := Lib.hid (Hg1a.out.then_ (below_next bq ba))
          replace Hg2a := Lib.hid (Hg2a.out.then_ (below_next bq ba))
          have HB5 := Lib.hid (below_next HB4.out (below_next bq ba))
          replace s0 := cell_then bq s0
          replace s1 := cell_then bq s1
          replace s2 := cell_then bq s2
          have ls := lt_size s0
          have s0x := cell_then ba s0
          have s1x := cell_then ba s1
          have s2x := cell_then ba s2
          have lsx := lt_size s0x
          rw [← hv5_] at s0x s1x s2x lsx
          have HVV := Lib.hid hv5_
          clear hv5_
          go_wp2_with fail
          rw [HVV.out]
          clear HVV
          replace s0 := cell_then ba s0
          replace s1 := cell_then ba s1
          replace s2 := cell_then ba s2
          replace ls := lt_size s0
          clear bq ba HB4 s0x s1x s2x lsx hg5a
          refine ((HENDS.out _ HB5.out).2).mono ?_
          rintro e w6_ ⟨rfl, bq⟩
          obtain ⟨v6_, hv6_⟩ : ∃ W, ((w6_.alloc (.cells #[.int .i64 x3, .int .i64 y3] 29)).alloc (.cells #[.int .i64 u3, .int .i64 v3] 29)) = W := ⟨_, rfl⟩
          have ba : Below w6_.heap.size w6_ v6_ := by rw [← hv6_]; exact below_alloc (below_alloc (Below.refl _ _) _) _
          obtain ⟨g6a, hg6a⟩ : ∃ b, w6_.heap.size = b := ⟨_, rfl⟩
          have Hg6a : Hid (Cel2 v6_ g6a (x3) (y3)) := Lib.hid (by
            rw [← hv6_, ← hg6a]
            exact ⟨by simp [go_sem], by simp [go_sem]⟩)
          have Hg6b : Hid (Cel2 v6_ (g6a + 1) (u3) (v3)) := Lib.hid (by
            rw [← hv6_, ← hg6a]
            exact ⟨by simp [go_sem], by simp [go_sem]⟩)
          replace Hg1a := Lib.hid (Hg1a.out.then_ (below_next bq ba))
          replace Hg2a := Lib.hid (Hg2a.out.then_ (below_next bq ba))
          replace Hg5a := Lib.hid (Hg5a.out.then_ (below_next bq ba))
          replace Hg5b := Lib.hid (Hg5b.out.then_ (below_next bq ba))
          have HB6 := Lib.hid (below_next HB5.out (below_next bq ba))
          replace s0 := cell_then bq s0
          replace s1 := cell_then bq s1
          replace s2 := cell_then bq s2
          have ls := lt_size s0
          have s0x := cell_then ba s0
          have s1x := cell_then ba s1
          have s2x := cell_then ba s2
          have lsx := lt_size s0x
          rw [← hv6_] at s0x s1x s2x lsx
          have HVV := Lib.hid hv6_
          clear hv6_
          go_wp2_with fail
          rw [HVV.out]
          clear HVV
          replace s0 := cell_then ba s0
          replace s1 := cell_then ba s1
          replace s2 := cell_then ba s2
          replace ls := lt_size s0
          clear bq ba HB5 s0x s1x s2x lsx hg6a
          obtain ⟨wp, hwp⟩ : ∃ W, W = v6_ := ⟨_, rfl⟩
          rw [← hwp] at s0 s1 s2 ls HB6 Hg1a Hg2a Hg5a Hg5b Hg6a Hg6b
          have HMP := Lib.hid (HMS.out.then_ HB6.out)
          rw [← hwp]
          clear hwp
          have o0 := HMP.out.own.c0
          have o1 := HMP.out.own.c1
          have o2 := HMP.out.own.c2
          simp only [Nat.zero_add] at o1 o2
          dsimp only at o0 o1 o2
          rw [HNN.out] at o2
          obtain ⟨ra0, ra1, ra2, ra3⟩ := Hg1a.out
          obtain ⟨rb0, rb1, rb2, rb3⟩ := Hg2a.out
          obtain ⟨qa0, qa1⟩ := Hg5a.out
          obtain ⟨qb0, qb1⟩ := Hg5b.out
          obtain ⟨ta0, ta1⟩ := Hg6a.out
          obtain ⟨tb0, tb1⟩ := Hg6b.out
          have lo := lt_size o0
          have HV1 := Lib.hid (fun W (hW : Below wp.heap.size wp W) => (HVAL.out W (below_next HB6.out hW)).1)
          have HV2 := Lib.hid (fun W (hW : Below wp.heap.size wp W) => (HVAL.out W (below_next HB6.out hW)).2)
          have HC1 := Lib.hid (fun W (hW : Below wp.heap.size wp W) => (HCOD.out W (below_next HB6.out hW)).1)
          have HC2 := Lib.hid (fun W (hW : Below wp.heap.size wp W) => (HCOD.out W (below_next HB6.out hW)).2)
          have HE1 := Lib.hid (fun W (hW : Below wp.heap.size wp W) => (HSAM.out W (below_next HB6.out hW)).1)
          have HE2 := Lib.hid (fun W (hW : Below wp.heap.size wp W) => (HSAM.out W (below_next HB6.out hW)).2)
          have g_0 := fun D os => cell_regrown s0 D os
          have g_1 := fun D os => cell_regrown s1 D os
          have g_2 := fun D os => cell_regrown s2 D os
          have g_3 := fun D os => cell_regrown o0 D os
          have g_4 := fun D os => cell_regrown o1 D os
          have g_5 := fun D os => cell_regrown o2 D os
          have g_6 := fun D os => cell_regrown ra0 D os
          have g_7 := fun D os => cell_regrown ra1 D os
          have g_8 := fun D os => cell_regrown ra2 D os
          have g_9 := fun D os => cell_regrown ra3 D os
          have g_10 := fun D os => cell_regrown rb0 D os
          have g_11 := fun D os => cell_regrown rb1 D os
          have g_12 := fun D os => cell_regrown rb2 D os
          have g_13 := fun D os => cell_regrown rb3 D os
          have g_14 := fun D os => cell_regrown qa0 D os
          have g_15 := fun D os => cell_regrown qa1 D os
          have g_16 := fun D os => cell_regrown qb0 D os
          have g_17 := fun D os => cell_regrown qb1 D os
          have g_18 := fun D os => cell_regrown ta0 D os
          have g_19 := fun D os => cell_regrown ta1 D os
          have g_20 := fun D os => cell_regrown tb0 D os
          have g_21 := fun D os => cell_regrown tb1 D os
          refine wp_region_quiet_below (by kernel_rfl) (by kernel_rfl) ?_
          repeat (go_big_quiet_step ((first | (with_reducible exact Calls.regrown_of (HV1.out _ (below_regrown _ _ _))) | (with_reducible exact Calls.regrown_of (HV2.out _ (below_regrown _ _ _))) | (with_reducible exact Calls.regrown_of (HC1.out _ (below_regrown _ _ _))) | (with_reducible exact Calls.regrown_of (HC2.out _ (below_regrown _ _ _))) | (with_reducible exact Calls.regrown_of (HE1.out _ (below_regrown _ _ _))) | (with_reducible exact Calls.regrown_of (HE2.out _ (below_regrown _ _ _))))))
          refine wpQuiet_nil ?_
          intro wq hq0
          have hq := below_of_class hq0
          clear hq0
          clear g_0 g_1 g_2 g_3 g_4 g_5 g_6 g_7 g_8 g_9 g_10 g_11 g_12 g_13 g_14 g_15 g_16 g_17 g_18 g_19 g_20 g_21 s0 s1 s2 o0 o1 o2 ra0 ra1 ra2 ra3 rb0 rb1 rb2 rb3 qa0 qa1 qb0 qb1 ta0 ta1 tb0 tb1 lo ls Hg1a Hg2a Hg5a Hg5b Hg6a Hg6b HV1 HV2 HC1 HC2 HE1 HE2 HVAL HCOD HSAM HBOX HWAY HENDS
          have HMQ := Lib.hid (HMP.out.then_ hq)
          have HBQ := Lib.hid (below_next HB6.out hq)
          clear hq HMP HB6
          go_wp2_with fail
          obtain ⟨w3, hw3⟩ : ∃ W, W = wq := ⟨_, rfl⟩
          rw [← hw3] at HMQ HBQ
          rw [← hw3]
          clear hw3
          have bb := pickI_bd bits (n := 1073741824) (by omega)
          have hpbb := fun W => HPB.out 1073741824 W (by omega) (by omega)
          obtain ⟨ub, hub⟩ : ∃ u, pickI bits 1073741824 = u := ⟨_, rfl⟩
          rw [hub] at bb hpbb
          have HPBB := Lib.hid hpbb
          clear hub hpbb
          go_loopw [42, 43] (fun v i wr => ∃ (k : Nat) (O : List Int), k ≤ m ∧ i = .int .i64 (k : Int) ∧ O.length ≤ k ∧ wr.ownsRow w3.heap.size 3 1 v O.length (ivs O) ∧ Below w3.heap.size w3 wr) (fun _ i _ => m - (intOf i).toNat)
          case atStart => exact ⟨0, [], by omega, rfl, by simp, World.ownsRow_nil _ _ _ _, Below.refl _ _⟩
          case round =>
            obtain ⟨k, O, hk, rfl, hol, hown, hB⟩ := hrel
            have HOW := Lib.hid hown
            have HB := Lib.hid hB
            have hbs := hB.size
            have s2 := cell_then (below_next HBQ.out hB) HS.out.2.2
            have ls := lt_size s2
            clear hown hB
            obtain ⟨wo3, hwo3⟩ : ∃ wo, wo = wr := ⟨_, rfl⟩
            subst hwo3
            by_cases hlk : k < m
            · as_aux_lemma =>
              have hki : (k : Int) < (m : Int) := by omega
              have hk0 : (0 : Int) ≤ (k : Int) := by omega
              have hk30 : (k : Int) < 30 := by omega
              have hk64 : (k : Int) ≤ 64 := by omega
              go_wp2_with (first | (go_at_call 12; refine (HPBB.out _).mono ?_; rintro e w' ⟨rfl, rfl⟩) | (at_builtin; refine wpList_append1 rfl _ _ 32 rfl w3.heap.size 3 i0 _ 1 8 Try.underlying32 HI.out.1 HI.out.2.1 HI.out.2.2.1 HI.out.2.2.2 rfl (by omega) (by omega) u42 O.length _ rfl HOW.out #[.int .i64 (k : Int)] rfl rfl (by simp [Value.oneCell']) (by omega) hbs ?_; intro g' c' w' own' k' n'; have OW := Lib.hid own'; have KW := Lib.hid k'; clear own' k' n'))
              · refine ⟨⟨k + 1, O ++ [(k : Int)], by omega, by go_num, by simp; omega, ?_, KW.out.below_next HB.out hbs (fun q hq => (HOW.out.lt q (own_mem hq)).1)⟩, by simp [intOf]; omega⟩
                rw [ivs_append, List.length_append]
                exact OW.out
              · exact ⟨⟨k + 1, O, by omega, by go_num, by omega, HOW.out, HB.out⟩, by simp [intOf]; omega⟩
            · as_aux_lemma =>
              obtain rfl : k = m := by omega
              obtain ⟨AS, cS, rfl, hcS⟩ := own_slice5 HOW.out
              have HOI := Lib.hid (ints_of_own5 HOW.out)
              obtain ⟨M, hM⟩ : ∃ M, min mK 30 = M := ⟨_, rfl⟩
              have hki : ¬ (k : Int) < (k : Int) := by omega
              obtain ⟨-, -, h31, h32⟩ := HMX.out
              rw [HMK.out] at h31
              have hMc : (M : Int) ≤ (cK : Int) := by omega
              have hM0 : (0 : Int) ≤ (M : Int) := by omega
              have j1 : (if (mK : Int) < 30 then (mK : Int) else 30) = (M : Int) := by split <;> omega
              have j2 : (if (30 : Int) < (mK : Int) then (30 : Int) else (mK : Int)) = (M : Int) := by split <;> omega
              have j3 : (if (mK : Int) ≤ 30 then (mK : Int) else 30) = (M : Int) := by split <;> omega
              have j4 : (if (30 : Int) ≤ (mK : Int) then (30 : Int) else (mK : Int)) = (M : Int) := by split <;> omega
              have hMM : (K.take 30).length = M := by rw [List.length_take, HMK.out, Nat.min_comm]; exact hM
              have HMM := Lib.hid hMM
              have HM2 := Lib.hid (HMQ.out.then_ HB.out)
              have HB2 := Lib.hid (below_next HBQ.out HB.out)
              clear hM hMM HOW
              go_wp2_with fail
              obtain ⟨gm, hgm⟩ : ∃ g, wo3.heap.size = g := ⟨_, rfl⟩
              obtain ⟨w4, hw4⟩ : ∃ W, wo3.alloc (.cells #[.slice AK M cK, .slice AS O.length cS] 32) = W := ⟨_, rfl⟩
              have b4 : Below wo3.heap.size wo3 w4 := by rw [← hw4]; exact below_alloc (Below.refl _ _) _
              have HIR : Hid (IrsAt w4 gm [⟨AK, cK, K.take 30⟩, ⟨AS, cS, O⟩]) := Lib.hid (fun j hj => by
                have h1 := ints_take (HM2.out.then_ b4).kk 30
                have h2 := HOI.out.then_ b4
                have h3 := HMM.out
                rw [List.length_cons, List.length_cons, List.length_nil] at hj
                rcases (show j = 0 ∨ j = 1 by omega) with rfl | rfl
                · exact ⟨by show w4.cell? _ = some (Value.slice _ (K.take 30).length _); rw [h3, ← hw4, ← hgm]; exact new_cell rfl, h1, by show (K.take 30).length ≤ 200; rw [List.length_take]; omega⟩
                · exact ⟨by rw [← hw4, ← hgm]; exact new_cell rfl, h2, by show O.length ≤ 200; omega⟩)
              have HM4 := Lib.hid (HM2.out.then_ b4)
              have HB4 := Lib.hid (below_next HB2.out b4)
              obtain ⟨LI, hLI⟩ : ∃ L, [(⟨AK, cK, K.take 30⟩ : IRec), ⟨AS, cS, O⟩] = L := ⟨_, rfl⟩
              have hLI2 : LI.length = 2 := by rw [← hLI]; rfl
              rw [hLI] at HIR
              have HLI2 := Lib.hid hLI2
              try rw [hw4]
              try rw [hgm]
              clear hLI hLI2 hw4 b4 HOI HM2 HB2 HMM j1 j2 j3 j4 hMc hM0 h31 h32 hcS s2 ls hki HB hbs hgm
              go_loopw [241] (fun v wr => ∃ q : Nat, q ≤ 2 ∧ v = .int .i64 (q : Int) ∧ Below w4.heap.size w4 wr) (fun v _ => 2 - (intOf v).toNat)
              case atStart => exact ⟨0, by omega, rfl, Below.refl _ _⟩
              case round =>
                obtain ⟨q, hq, rfl, hB⟩ := hrel
                have HB := Lib.hid hB
                clear hB
                obtain ⟨wo4, hwo4⟩ : ∃ wo, wo = wr := ⟨_, rfl⟩
                subst hwo4
                by_cases hlq : q < 2
                · as_aux_lemma =>
                  have hq0 : (0 : Int) ≤ (q : Int) := by omega
                  have hq2 : (q : Int) < 2 := by omega
                  obtain ⟨lc, lint, lfew⟩ := (HIR.out.then_ HB.out) q (by rw [HLI2.out]; exact hlq)
                  obtain ⟨r, hr⟩ : ∃ r, LI.getD q ir0 = r := ⟨_, rfl⟩
                  rw [hr] at lc lint lfew
                  obtain ⟨Ar, cr, lr⟩ := r
                  dsimp only at lc lint lfew
                  have HBW := Lib.hid (below_next HB4.out HB.out)
                  obtain ⟨s0, s1, s2⟩ : wo4.cell? ⟨bS, 0, none⟩ = some (.int .i64 P') ∧ wo4.cell? ⟨bS, 1, none⟩ = some (.int .i64 N') ∧ wo4.cell? ⟨bS, 2, none⟩ = some (.slice A' k c') := ⟨cell_then HBW.out HS.out.1, cell_then HBW.out HS.out.2.1, cell_then HBW.out HS.out.2.2⟩
                  have ls := lt_size s0
                  have lg := lt_size lc
                  obtain ⟨Q, M2, er, E, hE2, hkt⟩ := kept_two (HST.out.then_ HBW.out) (cb := cr) lint lfew
                  rw [HDM.out] at hkt
                  have HKT := Lib.hid hkt
                  clear hr hkt lint
                  go_wp2_with fail
                  refine (HKT.out _ (Below.refl _ _)).1.mono ?_
                  rintro e w5 ⟨A5, c5, rfl, hd5, b5⟩
                  obtain ⟨V5, hV5⟩ : ∃ V, w5.alloc (.cells #[.int .i64 Q, .int .i64 M2, .slice A5 E.length c5] 27) = V := ⟨_, rfl⟩
                  have bV5 : Below w5.heap.size w5 V5 := by rw [← hV5]; exact below_alloc (Below.refl _ _) _
                  obtain ⟨g5, hg5⟩ : ∃ g, w5.heap.size = g := ⟨_, rfl⟩
                  have x5 : V5.cell? ⟨g5, 0, none⟩ = some (.int .i64 Q) ∧ V5.cell? ⟨g5, 1, none⟩ = some (.int .i64 M2) ∧ V5.cell? ⟨g5, 2, none⟩ = some (.slice A5 E.length c5) := by rw [← hV5, ← hg5]; exact ⟨new_cell rfl, new_cell rfl, new_cell rfl⟩
                  have HX5 := Lib.hid x5
                  have HD5 := Lib.hid (hd5.below bV5)
                  have b45 := below_next b5 bV5
                  have HB45 := Lib.hid b45
                  replace s0 := cell_then b45 s0
                  replace s1 := cell_then b45 s1
                  replace s2 := cell_then b45 s2
                  rw [← hV5] at s0 s1 s2
                  have lsx := lt_size s0
                  have ls5 : bS < w5.heap.size := by have := lt_size (cell_then b5 (cell_then HBW.out HS.out.1)); exact this
                  have HV5 := Lib.hid hV5
                  have HK2 := Lib.hid (HKT.out V5 b45).2
                  clear b5 bV5 b45 x5 hd5 hV5 HKT ls
                  go_wp2_with fail
                  rw [HV5.out]
                  rw [HV5.out] at s0 s1 s2
                  clear HV5 lsx ls5 lc lg hg5
                  refine HK2.out.mono ?_
                  rintro e w6 ⟨A6, c6, rfl, hd6, b6⟩
                  obtain ⟨V6, hV6⟩ : ∃ V, w6.alloc (.cells #[.int .i64 Q, .int .i64 M2, .slice A6 E.length c6] 27) = V := ⟨_, rfl⟩
                  have bV6 : Below w6.heap.size w6 V6 := by rw [← hV6]; exact below_alloc (Below.refl _ _) _
                  obtain ⟨g6, hg6⟩ : ∃ g, w6.heap.size = g := ⟨_, rfl⟩
                  obtain ⟨x0, x1, x2⟩ : V6.cell? ⟨g6, 0, none⟩ = some (.int .i64 Q) ∧ V6.cell? ⟨g6, 1, none⟩ = some (.int .i64 M2) ∧ V6.cell? ⟨g6, 2, none⟩ = some (.slice A6 E.length c6) := by rw [← hV6, ← hg6]; exact ⟨new_cell rfl, new_cell rfl, new_cell rfl⟩
                  have b56 := below_next b6 bV6
                  obtain ⟨z0, z1, z2⟩ := HX5.out
                  replace z0 := cell_then b56 z0
                  replace z1 := cell_then b56 z1
                  replace z2 := cell_then b56 z2
                  have HSS := Lib.hid (by have h := sameR_any Q M2 Q M2 A5 A6 c5 c6 E E V6 (HD5.out.below b56) (hd6.below bV6) (by omega); rw [same_self] at h; exact h : Calls Try.prog 25 #[.agg #[.int .i64 Q, .int .i64 M2, .slice A5 E.length c5], .agg #[.int .i64 Q, .int .i64 M2, .slice A6 E.length c6]] V6 fun e w' => e = .returned (.bool true) ∧ Below V6.heap.size V6 w')
                  have HBZ := Lib.hid (below_next HB.out (below_next HB45.out b56))
                  rw [← hV6] at x0 x1 x2 z0 z1 z2
                  have lx := lt_size x0
                  have lz := lt_size z0
                  have lz6 : g5 < w6.heap.size := by have := lt_size (cell_then b6 HX5.out.1); exact this
                  have HV6 := Lib.hid hV6
                  clear b6 bV6 b56 hd6 hV6 s0 s1 s2 HK2
                  go_wp2_with fail
                  rw [HV6.out]
                  clear x0 x1 x2 z0 z1 z2 lx lz lz6 HV6 hg6
                  refine HSS.out.mono ?_
                  rintro e w7 ⟨rfl, b7⟩
                  have HBY := Lib.hid (below_next HBZ.out b7)
                  clear b7 HSS
                  go_wp2_with fail
                  refine ⟨?_, ?_⟩
                  · first | ((repeat apply Exists.intro); refine And.intro ?_ rfl; exact ⟨q + 1, by omega, by go_num, HBY.out⟩) | exact ⟨q + 1, by omega, by go_num, HBY.out⟩
                  · show 2 - (intOf (.int .i64 ((q : Int) + 1))).toNat < 2 - (intOf (.int .i64 (q : Int))).toNat
                    simp [intOf]; omega
                · as_aux_lemma =>
                  obtain rfl : q = 2 := by omega
                  have HM5 := Lib.hid (HM4.out.then_ HB.out)
                  have HB5 := Lib.hid (below_next HB4.out HB.out)
                  clear HIR HLI2 HM4 HB4 HB
                  obtain ⟨za, hza⟩ : ∃ z, pickI tol 300 = z := ⟨_, rfl⟩
                  obtain ⟨zb, hzb⟩ : ∃ z, pickI tol 20 = z := ⟨_, rfl⟩
                  have hpa := fun W => HPT.out 300 W (by omega) (by omega)
                  have hpb := fun W => HPT.out 20 W (by omega) (by omega)
                  rw [hza] at hpa
                  rw [hzb] at hpb
                  have HPA := Lib.hid hpa
                  have HPBX := Lib.hid hpb
                  clear hza hzb hpa hpb
                  go_wp2_with fail
                  refine (HPA.out _).mono ?_
                  rintro e w_ ⟨rfl, rfl⟩
                  go_wp2_with fail
                  refine (HPBX.out _).mono ?_
                  rintro e w_ ⟨rfl, rfl⟩
                  go_wp2_with fail
                  obtain ⟨gz, hgz⟩ : ∃ g, wo4.heap.size = g := ⟨_, rfl⟩
                  obtain ⟨w8, hw8⟩ : ∃ W, wo4.alloc (.cells #[.int .i64 tol, .int .i64 za, .int .i64 zb] 3) = W := ⟨_, rfl⟩
                  have b8 : Below wo4.heap.size wo4 w8 := by rw [← hw8]; exact below_alloc (Below.refl _ _) _
                  have HZ : Hid (∀ j, j < 3 → w8.cell? ⟨gz, j, none⟩ = some (.int .i64 ([tol, za, zb].getD j 0))) := Lib.hid (fun j hj => by
                    rw [← hw8, ← hgz]
                    rcases (show j = 0 ∨ j = 1 ∨ j = 2 by omega) with rfl | rfl | rfl <;> exact new_cell rfl)
                  have HM8 := Lib.hid (HM5.out.then_ b8)
                  have HB8 := Lib.hid (below_next HB5.out b8)
                  obtain ⟨LZ, hLZ⟩ : ∃ L, [tol, za, zb] = L := ⟨_, rfl⟩
                  rw [hLZ] at HZ
                  try rw [hw8]
                  try rw [hgz]
                  clear hLZ hw8 b8 HM5 HB5 hgz hlq hq HPA HPBX
                  go_loopw [274] (fun v wr => ∃ q : Nat, q ≤ 3 ∧ v = .int .i64 (q : Int) ∧ Below w8.heap.size w8 wr) (fun v _ => 3 - (intOf v).toNat)
                  case atStart => exact ⟨0, by omega, rfl, Below.refl _ _⟩
                  case round =>
                    obtain ⟨q, hq, rfl, hB⟩ := hrel
                    have HB := Lib.hid hB
                    clear hB
                    obtain ⟨wo5, hwo5⟩ : ∃ wo, wo = wr := ⟨_, rfl⟩
                    subst hwo5
                    by_cases hlq : q < 3
                    · as_aux_lemma =>
                      have hq0 : (0 : Int) ≤ (q : Int) := by omega
                      have hq2 : (q : Int) < 3 := by omega
                      have lc := cell_then HB.out (HZ.out q hlq)
                      obtain ⟨zq, hzq⟩ : ∃ z, LZ.getD q 0 = z := ⟨_, rfl⟩
                      rw [hzq] at lc
                      have HBW := Lib.hid (below_next HB8.out HB.out)
                      obtain ⟨s0, s1, s2⟩ : wo5.cell? ⟨bS, 0, none⟩ = some (.int .i64 P') ∧ wo5.cell? ⟨bS, 1, none⟩ = some (.int .i64 N') ∧ wo5.cell? ⟨bS, 2, none⟩ = some (.slice A' k c') := ⟨cell_then HBW.out HS.out.1, cell_then HBW.out HS.out.2.1, cell_then HBW.out HS.out.2.2⟩
                      have ls := lt_size s0
                      have lg := lt_size lc
                      obtain ⟨T, er, hT200, htt⟩ := thin_two (HST.out.then_ HBW.out) zq
                      rw [HDM.out] at htt
                      have HTT := Lib.hid htt
                      clear hzq htt
                      go_wp2_with fail
                      refine (HTT.out _ (Below.refl _ _)).1.mono ?_
                      rintro e v5 ⟨A5, c5, rfl, hi5, hc5, b5⟩
                      have HI5 := Lib.hid hi5
                      have HB5 := Lib.hid b5
                      replace s0 := cell_then b5 s0
                      replace s1 := cell_then b5 s1
                      replace s2 := cell_then b5 s2
                      replace ls := lt_size s0
                      have HT5 := Lib.hid (HTT.out v5 b5).2
                      clear b5 hi5 HTT lc lg
                      go_wp2_with fail
                      refine HT5.out.mono ?_
                      rintro e v6 ⟨A6, c6, rfl, hi6, hc6, b6⟩
                      have HIT2 := Lib.hid (by have h := ints_any A5 A6 c5 c6 T T v6 (HI5.out.then_ b6) hi6 (by omega); rw [decide_eq_true rfl] at h; exact h : Calls Try.prog 30 #[.slice A5 T.length c5, .slice A6 T.length c6] v6 fun e w' => e = .returned (.bool true) ∧ Below v6.heap.size v6 w')
                      have HB6 := Lib.hid (below_next HB5.out b6)
                      clear b6 hi6 s0 s1 s2 ls HT5 HB5 HI5
                      go_wp2_with fail
                      refine HIT2.out.mono ?_
                      rintro e v7 ⟨rfl, b7⟩
                      have HBV := Lib.hid (below_next HB6.out b7)
                      have HBK := Lib.hid (below_next HBW.out HBV.out)
                      have HMK2 := Lib.hid (HM8.out.then_ (below_next HB.out HBV.out))
                      clear b7 HIT2 HB6 HBW
                      go_wp2_with fail
                      go_loopw [56] (fun v wr => ∃ r : Nat, r ≤ 6 ∧ v = .int .i64 (r : Int) ∧ Below v7.heap.size v7 wr) (fun v _ => 6 - (intOf v).toNat)
                      case atStart => exact ⟨0, by omega, rfl, Below.refl _ _⟩
                      case round =>
                        obtain ⟨r, hr, rfl, hB⟩ := hrel
                        have HBI := Lib.hid hB
                        clear hB
                        obtain ⟨wo6, hwo6⟩ : ∃ wo, wo = wr := ⟨_, rfl⟩
                        subst hwo6
                        by_cases hlr : r < 6
                        · have hr0 : (0 : Int) ≤ (r : Int) := by omega
                          have hr6 : (r : Int) < 6 := by omega
                          have HBW := Lib.hid (below_next HBK.out HBI.out)
                          obtain ⟨s0, s1, s2⟩ : wo6.cell? ⟨bS, 0, none⟩ = some (.int .i64 P') ∧ wo6.cell? ⟨bS, 1, none⟩ = some (.int .i64 N') ∧ wo6.cell? ⟨bS, 2, none⟩ = some (.slice A' k c') := ⟨cell_then HBW.out HS.out.1, cell_then HBW.out HS.out.2.1, cell_then HBW.out HS.out.2.2⟩
                          have ls := lt_size s0
                          obtain ⟨p0, p1⟩ := (HMK2.out.then_ HBI.out).pl r hlr
                          have lp := lt_size p0
                          obtain ⟨bw, hwt⟩ := within_two (HST.out.then_ HBW.out) (f r).1 (f r).2 zq
                          rw [HDM.out] at hwt
                          obtain ⟨px, hpx⟩ : ∃ x, (f r).1 = x := ⟨_, rfl⟩
                          obtain ⟨py, hpy⟩ : ∃ x, (f r).2 = x := ⟨_, rfl⟩
                          rw [hpx] at p0 hwt
                          rw [hpy] at p1 hwt
                          have HT1 := Lib.hid (fun W hW => (hwt W hW).1)
                          have HT2 := Lib.hid (fun W hW => (hwt W hW).2)
                          clear hpx hpy hwt
                          go_wp2_with fail
                          have g_0 := fun D os => cell_regrown s0 D os
                          have g_1 := fun D os => cell_regrown s1 D os
                          have g_2 := fun D os => cell_regrown s2 D os
                          have g_3 := fun D os => cell_regrown p0 D os
                          have g_4 := fun D os => cell_regrown p1 D os
                          refine wp_region_quiet_below (by kernel_rfl) (by kernel_rfl) ?_
                          repeat (go_big_quiet_step ((first | (with_reducible exact Calls.regrown_of (HT1.out _ (below_regrown _ _ _))) | (with_reducible exact Calls.regrown_of (HT2.out _ (below_regrown _ _ _))))))
                          refine wpQuiet_nil ?_
                          intro wq hq0
                          have hq := below_of_class hq0
                          clear hq0
                          have HBL := Lib.hid (below_next HBI.out hq)
                          clear hq g_0 g_1 g_2 g_3 g_4 s0 s1 s2 p0 p1 lp ls
                          go_wp2_with fail
                          refine ⟨?_, ?_⟩
                          · first | ((repeat apply Exists.intro); refine And.intro ?_ rfl; exact ⟨r + 1, by omega, by go_num, HBL.out⟩) | exact ⟨r + 1, by omega, by go_num, HBL.out⟩
                          · show 6 - (intOf (.int .i64 ((r : Int) + 1))).toNat < 6 - (intOf (.int .i64 (r : Int))).toNat
                            simp [intOf]; omega
                        · obtain rfl : r = 6 := by omega
                          have HBL := Lib.hid (below_next HB.out (below_next HBV.out HBI.out))
                          clear HBI
                          go_wp2_with fail
                          refine ⟨?_, ?_⟩
                          · first | ((repeat apply Exists.intro); refine And.intro ?_ rfl; exact ⟨q + 1, by omega, by go_num, HBL.out⟩) | exact ⟨q + 1, by omega, by go_num, HBL.out⟩
                          · show 3 - (intOf (.int .i64 ((q : Int) + 1))).toNat < 3 - (intOf (.int .i64 (q : Int))).toNat
                            simp [intOf]; omega
                    · as_aux_lemma =>
                      obtain rfl : q = 3 := by omega
                      have HM9 := Lib.hid (HM8.out.then_ HB.out)
                      have HB9 := Lib.hid (below_next HB8.out HB.out)
                      clear HZ HM8 HB8 HB hlq hq
                      obtain ⟨za, hza⟩ : ∃ z, pickI n0 3000 = z := ⟨_, rfl⟩
                      obtain ⟨zb, hzb⟩ : ∃ z, pickI n1 3000 = z := ⟨_, rfl⟩
                      have hba := pickI_bd n0 (n := 3000) (by omega)
                      have hbb := pickI_bd n1 (n := 3000) (by omega)
                      have hpa := fun W => HN0.out 3000 W (by omega) (by omega)
                      have hpb := fun W => HN1.out 3000 W (by omega) (by omega)
                      rw [hza] at hpa hba
                      rw [hzb] at hpb hbb
                      have HPA := Lib.hid hpa
                      have HPBX := Lib.hid hpb
                      have hwa : IntKind.i64.wrap (za - 1500) = za - 1500 := IntWalk.i64_in _ (by omega)
                      have hwb : IntKind.i64.wrap (zb - 1500) = zb - 1500 := IntWalk.i64_in _ (by omega)
                      obtain ⟨c0, c1⟩ := HM9.out.nn
                      have lc := lt_size c0
                      clear hza hzb hpa hpb
                      go_wp2_with fail
                      apply wp_same
                      case hreg =>
                        go_region_held3 (fun w' => Below wo5.heap.size wo5 w' ∧ w'.cell? ⟨w.heap.size + 1 + 1 + 1, 0, none⟩ = some (.int .i64 n0) ∧ w'.cell? ⟨w.heap.size + 1 + 1 + 1, 1, none⟩ = some (.int .i64 n1)) ((suffices hB : Below wo5.heap.size wo5 _ from ⟨hB, cell_then hB ‹_›, cell_then hB ‹_›⟩; repeat (first | with_reducible exact Below.refl _ _ | with_reducible refine below_alloc ?_ _ | with_reducible refine Below.setCell ?_ (by dsimp only; omega) _ | with_reducible refine Below.drew ?_ | with_reducible refine below_next ?_ ‹Below _ _ _›))) (first | (go_at_call 12; (with_reducible refine (HPA.out _).mono ?_); rintro e w_ ⟨rfl, rfl⟩) | (go_at_call 12; (with_reducible refine (HPBX.out _).mono ?_); rintro e w_ ⟨rfl, rfl⟩))
                        all_goals exact EndsIn.mk
                      case hcont =>
                        obtain ⟨gw, hgw⟩ : ∃ g, wo5.heap.size = g := ⟨_, rfl⟩
                        obtain ⟨wn, hwn⟩ : ∃ W, (wo5.alloc (.cells #[.int .i64 n0, .int .i64 n1, .int .i64 (za - 1500), .int .i64 (zb - 1500)] 31)).drew = W := ⟨_, rfl⟩
                        have bn : Below wo5.heap.size wo5 wn := by rw [← hwn]; exact (below_alloc (Below.refl _ _) _).drew
                        have HX : Hid (∀ j, j < 2 → wn.cell? ⟨gw, j * 2, none⟩ = some (.int .i64 ([n0, za - 1500].getD j 0)) ∧ wn.cell? ⟨gw, j * 2 + 1, none⟩ = some (.int .i64 ([n1, zb - 1500].getD j 0))) := Lib.hid (fun j hj => by
                          rw [← hwn, ← hgw]
                          rcases (show j = 0 ∨ j = 1 by omega) with rfl | rfl
                          · exact ⟨drew_cell (new_cell rfl), drew_cell (new_cell rfl)⟩
                          · exact ⟨drew_cell (new_cell rfl), drew_cell (new_cell rfl)⟩)
                        have HIX : Hid (∀ j, j < 2 → I64 ([n0, za - 1500].getD j 0)) := Lib.hid (fun j hj => by
                          rcases (show j = 0 ∨ j = 1 by omega) with rfl | rfl
                          · exact HIN.out
                          · show I64 (za - 1500); unfold I64; omega)
                        have HMN := Lib.hid (HM9.out.then_ bn)
                        have HBN := Lib.hid (below_next HB9.out bn)
                        obtain ⟨LU, hLU⟩ : ∃ L, [n0, za - 1500] = L := ⟨_, rfl⟩
                        obtain ⟨LV, hLV⟩ : ∃ L, [n1, zb - 1500] = L := ⟨_, rfl⟩
                        rw [hLU, hLV] at HX
                        rw [hLU] at HIX
                        try rw [hwn]
                        try rw [hgw]
                        clear hLU hLV hwn bn HM9 HB9 c0 c1 lc hwa hwb hba hbb HPA HPBX
                        go_wp2_with fail
                        try rw [hgw]
                        clear hgw
                        go_loopw [329] (fun v wr => ∃ q : Nat, q ≤ 2 ∧ v = .int .i64 (q : Int) ∧ Below wn.heap.size wn wr) (fun v _ => 2 - (intOf v).toNat)
                        case atStart => exact ⟨0, by omega, rfl, Below.refl _ _⟩
                        case round =>
                          obtain ⟨q, hq, rfl, hB⟩ := hrel
                          have HB := Lib.hid hB
                          clear hB
                          obtain ⟨wo7, hwo7⟩ : ∃ wo, wo = wr := ⟨_, rfl⟩
                          subst hwo7
                          by_cases hlq : q < 2
                          · as_aux_lemma =>
                            have hq0 : (0 : Int) ≤ (q : Int) := by omega
                            have hq2 : (q : Int) < 2 := by omega
                            obtain ⟨lc0, lc1⟩ := HX.out q hlq
                            replace lc0 := cell_then HB.out lc0
                            replace lc1 := cell_then HB.out lc1
                            have hiu := HIX.out q hlq
                            obtain ⟨u, hu⟩ : ∃ z, LU.getD q 0 = z := ⟨_, rfl⟩
                            obtain ⟨v, hv⟩ : ∃ z, LV.getD q 0 = z := ⟨_, rfl⟩
                            rw [hu] at lc0 hiu
                            rw [hv] at lc1
                            have HBW := Lib.hid (below_next HBN.out HB.out)
                            obtain ⟨Qa, Ma, ea, Ea, hEa, hmv⟩ := moved_two (HST.out.then_ HBW.out) u v
                            obtain ⟨Qb, Mb, eb, Eb, hEb, htu⟩ := turned_two (HST.out.then_ HBW.out) u hiu
                            rw [HDM.out] at hmv htu
                            have HMV := Lib.hid hmv
                            have HTU := Lib.hid htu
                            have lg := lt_size lc0
                            obtain ⟨t0, t1, t2⟩ : wo7.cell? ⟨bS, 0, none⟩ = some (.int .i64 P') ∧ wo7.cell? ⟨bS, 1, none⟩ = some (.int .i64 N') ∧ wo7.cell? ⟨bS, 2, none⟩ = some (.slice A' k c') := ⟨cell_then HBW.out HS.out.1, cell_then HBW.out HS.out.2.1, cell_then HBW.out HS.out.2.2⟩
                            obtain ⟨g58, hg58⟩ : ∃ g, wo7.heap.size = g := ⟨_, rfl⟩
                            obtain ⟨Y0, hY0⟩ : ∃ V, wo7.alloc (.cells #[.int .i64 u, .int .i64 v] 31) = V := ⟨_, rfl⟩
                            have bY0 : Below wo7.heap.size wo7 Y0 := by rw [← hY0]; exact below_alloc (Below.refl _ _) _
                            have u0 : Y0.cell? ⟨g58, 0, none⟩ = some (.int .i64 u) := by rw [← hY0, ← hg58]; exact new_cell rfl
                            have u1 : Y0.cell? ⟨g58, 1, none⟩ = some (.int .i64 v) := by rw [← hY0, ← hg58]; exact new_cell rfl
                            have s0 := cell_then bY0 t0
                            have s1 := cell_then bY0 t1
                            have s2 := cell_then bY0 t2
                            have HS0 := Lib.hid s0
                            have HU0 := Lib.hid u0
                            have HBC0 := Lib.hid bY0
                            have HBY0 := Lib.hid (Below.refl Y0.heap.size Y0)
                            replace HMV := Lib.hid (fun W (hW : Below wo7.heap.size wo7 W) => HMV.out W hW)
                            have ltt := lt_size t0
                            rw [← hY0] at s0 s1 s2 u0 u1
                            have lsx := lt_size s0
                            have HY := Lib.hid hY0
                            clear hu hv hmv htu bY0 hY0 hiu
                            go_wp2_with fail
                            rw [HY.out]
                            rw [HY.out] at s0 s1 s2 u0 u1
                            clear HY t0 t1 t2 ltt lsx lc0 lc1 lg hg58
                            have HBA := HBC0
                            (with_reducible refine (HMV.out _ HBC0.out).1.mono ?_)
                            rintro e y1 ⟨A1, c1, rfl, hd1, b1⟩
                            obtain ⟨Y1, hY1⟩ : ∃ V, y1.alloc (.cells #[.int .i64 Qa, .int .i64 Ma, .slice A1 Ea.length c1] 27) = V := ⟨_, rfl⟩
                            have bY1 : Below y1.heap.size y1 Y1 := by rw [← hY1]; exact below_alloc (Below.refl _ _) _
                            obtain ⟨g1, hg1⟩ : ∃ g, y1.heap.size = g := ⟨_, rfl⟩
                            have HX1 : Hid (Y1.cell? ⟨g1, 0, none⟩ = some (.int .i64 Qa) ∧ Y1.cell? ⟨g1, 1, none⟩ = some (.int .i64 Ma) ∧ Y1.cell? ⟨g1, 2, none⟩ = some (.slice A1 Ea.length c1)) := Lib.hid (by rw [← hY1, ← hg1]; exact ⟨new_cell rfl, new_cell rfl, new_cell rfl⟩)
                            have HD1 := Lib.hid (hd1.below bY1)
                            have bb1 := below_next b1 bY1
                            have HBC1 := Lib.hid (below_next HBC0.out bb1)
                            have HBY1 := Lib.hid (below_next HBY0.out bb1)
                            replace s0 := cell_then bb1 s0
                            replace s1 := cell_then bb1 s1
                            replace s2 := cell_then bb1 s2
                            replace u0 := cell_then bb1 u0
                            replace u1 := cell_then bb1 u1
                            rw [← hY1] at s0 s1 s2 u0 u1
                            have lsx := lt_size s0
                            have lux := lt_size u0
                            have ls1 : bS < y1.heap.size := by have := lt_size (cell_then b1 (cell_then HBY0.out HS0.out)); exact this
                            have lu1 : g58 < y1.heap.size := by have := lt_size (cell_then b1 (cell_then HBY0.out HU0.out)); exact this
                            have HY := Lib.hid hY1
                            clear hY1 b1 bY1 bb1 hd1
                            go_wp2_with fail
                            rw [HY.out]
                            rw [HY.out] at s0 s1 s2 u0 u1
                            clear HY lsx lux ls1 lu1 hg1
                            (with_reducible refine (HMV.out _ HBC1.out).2.mono ?_)
                            rintro e y2 ⟨A2, c2, rfl, hd2, b2⟩
                            obtain ⟨Y2, hY2⟩ : ∃ V, y2.alloc (.cells #[.int .i64 Qa, .int .i64 Ma, .slice A2 Ea.length c2] 27) = V := ⟨_, rfl⟩
                            have bY2 : Below y2.heap.size y2 Y2 := by rw [← hY2]; exact below_alloc (Below.refl _ _) _
                            obtain ⟨g2, hg2⟩ : ∃ g, y2.heap.size = g := ⟨_, rfl⟩
                            have HX2 : Hid (Y2.cell? ⟨g2, 0, none⟩ = some (.int .i64 Qa) ∧ Y2.cell? ⟨g2, 1, none⟩ = some (.int .i64 Ma) ∧ Y2.cell? ⟨g2, 2, none⟩ = some (.slice A2 Ea.length c2)) := Lib.hid (by rw [← hY2, ← hg2]; exact ⟨new_cell rfl, new_cell rfl, new_cell rfl⟩)
                            have HD2 := Lib.hid (hd2.below bY2)
                            have bb2 := below_next b2 bY2
                            have HX1n := Lib.hid (And.intro (cell_then bb2 HX1.out.1) (And.intro (cell_then bb2 HX1.out.2.1) (cell_then bb2 HX1.out.2.2)))
                            replace HX1 := HX1n
                            clear HX1n
                            replace HD1 := Lib.hid (HD1.out.below bb2)
                            have HBC2 := Lib.hid (below_next HBC1.out bb2)
                            have HBY2 := Lib.hid (below_next HBY1.out bb2)
                            replace s0 := cell_then bb2 s0
                            replace s1 := cell_then bb2 s1
                            replace s2 := cell_then bb2 s2
                            replace u0 := cell_then bb2 u0
                            replace u1 := cell_then bb2 u1
                            rw [← hY2] at s0 s1 s2 u0 u1
                            have lsx := lt_size s0
                            have lux := lt_size u0
                            have ls2 : bS < y2.heap.size := by have := lt_size (cell_then b2 (cell_then HBY1.out HS0.out)); exact this
                            have lu2 : g58 < y2.heap.size := by have := lt_size (cell_then b2 (cell_then HBY1.out HU0.out)); exact this
                            have HY := Lib.hid hY2
                            clear hY2 b2 bY2 bb2 hd2
                            go_wp2_with fail
                            rw [HY.out]
                            rw [HY.out] at s0 s1 s2 u0 u1
                            clear HY lsx lux ls2 lu2 hg2
                            (with_reducible refine (HTU.out _ HBC2.out).1.mono ?_)
                            rintro e y3 ⟨A3, c3, rfl, hd3, b3⟩
                            obtain ⟨Y3, hY3⟩ : ∃ V, y3.alloc (.cells #[.int .i64 Qb, .int .i64 Mb, .slice A3 Eb.length c3] 27) = V := ⟨_, rfl⟩
                            have bY3 : Below y3.heap.size y3 Y3 := by rw [← hY3]; exact below_alloc (Below.refl _ _) _
                            obtain ⟨g3, hg3⟩ : ∃ g, y3.heap.size = g := ⟨_, rfl⟩
                            have HX3 : Hid (Y3.cell? ⟨g3, 0, none⟩ = some (.int .i64 Qb) ∧ Y3.cell? ⟨g3, 1, none⟩ = some (.int .i64 Mb) ∧ Y3.cell? ⟨g3, 2, none⟩ = some (.slice A3 Eb.length c3)) := Lib.hid (by rw [← hY3, ← hg3]; exact ⟨new_cell rfl, new_cell rfl, new_cell rfl⟩)
                            have HD3 := Lib.hid (hd3.below bY3)
                            have bb3 := below_next b3 bY3
                            have HX1n := Lib.hid (And.intro (cell_then bb3 HX1.out.1) (And.intro (cell_then bb3 HX1.out.2.1) (cell_then bb3 HX1.out.2.2)))
                            replace HX1 := HX1n
                            clear HX1n
                            replace HD1 := Lib.hid (HD1.out.below bb3)
                            have HX2n := Lib.hid (And.intro (cell_then bb3 HX2.out.1) (And.intro (cell_then bb3 HX2.out.2.1) (cell_then bb3 HX2.out.2.2)))
                            replace HX2 := HX2n
                            clear HX2n
                            replace HD2 := Lib.hid (HD2.out.below bb3)
                            have HBC3 := Lib.hid (below_next HBC2.out bb3)
                            have HBY3 := Lib.hid (below_next HBY2.out bb3)
                            replace s0 := cell_then bb3 s0
                            replace s1 := cell_then bb3 s1
                            replace s2 := cell_then bb3 s2
                            replace u0 := cell_then bb3 u0
                            replace u1 := cell_then bb3 u1
                            rw [← hY3] at s0 s1 s2 u0 u1
                            have lsx := lt_size s0
                            have lux := lt_size u0
                            have ls3 : bS < y3.heap.size := by have := lt_size (cell_then b3 (cell_then HBY2.out HS0.out)); exact this
                            have lu3 : g58 < y3.heap.size := by have := lt_size (cell_then b3 (cell_then HBY2.out HU0.out)); exact this
                            have HY := Lib.hid hY3
                            clear hY3 b3 bY3 bb3 hd3
                            go_wp2_with fail
                            rw [HY.out]
                            rw [HY.out] at s0 s1 s2 u0 u1
                            clear HY lsx lux ls3 lu3 hg3
                            (with_reducible refine (HTU.out _ HBC3.out).2.mono ?_)
                            rintro e y4 ⟨A4, c4, rfl, hd4, b4⟩
                            obtain ⟨Y4, hY4⟩ : ∃ V, y4.alloc (.cells #[.int .i64 Qb, .int .i64 Mb, .slice A4 Eb.length c4] 27) = V := ⟨_, rfl⟩
                            have bY4 : Below y4.heap.size y4 Y4 := by rw [← hY4]; exact below_alloc (Below.refl _ _) _
                            obtain ⟨g4, hg4⟩ : ∃ g, y4.heap.size = g := ⟨_, rfl⟩
                            have HX4 : Hid (Y4.cell? ⟨g4, 0, none⟩ = some (.int .i64 Qb) ∧ Y4.cell? ⟨g4, 1, none⟩ = some (.int .i64 Mb) ∧ Y4.cell? ⟨g4, 2, none⟩ = some (.slice A4 Eb.length c4)) := Lib.hid (by rw [← hY4, ← hg4]; exact ⟨new_cell rfl, new_cell rfl, new_cell rfl⟩)
                            have HD4 := Lib.hid (hd4.below bY4)
                            have bb4 := below_next b4 bY4
                            have HX1n := Lib.hid (And.intro (cell_then bb4 HX1.out.1) (And.intro (cell_then bb4 HX1.out.2.1) (cell_then bb4 HX1.out.2.2)))
                            replace HX1 := HX1n
                            clear HX1n
                            replace HD1 := Lib.hid (HD1.out.below bb4)
                            have HX2n := Lib.hid (And.intro (cell_then bb4 HX2.out.1) (And.intro (cell_then bb4 HX2.out.2.1) (cell_then bb4 HX2.out.2.2)))
                            replace HX2 := HX2n
                            clear HX2n
                            replace HD2 := Lib.hid (HD2.out.below bb4)
                            have HX3n := Lib.hid (And.intro (cell_then bb4 HX3.out.1) (And.intro (cell_then bb4 HX3.out.2.1) (cell_then bb4 HX3.out.2.2)))
                            replace HX3 := HX3n
                            clear HX3n
                            replace HD3 := Lib.hid (HD3.out.below bb4)
                            have HBC4 := Lib.hid (below_next HBC3.out bb4)
                            have HBY4 := Lib.hid (below_next HBY3.out bb4)
                            replace s0 := cell_then bb4 s0
                            replace s1 := cell_then bb4 s1
                            replace s2 := cell_then bb4 s2
                            replace u0 := cell_then bb4 u0
                            replace u1 := cell_then bb4 u1
                            rw [← hY4] at s0 s1 s2 u0 u1
                            have lsx := lt_size s0
                            have lux := lt_size u0
                            have ls4 : bS < y4.heap.size := by have := lt_size (cell_then b4 (cell_then HBY3.out HS0.out)); exact this
                            have lu4 : g58 < y4.heap.size := by have := lt_size (cell_then b4 (cell_then HBY3.out HU0.out)); exact this
                            have HY := Lib.hid hY4
                            clear hY4 b4 bY4 bb4 hd4
                            have hY5 := HY.out
                            obtain ⟨a0, a1, a2⟩ := HX1.out
                            obtain ⟨b0, b1, b2⟩ := HX2.out
                            obtain ⟨d0, d1, d2⟩ := HX3.out
                            obtain ⟨f0, f1, f2⟩ := HX4.out
                            have HSA1 := Lib.hid (fun W (hW : Below Y4.heap.size Y4 W) => (by have h := sameR_any Qa Ma Qa Ma A1 A2 c1 c2 Ea Ea W (HD1.out.below hW) (HD2.out.below hW) (by omega); rw [same_self] at h; exact h : Calls Try.prog 25 #[.agg #[.int .i64 Qa, .int .i64 Ma, .slice A1 Ea.length c1], .agg #[.int .i64 Qa, .int .i64 Ma, .slice A2 Ea.length c2]] W fun e w' => e = .returned (.bool true) ∧ Below W.heap.size W w'))
                            have HSB1 := Lib.hid (fun W (hW : Below Y4.heap.size Y4 W) => (by have h := sameR_any Qb Mb Qb Mb A3 A4 c3 c4 Eb Eb W (HD3.out.below hW) (HD4.out.below hW) (by omega); rw [same_self] at h; exact h : Calls Try.prog 25 #[.agg #[.int .i64 Qb, .int .i64 Mb, .slice A3 Eb.length c3], .agg #[.int .i64 Qb, .int .i64 Mb, .slice A4 Eb.length c4]] W fun e w' => e = .returned (.bool true) ∧ Below W.heap.size W w'))
                            rw [← hY5] at a0 a1 a2 b0 b1 b2 d0 d1 d2 f0 f1 f2
                            have la := lt_size a0
                            have lb := lt_size b0
                            have ld := lt_size d0
                            have lf := lt_size f0
                            have HK1 := Lib.hid (And.intro a0 (And.intro b0 (And.intro d0 f0)))
                            clear hY5 s0 s1 s2 u0 u1 lsx lux ls4 lu4
                            go_wp2_with fail
                            rw [HY.out]
                            clear HK1
                            rw [HY.out] at a0 a1 a2 b0 b1 b2 d0 d1 d2 f0 f1 f2
                            clear HY la lb ld lf hg4
                            refine (HSA1.out _ (Below.refl _ _)).mono ?_
                            rintro e y5 ⟨rfl, q5⟩
                            have HB5 := Lib.hid (below_next HBC4.out q5)
                            have HS5 := Lib.hid (HSB1.out y5 q5)
                            replace d0 := cell_then q5 d0
                            replace d1 := cell_then q5 d1
                            replace d2 := cell_then q5 d2
                            replace f0 := cell_then q5 f0
                            replace f1 := cell_then q5 f1
                            replace f2 := cell_then q5 f2
                            have ld := lt_size d0
                            have lf := lt_size f0
                            clear q5 a0 a1 a2 b0 b1 b2 HSA1 HSB1
                            go_wp2_with fail
                            refine HS5.out.mono ?_
                            rintro e y6 ⟨rfl, q6⟩
                            have HB6 := Lib.hid (below_next HB.out (below_next HB5.out q6))
                            clear q6 d0 d1 d2 f0 f1 f2 ld lf HS5
                            go_wp2_with fail
                            refine ⟨?_, ?_⟩
                            · first | ((repeat apply Exists.intro); refine And.intro ?_ rfl; exact ⟨q + 1, by omega, by go_num, HB6.out⟩) | exact ⟨q + 1, by omega, by go_num, HB6.out⟩
                            · show 2 - (intOf (.int .i64 ((q : Int) + 1))).toNat < 2 - (intOf (.int .i64 (q : Int))).toNat
                              simp [intOf]; omega
                          · as_aux_lemma =>
                            obtain rfl : q = 2 := by omega
                            have HBE := Lib.hid (below_next HBS.out (below_next HBN.out HB.out))
                            clear HX HIX HMN HBN HB hlq hq
                            go_wp2_with fail
                            refine ⟨?_, ?_⟩
                            · first | ((repeat apply Exists.intro); refine And.intro ?_ rfl; exact ⟨j + 1, by omega, by go_num, HBE.out⟩) | exact ⟨j + 1, by omega, by go_num, HBE.out⟩
                            · show 3 - (intOf (.int .i64 ((j : Int) + 1))).toNat < 3 - (intOf (.int .i64 (j : Int))).toNat
                              simp [intOf]; omega
        · as_aux_lemma =>
          obtain rfl : j = 3 := by omega
          have HPJ := Lib.hid ((HM.out.then_ hB).pl)
          have HWJ := Lib.hid (below_next HWl.out hB)
          have hpt := fun W => HPT.out 1001 W (by omega) (by omega)
          obtain ⟨zt, hzt⟩ : ∃ z, pickI tol 1001 = z := ⟨_, rfl⟩
          rw [hzt] at hpt
          have HPTT := Lib.hid hpt
          clear hzt hpt hB HL HM HWl
          go_wp2_with fail
          go_loopw [67] (fun v wr => ∃ i : Nat, i ≤ 6 ∧ v = .int .i64 (i : Int) ∧ Below wj.heap.size wj wr) (fun v _ => 6 - (intOf v).toNat)
          case atStart => exact ⟨0, by omega, rfl, Below.refl _ _⟩
          case round =>
            obtain ⟨i, hi, rfl, hB⟩ := hrel
            have HBA := Lib.hid hB
            clear hB
            obtain ⟨wa, hwa⟩ : ∃ wo, wo = wr := ⟨_, rfl⟩
            subst hwa
            by_cases hli : i < 6
            · have hii0 : (0 : Int) ≤ (i : Int) := by omega
              have hii6 : (i : Int) < 6 := by omega
              go_wp2_with fail
              go_loopw [68] (fun v wr => ∃ k : Nat, k ≤ 6 ∧ v = .int .i64 (k : Int) ∧ Below wa.heap.size wa wr) (fun v _ => 6 - (intOf v).toNat)
              case atStart => exact ⟨0, by omega, rfl, Below.refl _ _⟩
              case round =>
                obtain ⟨k, hk, rfl, hB⟩ := hrel
                have HBB := Lib.hid hB
                clear hB
                obtain ⟨wb, hwb⟩ : ∃ wo, wo = wr := ⟨_, rfl⟩
                subst hwb
                by_cases hlk : k < 6
                · have hkk0 : (0 : Int) ≤ (k : Int) := by omega
                  have hkk6 : (k : Int) < 6 := by omega
                  go_wp2_with fail
                  refine (HPTT.out _).mono ?_
                  rintro e w_ ⟨rfl, rfl⟩
                  go_wp2_with fail
                  obtain ⟨gy, hgy⟩ : ∃ g, wb.heap.size = g := ⟨_, rfl⟩
                  obtain ⟨wc, hwc⟩ : ∃ W, wb.alloc (.cells #[.int .i64 tol, .int .i64 zt] 3) = W := ⟨_, rfl⟩
                  have bc : Below wb.heap.size wb wc := by rw [← hwc]; exact below_alloc (Below.refl _ _) _
                  have HZ : Hid (∀ j, j < 2 → wc.cell? ⟨gy, j, none⟩ = some (.int .i64 ([tol, zt].getD j 0))) := Lib.hid (fun j hj => by
                    rw [← hwc, ← hgy]
                    rcases (show j = 0 ∨ j = 1 by omega) with rfl | rfl <;> exact new_cell rfl)
                  have HBC := Lib.hid (below_next HBB.out bc)
                  obtain ⟨LZ, hLZ⟩ : ∃ L, [tol, zt] = L := ⟨_, rfl⟩
                  rw [hLZ] at HZ
                  try rw [hwc]
                  try rw [hgy]
                  clear hLZ hwc bc hgy HBB
                  go_loopw [400] (fun v wr => ∃ q : Nat, q ≤ 2 ∧ v = .int .i64 (q : Int) ∧ Below wc.heap.size wc wr) (fun v _ => 2 - (intOf v).toNat)
                  case atStart => exact ⟨0, by omega, rfl, Below.refl _ _⟩
                  case round =>
                    obtain ⟨q, hq, rfl, hB⟩ := hrel
                    have HB := Lib.hid hB
                    clear hB
                    obtain ⟨wd, hwd⟩ : ∃ wo, wo = wr := ⟨_, rfl⟩
                    subst hwd
                    by_cases hlq : q < 2
                    · have hqq0 : (0 : Int) ≤ (q : Int) := by omega
                      have hqq2 : (q : Int) < 2 := by omega
                      have lc := cell_then HB.out (HZ.out q hlq)
                      have lg := lt_size lc
                      obtain ⟨zq, hzq⟩ : ∃ z, LZ.getD q 0 = z := ⟨_, rfl⟩
                      rw [hzq] at lc
                      obtain ⟨r, hr⟩ : ∃ r, (i + k + 1) % 6 = r := ⟨_, rfl⟩
                      have hr6 : r < 6 := by omega
                      have hrr0 : (0 : Int) ≤ (r : Int) := by omega
                      have hrr6 : (r : Int) < 6 := by omega
                      have x1 : IntKind.i64.wrap ((i : Int) + (k : Int)) = (i : Int) + (k : Int) := IntWalk.i64_in _ (by omega)
                      have x2 : IntKind.i64.wrap ((i : Int) + (k : Int) + 1) = (i : Int) + (k : Int) + 1 := IntWalk.i64_in _ (by omega)
                      have x3 : ((i : Int) + (k : Int) + 1).tmod 6 = (r : Int) := by rw [Int.tmod_eq_emod_of_nonneg (by omega)]; omega
                      have x4 : IntKind.i64.wrap (r : Int) = (r : Int) := IntWalk.i64_in _ (by omega)
                      have HPD := Lib.hid (HPJ.out.then_ (below_next HBA.out (below_next HBC.out HB.out)))
                      obtain ⟨pi0, pi1⟩ := HPD.out i hli
                      obtain ⟨pk0, pk1⟩ := HPD.out k hlk
                      obtain ⟨pr0, pr1⟩ := HPD.out r hr6
                      obtain ⟨bn, hnt⟩ := near_two (f i).1 (f i).2 (f k).1 (f k).2 (f r).1 (f r).2 zq
                      obtain ⟨ix, hix⟩ : ∃ x, (f i).1 = x := ⟨_, rfl⟩
                      obtain ⟨iy, hiy⟩ : ∃ x, (f i).2 = x := ⟨_, rfl⟩
                      obtain ⟨kx, hkx⟩ : ∃ x, (f k).1 = x := ⟨_, rfl⟩
                      obtain ⟨ky, hky⟩ : ∃ x, (f k).2 = x := ⟨_, rfl⟩
                      obtain ⟨rx, hrx⟩ : ∃ x, (f r).1 = x := ⟨_, rfl⟩
                      obtain ⟨ry, hry⟩ : ∃ x, (f r).2 = x := ⟨_, rfl⟩
                      rw [hix, hiy, hkx, hky, hrx, hry] at hnt
                      rw [hix] at pi0
                      rw [hiy] at pi1
                      rw [hkx] at pk0
                      rw [hky] at pk1
                      rw [hrx] at pr0
                      rw [hry] at pr1
                      have HN1' := Lib.hid (fun W => (hnt W).1)
                      have HN2' := Lib.hid (fun W => (hnt W).2)
                      have lp := lt_size pi0
                      clear hzq hix hiy hkx hky hrx hry hnt hr
                      go_wp2_with fail
                      have g_0 := fun D os => cell_regrown pi0 D os
                      have g_1 := fun D os => cell_regrown pi1 D os
                      have g_2 := fun D os => cell_regrown pk0 D os
                      have g_3 := fun D os => cell_regrown pk1 D os
                      have g_4 := fun D os => cell_regrown pr0 D os
                      have g_5 := fun D os => cell_regrown pr1 D os
                      refine wp_region_quiet_below (by kernel_rfl) (by kernel_rfl) ?_
                      repeat (go_big_quiet_step ((first | (with_reducible exact Calls.regrown_of (HN1'.out _)) | (with_reducible exact Calls.regrown_of (HN2'.out _)))))
                      refine wpQuiet_nil ?_
                      intro wq hq0
                      have hq := below_of_class hq0
                      clear hq0
                      have HBL := Lib.hid (below_next HB.out hq)
                      clear hq g_0 g_1 g_2 g_3 g_4 g_5 pi0 pi1 pk0 pk1 pr0 pr1 x1 x2 x3 x4 lp lg lc
                      go_wp2_with fail
                      refine ⟨?_, ?_⟩
                      · first | ((repeat apply Exists.intro); refine And.intro ?_ rfl; exact ⟨q + 1, by omega, by go_num, HBL.out⟩) | exact ⟨q + 1, by omega, by go_num, HBL.out⟩
                      · show 2 - (intOf (.int .i64 ((q : Int) + 1))).toNat < 2 - (intOf (.int .i64 (q : Int))).toNat
                        simp [intOf]; omega
                    · obtain rfl : q = 2 := by omega
                      have HBL := Lib.hid (below_next HBC.out HB.out)
                      clear HB HBC HZ
                      go_wp2_with fail
                      refine ⟨?_, ?_⟩
                      · first | ((repeat apply Exists.intro); refine And.intro ?_ rfl; exact ⟨k + 1, by omega, by go_num, HBL.out⟩) | exact ⟨k + 1, by omega, by go_num, HBL.out⟩
                      · show 6 - (intOf (.int .i64 ((k : Int) + 1))).toNat < 6 - (intOf (.int .i64 (k : Int))).toNat
                        simp [intOf]; omega
                · obtain rfl : k = 6 := by omega
                  have HBL := Lib.hid (below_next HBA.out HBB.out)
                  clear HBB HBA
                  go_wp2_with fail
                  refine ⟨?_, ?_⟩
                  · first | ((repeat apply Exists.intro); refine And.intro ?_ rfl; exact ⟨i + 1, by omega, by go_num, HBL.out⟩) | exact ⟨i + 1, by omega, by go_num, HBL.out⟩
                  · show 6 - (intOf (.int .i64 ((i : Int) + 1))).toNat < 6 - (intOf (.int .i64 (i : Int))).toNat
                    simp [intOf]; omega
            · obtain rfl : i = 6 := by omega
              have HBL := Lib.hid (below_next HWJ.out HBA.out)
              clear HBA HWJ
              go_wp2_with fail
              go_ret
              exact ⟨rfl, HBL.out⟩
end Go.Proofs.Ytgmabepdhbnppaa
