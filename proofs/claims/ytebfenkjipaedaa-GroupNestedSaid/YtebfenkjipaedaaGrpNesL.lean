/- GroupNested: the law. -/
import Derived.Test.YtebfenkjipaedaaGrpLawS
import Derived.Test.YtebfenkjipaedaaGrpRPl
import Derived.Test.YtebfenkjipaedaaGrpSame
namespace Go.Proofs.Ytebfenkjipaedaa.Gr
open Go.RowKit Gp Go.Sort
attribute [local go_sem] Oper.semAt_some
theorem rise_pair {xs : List Int} (h : riseB xs = true) : xs.Pairwise (· < ·) := by
  have key : ∀ {i j : Nat}, i < j → j < xs.length → xs.getD i 0 < xs.getD j 0 := by
    intro i j hij
    induction j with
    | zero => omega
    | succ j ih =>
      intro hj
      have h1 := riseB_iff.1 h j hj
      rcases Nat.lt_or_ge i j with h2 | h2
      · have := ih h2 (by omega); omega
      · obtain rfl : i = j := by omega
        exact h1
  rw [List.pairwise_iff_getElem]
  intro i j hi hj hij
  have := key hij hj
  rw [getD_eq hi, getD_eq hj] at this
  exact this
theorem pair_rise {xs : List Int} (h : xs.Pairwise (· < ·)) : riseB xs = true := riseB_iff.2 (fun i hi => by
  rw [getD_eq (by omega), getD_eq hi]
  exact List.pairwise_iff_getElem.1 h i (i + 1) (by omega) hi (by omega))
theorem rise_filter {α : Type} {f : α → Int} (p : α → Bool) {l : List α} (h : riseB (l.map f) = true) : riseB ((l.filter p).map f) = true :=
  pair_rise ((rise_pair h).sublist ((List.filter_sublist).map f))
theorem DsOk.filter {l : List Dev} (h : DsOk l) (p : Dev → Bool) : DsOk (l.filter p) := fun j hj => by
  have h1 := mem_getD (d := d0) hj
  obtain ⟨i, hi, e⟩ := ex_getD d0 (List.mem_filter.1 h1).1
  rw [← e]; exact h i hi
theorem WsOk.filter {l : List Wir} (h : WsOk l) (p : Wir → Bool) : WsOk (l.filter p) := fun j hj => by
  have h1 := mem_getD (d := w0) hj
  obtain ⟨i, hi, e⟩ := ex_getD w0 (List.mem_filter.1 h1).1
  rw [← e]; exact h i hi
set_option maxRecDepth 100000 in
set_option maxHeartbeats 8000000 in
theorem nested_law (A : Option Addr) (c : Nat) (rows : List (Int × Int)) (B : Option Addr) (cb : Nat) (codes : List Int) (dv : Int) (Y : Option Addr) (cy : Nat) (ys : List (Int × Int)) (one : Int) (w : World) (hA : P2At w A rows) (hAO : P2Ok rows) (hAl : rows.length ≤ 9223372036854775807) (hB : IntsAt w B codes) (hBO : IsOk codes) (hBl : codes.length ≤ 9223372036854775807)
    (hdv : I64 dv) (hY : P2At w Y ys) (hYO : P2Ok ys) (hYl : ys.length ≤ 9223372036854775807) (h1 : I64 one) :
    Calls Try.prog 8 #[.slice A rows.length c, .slice B codes.length cb, .int .i64 dv, .slice Y ys.length cy, .int .i64 one] w fun e w' => e = .returned (.bool true) ∧ Below w.heap.size w w' := by
  obtain ⟨j0, hj0, e0, e1, e2⟩ := info_parts p_info
  have HS := Lib.hid (sane_any w)
  have HM := Lib.hid (fun W (hW : Below w.heap.size w W) => made_any A c rows B cb codes W (hA.then_ hW) hAO hAl (hB.then_ hW) hBO hBl)
  have HN := Lib.hid (fun W (hW : Below w.heap.size w W) => net_any dv Y cy ys W hdv (hY.then_ hW) hYO hYl)
  have HP1 := Lib.hid (fun (n : Nat) W (hn : 0 < (n : Int)) (hn2 : (n : Int) ≤ 9223372036854775807) => pickL_any one (n : Int) W h1 hn hn2)
  clear hA hAO hB hBO h1 hdv hY hYO hYl
  go_enter Try.func8, Try.ntmps8
  go_wp2_with fail
  refine HS.out.mono ?_
  rintro e w1 ⟨rfl, b1⟩
  have B1 := Lib.hid b1
  clear b1 HS
  go_wp2_with fail
  refine (HM.out _ B1.out).mono ?_
  rintro e w2 ⟨l, g, cg, rfl, hl1, hl2, hl3, hb⟩
  obtain ⟨_, _, e, _, hG⟩ := hl3.at rfl
  injection e with e1 _ e3
  subst e1 e3
  have B2 := Lib.hid (below_next B1.out hb)
  have V := Lib.hid hl2.valid
  have S := Lib.hid (hl2.sized (Nat.le_refl _))
  have G := Lib.hid hG
  have hll14 := hl2.le
  have hll1 := hl1
  clear hl1 hl2 hl3 hb hG B1 HM
  go_wp2_with fail
  refine (HN.out _ B2.out).mono ?_
  rintro e w3 ⟨d, x, ds, ws, rfl, hn, hdo, hwo, hdr, hwr, hdl, hwl, hb⟩
  obtain ⟨⟨D, cd, rfl, hD⟩, ⟨E, cw, rfl, hW⟩⟩ := hn
  have G := Lib.hid (G.out.then_ hb)
  have B3 := Lib.hid (below_next B2.out hb)
  have DA := Lib.hid hD
  have DO := Lib.hid hdo
  have DR := Lib.hid hdr
  have WA := Lib.hid hW
  have WO := Lib.hid hwo
  have WR := Lib.hid hwr
  clear hb hW hwo hwr hD hdo hdr B2 HN
  unfold nv
  go_upto_region 5 with fail
  obtain ⟨W3, hW3⟩ : ∃ W3, w3.alloc (.cells #[.slice D ds.length cd, .slice E ws.length cw] 36) = W3 := ⟨_, rfl⟩
  have hb3 : Below w3.heap.size w3 W3 := by rw [← hW3]; exact below_alloc (Below.refl _ _) _
  have z0 : W3.cell? ⟨w3.heap.size, 0, none⟩ = some (.slice D ds.length cd) := by rw [← hW3]; exact new_cell rfl
  have z1 : W3.cell? ⟨w3.heap.size, 1, none⟩ = some (.slice E ws.length cw) := by rw [← hW3]; exact new_cell rfl
  have G := Lib.hid (G.out.then_ hb3)
  have B3 := Lib.hid (below_next B3.out hb3)
  have DA := Lib.hid (DA.out.then_ hb3)
  have WA := Lib.hid (WA.out.then_ hb3)
  rw [hW3]
  obtain ⟨g4, hg4⟩ : ∃ g4, w3.heap.size = g4 := ⟨_, rfl⟩
  rw [hg4] at z0 z1 ⊢
  clear hW3 hb3 hg4
  have hpb := pickI_bd one (n := (l.length : Int)) (by omega)
  have HPP := Lib.hid (HP1.out l.length W3 (by omega) (by omega))
  obtain ⟨P, hP⟩ : ∃ P, pickI one (l.length : Int) = P := ⟨_, rfl⟩
  rw [hP] at hpb HPP
  obtain ⟨hp0, hp1⟩ := hpb
  obtain ⟨k, rfl⟩ : ∃ k : Nat, P = (k : Int) := ⟨P.toNat, by omega⟩
  have hkl : k < l.length := by omega
  obtain ⟨⟨bg, og, hA3, hgc⟩, ⟨Am, cm, hgv, _, _, _⟩⟩ := G.out k hkl
  injection hA3 with hA3
  injection hA3 with hA3 hA5
  subst hA3 hA5
  have g1 := hgc.id
  have g2 := hgc.of
  have g3 := hgc.v
  rw [hgv] at g3
  rw [Nat.zero_add] at g1 g2 g3
  obtain ⟨ga, hga⟩ : ∃ ga, l.getD k g0 = ga := ⟨_, rfl⟩
  have MA := Lib.hid (show ga ∈ l by rw [← hga]; exact mem_getD hkl)
  have IA := Lib.hid (S.out.id k hkl)
  have IOf := Lib.hid (S.out.of k hkl)
  have FO := Lib.hid (V.out.refv.of k hkl)
  rw [hga] at g1 g2 g3 IA IOf FO
  have PN := Lib.hid (fun (ho : ga.of ≠ -1) => ports_nested V.out MA.out ho WR.out)
  have IN := Lib.hid (fun (ho : ga.of ≠ -1) => in_nested V.out MA.out ho ds ws)
  have FA := Lib.hid (V.out.find MA.out)
  obtain ⟨a, ha⟩ : ∃ a, ga.id = a := ⟨_, rfl⟩
  obtain ⟨f, hf⟩ : ∃ f, ga.of = f := ⟨_, rfl⟩
  obtain ⟨mn, hmn⟩ : ∃ mn, ga.ms.length = mn := ⟨_, rfl⟩
  rw [ha] at g1 IA FA PN IN
  rw [hf] at g2 IOf FO PN IN
  rw [hmn] at g3
  clear hgc hgv hP hga ha hf hmn HP1 MA
  go_wp2_with fail
  refine HPP.out.mono ?_
  rintro e w4 ⟨rfl, rfl⟩
  clear HPP
  go_upto_region 6 with fail
  obtain ⟨W4, hW4⟩ : ∃ W4, W3.alloc (.cells #[.int .i64 a, .int .i64 f, .slice Am mn cm] 26) = W4 := ⟨_, rfl⟩
  have hb4 : Below W3.heap.size W3 W4 := by rw [← hW4]; exact below_alloc (Below.refl _ _) _
  have y0 : W4.cell? ⟨W3.heap.size, 0, none⟩ = some (.int .i64 a) := by rw [← hW4]; exact new_cell rfl
  have y1 : W4.cell? ⟨W3.heap.size, 1, none⟩ = some (.int .i64 f) := by rw [← hW4]; exact new_cell rfl
  have G := Lib.hid (G.out.then_ hb4)
  have B4 := Lib.hid (below_next B3.out hb4)
  have DA := Lib.hid (DA.out.then_ hb4)
  have WA := Lib.hid (WA.out.then_ hb4)
  have z0 := cell_then hb4 z0
  have z1 := cell_then hb4 z1
  rw [hW4]
  obtain ⟨g13, hg13⟩ : ∃ g13, W3.heap.size = g13 := ⟨_, rfl⟩
  rw [hg13] at y0 y1 ⊢
  clear hW4 hb4 hg13 g1 g2 g3 hp0 hp1 hkl B3
  by_cases hf1 : f = -1
  · have hfb : (f == -1) = true := by rw [hf1]; rfl
    clear hf1
    go_wp2_with fail
    go_ret
    exact ⟨rfl, B4.out⟩
  · have hfb : (f == -1) = false := by rw [beq_eq_false_iff_ne]; exact hf1
    have hfs := FO.out.resolve_left hf1
    have has : (find l a).isSome = true := by rw [FA.out]; rfl
    have PN := Lib.hid (PN.out hf1)
    have IN := Lib.hid (IN.out hf1)
    have HC1 := Lib.hid (fun W (hW : Below W4.heap.size W4 W) => collapse_yes _ cg l f D cd ds E cw ws W (G.out.then_ hW) S.out V.out IOf.out hfs (DA.out.then_ hW) DO.out (by omega) (WA.out.then_ hW) WO.out (by omega) WR.out DR.out)
    have HC2 := Lib.hid (fun W (hW : Below W4.heap.size W4 W) => collapse_yes _ cg l a D cd ds E cw ws W (G.out.then_ hW) S.out V.out IA.out has (DA.out.then_ hW) DO.out (by omega) (WA.out.then_ hW) WO.out (by omega) WR.out DR.out)
    have HP1 := Lib.hid (fun W (hW : Below W4.heap.size W4 W) => ports_yes _ cg l a E cw ws W (G.out.then_ hW) S.out V.out IA.out has (WA.out.then_ hW) WO.out (by omega) WR.out)
    have HP3 := Lib.hid (fun W (hW : Below W4.heap.size W4 W) => ports_yes _ cg l f E cw ws W (G.out.then_ hW) S.out V.out IOf.out hfs (WA.out.then_ hW) WO.out (by omega) WR.out)
    have hdf1 := List.length_filter_le (dIn l f) ds
    have hwf1 := List.length_filter_le (wIn l f) ws
    have hda1 := List.length_filter_le (dIn l a) ds
    have hwa1 := List.length_filter_le (wIn l a) ws
    have DO2 := Lib.hid (DO.out.filter (dIn l f))
    have WO2 := Lib.hid (WO.out.filter (wIn l f))
    have DR2 := Lib.hid (rise_filter (dIn l f) DR.out)
    have WR2 := Lib.hid (rise_filter (wIn l f) WR.out)
    have hpl := portsL_len l a ws
    have hol := portsL_len l f ws
    clear hf1
    -- whole
    go_wp2_with fail
    refine (HC1.out _ (Below.refl _ _)).mono ?_
    rintro e w5 ⟨d1, x1, d2, x2, rfl, hn1, hn2, hb5⟩
    obtain ⟨⟨D1, cd1, rfl, hD1⟩, ⟨E1, cw1, rfl, hW1⟩⟩ := hn1
    obtain ⟨⟨D2, cd2, rfl, _⟩, ⟨E2, cw2, rfl, _⟩⟩ := hn2
    obtain ⟨df, hdf⟩ : ∃ df, ds.filter (dIn l f) = df := ⟨_, rfl⟩
    obtain ⟨wf, hwf⟩ : ∃ wf, ws.filter (wIn l f) = wf := ⟨_, rfl⟩
    rw [hdf] at hD1 hdf1 DO2 DR2 IN ⊢
    rw [hwf] at hW1 hwf1 WO2 WR2 IN PN ⊢
    have HB5 := Lib.hid hb5
    have D1A := Lib.hid hD1
    have W1A := Lib.hid hW1
    have y0 := cell_then hb5 y0
    have y1 := cell_then hb5 y1
    have z0 := cell_then hb5 z0
    have z1 := cell_then hb5 z1
    unfold nv
    clear hb5 hD1 hW1 hdf hwf HC1
    go_upto_region 9 with fail
    obtain ⟨W5, hW5⟩ : ∃ W5, (w5.alloc (.cells #[.slice D1 df.length cd1, .slice E1 wf.length cw1] 36)).alloc (.cells #[.slice D2 (ds.filter (dOut l f)).length cd2, .slice E2 (ws.filter (wOut l f)).length cw2] 36) = W5 := ⟨_, rfl⟩
    have hb5 : Below w5.heap.size w5 W5 := by rw [← hW5]; exact below_alloc (below_alloc (Below.refl _ _) _) _
    have v0 : W5.cell? ⟨w5.heap.size, 0, none⟩ = some (.slice D1 df.length cd1) := by rw [← hW5]; exact keep_alloc _ (new_cell rfl)
    have v1 : W5.cell? ⟨w5.heap.size, 1, none⟩ = some (.slice E1 wf.length cw1) := by rw [← hW5]; exact keep_alloc _ (new_cell rfl)
    have y0 := cell_then hb5 y0
    have y1 := cell_then hb5 y1
    have z0 := cell_then hb5 z0
    have z1 := cell_then hb5 z1
    have HB5 := Lib.hid (below_next HB5.out hb5)
    have D1A := Lib.hid (D1A.out.then_ hb5)
    have W1A := Lib.hid (W1A.out.then_ hb5)
    rw [hW5]
    obtain ⟨g14, hg14⟩ : ∃ g14, w5.heap.size = g14 := ⟨_, rfl⟩
    rw [hg14] at v0 v1 ⊢
    clear hW5 hb5 hg14
    -- from the whole net
    go_wp2_with fail
    refine (HC2.out _ HB5.out).mono ?_
    rintro e w6 ⟨d1, x1, d2, x2, rfl, hn1, hn2, hb6⟩
    obtain ⟨⟨D3, cd3, rfl, hD3⟩, ⟨E3, cw3, rfl, hW3⟩⟩ := hn1
    obtain ⟨⟨D4, cd4, rfl, _⟩, ⟨E4, cw4, rfl, _⟩⟩ := hn2
    have hin1 := IN.out.1
    have hin2 := IN.out.2
    obtain ⟨da, hda⟩ : ∃ da, ds.filter (dIn l a) = da := ⟨_, rfl⟩
    obtain ⟨wa, hwa⟩ : ∃ wa, ws.filter (wIn l a) = wa := ⟨_, rfl⟩
    rw [hda] at hD3 hda1 hin1 ⊢
    rw [hwa] at hW3 hwa1 hin2 ⊢
    have HB6 := Lib.hid (below_next HB5.out hb6)
    have D3A := Lib.hid hD3
    have W3A := Lib.hid hW3
    have D1A := Lib.hid (D1A.out.then_ hb6)
    have W1A := Lib.hid (W1A.out.then_ hb6)
    have y0 := cell_then hb6 y0
    have y1 := cell_then hb6 y1
    have z0 := cell_then hb6 z0
    have z1 := cell_then hb6 z1
    have v0 := cell_then hb6 v0
    have v1 := cell_then hb6 v1
    have HI1 := Lib.hid hin1
    have HI2 := Lib.hid hin2
    unfold nv
    clear hb6 hD3 hW3 hda hwa HC2 IN hin1 hin2 HB5
    go_upto_region 10 with fail
    obtain ⟨W6, hW6⟩ : ∃ W6, (w6.alloc (.cells #[.slice D3 da.length cd3, .slice E3 wa.length cw3] 36)).alloc (.cells #[.slice D4 (ds.filter (dOut l a)).length cd4, .slice E4 (ws.filter (wOut l a)).length cw4] 36) = W6 := ⟨_, rfl⟩
    have hb6 : Below w6.heap.size w6 W6 := by rw [← hW6]; exact below_alloc (below_alloc (Below.refl _ _) _) _
    have u0 : W6.cell? ⟨w6.heap.size, 0, none⟩ = some (.slice D3 da.length cd3) := by rw [← hW6]; exact keep_alloc _ (new_cell rfl)
    have u1 : W6.cell? ⟨w6.heap.size, 1, none⟩ = some (.slice E3 wa.length cw3) := by rw [← hW6]; exact keep_alloc _ (new_cell rfl)
    have y0 := cell_then hb6 y0
    have y1 := cell_then hb6 y1
    have z0 := cell_then hb6 z0
    have z1 := cell_then hb6 z1
    have v0 := cell_then hb6 v0
    have v1 := cell_then hb6 v1
    have HB6 := Lib.hid (below_next HB6.out hb6)
    have D1A := Lib.hid (D1A.out.then_ hb6)
    have W1A := Lib.hid (W1A.out.then_ hb6)
    have D3A := Lib.hid (D3A.out.then_ hb6)
    have W3A := Lib.hid (W3A.out.then_ hb6)
    rw [hW6]
    obtain ⟨g17, hg17⟩ : ∃ g17, w6.heap.size = g17 := ⟨_, rfl⟩
    rw [hg17] at u0 u1 ⊢
    clear hW6 hb6 hg17
    have HC3 := Lib.hid (collapse_yes _ cg l a D1 cd1 df E1 cw1 wf W6 (G.out.then_ HB6.out) S.out V.out IA.out has D1A.out DO2.out (by omega) W1A.out WO2.out (by omega) WR2.out DR2.out)
    rw [HI1.out, HI2.out] at HC3
    have HP2 := Lib.hid (fun W (hW : Below W6.heap.size W6 W) => ports_yes _ cg l a E1 cw1 wf W ((G.out.then_ HB6.out).then_ hW) S.out V.out IA.out has (W1A.out.then_ hW) WO2.out (by omega) WR2.out)
    rw [PN.out] at HP2
    -- from what is inside
    go_wp2_with fail
    refine HC3.out.mono ?_
    rintro e w7 ⟨d1, x1, d2, x2, rfl, hn1, hn2, hb7⟩
    obtain ⟨⟨D5, cd5, rfl, hD5⟩, ⟨E5, cw5, rfl, hW5⟩⟩ := hn1
    obtain ⟨⟨D6, cd6, rfl, _⟩, ⟨E6, cw6, rfl, _⟩⟩ := hn2
    have HB7 := Lib.hid hb7
    have D5A := Lib.hid hD5
    have W5A := Lib.hid hW5
    have D3A := Lib.hid (D3A.out.then_ hb7)
    have W3A := Lib.hid (W3A.out.then_ hb7)
    have y0 := cell_then hb7 y0
    have y1 := cell_then hb7 y1
    have z0 := cell_then hb7 z0
    have z1 := cell_then hb7 z1
    have v0 := cell_then hb7 v0
    have v1 := cell_then hb7 v1
    have u0 := cell_then hb7 u0
    have u1 := cell_then hb7 u1
    unfold nv
    clear hb7 hD5 hW5 HC3 D1A W1A
    go_upto_region 11 with fail
    obtain ⟨W7, hW7⟩ : ∃ W7, (w7.alloc (.cells #[.slice D5 da.length cd5, .slice E5 wa.length cw5] 36)).alloc (.cells #[.slice D6 (df.filter (dOut l a)).length cd6, .slice E6 (wf.filter (wOut l a)).length cw6] 36) = W7 := ⟨_, rfl⟩
    have hb7 : Below w7.heap.size w7 W7 := by rw [← hW7]; exact below_alloc (below_alloc (Below.refl _ _) _) _
    have t0 : W7.cell? ⟨w7.heap.size, 0, none⟩ = some (.slice D5 da.length cd5) := by rw [← hW7]; exact keep_alloc _ (new_cell rfl)
    have t1 : W7.cell? ⟨w7.heap.size, 1, none⟩ = some (.slice E5 wa.length cw5) := by rw [← hW7]; exact keep_alloc _ (new_cell rfl)
    have y0 := cell_then hb7 y0
    have y1 := cell_then hb7 y1
    have z0 := cell_then hb7 z0
    have z1 := cell_then hb7 z1
    have v0 := cell_then hb7 v0
    have v1 := cell_then hb7 v1
    have u0 := cell_then hb7 u0
    have u1 := cell_then hb7 u1
    have HB7 := Lib.hid (below_next HB7.out hb7)
    have D3A := Lib.hid (D3A.out.then_ hb7)
    have W3A := Lib.hid (W3A.out.then_ hb7)
    have D5A := Lib.hid (D5A.out.then_ hb7)
    have W5A := Lib.hid (W5A.out.then_ hb7)
    rw [hW7]
    obtain ⟨g20, hg20⟩ : ∃ g20, w7.heap.size = g20 := ⟨_, rfl⟩
    rw [hg20] at t0 t1 ⊢
    have BW7 := Lib.hid (below_next HB6.out HB7.out)
    have NA := Lib.hid (show NetAt W7 (.slice D3 da.length cd3) (.slice E3 wa.length cw3) da wa from ⟨⟨_, _, rfl, D3A.out⟩, ⟨_, _, rfl, W3A.out⟩⟩)
    have NB := Lib.hid (show NetAt W7 (.slice D5 da.length cd5) (.slice E5 wa.length cw5) da wa from ⟨⟨_, _, rfl, D5A.out⟩, ⟨_, _, rfl, W5A.out⟩⟩)
    clear hW7 hb7 hg20 D3A W3A D5A W5A
    -- ports
    go_wp2_with fail
    refine (HP1.out _ BW7.out).mono ?_
    rintro e w8 ⟨Ap, cp, rfl, hp, hb8⟩
    have PA := Lib.hid hp
    have B8 := Lib.hid hb8
    have y0 := cell_then hb8 y0
    have y1 := cell_then hb8 y1
    have z0 := cell_then hb8 z0
    have z1 := cell_then hb8 z1
    have v0 := cell_then hb8 v0
    have v1 := cell_then hb8 v1
    have u0 := cell_then hb8 u0
    have u1 := cell_then hb8 u1
    have t0 := cell_then hb8 t0
    have t1 := cell_then hb8 t1
    clear hp hb8 HP1
    go_wp2_with fail
    refine (HP2.out _ (below_next HB7.out B8.out)).mono ?_
    rintro e w9 ⟨Aq, cq, rfl, hq, hb9⟩
    have QA := Lib.hid hq
    have PA := Lib.hid (PA.out.then_ hb9)
    have B9 := Lib.hid (below_next B8.out hb9)
    have y0 := cell_then hb9 y0
    have y1 := cell_then hb9 y1
    have z0 := cell_then hb9 z0
    have z1 := cell_then hb9 z1
    have v0 := cell_then hb9 v0
    have v1 := cell_then hb9 v1
    have u0 := cell_then hb9 u0
    have u1 := cell_then hb9 u1
    have t0 := cell_then hb9 t0
    have t1 := cell_then hb9 t1
    clear hq hb9 HP2 B8
    go_wp2_with fail
    refine (HP3.out _ (below_next BW7.out B9.out)).mono ?_
    rintro e w10 ⟨Ar, cr, rfl, hr, hb10⟩
    have RA := Lib.hid hr
    have PA := Lib.hid (PA.out.then_ hb10)
    have QA := Lib.hid (QA.out.then_ hb10)
    have B10 := Lib.hid (below_next B9.out hb10)
    have NA := Lib.hid (NA.out.then_ B10.out)
    have NB := Lib.hid (NB.out.then_ B10.out)
    have BT := Lib.hid (below_next B4.out (below_next BW7.out B10.out))
    have u0 := cell_then hb10 u0
    have u1 := cell_then hb10 u1
    have t0 := cell_then hb10 t0
    have t1 := cell_then hb10 t1
    have HSN := Lib.hid (samenets_yes _ _ _ _ da wa w10 NA.out NB.out (by omega) (by omega))
    unfold nv at HSN
    clear hr hb10 HP3 B9 y0 y1 z0 z1 v0 v1 NA NB BW7 B10 HB6 HB7
    go_wp2_with fail
    refine HSN.out.mono ?_
    rintro e w11 ⟨rfl, hb11⟩
    have RA := Lib.hid (RA.out.then_ hb11)
    have PA := Lib.hid (PA.out.then_ hb11)
    have QA := Lib.hid (QA.out.then_ hb11)
    have BT := Lib.hid (below_next BT.out hb11)
    clear hb11 HSN u0 u1 t0 t1
    obtain ⟨p, hp⟩ : ∃ p, portsL l a ws = p := ⟨_, rfl⟩
    obtain ⟨o, ho⟩ : ∃ o, portsL l f ws = o := ⟨_, rfl⟩
    rw [hp] at PA QA hpl ⊢
    rw [ho] at RA QA hol ⊢
    clear hp ho PN
    go_upto_region 18 with fail
    obtain ⟨F, hF⟩ : ∃ F : Prt → Bool, (fun p => !o.any fun q => q.wire == p.wire) = F := ⟨_, rfl⟩
    have HF := Lib.hid (fun x => (congrFun hF x).symm)
    rw [hF] at QA ⊢
    clear hF
    rename World => W11
    go_loopw [29, 30, 31, 32] (fun u i _ _ wr => ∃ k n : Nat, k ≤ p.length ∧ n ≤ k ∧ n = ((p.take k).filter F).length ∧ i = .int .i64 (k : Int) ∧ wr.ownsRow W11.heap.size 65 3 u n (((p.take k).filter F).flatMap pcs) ∧ Below W11.heap.size W11 wr) (fun _ i _ _ _ => p.length - (intOf i).toNat)
    case atStart => exact ⟨0, 0, by omega, by omega, rfl, rfl, World.ownsRow_nil _ _ _ _, Below.refl _ _⟩
    case round =>
      obtain ⟨k, n, hk, hnk, hn, rfl, hO, hB⟩ := hrel
      have HO := Lib.hid hO
      have HB := Lib.hid hB
      have HNN := Lib.hid hn
      clear hO hB hn
      by_cases hkp : k < p.length
      · have hkI : (k : Int) < (p.length : Int) := by omega
        have hk0 : (0 : Int) ≤ (k : Int) := by omega
        obtain ⟨x, hx⟩ : ∃ x, p.getD k p0 = x := ⟨_, rfl⟩
        have hts := take_succ (d := p0) hkp
        rw [hx] at hts
        have HTS := Lib.hid hts
        have HX := Lib.hid hx
        clear hts hx
        go_wp2_with fail
        rename World => wm
        go_loopw [31, 32] (fun sh i wx => ∃ j : Nat, j ≤ o.length ∧ sh = .bool ((o.take j).any fun q => q.wire == x.wire) ∧ i = .int .i64 (j : Int) ∧ Below wm.heap.size wm wx) (fun _ i _ => o.length - (intOf i).toNat)
        case atStart => exact ⟨0, by omega, rfl, rfl, Below.refl _ _⟩
        case round =>
          obtain ⟨j, hj, rfl, rfl, hB⟩ := hrel
          have HB2 := Lib.hid hB
          clear hB
          by_cases hjo : j < o.length
          · have hjI : (j : Int) < (o.length : Int) := by omega
            have hj0 : (0 : Int) ≤ (j : Int) := by omega
            obtain ⟨b1, o1, rfl, c0, _, _⟩ := ((PA.out.then_ HB.out).then_ HB2.out) k hkp
            obtain ⟨b2, o2, rfl, e0, _, _⟩ := ((RA.out.then_ HB.out).then_ HB2.out) j hjo
            rw [HX.out] at c0
            have hany : ((o.take (j + 1)).any fun q => q.wire == x.wire) = (((o.take j).any fun q => q.wire == x.wire) || ((o.getD j p0).wire == x.wire)) := by
              rw [take_succ (d := p0) hjo, List.any_append]; simp
            obtain ⟨qw, hqw⟩ : ∃ qw, (o.getD j p0).wire = qw := ⟨_, rfl⟩
            rw [hqw] at e0 hany
            have g_1 := fun D os => cell_regrown c0 D os
            have g_2 := fun D os => cell_regrown e0 D os
            obtain ⟨sh, hsh⟩ : ∃ sh, ((o.take j).any fun q => q.wire == x.wire) = sh := ⟨_, rfl⟩
            rw [hsh] at hany ⊢
            have HAN := Lib.hid hany
            clear c0 e0 hqw hsh hany
            cases sh with
            | true =>
              go_wp2_with fail
              refine wp_region_quiet_below (by kernel_rfl) (by kernel_rfl) ?_
              repeat (go_big_quiet_step (fail))
              refine wpQuiet_nil ?_
              intro wq hq0
              have hq := below_of_class hq0
              clear hq0
              have HB3 := Lib.hid (below_next HB2.out hq)
              clear g_1 g_2 hq
              go_wp2_with fail
              exact ⟨⟨j + 1, by omega, by rw [HAN.out]; rfl, by go_num, HB3.out⟩, by simp [intOf]; omega⟩
            | false =>
              go_wp2_with fail
              refine wp_region_quiet_below (by kernel_rfl) (by kernel_rfl) ?_
              repeat (go_big_quiet_step (fail))
              refine wpQuiet_nil ?_
              intro wq hq0
              have hq := below_of_class hq0
              clear hq0
              have HB3 := Lib.hid (below_next HB2.out hq)
              clear g_1 g_2 hq
              go_wp2_with fail
              exact ⟨⟨j + 1, by omega, by rw [HAN.out]; rfl, by go_num, HB3.out⟩, by simp [intOf]; omega⟩
          · have hjI : ¬ (j : Int) < (o.length : Int) := by omega
            have hje : j = o.length := by omega
            subst hje
            rw [List.take_length]
            have HFX := Lib.hid (HF.out x)
            obtain ⟨sh, hsh⟩ : ∃ sh, (o.any fun q => q.wire == x.wire) = sh := ⟨_, rfl⟩
            rw [hsh] at HFX ⊢
            have HB3 := Lib.hid (below_next HB.out HB2.out)
            have HO3 := Lib.hid (own_then HO.out HB2.out)
            clear hsh
            cases sh with
            | true =>
              have HFF := Lib.hid (show (p.take (k + 1)).filter F = (p.take k).filter F by rw [HTS.out, List.filter_append, List.filter_cons, if_neg (by rw [HFX.out]; simp)]; simp)
              go_wp2_with fail
              exact ⟨⟨k + 1, n, by omega, by omega, by rw [HFF.out]; exact HNN.out, by go_num, by rw [HFF.out]; exact HO3.out, HB3.out⟩, by simp [intOf]; omega⟩
            | false =>
              have HFF := Lib.hid (show (p.take (k + 1)).filter F = (p.take k).filter F ++ [x] by rw [HTS.out, List.filter_append, List.filter_cons, if_pos (by rw [HFX.out]; simp)]; rfl)
              obtain ⟨b1, o1, rfl, c0, c1, c2⟩ := (PA.out.then_ HB3.out) k hkp
              rw [HX.out] at c0 c1 c2
              have hbs := HB3.out.size
              obtain ⟨Au, cu, rfl, hcu⟩ := own_slice HO3.out
              clear HB2
              go_wp2_with (at_builtin; refine wpList_append1 rfl _ _ 50 rfl W11.heap.size 65 j0 _ 3 24 Try.underlying50 hj0 e0 e1 e2 rfl (by omega) (by omega) (.slice Au n cu) n _ rfl HO3.out #[.int .i64 x.wire, .bool x.inw, .int .i64 x.dev] rfl rfl (by simp [Value.oneCell']) (by omega) hbs ?_; intro g' c' w8 own' k' n'; have OW := Lib.hid own'; have KW := Lib.hid k'; clear own' k' n')
              refine ⟨⟨k + 1, n + 1, by omega, by omega, by rw [HFF.out, List.length_append, ← HNN.out]; rfl, by go_num, ?_, KW.out.below_next HB3.out hbs (fun q hq => (HO3.out.lt q (own_mem hq)).1)⟩, ?_⟩
              · rw [HFF.out, List.flatMap_append]
                exact OW.out
              · simp [intOf]; omega
      · have hkI : ¬ (k : Int) < (p.length : Int) := by omega
        have hke : k = p.length := by omega
        subst hke
        have hO := HO.out
        have hNN := HNN.out
        rw [List.take_length] at hO hNN
        obtain ⟨Aw, cw9, rfl, hpw⟩ := p_own hO hNN.symm
        have hzl : (p.filter F).length ≤ 100000 := by
          have := List.length_filter_le F p; omega
        have HSP := Lib.hid (sameports_yes Aq Aw cq cw9 (p.filter F) wr (QA.out.then_ HB.out) hpw hzl)
        have B12 := Lib.hid (below_next BT.out HB.out)
        clear hO hNN hpw hzl
        go_wp2_with fail
        refine HSP.out.mono ?_
        rintro e w12 ⟨rfl, hb⟩
        have B13 := Lib.hid (below_next B12.out hb)
        clear hb HSP
        go_wp2_with fail
        go_ret
        exact ⟨rfl, B13.out⟩
end Go.Proofs.Ytebfenkjipaedaa.Gr
