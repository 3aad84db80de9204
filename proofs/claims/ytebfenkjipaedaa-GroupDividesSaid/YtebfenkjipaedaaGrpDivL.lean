/- GroupDivides: the law. -/
import Derived.Test.YtebfenkjipaedaaGrpLawS
import Derived.Test.YtebfenkjipaedaaGrpSame
namespace Go.Proofs.Ytebfenkjipaedaa.Gr
open Go.RowKit Gp Go.Sort
attribute [local go_sem] Oper.semAt_some
theorem cnt_succ {α : Type} (f : α → Bool) (d : α) {l : List α} {i : Nat} (h : i < l.length) : ((l.take (i + 1)).filter f).length = ((l.take i).filter f).length + (if f (l.getD i d) then 1 else 0) := by
  rw [take_succ (d := d) h, List.filter_append, List.length_append]
  congr 1
  rw [List.filter_cons]
  split <;> simp
theorem div_dev (l : List Grp) (id : Int) (ds : List Dev) : (ds.filter (dIn l id)).length + (ds.filter (dOut l id)).length = ds.length := div_len (dIn l id) ds
set_option maxRecDepth 100000 in
set_option maxHeartbeats 8000000 in
theorem divides_law (A : Option Addr) (c : Nat) (rows : List (Int × Int)) (B : Option Addr) (cb : Nat) (codes : List Int) (dv : Int) (Y : Option Addr) (cy : Nat) (ys : List (Int × Int)) (one : Int) (w : World) (hA : P2At w A rows) (hAO : P2Ok rows) (hAl : rows.length ≤ 9223372036854775807) (hB : IntsAt w B codes) (hBO : IsOk codes) (hBl : codes.length ≤ 9223372036854775807)
    (hdv : I64 dv) (hY : P2At w Y ys) (hYO : P2Ok ys) (hYl : ys.length ≤ 9223372036854775807) (h1 : I64 one) :
    Calls Try.prog 6 #[.slice A rows.length c, .slice B codes.length cb, .int .i64 dv, .slice Y ys.length cy, .int .i64 one] w fun e w' => e = .returned (.bool true) ∧ Below w.heap.size w w' := by
  have HS := Lib.hid (sane_any w)
  have HM := Lib.hid (fun W (hW : Below w.heap.size w W) => made_any A c rows B cb codes W (hA.then_ hW) hAO hAl (hB.then_ hW) hBO hBl)
  have HN := Lib.hid (fun W (hW : Below w.heap.size w W) => net_any dv Y cy ys W hdv (hY.then_ hW) hYO hYl)
  have HP1 := Lib.hid (fun (n : Nat) W (hn : 0 < (n : Int)) (hn2 : (n : Int) ≤ 9223372036854775807) => pickL_any one (n : Int) W h1 hn hn2)
  clear hA hAO hB hBO h1 hdv hY hYO hYl
  go_enter Try.func6, Try.ntmps6
  go_wp2_with fail
  refine HS.out.mono ?_
  rintro e w1 ⟨rfl, b1⟩
  have B1 := Lib.hid b1
  clear b1 HS
  go_wp2_with fail
  refine (HM.out _ B1.out).mono ?_
  rintro e w2 ⟨l, g, cg, rfl, hl1, hl2, hl3, hb⟩
  obtain ⟨_, _, e, _, hG⟩ := hl3.at rfl
  injection e with e1 _ e3
  subst e1 e3
  have B2 := Lib.hid (below_next B1.out hb)
  have V := Lib.hid hl2.valid
  have S := Lib.hid (hl2.sized (Nat.le_refl _))
  have G := Lib.hid hG
  have hll14 := hl2.le
  have hll1 := hl1
  clear hl1 hl2 hl3 hb hG B1 HM
  go_wp2_with fail
  refine (HN.out _ B2.out).mono ?_
  rintro e w3 ⟨d, x, ds, ws, rfl, hn, hdo, hwo, hdr, hwr, hdl, hwl, hb⟩
  obtain ⟨⟨D, cd, rfl, hD⟩, ⟨E, cw, rfl, hW⟩⟩ := hn
  have G := Lib.hid (G.out.then_ hb)
  have B3 := Lib.hid (below_next B2.out hb)
  have DA := Lib.hid hD
  have DO := Lib.hid hdo
  have DR := Lib.hid hdr
  have WA := Lib.hid hW
  have WO := Lib.hid hwo
  have WR := Lib.hid hwr
  clear hb hW hwo hwr hD hdo hdr B2 HN
  unfold nv
  go_upto_region 5 with fail
  obtain ⟨W3, hW3⟩ : ∃ W3, w3.alloc (.cells #[.slice D ds.length cd, .slice E ws.length cw] 36) = W3 := ⟨_, rfl⟩
  have hb3 : Below w3.heap.size w3 W3 := by rw [← hW3]; exact below_alloc (Below.refl _ _) _
  have z0 : W3.cell? ⟨w3.heap.size, 0, none⟩ = some (.slice D ds.length cd) := by rw [← hW3]; exact new_cell rfl
  have z1 : W3.cell? ⟨w3.heap.size, 1, none⟩ = some (.slice E ws.length cw) := by rw [← hW3]; exact new_cell rfl
  have G := Lib.hid (G.out.then_ hb3)
  have B3 := Lib.hid (below_next B3.out hb3)
  have DA := Lib.hid (DA.out.then_ hb3)
  have WA := Lib.hid (WA.out.then_ hb3)
  rw [hW3]
  obtain ⟨g4, hg4⟩ : ∃ g4, w3.heap.size = g4 := ⟨_, rfl⟩
  rw [hg4] at z0 z1 ⊢
  clear hW3 hb3 hg4
  have hpb := pickI_bd one (n := (l.length : Int)) (by omega)
  have HPP := Lib.hid (HP1.out l.length W3 (by omega) (by omega))
  obtain ⟨P, hP⟩ : ∃ P, pickI one (l.length : Int) = P := ⟨_, rfl⟩
  rw [hP] at hpb HPP
  obtain ⟨hp0, hp1⟩ := hpb
  obtain ⟨k, rfl⟩ : ∃ k : Nat, P = (k : Int) := ⟨P.toNat, by omega⟩
  have hkl : k < l.length := by omega
  obtain ⟨⟨bg, og, hA3, hgc⟩, _⟩ := G.out k hkl
  injection hA3 with hA3
  injection hA3 with hA3 hA5
  subst hA3 hA5
  have g1 := hgc.id
  rw [Nat.zero_add] at g1
  obtain ⟨ga, hga⟩ : ∃ ga, l.getD k g0 = ga := ⟨_, rfl⟩
  have MA := Lib.hid (show ga ∈ l by rw [← hga]; exact mem_getD hkl)
  have IA := Lib.hid (S.out.id k hkl)
  rw [hga] at g1 IA
  have FA := Lib.hid (V.out.find MA.out)
  obtain ⟨a, ha⟩ : ∃ a, ga.id = a := ⟨_, rfl⟩
  rw [ha] at g1 IA FA
  have has : (find l a).isSome = true := by rw [FA.out]; rfl
  clear hgc hP hga ha HP1 MA
  have HC := Lib.hid (collapse_yes _ cg l a D cd ds E cw ws W3 G.out S.out V.out IA.out has DA.out DO.out (by omega) WA.out WO.out (by omega) WR.out DR.out)
  have HPO := Lib.hid (fun W (hW : Below W3.heap.size W3 W) => ports_yes _ cg l a E cw ws W (G.out.then_ hW) S.out V.out IA.out has (WA.out.then_ hW) WO.out (by omega) WR.out)
  go_wp2_with fail
  refine HPP.out.mono ?_
  rintro e w4 ⟨rfl, rfl⟩
  clear HPP
  go_wp2_with fail
  clear g1 hp0 hp1 hkl
  refine HC.out.mono ?_
  rintro e w5 ⟨d1, x1, d2, x2, rfl, hn1, hn2, hb5⟩
  obtain ⟨⟨D1, cd1, rfl, hD1⟩, ⟨E1, cw1, rfl, hW1⟩⟩ := hn1
  obtain ⟨⟨D2, cd2, rfl, hD2⟩, ⟨E2, cw2, rfl, hW2⟩⟩ := hn2
  have hdd := div_dev l a ds
  have hdw := div_wires (l := l) (id := a) ws
  have DOI := Lib.hid (fun i (hi : i < ds.length) => filter_at (dIn l a) d0 ds i hi)
  have DOO := Lib.hid (fun i (hi : i < ds.length) => filter_at (dOut l a) d0 ds i hi)
  have DV1 := Lib.hid (fun x (hx : x ∈ ws) => div_one (l := l) (id := a) WR.out hx)
  obtain ⟨di, hdi⟩ : ∃ di, ds.filter (dIn l a) = di := ⟨_, rfl⟩
  obtain ⟨dq, hdq⟩ : ∃ dq, ds.filter (dOut l a) = dq := ⟨_, rfl⟩
  obtain ⟨wi, hwi⟩ : ∃ wi, ws.filter (wIn l a) = wi := ⟨_, rfl⟩
  obtain ⟨wq, hwq⟩ : ∃ wq, ws.filter (wOut l a) = wq := ⟨_, rfl⟩
  rw [hdi] at hD1 hdd DOI ⊢
  rw [hdq] at hD2 hdd DOO ⊢
  rw [hwi] at hW1 hdw DV1 ⊢
  rw [hwq] at hW2 hdw DV1 ⊢
  have z0 := cell_then hb5 z0
  have z1 := cell_then hb5 z1
  have DI := Lib.hid hD1
  have DQ := Lib.hid hD2
  have WI := Lib.hid hW1
  have WQ := Lib.hid hW2
  have B5 := Lib.hid hb5
  unfold nv
  clear hb5 hD1 hD2 hW1 hW2 hdi hdq hwi hwq HC
  go_upto_region 7 with fail
  obtain ⟨W5, hW5⟩ : ∃ W5, (w5.alloc (.cells #[.slice D1 di.length cd1, .slice E1 wi.length cw1] 36)).alloc (.cells #[.slice D2 dq.length cd2, .slice E2 wq.length cw2] 36) = W5 := ⟨_, rfl⟩
  have hb5 : Below w5.heap.size w5 W5 := by rw [← hW5]; exact below_alloc (below_alloc (Below.refl _ _) _) _
  have v0 : W5.cell? ⟨w5.heap.size, 0, none⟩ = some (.slice D1 di.length cd1) := by rw [← hW5]; exact keep_alloc _ (new_cell rfl)
  have v1 : W5.cell? ⟨w5.heap.size, 1, none⟩ = some (.slice E1 wi.length cw1) := by rw [← hW5]; exact keep_alloc _ (new_cell rfl)
  have hz5 : (w5.alloc (.cells #[.slice D1 di.length cd1, .slice E1 wi.length cw1] 36)).heap.size = w5.heap.size + 1 := World.size_alloc _ _
  have u0 : W5.cell? ⟨w5.heap.size + 1, 0, none⟩ = some (.slice D2 dq.length cd2) := by rw [← hW5, ← hz5]; exact new_cell rfl
  have u1 : W5.cell? ⟨w5.heap.size + 1, 1, none⟩ = some (.slice E2 wq.length cw2) := by rw [← hW5, ← hz5]; exact new_cell rfl
  have z0 := cell_then hb5 z0
  have z1 := cell_then hb5 z1
  have B5 := Lib.hid (below_next B5.out hb5)
  have DI := Lib.hid (DI.out.then_ hb5)
  have DQ := Lib.hid (DQ.out.then_ hb5)
  have WI := Lib.hid (WI.out.then_ hb5)
  have WQ := Lib.hid (WQ.out.then_ hb5)
  rw [hW5]
  obtain ⟨g14, hg14⟩ : ∃ g14, w5.heap.size = g14 := ⟨_, rfl⟩
  rw [hg14] at v0 v1 u0 u1 ⊢
  obtain ⟨g15, hg15⟩ : ∃ g15, g14 + 1 = g15 := ⟨_, rfl⟩
  rw [hg15] at u0 u1 ⊢
  clear hW5 hb5 hg14 hz5 hg15
  go_wp2_with fail
  refine (HPO.out _ B5.out).mono ?_
  rintro e w6 ⟨Ap, cp, rfl, hp, hb6⟩
  obtain ⟨p, hpe⟩ : ∃ p, portsL l a ws = p := ⟨_, rfl⟩
  rw [hpe] at hp hdw DV1 ⊢
  have PA := Lib.hid hp
  have z0 := cell_then hb6 z0
  have z1 := cell_then hb6 z1
  have v0 := cell_then hb6 v0
  have v1 := cell_then hb6 v1
  have u0 := cell_then hb6 u0
  have u1 := cell_then hb6 u1
  have B6 := Lib.hid (below_next B5.out hb6)
  have DI := Lib.hid (DI.out.then_ hb6)
  have DQ := Lib.hid (DQ.out.then_ hb6)
  have WI := Lib.hid (WI.out.then_ hb6)
  have WQ := Lib.hid (WQ.out.then_ hb6)
  have DA := Lib.hid (DA.out.then_ B6.out)
  have WA := Lib.hid (WA.out.then_ B6.out)
  have G := Lib.hid (G.out.then_ B6.out)
  have BT := Lib.hid (below_next B3.out B6.out)
  have hdb1 : ((di.length : Int) + (dq.length : Int) != (ds.length : Int)) = false := by
    have : (di.length : Int) + (dq.length : Int) = (ds.length : Int) := by omega
    rw [this]; simp
  have hdb2 : ((wi.length : Int) + (wq.length : Int) + (p.length : Int) != (ws.length : Int)) = false := by
    have : (wi.length : Int) + (wq.length : Int) + (p.length : Int) = (ws.length : Int) := by omega
    rw [this]; simp
  clear hp hb6 hpe B5 HPO B3 DR WO WR
  go_upto_region 12 with fail
  have HZ := Lib.hid (show w6.cell? ⟨g4, 0, none⟩ = some (.slice D ds.length cd) ∧ w6.cell? ⟨g4, 1, none⟩ = some (.slice E ws.length cw) ∧ w6.cell? ⟨g14, 0, none⟩ = some (.slice D1 di.length cd1) ∧ w6.cell? ⟨g14, 1, none⟩ = some (.slice E1 wi.length cw1) ∧ w6.cell? ⟨g15, 0, none⟩ = some (.slice D2 dq.length cd2) ∧ w6.cell? ⟨g15, 1, none⟩ = some (.slice E2 wq.length cw2) from ⟨z0, z1, v0, v1, u0, u1⟩)
  clear z0 z1 v0 v1 u0 u1 hdb1 hdb2
  rename World => W6
  go_loopw [19, 20, 21, 22, 23, 24] (fun at_ i _ _ _ _ wr => ∃ k n m : Nat, k ≤ ds.length ∧ i = .int .i64 (k : Int) ∧ at_ = .int .i64 (n : Int) ∧ n = ((ds.take k).filter (dIn l a)).length ∧ m = ((ds.take k).filter (dOut l a)).length ∧ n + m = k ∧ Below W6.heap.size W6 wr) (fun _ i _ _ _ _ _ => ds.length - (intOf i).toNat)
  case atStart => exact ⟨0, 0, 0, by omega, rfl, rfl, rfl, rfl, rfl, Below.refl _ _⟩
  case round =>
    obtain ⟨k, n, m, hk, rfl, rfl, hn, hm, hnm, hB⟩ := hrel
    have HB := Lib.hid hB
    have HNN := Lib.hid hn
    have HMM := Lib.hid hm
    clear hB hn hm
    by_cases hkd : k < ds.length
    · have hkI : (k : Int) < (ds.length : Int) := by omega
      have hk0 : (0 : Int) ≤ (k : Int) := by omega
      have hn0 : (0 : Int) ≤ (n : Int) := by omega
      obtain ⟨bd, od, rfl, c0, c1, c2, c3⟩ := (DA.out.then_ HB.out) k hkd
      have hoi := DOI.out k hkd
      have hoo := DOO.out k hkd
      rw [← HNN.out] at hoi
      rw [← HMM.out] at hoo
      have hxo := DO.out k hkd
      have hts := take_succ (d := d0) hkd
      obtain ⟨x, hx⟩ : ∃ x, ds.getD k d0 = x := ⟨_, rfl⟩
      rw [hx] at c0 c1 c2 c3 hoi hoo hxo hts
      have HTS := Lib.hid hts
      have z0 := cell_then HB.out HZ.out.1
      have IX := Lib.hid (show I64 x.code from hxo)
      have HC := Lib.hid (show wr.cell? ⟨bd, od + k * 4, none⟩ = some (.int .i64 x.code) ∧ wr.cell? ⟨bd, od + k * 4 + 1, none⟩ = some (.int .i64 x.kind) ∧ wr.cell? ⟨bd, od + k * 4 + 2, none⟩ = some (.string x.text) ∧ wr.cell? ⟨bd, od + k * 4 + 3, none⟩ = some (.int .i64 x.size) from ⟨c0, c1, c2, c3⟩)
      clear hxo hts hx c1 c2 c3
      go_wp2_with fail
      refine (gpath_yes _ cg l x.code wr (G.out.then_ HB.out) S.out V.out IX.out).mono ?_
      rintro e w7 ⟨_, rfl, ⟨Aq, cq, rfl, _, hip, _⟩, hb7⟩
      have HB7 := Lib.hid (below_next HB.out hb7)
      have hpl := path_len l x.code
      have z0 := cell_then hb7 z0
      cases hins : insB l a x.code with
      | true =>
        obtain ⟨hnl, hne⟩ := hoi hins
        have hno : dOut l a x = false := by unfold dOut; rw [hins]; rfl
        have hyi : dIn l a x = true := hins
        have HT1 := Lib.hid (show (ds.take (k + 1)).filter (dIn l a) = (ds.take k).filter (dIn l a) ++ [x] by rw [HTS.out, List.filter_append, List.filter_cons, if_pos hyi]; rfl)
        have HT2 := Lib.hid (show (ds.take (k + 1)).filter (dOut l a) = (ds.take k).filter (dOut l a) by rw [HTS.out, List.filter_append, List.filter_cons, if_neg (by rw [hno]; simp)]; simp)
        have hnI : (n : Int) < (di.length : Int) := by omega
        have v0 := cell_then HB7.out HZ.out.2.2.1
        obtain ⟨b1, o1, rfl, e0, e1, e2, e3⟩ := (DI.out.then_ HB7.out) n hnl
        rw [hne] at e0 e1 e2 e3
        have HHS := Lib.hid (has_below Aq cq (path l x.code) a w7 true hins (by omega) hip)
        obtain ⟨d0', d1', d2', d3'⟩ := HC.out
        have d0' := cell_then hb7 d0'
        have d1' := cell_then hb7 d1'
        have d2' := cell_then hb7 d2'
        have d3' := cell_then hb7 d3'
        have HD := Lib.hid (show _ ∧ _ ∧ _ ∧ _ from ⟨d0', d1', d2', d3'⟩)
        have HE := Lib.hid (show _ ∧ _ ∧ _ ∧ _ from ⟨e0, e1, e2, e3⟩)
        clear hoi hoo hne hno hyi hip hb7 d0' d1' d2' d3' e0 e1 e2 e3 c0
        go_wp2_with fail
        refine HHS.out.mono ?_
        rintro e w8 ⟨rfl, hb8⟩
        obtain ⟨d0', d1', d2', d3'⟩ := HD.out
        obtain ⟨e0, e1, e2, e3⟩ := HE.out
        have e0 := cell_then hb8 e0
        have e1 := cell_then hb8 e1
        have e2 := cell_then hb8 e2
        have e3 := cell_then hb8 e3
        have v0 := cell_then hb8 v0
        have z0 := cell_then hb8 z0
        have l1 := lt_size v0
        have l2 := lt_size z0
        have l3 := lt_size e0
        clear HE HHS
        go_upto_region 21 with fail
        obtain ⟨W9, hW9⟩ : ∃ W9, w8.alloc (.cells #[.int .i64 x.code, .int .i64 x.kind, .string x.text, .int .i64 x.size] 29) = W9 := ⟨_, rfl⟩
        have hb9 : Below w8.heap.size w8 W9 := by rw [← hW9]; exact below_alloc (Below.refl _ _) _
        have f0 : W9.cell? ⟨w8.heap.size, 0, none⟩ = some (.int .i64 x.code) := by rw [← hW9]; exact new_cell rfl
        have f1 : W9.cell? ⟨w8.heap.size, 1, none⟩ = some (.int .i64 x.kind) := by rw [← hW9]; exact new_cell rfl
        have f2 : W9.cell? ⟨w8.heap.size, 2, none⟩ = some (.string x.text) := by rw [← hW9]; exact new_cell rfl
        have f3 : W9.cell? ⟨w8.heap.size, 3, none⟩ = some (.int .i64 x.size) := by rw [← hW9]; exact new_cell rfl
        have g_0 := fun D os => cell_regrown f0 D os
        have g_1 := fun D os => cell_regrown f1 D os
        have g_2 := fun D os => cell_regrown f2 D os
        have g_3 := fun D os => cell_regrown f3 D os
        have g_4 := fun D os => cell_regrown (cell_then hb9 (cell_then hb8 d0')) D os
        have g_5 := fun D os => cell_regrown (cell_then hb9 (cell_then hb8 d1')) D os
        have g_6 := fun D os => cell_regrown (cell_then hb9 (cell_then hb8 d2')) D os
        have g_7 := fun D os => cell_regrown (cell_then hb9 (cell_then hb8 d3')) D os
        have g_8 := fun D os => cell_regrown (cell_then hb9 z0) D os
        have HB9 := Lib.hid (below_next HB7.out (below_next hb8 hb9))
        rw [hW9]
        obtain ⟨g24, hg24⟩ : ∃ g24, w8.heap.size = g24 := ⟨_, rfl⟩
        rw [hg24] at g_0 g_1 g_2 g_3 ⊢
        have hq := fun w => neq_dev w x.code x.kind x.size x.text
        clear hW9 hb9 f0 f1 f2 f3 hg24 l1 l2 l3 d0' d1' d2' d3' e0 e1 e2 e3 v0 z0 hb8 HD
        have hq9 := hq
        refine wp_region_quiet_below (by kernel_rfl) (by kernel_rfl) ?_
        repeat (go_big_quiet_step (fail))
        refine wpQuiet_nil ?_
        intro wq hq0
        have hq := below_of_class hq0
        clear hq0
        clear g_0 g_1 g_2 g_3 g_4 g_5 g_6 g_7 g_8 hq9
        have HB10 := Lib.hid (below_next HB9.out hq)
        clear hq
        go_wp2_with fail
        exact ⟨⟨k + 1, n + 1, m, by omega, by go_num, by go_num, by rw [HT1.out, List.length_append, ← HNN.out]; rfl, by rw [HT2.out]; exact HMM.out, by omega, HB10.out⟩, by simp [intOf]; omega⟩
      | false =>
        have hyo : dOut l a x = true := by unfold dOut; rw [hins]; rfl
        have hni : dIn l a x = false := hins
        obtain ⟨hml, hme⟩ := hoo hyo
        have HT1 := Lib.hid (show (ds.take (k + 1)).filter (dIn l a) = (ds.take k).filter (dIn l a) by rw [HTS.out, List.filter_append, List.filter_cons, if_neg (by rw [hni]; simp)]; simp)
        have HT2 := Lib.hid (show (ds.take (k + 1)).filter (dOut l a) = (ds.take k).filter (dOut l a) ++ [x] by rw [HTS.out, List.filter_append, List.filter_cons, if_pos hyo]; rfl)
        have hmI : (m : Int) < (dq.length : Int) := by omega
        have hm0 : (0 : Int) ≤ (m : Int) := by omega
        have hsub : IntKind.i64.wrap ((k : Int) - (n : Int)) = (m : Int) := by rw [show (k : Int) - (n : Int) = (m : Int) by omega]; exact IntWalk.i64_in _ (by omega)
        have hsub2 : (k : Int) - (n : Int) = (m : Int) := by omega
        have v0 := cell_then HB7.out HZ.out.2.2.2.2.1
        obtain ⟨b1, o1, rfl, e0, e1, e2, e3⟩ := (DQ.out.then_ HB7.out) m hml
        rw [hme] at e0 e1 e2 e3
        have HHS := Lib.hid (has_below Aq cq (path l x.code) a w7 false hins (by omega) hip)
        obtain ⟨d0', d1', d2', d3'⟩ := HC.out
        have d0' := cell_then hb7 d0'
        have d1' := cell_then hb7 d1'
        have d2' := cell_then hb7 d2'
        have d3' := cell_then hb7 d3'
        have HD := Lib.hid (show _ ∧ _ ∧ _ ∧ _ from ⟨d0', d1', d2', d3'⟩)
        have HE := Lib.hid (show _ ∧ _ ∧ _ ∧ _ from ⟨e0, e1, e2, e3⟩)
        clear hoi hoo hme hni hyo hip hb7 d0' d1' d2' d3' e0 e1 e2 e3 c0
        go_wp2_with fail
        refine HHS.out.mono ?_
        rintro e w8 ⟨rfl, hb8⟩
        obtain ⟨d0', d1', d2', d3'⟩ := HD.out
        obtain ⟨e0, e1, e2, e3⟩ := HE.out
        have e0 := cell_then hb8 e0
        have e1 := cell_then hb8 e1
        have e2 := cell_then hb8 e2
        have e3 := cell_then hb8 e3
        have v0 := cell_then hb8 v0
        have z0 := cell_then hb8 z0
        have l1 := lt_size v0
        have l2 := lt_size z0
        have l3 := lt_size e0
        clear HE HHS
        go_upto_region 21 with fail
        obtain ⟨W9, hW9⟩ : ∃ W9, w8.alloc (.cells #[.int .i64 x.code, .int .i64 x.kind, .string x.text, .int .i64 x.size] 29) = W9 := ⟨_, rfl⟩
        have hb9 : Below w8.heap.size w8 W9 := by rw [← hW9]; exact below_alloc (Below.refl _ _) _
        have f0 : W9.cell? ⟨w8.heap.size, 0, none⟩ = some (.int .i64 x.code) := by rw [← hW9]; exact new_cell rfl
        have f1 : W9.cell? ⟨w8.heap.size, 1, none⟩ = some (.int .i64 x.kind) := by rw [← hW9]; exact new_cell rfl
        have f2 : W9.cell? ⟨w8.heap.size, 2, none⟩ = some (.string x.text) := by rw [← hW9]; exact new_cell rfl
        have f3 : W9.cell? ⟨w8.heap.size, 3, none⟩ = some (.int .i64 x.size) := by rw [← hW9]; exact new_cell rfl
        have g_0 := fun D os => cell_regrown f0 D os
        have g_1 := fun D os => cell_regrown f1 D os
        have g_2 := fun D os => cell_regrown f2 D os
        have g_3 := fun D os => cell_regrown f3 D os
        have g_4 := fun D os => cell_regrown (cell_then hb9 (cell_then hb8 d0')) D os
        have g_5 := fun D os => cell_regrown (cell_then hb9 (cell_then hb8 d1')) D os
        have g_6 := fun D os => cell_regrown (cell_then hb9 (cell_then hb8 d2')) D os
        have g_7 := fun D os => cell_regrown (cell_then hb9 (cell_then hb8 d3')) D os
        have g_8 := fun D os => cell_regrown (cell_then hb9 z0) D os
        have HB9 := Lib.hid (below_next HB7.out (below_next hb8 hb9))
        rw [hW9]
        obtain ⟨g24, hg24⟩ : ∃ g24, w8.heap.size = g24 := ⟨_, rfl⟩
        rw [hg24] at g_0 g_1 g_2 g_3 ⊢
        have hq := fun w => neq_dev w x.code x.kind x.size x.text
        clear hW9 hb9 f0 f1 f2 f3 hg24 l1 l2 l3 d0' d1' d2' d3' e0 e1 e2 e3 v0 z0 hb8 HD
        have hq9 := hq
        refine wp_region_quiet_below (by kernel_rfl) (by kernel_rfl) ?_
        repeat (go_big_quiet_step (fail))
        refine wpQuiet_nil ?_
        intro wq hq0
        have hq := below_of_class hq0
        clear hq0
        clear g_0 g_1 g_2 g_3 g_4 g_5 g_6 g_7 g_8 hq9
        have HB10 := Lib.hid (below_next HB9.out hq)
        clear hq
        go_wp2_with fail
        exact ⟨⟨k + 1, n, m + 1, by omega, by go_num, rfl, by rw [HT1.out]; exact HNN.out, by rw [HT2.out, List.length_append, ← HMM.out]; rfl, by omega, HB10.out⟩, by simp [intOf]; omega⟩
    · have hkI : ¬ (k : Int) < (ds.length : Int) := by omega
      have z0 := cell_then HB.out HZ.out.1
      clear hkd HNN HMM
      go_wp2_with fail
      clear z0
      go_loopw [25, 26, 27, 28, 29, 30] (fun i _ _ _ _ _ wx => ∃ k : Nat, k ≤ ws.length ∧ i = .int .i64 (k : Int) ∧ Below W6.heap.size W6 wx) (fun i _ _ _ _ _ _ => ws.length - (intOf i).toNat)
      case atStart => exact ⟨0, by omega, rfl, HB.out⟩
      case round =>
        clear HB
        obtain ⟨k, hk, rfl, hB⟩ := hrel
        have HB := Lib.hid hB
        clear hB
        have z1 := cell_then HB.out HZ.out.2.1
        by_cases hkw : k < ws.length
        · have hkI : (k : Int) < (ws.length : Int) := by omega
          have hk0 : (0 : Int) ≤ (k : Int) := by omega
          obtain ⟨x, hx⟩ : ∃ x, ws.getD k w0 = x := ⟨_, rfl⟩
          have DV := Lib.hid (DV1.out x (by rw [← hx]; exact mem_getD hkw))
          have HX := Lib.hid hx
          clear hx
          go_wp2_with fail
          clear z1
          go_loopw [26, 27] (fun mn i wx => ∃ j T : Nat, j ≤ wi.length ∧ T = ((wi.take j).filter (fun y => wEq y x)).length ∧ T ≤ j ∧ mn = .int .i64 (T : Int) ∧ i = .int .i64 (j : Int) ∧ Below W6.heap.size W6 wx) (fun _ i _ => wi.length - (intOf i).toNat)
          case atStart => exact ⟨0, 0, by omega, rfl, by omega, rfl, rfl, HB.out⟩
          case round =>
            obtain ⟨j, T, hj, hT, hTj, rfl, rfl, hB2⟩ := hrel
            have HB2 := Lib.hid hB2
            have HT := Lib.hid hT
            clear hB2 hT
            have z1 := cell_then HB2.out HZ.out.2.1
            have v1 := cell_then HB2.out HZ.out.2.2.2.1
            by_cases hjl : j < wi.length
            · have hjI : (j : Int) < (wi.length : Int) := by omega
              have hj0 : (0 : Int) ≤ (j : Int) := by omega
              obtain ⟨b1, o1, rfl, c0, c1, c2, c3, c4, c5⟩ := (WA.out.then_ HB2.out) k hkw
              obtain ⟨b2, o2, rfl, e0, e1, e2, e3, e4, e5⟩ := (WI.out.then_ HB2.out) j hjl
              rw [HX.out] at c0 c1 c2 c3 c4 c5
              have hcs := cnt_succ (fun y => wEq y x) w0 hjl
              obtain ⟨u, hu⟩ : ∃ u, wi.getD j w0 = u := ⟨_, rfl⟩
              rw [hu] at e0 e1 e2 e3 e4 e5 hcs
              obtain ⟨bb, hbb⟩ : ∃ bb, wEq u x = bb := ⟨_, rfl⟩
              have hq : ∀ w, (binOp .eql 63 (.agg #[.int .i64 u.code, .int .i64 u.src, .int .i64 u.out, .int .i64 u.dst, .int .i64 u.inp, .int .i64 u.delay]) (.agg #[.int .i64 x.code, .int .i64 x.src, .int .i64 x.out, .int .i64 x.dst, .int .i64 x.inp, .int .i64 x.delay])).run Try.prog w = .ok (.bool bb) w := fun w => by rw [eql_wire, ← hbb]; rfl
              rw [hbb] at hcs
              have HCS := Lib.hid hcs
              have g_0 := fun D os => cell_regrown c0 D os
              have g_1 := fun D os => cell_regrown c1 D os
              have g_2 := fun D os => cell_regrown c2 D os
              have g_3 := fun D os => cell_regrown c3 D os
              have g_4 := fun D os => cell_regrown c4 D os
              have g_5 := fun D os => cell_regrown c5 D os
              have h_0 := fun D os => cell_regrown e0 D os
              have h_1 := fun D os => cell_regrown e1 D os
              have h_2 := fun D os => cell_regrown e2 D os
              have h_3 := fun D os => cell_regrown e3 D os
              have h_4 := fun D os => cell_regrown e4 D os
              have h_5 := fun D os => cell_regrown e5 D os
              have h_6 := fun D os => cell_regrown z1 D os
              have h_7 := fun D os => cell_regrown v1 D os
              clear c0 c1 c2 c3 c4 c5 e0 e1 e2 e3 e4 e5 hu hbb hcs
              go_wp2_with fail
              have hq9 := hq
              clear z1 v1
              refine wp_region_quiet_below (by kernel_rfl) (by kernel_rfl) ?_
              repeat (go_big_quiet_step (fail))
              refine wpQuiet_nil ?_
              intro wq hq0
              have hq := below_of_class hq0
              clear hq0
              clear g_0 g_1 g_2 g_3 g_4 g_5 h_0 h_1 h_2 h_3 h_4 h_5 h_6 h_7 hq9
              have HB3 := Lib.hid (below_next HB2.out hq)
              clear hq
              cases bb with
              | true =>
                go_wp2_with fail
                exact ⟨⟨j + 1, T + 1, by omega, by rw [HCS.out, HT.out]; rfl, by omega, by go_num, by go_num, HB3.out⟩, by simp [intOf]; omega⟩
              | false =>
                go_wp2_with fail
                exact ⟨⟨j + 1, T, by omega, by rw [HCS.out, HT.out]; rfl, by omega, rfl, by go_num, HB3.out⟩, by simp [intOf]; omega⟩
            · have hjI : ¬ (j : Int) < (wi.length : Int) := by omega
              have hje : j = wi.length := by omega
              subst hje
              have hT := HT.out
              rw [List.take_length] at hT
              have HT := Lib.hid hT
              clear hT
              go_wp2_with fail
              clear z1 v1
              obtain ⟨T1, hT1⟩ : ∃ T1, T = T1 := ⟨_, rfl⟩
              rw [hT1] at HT hTj ⊢
              have HT1 := Lib.hid HT.out
              clear HT hT1
              go_loopw [26, 28] (fun mn i wx => ∃ j T : Nat, j ≤ wq.length ∧ T = T1 + ((wq.take j).filter (fun y => wEq y x)).length ∧ T ≤ T1 + j ∧ mn = .int .i64 (T : Int) ∧ i = .int .i64 (j : Int) ∧ Below W6.heap.size W6 wx) (fun _ i _ => wq.length - (intOf i).toNat)
              case atStart => exact ⟨0, T1, by omega, rfl, by omega, rfl, rfl, HB2.out⟩
              case round =>
                clear HB2
                obtain ⟨j, T, hj, hT, hTj, rfl, rfl, hB2⟩ := hrel
                have HB2 := Lib.hid hB2
                have HT := Lib.hid hT
                clear hB2 hT
                have z1 := cell_then HB2.out HZ.out.2.1
                have v1 := cell_then HB2.out HZ.out.2.2.2.2.2
                by_cases hjl : j < wq.length
                · have hjI : (j : Int) < (wq.length : Int) := by omega
                  have hj0 : (0 : Int) ≤ (j : Int) := by omega
                  obtain ⟨b1, o1, rfl, c0, c1, c2, c3, c4, c5⟩ := (WA.out.then_ HB2.out) k hkw
                  obtain ⟨b2, o2, rfl, e0, e1, e2, e3, e4, e5⟩ := (WQ.out.then_ HB2.out) j hjl
                  rw [HX.out] at c0 c1 c2 c3 c4 c5
                  have hcs := cnt_succ (fun y => wEq y x) w0 hjl
                  obtain ⟨u, hu⟩ : ∃ u, wq.getD j w0 = u := ⟨_, rfl⟩
                  rw [hu] at e0 e1 e2 e3 e4 e5 hcs
                  obtain ⟨bb, hbb⟩ : ∃ bb, wEq u x = bb := ⟨_, rfl⟩
                  have hq : ∀ w, (binOp .eql 63 (.agg #[.int .i64 u.code, .int .i64 u.src, .int .i64 u.out, .int .i64 u.dst, .int .i64 u.inp, .int .i64 u.delay]) (.agg #[.int .i64 x.code, .int .i64 x.src, .int .i64 x.out, .int .i64 x.dst, .int .i64 x.inp, .int .i64 x.delay])).run Try.prog w = .ok (.bool bb) w := fun w => by rw [eql_wire, ← hbb]; rfl
                  rw [hbb] at hcs
                  have HCS := Lib.hid hcs
                  have g_0 := fun D os => cell_regrown c0 D os
                  have g_1 := fun D os => cell_regrown c1 D os
                  have g_2 := fun D os => cell_regrown c2 D os
                  have g_3 := fun D os => cell_regrown c3 D os
                  have g_4 := fun D os => cell_regrown c4 D os
                  have g_5 := fun D os => cell_regrown c5 D os
                  have h_0 := fun D os => cell_regrown e0 D os
                  have h_1 := fun D os => cell_regrown e1 D os
                  have h_2 := fun D os => cell_regrown e2 D os
                  have h_3 := fun D os => cell_regrown e3 D os
                  have h_4 := fun D os => cell_regrown e4 D os
                  have h_5 := fun D os => cell_regrown e5 D os
                  have h_6 := fun D os => cell_regrown z1 D os
                  have h_7 := fun D os => cell_regrown v1 D os
                  clear c0 c1 c2 c3 c4 c5 e0 e1 e2 e3 e4 e5 hu hbb hcs
                  go_wp2_with fail
                  have hq9 := hq
                  clear z1 v1
                  refine wp_region_quiet_below (by kernel_rfl) (by kernel_rfl) ?_
                  repeat (go_big_quiet_step (fail))
                  refine wpQuiet_nil ?_
                  intro wq hq0
                  have hq := below_of_class hq0
                  clear hq0
                  clear g_0 g_1 g_2 g_3 g_4 g_5 h_0 h_1 h_2 h_3 h_4 h_5 h_6 h_7 hq9
                  have HB3 := Lib.hid (below_next HB2.out hq)
                  clear hq
                  cases bb with
                  | true =>
                    go_wp2_with fail
                    exact ⟨⟨j + 1, T + 1, by omega, by rw [HCS.out, HT.out]; rfl, by omega, by go_num, by go_num, HB3.out⟩, by simp [intOf]; omega⟩
                  | false =>
                    go_wp2_with fail
                    exact ⟨⟨j + 1, T, by omega, by rw [HCS.out, HT.out]; rfl, by omega, rfl, by go_num, HB3.out⟩, by simp [intOf]; omega⟩
                · have hjI : ¬ (j : Int) < (wq.length : Int) := by omega
                  have hje : j = wq.length := by omega
                  subst hje
                  have hT := HT.out
                  rw [List.take_length] at hT
                  have HT := Lib.hid hT
                  clear hT
                  go_wp2_with fail
                  clear z1 v1
                  obtain ⟨T2, hT2⟩ : ∃ T2, T = T2 := ⟨_, rfl⟩
                  rw [hT2] at HT hTj ⊢
                  have HT2 := Lib.hid HT.out
                  clear HT hT2
                  go_loopw [26, 29, 30] (fun mn i _ wx => ∃ j T : Nat, j ≤ p.length ∧ T = T2 + ((p.take j).filter (fun q => pEq q x)).length ∧ T ≤ T2 + j ∧ mn = .int .i64 (T : Int) ∧ i = .int .i64 (j : Int) ∧ Below W6.heap.size W6 wx) (fun _ i _ _ => p.length - (intOf i).toNat)
                  case atStart => exact ⟨0, T2, by omega, rfl, by omega, rfl, rfl, HB2.out⟩
                  case round =>
                    clear HB2
                    obtain ⟨j, T, hj, hT, hTj, rfl, rfl, hB2⟩ := hrel
                    have HB2 := Lib.hid hB2
                    have HT := Lib.hid hT
                    clear hB2 hT
                    by_cases hjl : j < p.length
                    · have hjI : (j : Int) < (p.length : Int) := by omega
                      have hj0 : (0 : Int) ≤ (j : Int) := by omega
                      have z1 := cell_then HB2.out HZ.out.2.1
                      obtain ⟨b1, o1, rfl, c0, c1, c2, c3, c4, c5⟩ := (WA.out.then_ HB2.out) k hkw
                      obtain ⟨b2, o2, rfl, e0, e1, e2⟩ := (PA.out.then_ HB2.out) j hjl
                      rw [HX.out] at c0 c1 c2 c3 c4 c5
                      have hcs := cnt_succ (fun q => pEq q x) p0 hjl
                      obtain ⟨⟨qw, qi, qd⟩, hu⟩ : ∃ u, p.getD j p0 = u := ⟨_, rfl⟩
                      rw [hu] at e0 e1 e2 hcs
                      dsimp only at e0 e1 e2
                      have HCS := Lib.hid hcs
                      have g_0 := fun D os => cell_regrown c0 D os
                      have h_0 := fun D os => cell_regrown e0 D os
                      have h_2 := fun D os => cell_regrown e2 D os
                      have h_6 := fun D os => cell_regrown z1 D os
                      clear c0 c2 c4 c5 e0 e2 hu hcs
                      cases qi with
                      | true =>
                        have HCS := Lib.hid (show ((p.take (j + 1)).filter (fun q => pEq q x)).length = ((p.take j).filter (fun q => pEq q x)).length + (if (qw == x.code && qd == x.dst) = true then 1 else 0) from HCS.out)
                        by_cases hw : qw = x.code
                        · have hwb : (qw == x.code) = true := by rw [hw]; simp
                          by_cases hd : qd = x.dst
                          · have hdb : (qd == x.dst) = true := by rw [hd]; simp
                            rw [hwb, hdb] at HCS
                            clear hw hd
                            go_wp2_with fail
                            clear z1 c1 c3 e1
                            refine wp_region_quiet_below (by kernel_rfl) (by kernel_rfl) ?_
                            repeat (go_big_quiet_step (fail))
                            refine wpQuiet_nil ?_
                            intro wq hq0
                            have hq := below_of_class hq0
                            clear hq0
                            clear g_0 h_0 h_2 h_6
                            have HB3 := Lib.hid (below_next HB2.out hq)
                            clear hq
                            go_wp2_with fail
                            exact ⟨⟨j + 1, T + 1, by omega, by rw [HCS.out, HT.out]; rfl, by omega, by go_num, by go_num, HB3.out⟩, by simp [intOf]; omega⟩
                          · have hdb : (qd == x.dst) = false := by rw [beq_eq_false_iff_ne]; exact hd
                            rw [hwb, hdb] at HCS
                            clear hw hd
                            go_wp2_with fail
                            clear z1 c1 c3 e1
                            refine wp_region_quiet_below (by kernel_rfl) (by kernel_rfl) ?_
                            repeat (go_big_quiet_step (fail))
                            refine wpQuiet_nil ?_
                            intro wq hq0
                            have hq := below_of_class hq0
                            clear hq0
                            clear g_0 h_0 h_2 h_6
                            have HB3 := Lib.hid (below_next HB2.out hq)
                            clear hq
                            go_wp2_with fail
                            exact ⟨⟨j + 1, T, by omega, by rw [HCS.out, HT.out]; rfl, by omega, rfl, by go_num, HB3.out⟩, by simp [intOf]; omega⟩
                        · have hwb : (qw == x.code) = false := by rw [beq_eq_false_iff_ne]; exact hw
                          rw [hwb, Bool.false_and] at HCS
                          clear hw
                          go_wp2_with fail
                          clear z1 c1 c3 e1
                          refine wp_region_quiet_below (by kernel_rfl) (by kernel_rfl) ?_
                          repeat (go_big_quiet_step (fail))
                          refine wpQuiet_nil ?_
                          intro wq hq0
                          have hq := below_of_class hq0
                          clear hq0
                          clear g_0 h_0 h_2 h_6
                          have HB3 := Lib.hid (below_next HB2.out hq)
                          clear hq
                          go_wp2_with fail
                          exact ⟨⟨j + 1, T, by omega, by rw [HCS.out, HT.out]; rfl, by omega, rfl, by go_num, HB3.out⟩, by simp [intOf]; omega⟩
                      | false =>
                        have HCS := Lib.hid (show ((p.take (j + 1)).filter (fun q => pEq q x)).length = ((p.take j).filter (fun q => pEq q x)).length + (if (qw == x.code && qd == x.src) = true then 1 else 0) from HCS.out)
                        by_cases hw : qw = x.code
                        · have hwb : (qw == x.code) = true := by rw [hw]; simp
                          by_cases hd : qd = x.src
                          · have hdb : (qd == x.src) = true := by rw [hd]; simp
                            rw [hwb, hdb] at HCS
                            clear hw hd
                            go_wp2_with fail
                            clear z1 c1 c3 e1
                            refine wp_region_quiet_below (by kernel_rfl) (by kernel_rfl) ?_
                            repeat (go_big_quiet_step (fail))
                            refine wpQuiet_nil ?_
                            intro wq hq0
                            have hq := below_of_class hq0
                            clear hq0
                            clear g_0 h_0 h_2 h_6
                            have HB3 := Lib.hid (below_next HB2.out hq)
                            clear hq
                            go_wp2_with fail
                            exact ⟨⟨j + 1, T + 1, by omega, by rw [HCS.out, HT.out]; rfl, by omega, by go_num, by go_num, HB3.out⟩, by simp [intOf]; omega⟩
                          · have hdb : (qd == x.src) = false := by rw [beq_eq_false_iff_ne]; exact hd
                            rw [hwb, hdb] at HCS
                            clear hw hd
                            go_wp2_with fail
                            clear z1 c1 c3 e1
                            refine wp_region_quiet_below (by kernel_rfl) (by kernel_rfl) ?_
                            repeat (go_big_quiet_step (fail))
                            refine wpQuiet_nil ?_
                            intro wq hq0
                            have hq := below_of_class hq0
                            clear hq0
                            clear g_0 h_0 h_2 h_6
                            have HB3 := Lib.hid (below_next HB2.out hq)
                            clear hq
                            go_wp2_with fail
                            exact ⟨⟨j + 1, T, by omega, by rw [HCS.out, HT.out]; rfl, by omega, rfl, by go_num, HB3.out⟩, by simp [intOf]; omega⟩
                        · have hwb : (qw == x.code) = false := by rw [beq_eq_false_iff_ne]; exact hw
                          rw [hwb, Bool.false_and] at HCS
                          clear hw
                          go_wp2_with fail
                          clear z1 c1 c3 e1
                          refine wp_region_quiet_below (by kernel_rfl) (by kernel_rfl) ?_
                          repeat (go_big_quiet_step (fail))
                          refine wpQuiet_nil ?_
                          intro wq hq0
                          have hq := below_of_class hq0
                          clear hq0
                          clear g_0 h_0 h_2 h_6
                          have HB3 := Lib.hid (below_next HB2.out hq)
                          clear hq
                          go_wp2_with fail
                          exact ⟨⟨j + 1, T, by omega, by rw [HCS.out, HT.out]; rfl, by omega, rfl, by go_num, HB3.out⟩, by simp [intOf]; omega⟩
                    · have hjI : ¬ (j : Int) < (p.length : Int) := by omega
                      have hje : j = p.length := by omega
                      subst hje
                      have hT := HT.out
                      rw [List.take_length] at hT
                      have hdv := DV.out
                      have hT1' := HT1.out
                      have hT2' := HT2.out
                      have hT1 : T = 1 := by omega
                      have hTb : ((T : Int) != 1) = false := by rw [hT1]; rfl
                      clear hT hdv hT1 hT1' hT2'
                      go_wp2_with fail
                      exact ⟨⟨k + 1, by omega, by go_num, HB2.out⟩, by simp [intOf]; omega⟩
        · have hkI : ¬ (k : Int) < (ws.length : Int) := by omega
          go_wp2_with fail
          clear z1
          go_ret
          exact ⟨rfl, below_next BT.out HB.out⟩
end Go.Proofs.Ytebfenkjipaedaa.Gr
