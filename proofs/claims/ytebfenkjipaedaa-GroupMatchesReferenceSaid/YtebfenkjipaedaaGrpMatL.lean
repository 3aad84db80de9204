/- GroupMatchesReference: the law. -/
import Derived.Test.YtebfenkjipaedaaGrpMatA
import Derived.Test.YtebfenkjipaedaaGrpSane
namespace Go.Proofs.Ytebfenkjipaedaa.Gr
open Go.RowKit Gp Go.Sort
attribute [local go_sem] Oper.semAt_some
set_option maxRecDepth 100000 in
set_option maxHeartbeats 40000000 in
theorem match_law (A : Option Addr) (c : Nat) (rows : List (Int × Int)) (B : Option Addr) (cb : Nat) (codes : List Int) (dv : Int) (Y : Option Addr) (cy : Nat) (ys : List (Int × Int)) (RA : Option Addr) (cr : Nat) (raw : List Grp) (oid oof : Int) (oa : Option Addr) (oc : Nat) (om : List Int) (which : Int) (WA : Option Addr) (cw : Nat) (wires : List Wir) (x : Dev) (id a b : Int) (w : World)
    (hA : P2At w A rows) (hAO : P2Ok rows) (hAl : rows.length ≤ 9223372036854775807) (hB : IntsAt w B codes) (hBO : IsOk codes) (hBl : codes.length ≤ 9223372036854775807)
    (hdv : I64 dv) (hY : P2At w Y ys) (hYO : P2Ok ys) (hYl : ys.length ≤ 9223372036854775807) (hR : GrpsAt w RA raw) (hRO : RawOk raw) (hoi : I64 oid) (hoo : I64 oof) (hom : MsAt w (.slice oa om.length oc) om) (hol : om.length ≤ 9223372036854775807) (hos : ∀ q, q < om.length → I64 (om.getD q 0))
    (hwh : I64 which) (hW : WirsAt w WA wires) (hWO : WsOk wires) (hWl : wires.length ≤ 9223372036854775807) (hWc : wires.length ≤ cw) (hx : I64 x.code) (hid : I64 id) (ha : I64 a) (hb : I64 b) :
    Calls Try.prog 3 #[.slice A rows.length c, .slice B codes.length cb, .int .i64 dv, .slice Y ys.length cy, .slice RA raw.length cr, .agg #[.int .i64 oid, .int .i64 oof, .slice oa om.length oc], .int .i64 which, .slice WA wires.length cw, .agg #[.int .i64 x.code, .int .i64 x.kind, .string x.text, .int .i64 x.size], .int .i64 id, .int .i64 a, .int .i64 b] w fun e w' => e = .returned (.bool true) ∧ Below w.heap.size w w' := by
  obtain ⟨i0, hi0, i1, i2, i3⟩ := info_parts d_info
  have HS := Lib.hid (fun W => sane_any W)
  have HM := Lib.hid (fun W (hW : Below w.heap.size w W) => made_any A c rows B cb codes W (hA.then_ hW) hAO hAl (hB.then_ hW) hBO hBl)
  have HN := Lib.hid (fun W (hW : Below w.heap.size w W) => net_any dv Y cy ys W hdv (hY.then_ hW) hYO hYl)
  have HFR := Lib.hid (fun W (hW : Below w.heap.size w W) => few_any RA cr raw W (hR.then_ hW) hRO.len hRO.mlen)
  have HPW := Lib.hid (fun (n : Nat) W (hn : 0 < (n : Int)) (hn2 : (n : Int) ≤ 9223372036854775807) => pickL_any which (n : Int) W hwh hn hn2)
  have HPA := Lib.hid (fun W => pickL_any a 17 W ha (by omega) (by omega))
  have HPB := Lib.hid (fun W => pickL_any b 17 W hb (by omega) (by omega))
  have HPI := Lib.hid (fun W => pickL_any id 15 W hid (by omega) (by omega))
  obtain ⟨PA, hPA⟩ : ∃ PA, pickI a 17 = PA := ⟨_, rfl⟩
  obtain ⟨PB, hPB⟩ : ∃ PB, pickI b 17 = PB := ⟨_, rfl⟩
  obtain ⟨PI, hPI⟩ : ∃ PI, pickI id 15 = PI := ⟨_, rfl⟩
  have BPA := Lib.hid (pickI_bd a (n := 17) (by omega))
  have BPB := Lib.hid (pickI_bd b (n := 17) (by omega))
  have BPI := Lib.hid (pickI_bd id (n := 15) (by omega))
  rw [hPA] at HPA BPA
  rw [hPB] at HPB BPB
  rw [hPI] at HPI BPI
  have RO := Lib.hid hRO
  have OM := Lib.hid hom
  have OI := Lib.hid (show I64 oid ∧ I64 oof ∧ om.length ≤ 9223372036854775807 ∧ ∀ q, q < om.length → I64 (om.getD q 0) from ⟨hoi, hoo, hol, hos⟩)
  have WW := Lib.hid hW
  have WWO := Lib.hid hWO
  have IX := Lib.hid hx
  have II := Lib.hid hid
  have IA := Lib.hid ha
  have IB := Lib.hid hb
  have hwl : (wires.length : Int) ≤ 9223372036854775807 := by omega
  clear hA hAO hB hBO hdv hY hYO hYl hR hRO hoi hoo hom hol hos hwh hW hWO hx hid ha hb hPA hPB hPI
  go_enter Try.func3, Try.ntmps3
  go_upto_region 1 with fail
  obtain ⟨W0, hW0⟩ : ∃ W0, (w.alloc (.cells #[.int .i64 oid, .int .i64 oof, .slice oa om.length oc] 26)).alloc (.cells #[.int .i64 x.code, .int .i64 x.kind, .string x.text, .int .i64 x.size] 29) = W0 := ⟨_, rfl⟩
  have hb0 : Below w.heap.size w W0 := by rw [← hW0]; exact below_alloc (below_alloc (Below.refl _ _) _) _
  have hN0 : W0.heap[w.heap.size]? = some (.cells #[.int .i64 oid, .int .i64 oof, .slice oa om.length oc] 26 (0, 0)) := by rw [← hW0]; exact heap_alloc (World.alloc_heap_new _ _) _
  have hN1 : W0.heap[w.heap.size + 1]? = some (.cells #[.int .i64 x.code, .int .i64 x.kind, .string x.text, .int .i64 x.size] 29 (0, 0)) := by rw [← hW0]; exact alloc_at2 _ _ _ _
  rw [hW0]
  obtain ⟨p17, hp17⟩ : ∃ p17, w.heap.size = p17 := ⟨_, rfl⟩
  obtain ⟨p20, hp20⟩ : ∃ p20, w.heap.size + 1 = p20 := ⟨_, rfl⟩
  rw [hp17] at hN0
  rw [hp20] at hN1
  rw [hp20, hp17]
  have HN0 := Lib.hid hN0
  have HN1 := Lib.hid hN1
  have HPP := Lib.hid (show w.heap.size ≤ p17 ∧ p17 < p20 by omega)
  have B0 := Lib.hid (show Below w.heap.size w W0 by simpa only [hp17] using hb0)
  clear hW0 hb0 hN0 hN1 hp17 hp20
  go_wp2_with fail
  refine (HS.out _).mono ?_
  rintro e w1 ⟨rfl, b1⟩
  have B1 := Lib.hid (below_next B0.out b1)
  have HN0 := Lib.hid ((Kept.of_below b1).heap HN0.out (by simp))
  have HN1 := Lib.hid ((Kept.of_below b1).heap HN1.out (by simp))
  clear b1 HS B0
  go_wp2_with fail
  refine (HM.out _ B1.out).mono ?_
  rintro e w2 ⟨l, g, cg, rfl, hl1, hl2, hl3, hb⟩
  obtain ⟨_, _, e, _, hG⟩ := hl3.at rfl
  injection e with e1 _ e3
  subst e1 e3
  have B2 := Lib.hid (below_next B1.out hb)
  have S1 := Lib.hid (hl2.sized (Nat.le_refl _))
  have G1 := Lib.hid hG
  have HN0 := Lib.hid ((Kept.of_below hb).heap HN0.out (by simp))
  have HN1 := Lib.hid ((Kept.of_below hb).heap HN1.out (by simp))
  clear hl1 hl2 hl3 hb hG B1
  go_wp2_with fail
  refine (HM.out _ B2.out).mono ?_
  rintro e w3 ⟨l2, g2, cg2, rfl, hl1, hl2, hl3, hb⟩
  have B3 := Lib.hid (below_next B2.out hb)
  have S2 := Lib.hid (hl2.sized (Nat.le_refl _))
  have D2 := Lib.hid hl3
  have hl21 := hl1
  have hl214 := hl2.le
  have HN0 := Lib.hid ((Kept.of_below hb).heap HN0.out (by simp))
  have B23 := Lib.hid hb
  clear hl1 hl2 hl3 hb HM
  go_upto_region 5 with fail
  have hpb := pickI_bd which (n := (l2.length : Int)) (by omega)
  have HPK := Lib.hid (fun W => HPW.out l2.length W (by omega) (by omega))
  obtain ⟨P, hP⟩ : ∃ P, pickI which (l2.length : Int) = P := ⟨_, rfl⟩
  rw [hP] at hpb HPK
  obtain ⟨hp0, hp1⟩ := hpb
  obtain ⟨k, rfl⟩ : ∃ k : Nat, P = (k : Int) := ⟨P.toNat, by omega⟩
  have hkl : k < l2.length := by omega
  have HKL := Lib.hid hkl
  have HFO := Lib.hid (fun g t W hW hr => few_one (oid := oid) (oof := oof) OM.out OI.out.2.2.1 g t W hW hr)
  obtain ⟨c0, c1, c2⟩ := cells3 HN0.out
  obtain ⟨v0, hv0⟩ := own_any D2.out.own (i := k * 3) (by omega)
  obtain ⟨v1, hv1⟩ := own_any D2.out.own (i := k * 3 + 1) (by omega)
  obtain ⟨v2, hv2⟩ := own_any D2.out.own (i := k * 3 + 2) (by omega)
  have hl17 := lt_size c0
  have HVC := Lib.hid (show w3.cell? ⟨g2, k * 3, none⟩ = some v0 ∧ w3.cell? ⟨g2, k * 3 + 1, none⟩ = some v1 ∧ w3.cell? ⟨g2, k * 3 + 2, none⟩ = some v2 from ⟨hv0, hv1, hv2⟩)
  clear hP HPW hv0 hv1 hv2
  obtain ⟨OD, hOD⟩ : ∃ OD : Grp, (⟨oid, oof, .slice oa (min om.length 5) oc, om.take 5⟩ : Grp) = OD := ⟨_, rfl⟩
  have HOD := Lib.hid hOD
  have OMS := Lib.hid (show MsAt w2 OD.v OD.ms from by
    rw [← hOD]
    obtain ⟨A9, c9, h9, hc9, hi9, h09⟩ := OM.out.then_ B2.out
    injection h9 with h9 _ h8
    subst h9 h8
    exact ms_cut hi9 hc9 h09 rfl)
  have SB := Lib.hid (sized_set S2.out hkl (x := OD) (by rw [← hOD]; exact OI.out.1) (by rw [← hOD]; exact OI.out.2.1) (fun q hq => by
    rw [← hOD] at hq ⊢
    have hq2 : q < (om.take 5).length := hq
    rw [List.length_take] at hq2
    show I64 ((om.take 5).getD q 0)
    rw [getD_eq (by rw [List.length_take]; omega), List.getElem_take, ← getD_eq (d := 0) (by omega)]
    exact OI.out.2.2.2 q (by omega)) (by rw [← hOD]; show (om.take 5).length ≤ 1000; rw [List.length_take]; omega))
  have HO1 := Lib.hid (show OD.id = oid ∧ OD.of = oof ∧ OD.v = .slice oa (min om.length 5) oc by rw [← hOD]; exact ⟨rfl, rfl, rfl⟩)
  clear hOD
  go_cut [26] from 76 to 86 (fun s wx => s = .slice (some ⟨g2, 0, none⟩) l2.length cg2 ∧ GrpsAt wx (some ⟨g2, 0, none⟩) (l2.set k OD) ∧ Below w2.heap.size w2 wx)
  case first =>
   go_region_law (first
    | (go_simp; go_wp2_with (first
        | (go_at_call 13; (with_reducible refine (HPK.out _).mono ?_); rintro e w' ⟨rfl, rfl⟩)
        | (go_at_call 12; (with_reducible refine (HFO.out _ 26 _ ?hbel ?hrow).mono ?_); (case hbel => exact below_next B3.out (by (repeat (first | with_reducible exact Below.refl _ _ | with_reducible assumption | with_reducible refine below_alloc ?_ _ | with_reducible refine Below.drew ?_ | with_reducible refine Below.setCell ?_ (by dsimp only; omega) _)))); (case hrow => exact World.alloc_heap_new w3 _); rintro e w5 ⟨g5, c5, rfl, q0, q1, q2, hb5⟩; have B5 := Lib.hid (show Below w3.heap.size w3 w5 from below_next (show Below w3.heap.size w3 _ by (repeat (first | with_reducible exact Below.refl _ _ | with_reducible assumption | with_reducible refine below_alloc ?_ _ | with_reducible refine Below.drew ?_ | with_reducible refine Below.setCell ?_ (by dsimp only; omega) _))) hb5); have y0 := cell_then B5.out HVC.out.1; have y1 := cell_then B5.out HVC.out.2.1; have y2 := cell_then B5.out HVC.out.2.2; have D5 := Lib.hid (D2.out.then_ B5.out); have f0 := D5.out.own.frozenAt (k * 3); have f1 := D5.out.own.frozenAt (k * 3 + 1); have f2 := D5.out.own.frozenAt (k * 3 + 2); clear hb5)))
    | fail)
   all_goals (
    go_wp2_with fail
    go_meet
    have hbt := bent_at D5.out rfl HKL.out OD OMS.out (below_next B23.out B5.out) (Nat.le_refl _)
    rw [HO1.out.1, HO1.out.2.1, HO1.out.2.2] at hbt
    exact ⟨rfl, hbt.1, hbt.2⟩)
  case rest =>
   obtain ⟨rfl, hg2, hbw⟩ := hcut
   have BL := Lib.hid (below_next B2.out hbw)
   have G2 := Lib.hid hg2
   have G1 := Lib.hid (G1.out.then_ hbw)
   have HN1 := Lib.hid ((Kept.of_below hbw).heap HN1.out (by simp))
   clear hg2 hbw c0 c1 c2 hl17 D2 HN0 B23 HVC HFO HPK OMS HOD OM HO1
   rename World => W5
   go_wp2_with fail
   refine (HN.out _ BL.out).mono ?_
   rintro e w6 ⟨d, xx, ds, ws, rfl, hn, hdo, hwo, _, _, hdl, hwl2, hb⟩
   obtain ⟨⟨D, cd, rfl, hD⟩, ⟨E, ce, rfl, hW⟩⟩ := hn
   have B6 := Lib.hid (below_next BL.out hb)
   have G1 := Lib.hid (G1.out.then_ hb)
   have G2 := Lib.hid (G2.out.then_ hb)
   have HN1 := Lib.hid ((Kept.of_below hb).heap HN1.out (by simp))
   have DA := Lib.hid hD
   have DO := Lib.hid hdo
   have EA := Lib.hid hW
   have EO := Lib.hid hwo
   unfold nv
   clear hb hD hdo hW hwo HN
   go_upto_region 10 with fail
   obtain ⟨wt, hwt⟩ : ∃ wt, wires.take 6 = wt := ⟨_, rfl⟩
   have hM6 : (min (wires.length : Int) 6).toNat = wt.length := by rw [← hwt, List.length_take]; omega
   rw [hM6]
   have HWT := Lib.hid hwt
   clear hwt
   obtain ⟨W6, hW6⟩ : ∃ W6, ((w6.alloc (.cells #[.slice D ds.length cd, .slice E ws.length ce] 36)).alloc (.cells #[.slice D ds.length cd, .slice WA wt.length cw] 36)).alloc (.cells #[.slice D ds.length cd, .slice E ws.length ce] 36) = W6 := ⟨_, rfl⟩
   have hb6 : Below w6.heap.size w6 W6 := by rw [← hW6]; exact below_alloc (below_alloc (below_alloc (Below.refl _ _) _) _) _
   have hn27 : W6.heap[w6.heap.size]? = some (.cells #[.slice D ds.length cd, .slice E ws.length ce] 36 (0, 0)) := by rw [← hW6]; exact heap_alloc (heap_alloc (World.alloc_heap_new _ _) _) _
   have hn28 : W6.heap[w6.heap.size + 1]? = some (.cells #[.slice D ds.length cd, .slice WA wt.length cw] 36 (0, 0)) := by rw [← hW6]; exact heap_alloc (alloc_at2 _ _ _ _) _
   have hn29 : W6.heap[w6.heap.size + 1 + 1]? = some (.cells #[.slice D ds.length cd, .slice E ws.length ce] 36 (0, 0)) := by
     have h := alloc_at2 (w6.alloc (.cells #[.slice D ds.length cd, .slice E ws.length ce] 36)) (.cells #[.slice D ds.length cd, .slice WA wt.length cw] 36) #[.slice D ds.length cd, .slice E ws.length ce] 36
     rw [World.size_alloc, hW6] at h
     exact h
   rw [hW6]
   have hp20 := heap_lt HN1.out
   have HN1 := Lib.hid ((Kept.of_below hb6).heap HN1.out (by simp))
   have DA6 := Lib.hid (DA.out.then_ hb6)
   have HB66 := Lib.hid hb6
   obtain ⟨n27, hq27⟩ : ∃ n, w6.heap.size = n := ⟨_, rfl⟩
   obtain ⟨n28, hq28⟩ : ∃ n, w6.heap.size + 1 = n := ⟨_, rfl⟩
   obtain ⟨n29, hq29⟩ : ∃ n, w6.heap.size + 1 + 1 = n := ⟨_, rfl⟩
   rw [hq27] at hn27
   rw [hq28] at hn28
   rw [hq29] at hn29
   rw [hq29, hq28, hq27]
   have H27 := Lib.hid hn27
   have H28 := Lib.hid hn28
   have H29 := Lib.hid hn29
   have hnn : n27 < n28 ∧ n28 < n29 ∧ n29 < W6.heap.size := ⟨by omega, by omega, heap_lt hn29⟩
   have HNN := Lib.hid hnn
   have HBL6 := Lib.hid (show w6.heap.size ≤ n27 by omega)
   have HP20 := Lib.hid (show p20 < n27 by omega)
   clear hp20
   obtain ⟨k0, _⟩ := cells2 hn27
   obtain ⟨d0_, d1_, d2_, d3_⟩ := cells4 HN1.out
   have HS10 := Lib.hid (show W6.cell? ⟨n27, 0, none⟩ = some (.slice D ds.length cd) ∧ W6.cell? ⟨p20, 0, none⟩ = some (.int .i64 x.code) ∧ W6.cell? ⟨p20, 1, none⟩ = some (.int .i64 x.kind) ∧ W6.cell? ⟨p20, 2, none⟩ = some (.string x.text) ∧ W6.cell? ⟨p20, 3, none⟩ = some (.int .i64 x.size) from ⟨k0, d0_, d1_, d2_, d3_⟩)
   have HEA := Lib.hid (World.ownsRow_lit (base := W6.heap.size) (e := 29) (size := 4) W6 #[] 0 (by omega) (by unfold maxLen; omega) rfl)
   have HEB := Lib.hid (lit4_at2 W6 (.cells #[.int .i64 x.code, .int .i64 x.kind, .string x.text, .int .i64 x.size] 29))
   have HLD := Lib.hid hdl
   clear hM6 hW6 hb6 hn27 hn28 hn29 hq27 hq28 hq29 hnn k0 d0_ d1_ d2_ d3_
   go_cut [29] from 98 to 105 (fun s wx => s = .pointer (some ⟨n29, 0, none⟩) ∧ ∃ (V : Option Addr) (cv : Nat), wx.heap[n29]? = some (.cells #[.slice V (ds ++ [x]).length cv, .slice E ws.length ce] 36 (0, 0)) ∧ DevsAt wx V (ds ++ [x]) ∧ wx.heap[n27]? = some (.cells #[.slice D ds.length cd, .slice E ws.length ce] 36 (0, 0)) ∧ wx.heap[n28]? = some (.cells #[.slice D ds.length cd, .slice WA wt.length cw] 36 (0, 0)) ∧ Below w6.heap.size w6 wx)
   case first =>
    rcases D with _ | ad
    · obtain rfl : ds = [] := List.eq_nil_of_length_eq_zero (by
        rcases Nat.eq_zero_or_pos ds.length with h | h
        · exact h
        · obtain ⟨_, _, h2, _⟩ := DA6.out 0 h
          cases h2)
      go_region_held_law (fun w' => w'.cell? ⟨n27, 0, none⟩ = some (.slice none 0 cd) ∧ w'.cell? ⟨p20, 0, none⟩ = some (.int .i64 x.code) ∧ w'.cell? ⟨p20, 1, none⟩ = some (.int .i64 x.kind) ∧ w'.cell? ⟨p20, 2, none⟩ = some (.string x.text) ∧ w'.cell? ⟨p20, 3, none⟩ = some (.int .i64 x.size)) (first | (suffices hB : Below W6.heap.size W6 _ from ⟨cell_then hB HS10.out.1, cell_then hB HS10.out.2.1, cell_then hB HS10.out.2.2.1, cell_then hB HS10.out.2.2.2.1, cell_then hB HS10.out.2.2.2.2⟩; (repeat (first | with_reducible exact Below.refl _ _ | with_reducible assumption | with_reducible refine below_alloc ?_ _ | with_reducible refine Below.drew ?_ | with_reducible refine Below.setCell ?_ (by dsimp only; omega) _)); done) | (have h20 := HP20.out; have hnn := HNN.out; exact ⟨cell_set _ (cell_then K9 HS10.out.1) (by dsimp only; omega), cell_set _ (cell_then K9 HS10.out.2.1) (by dsimp only; omega), cell_set _ (cell_then K9 HS10.out.2.2.1) (by dsimp only; omega), cell_set _ (cell_then K9 HS10.out.2.2.2.1) (by dsimp only; omega), cell_set _ (cell_then K9 HS10.out.2.2.2.2) (by dsimp only; omega)⟩))
       (first
        | (refine step_append0 (by rfl) (.tmp 98) (.tmp 100) 34 (by rfl) 29 i0 Try.underlying34 hi0 ⟨W6.heap.size, 0, none⟩ 0 0 cd (by rfl) (by rfl) (Nat.le_refl _) ?_)
        | (refine step_append0 (by rfl) (.tmp 98) (.tmp 100) 34 (by rfl) 29 i0 Try.underlying34 hi0 ⟨W6.heap.size + 1, 0, none⟩ 0 0 cd (by rfl) (by rfl) (Nat.le_refl _) ?_)
        | (refine step_append1 (by rfl) (.tmp 101) (.tmp 103) 34 (by rfl) W6.heap.size 29 i0 _ 4 40 Try.underlying34 hi0 i1 i2 i3 rfl (by omega) (by omega) (.slice (some ⟨W6.heap.size, 0, none⟩) 0 0) 0 _ (by rfl) (own_then HEA.out (by (repeat (first | with_reducible exact Below.refl _ _ | with_reducible assumption | with_reducible refine below_alloc ?_ _ | with_reducible refine Below.drew ?_ | with_reducible refine Below.setCell ?_ (by dsimp only; omega) _)))) (W6.heap.size + 1) [.int .i64 x.code, .int .i64 x.kind, .string x.text, .int .i64 x.size] (by rfl) rfl (fun j u h => cell_then (show Below ((W6.alloc (.cells #[] 29)).alloc (.cells #[.int .i64 x.code, .int .i64 x.kind, .string x.text, .int .i64 x.size] 29)).heap.size ((W6.alloc (.cells #[] 29)).alloc (.cells #[.int .i64 x.code, .int .i64 x.kind, .string x.text, .int .i64 x.size] 29)) _ by (repeat (first | with_reducible exact Below.refl _ _ | with_reducible assumption | with_reducible refine below_alloc ?_ _ | with_reducible refine Below.drew ?_ | with_reducible refine Below.setCell ?_ (by dsimp only; omega) _))) (dev_cells (alloc_at2 W6 _ _ _) j u h)) (by simp [Value.oneCell']) (by have := HLD.out; (first | omega | (simp; done))) (by first | (simp; done) | (simp; omega) | exact (show Below W6.heap.size W6 _ by (repeat (first | with_reducible exact Below.refl _ _ | with_reducible assumption | with_reducible refine below_alloc ?_ _ | with_reducible refine Below.drew ?_ | with_reducible refine Below.setCell ?_ (by dsimp only; omega) _))).size) ?_
           intro g' c' w9 own9 k9 n9
           have K9 : Below W6.heap.size W6 w9 := (show Below W6.heap.size W6 _ by (repeat (first | with_reducible exact Below.refl _ _ | with_reducible assumption | with_reducible refine below_alloc ?_ _ | with_reducible refine Below.drew ?_ | with_reducible refine Below.setCell ?_ (by dsimp only; omega) _))).trans (k9.below (by first | (simp; done) | (simp; omega) | exact (show Below W6.heap.size W6 _ by (repeat (first | with_reducible exact Below.refl _ _ | with_reducible assumption | with_reducible refine below_alloc ?_ _ | with_reducible refine Below.drew ?_ | with_reducible refine Below.setCell ?_ (by dsimp only; omega) _))).size) (fun q hq => (HEA.out.lt q (own_mem hq)).1))
           have O9 := Lib.hid own9
           have N29 := (Kept.of_below K9).heap H29.out (by simp)
           have z0 := cell_of_row _ n29 0 _ _ _ N29
           have fz := frozen_of_row _ n29 0 _ _ N29
           clear own9 k9 n9 N29)
        | (refine step_append1 (by rfl) (.tmp 101) (.tmp 103) 34 (by rfl) W6.heap.size 29 i0 _ 4 40 Try.underlying34 hi0 i1 i2 i3 rfl (by omega) (by omega) (.slice (some ⟨W6.heap.size + 1, 0, none⟩) 0 0) 0 _ (by rfl) (own_then HEB.out (by (repeat (first | with_reducible exact Below.refl _ _ | with_reducible assumption | with_reducible refine below_alloc ?_ _ | with_reducible refine Below.drew ?_ | with_reducible refine Below.setCell ?_ (by dsimp only; omega) _)))) (W6.heap.size) [.int .i64 x.code, .int .i64 x.kind, .string x.text, .int .i64 x.size] (by rfl) rfl (fun j u h => cell_then (show Below (W6.alloc (.cells #[.int .i64 x.code, .int .i64 x.kind, .string x.text, .int .i64 x.size] 29)).heap.size (W6.alloc (.cells #[.int .i64 x.code, .int .i64 x.kind, .string x.text, .int .i64 x.size] 29)) _ by (repeat (first | with_reducible exact Below.refl _ _ | with_reducible assumption | with_reducible refine below_alloc ?_ _ | with_reducible refine Below.drew ?_ | with_reducible refine Below.setCell ?_ (by dsimp only; omega) _))) (dev_cells (World.alloc_heap_new W6 _) j u h)) (by simp [Value.oneCell']) (by have := HLD.out; (first | omega | (simp; done))) (by first | (simp; done) | (simp; omega) | exact (show Below W6.heap.size W6 _ by (repeat (first | with_reducible exact Below.refl _ _ | with_reducible assumption | with_reducible refine below_alloc ?_ _ | with_reducible refine Below.drew ?_ | with_reducible refine Below.setCell ?_ (by dsimp only; omega) _))).size) ?_
           intro g' c' w9 own9 k9 n9
           have K9 : Below W6.heap.size W6 w9 := (show Below W6.heap.size W6 _ by (repeat (first | with_reducible exact Below.refl _ _ | with_reducible assumption | with_reducible refine below_alloc ?_ _ | with_reducible refine Below.drew ?_ | with_reducible refine Below.setCell ?_ (by dsimp only; omega) _))).trans (k9.below (by first | (simp; done) | (simp; omega) | exact (show Below W6.heap.size W6 _ by (repeat (first | with_reducible exact Below.refl _ _ | with_reducible assumption | with_reducible refine below_alloc ?_ _ | with_reducible refine Below.drew ?_ | with_reducible refine Below.setCell ?_ (by dsimp only; omega) _))).size) (fun q hq => (HEB.out.lt q (own_mem hq)).1))
           have O9 := Lib.hid own9
           have N29 := (Kept.of_below K9).heap H29.out (by simp)
           have z0 := cell_of_row _ n29 0 _ _ _ N29
           have fz := frozen_of_row _ n29 0 _ _ N29
           clear own9 k9 n9 N29)
        | fail)
      all_goals (go_wp2_with fail)
      all_goals (
        go_meet
        refine ⟨rfl, strange_end HB66.out HNN.out HBL6.out H27.out H28.out H29.out K9 O9.out⟩)
    · go_region_held_law (fun w' => w'.cell? ⟨n27, 0, none⟩ = some (.slice (some ad) ds.length cd) ∧ w'.cell? ⟨p20, 0, none⟩ = some (.int .i64 x.code) ∧ w'.cell? ⟨p20, 1, none⟩ = some (.int .i64 x.kind) ∧ w'.cell? ⟨p20, 2, none⟩ = some (.string x.text) ∧ w'.cell? ⟨p20, 3, none⟩ = some (.int .i64 x.size)) (first | (suffices hB : Below W6.heap.size W6 _ from ⟨cell_then hB HS10.out.1, cell_then hB HS10.out.2.1, cell_then hB HS10.out.2.2.1, cell_then hB HS10.out.2.2.2.1, cell_then hB HS10.out.2.2.2.2⟩; (repeat (first | with_reducible exact Below.refl _ _ | with_reducible assumption | with_reducible refine below_alloc ?_ _ | with_reducible refine Below.drew ?_ | with_reducible refine Below.setCell ?_ (by dsimp only; omega) _)); done) | (have h20 := HP20.out; have hnn := HNN.out; exact ⟨cell_set _ (cell_then K9 HS10.out.1) (by dsimp only; omega), cell_set _ (cell_then K9 HS10.out.2.1) (by dsimp only; omega), cell_set _ (cell_then K9 HS10.out.2.2.1) (by dsimp only; omega), cell_set _ (cell_then K9 HS10.out.2.2.2.1) (by dsimp only; omega), cell_set _ (cell_then K9 HS10.out.2.2.2.2) (by dsimp only; omega)⟩))
       (first
        | (refine step_appendN (by rfl) (.tmp 98) (.tmp 100) 34 (by rfl) W6.heap.size 29 i0 _ 4 40 Try.underlying34 hi0 i1 i2 i3 rfl (by omega) (.slice (some ⟨W6.heap.size + 1, 0, none⟩) 0 0) 0 [] (by rfl) (own_then HEB.out (by (repeat (first | with_reducible exact Below.refl _ _ | with_reducible assumption | with_reducible refine below_alloc ?_ _ | with_reducible refine Below.drew ?_ | with_reducible refine Below.setCell ?_ (by dsimp only; omega) _)))) ad ds.length cd (ds.flatMap dcs) (by rfl) (flat_len dcs_len ds) (fun j u hu => d_news_any (DA6.out.then_ (show Below W6.heap.size W6 _ by (repeat (first | with_reducible exact Below.refl _ _ | with_reducible assumption | with_reducible refine below_alloc ?_ _ | with_reducible refine Below.drew ?_ | with_reducible refine Below.setCell ?_ (by dsimp only; omega) _)))) j u hu) (d_one ds) (by have := HLD.out; unfold maxLen; omega) (by have := HLD.out; omega) (by simp <;> omega) ?_
           intro v' w8 own' k' nb'
           have K8 : Below W6.heap.size W6 w8 := (show Below W6.heap.size W6 _ by (repeat (first | with_reducible exact Below.refl _ _ | with_reducible assumption | with_reducible refine below_alloc ?_ _ | with_reducible refine Below.drew ?_ | with_reducible refine Below.setCell ?_ (by dsimp only; omega) _))).trans (k'.below (by first | (simp; done) | (simp; omega)) (fun q hq => by
             have : q = W6.heap.size + 1 := by simpa [Value.ownBlock] using hq
             omega))
           have O8 := Lib.hid (show w8.ownsRow W6.heap.size 29 4 v' ds.length (ds.flatMap dcs) from by simpa using own')
           have XC := Lib.hid (show w8.heap[W6.heap.size]? = some (.cells #[.int .i64 x.code, .int .i64 x.kind, .string x.text, .int .i64 x.size] 29 (0, 0)) from k'.heap (heap_alloc (World.alloc_heap_new W6 _) _) (fun e => absurd (List.mem_singleton.1 (show W6.heap.size ∈ [W6.heap.size + 1] from e)) (by omega)))
           have hk8 := K8.size
           clear own' k' nb')
        | (refine step_appendN (by rfl) (.tmp 98) (.tmp 100) 34 (by rfl) W6.heap.size 29 i0 _ 4 40 Try.underlying34 hi0 i1 i2 i3 rfl (by omega) (.slice (some ⟨W6.heap.size, 0, none⟩) 0 0) 0 [] (by rfl) (own_then HEA.out (by (repeat (first | with_reducible exact Below.refl _ _ | with_reducible assumption | with_reducible refine below_alloc ?_ _ | with_reducible refine Below.drew ?_ | with_reducible refine Below.setCell ?_ (by dsimp only; omega) _)))) ad ds.length cd (ds.flatMap dcs) (by rfl) (flat_len dcs_len ds) (fun j u hu => d_news_any (DA6.out.then_ (show Below W6.heap.size W6 _ by (repeat (first | with_reducible exact Below.refl _ _ | with_reducible assumption | with_reducible refine below_alloc ?_ _ | with_reducible refine Below.drew ?_ | with_reducible refine Below.setCell ?_ (by dsimp only; omega) _)))) j u hu) (d_one ds) (by have := HLD.out; unfold maxLen; omega) (by have := HLD.out; omega) (by simp <;> omega) ?_
           intro v' w8 own' k' nb'
           have K8 : Below W6.heap.size W6 w8 := (show Below W6.heap.size W6 _ by (repeat (first | with_reducible exact Below.refl _ _ | with_reducible assumption | with_reducible refine below_alloc ?_ _ | with_reducible refine Below.drew ?_ | with_reducible refine Below.setCell ?_ (by dsimp only; omega) _))).trans (k'.below (by first | (simp; done) | (simp; omega)) (fun q hq => by
             have : q = W6.heap.size := by simpa [Value.ownBlock] using hq
             omega))
           have O8 := Lib.hid (show w8.ownsRow W6.heap.size 29 4 v' ds.length (ds.flatMap dcs) from by simpa using own')
           have XC := Lib.hid (show w8.heap[W6.heap.size + 1]? = some (.cells #[.int .i64 x.code, .int .i64 x.kind, .string x.text, .int .i64 x.size] 29 (0, 0)) from k'.heap (alloc_at2 W6 _ _ _) (fun e => absurd (List.mem_singleton.1 (show W6.heap.size + 1 ∈ [W6.heap.size] from e)) (by omega)))
           have hk8 := K8.size
           clear own' k' nb')
        | (refine step_appendN (by rfl) (.tmp 98) (.tmp 100) 34 (by rfl) W6.heap.size 29 i0 _ 4 40 Try.underlying34 hi0 i1 i2 i3 rfl (by omega) (.slice (some ⟨W6.heap.size, 0, none⟩) 0 0) 0 [] (by rfl) (own_then HEA.out (by (repeat (first | with_reducible exact Below.refl _ _ | with_reducible assumption | with_reducible refine below_alloc ?_ _ | with_reducible refine Below.drew ?_ | with_reducible refine Below.setCell ?_ (by dsimp only; omega) _)))) ad ds.length cd (ds.flatMap dcs) (by rfl) (flat_len dcs_len ds) (fun j u hu => d_news_any (DA6.out.then_ (show Below W6.heap.size W6 _ by (repeat (first | with_reducible exact Below.refl _ _ | with_reducible assumption | with_reducible refine below_alloc ?_ _ | with_reducible refine Below.drew ?_ | with_reducible refine Below.setCell ?_ (by dsimp only; omega) _)))) j u hu) (d_one ds) (by have := HLD.out; unfold maxLen; omega) (by have := HLD.out; omega) (by simp <;> omega) ?_
           intro v' w8 own' k' nb'
           have K8 : Below W6.heap.size W6 w8 := (show Below W6.heap.size W6 _ by (repeat (first | with_reducible exact Below.refl _ _ | with_reducible assumption | with_reducible refine below_alloc ?_ _ | with_reducible refine Below.drew ?_ | with_reducible refine Below.setCell ?_ (by dsimp only; omega) _))).trans (k'.below (by first | (simp; done) | (simp; omega)) (fun q hq => by
             have : q = W6.heap.size := by simpa [Value.ownBlock] using hq
             omega))
           have O8 := Lib.hid (show w8.ownsRow W6.heap.size 29 4 v' ds.length (ds.flatMap dcs) from by simpa using own')
           have hk8 := K8.size
           clear own' k' nb')
        | (refine step_append1 (by rfl) (.tmp 101) (.tmp 103) 34 (by rfl) W6.heap.size 29 i0 _ 4 40 Try.underlying34 hi0 i1 i2 i3 rfl (by omega) (by omega) (v') ds.length _ (by rfl) (own_then O8.out (by (repeat (first | with_reducible exact Below.refl _ _ | with_reducible assumption | with_reducible refine below_alloc ?_ _ | with_reducible refine Below.drew ?_ | with_reducible refine Below.setCell ?_ (by dsimp only; omega) _)))) (w8.heap.size) [.int .i64 x.code, .int .i64 x.kind, .string x.text, .int .i64 x.size] (by rfl) rfl (fun j u h => cell_then (show Below (w8.alloc (.cells #[.int .i64 x.code, .int .i64 x.kind, .string x.text, .int .i64 x.size] 29)).heap.size (w8.alloc (.cells #[.int .i64 x.code, .int .i64 x.kind, .string x.text, .int .i64 x.size] 29)) _ by (repeat (first | with_reducible exact Below.refl _ _ | with_reducible assumption | with_reducible refine below_alloc ?_ _ | with_reducible refine Below.drew ?_ | with_reducible refine Below.setCell ?_ (by dsimp only; omega) _))) (dev_cells (World.alloc_heap_new w8 _) j u h)) (by simp [Value.oneCell']) (by have := HLD.out; (first | omega | (simp; done))) (by first | (simp; done) | (simp; omega) | exact (show Below W6.heap.size W6 _ by (repeat (first | with_reducible exact Below.refl _ _ | with_reducible assumption | with_reducible refine below_alloc ?_ _ | with_reducible refine Below.drew ?_ | with_reducible refine Below.setCell ?_ (by dsimp only; omega) _))).size) ?_
           intro g' c' w9 own9 k9 n9
           have K9 : Below W6.heap.size W6 w9 := (show Below W6.heap.size W6 _ by (repeat (first | with_reducible exact Below.refl _ _ | with_reducible assumption | with_reducible refine below_alloc ?_ _ | with_reducible refine Below.drew ?_ | with_reducible refine Below.setCell ?_ (by dsimp only; omega) _))).trans (k9.below (by first | (simp; done) | (simp; omega) | exact (show Below W6.heap.size W6 _ by (repeat (first | with_reducible exact Below.refl _ _ | with_reducible assumption | with_reducible refine below_alloc ?_ _ | with_reducible refine Below.drew ?_ | with_reducible refine Below.setCell ?_ (by dsimp only; omega) _))).size) (fun q hq => (O8.out.lt q (own_mem hq)).1))
           have O9 := Lib.hid own9
           have N29 := (Kept.of_below K9).heap H29.out (by simp)
           have z0 := cell_of_row _ n29 0 _ _ _ N29
           have fz := frozen_of_row _ n29 0 _ _ N29
           clear own9 k9 n9 N29)
        | (refine step_append1 (by rfl) (.tmp 101) (.tmp 103) 34 (by rfl) W6.heap.size 29 i0 _ 4 40 Try.underlying34 hi0 i1 i2 i3 rfl (by omega) (by omega) (v') ds.length _ (by rfl) (own_then O8.out (by (repeat (first | with_reducible exact Below.refl _ _ | with_reducible assumption | with_reducible refine below_alloc ?_ _ | with_reducible refine Below.drew ?_ | with_reducible refine Below.setCell ?_ (by dsimp only; omega) _)))) (W6.heap.size) [.int .i64 x.code, .int .i64 x.kind, .string x.text, .int .i64 x.size] (by rfl) rfl (fun j u h => cell_then (show Below w8.heap.size w8 _ by (repeat (first | with_reducible exact Below.refl _ _ | with_reducible assumption | with_reducible refine below_alloc ?_ _ | with_reducible refine Below.drew ?_ | with_reducible refine Below.setCell ?_ (by dsimp only; omega) _))) (dev_cells XC.out j u h)) (by simp [Value.oneCell']) (by have := HLD.out; (first | omega | (simp; done))) (by first | (simp; done) | (simp; omega) | exact (show Below W6.heap.size W6 _ by (repeat (first | with_reducible exact Below.refl _ _ | with_reducible assumption | with_reducible refine below_alloc ?_ _ | with_reducible refine Below.drew ?_ | with_reducible refine Below.setCell ?_ (by dsimp only; omega) _))).size) ?_
           intro g' c' w9 own9 k9 n9
           have K9 : Below W6.heap.size W6 w9 := (show Below W6.heap.size W6 _ by (repeat (first | with_reducible exact Below.refl _ _ | with_reducible assumption | with_reducible refine below_alloc ?_ _ | with_reducible refine Below.drew ?_ | with_reducible refine Below.setCell ?_ (by dsimp only; omega) _))).trans (k9.below (by first | (simp; done) | (simp; omega) | exact (show Below W6.heap.size W6 _ by (repeat (first | with_reducible exact Below.refl _ _ | with_reducible assumption | with_reducible refine below_alloc ?_ _ | with_reducible refine Below.drew ?_ | with_reducible refine Below.setCell ?_ (by dsimp only; omega) _))).size) (fun q hq => (O8.out.lt q (own_mem hq)).1))
           have O9 := Lib.hid own9
           have N29 := (Kept.of_below K9).heap H29.out (by simp)
           have z0 := cell_of_row _ n29 0 _ _ _ N29
           have fz := frozen_of_row _ n29 0 _ _ N29
           clear own9 k9 n9 N29)
        | (refine step_append1 (by rfl) (.tmp 101) (.tmp 103) 34 (by rfl) W6.heap.size 29 i0 _ 4 40 Try.underlying34 hi0 i1 i2 i3 rfl (by omega) (by omega) (v') ds.length _ (by rfl) (own_then O8.out (by (repeat (first | with_reducible exact Below.refl _ _ | with_reducible assumption | with_reducible refine below_alloc ?_ _ | with_reducible refine Below.drew ?_ | with_reducible refine Below.setCell ?_ (by dsimp only; omega) _)))) (W6.heap.size + 1) [.int .i64 x.code, .int .i64 x.kind, .string x.text, .int .i64 x.size] (by rfl) rfl (fun j u h => cell_then (show Below w8.heap.size w8 _ by (repeat (first | with_reducible exact Below.refl _ _ | with_reducible assumption | with_reducible refine below_alloc ?_ _ | with_reducible refine Below.drew ?_ | with_reducible refine Below.setCell ?_ (by dsimp only; omega) _))) (dev_cells XC.out j u h)) (by simp [Value.oneCell']) (by have := HLD.out; (first | omega | (simp; done))) (by first | (simp; done) | (simp; omega) | exact (show Below W6.heap.size W6 _ by (repeat (first | with_reducible exact Below.refl _ _ | with_reducible assumption | with_reducible refine below_alloc ?_ _ | with_reducible refine Below.drew ?_ | with_reducible refine Below.setCell ?_ (by dsimp only; omega) _))).size) ?_
           intro g' c' w9 own9 k9 n9
           have K9 : Below W6.heap.size W6 w9 := (show Below W6.heap.size W6 _ by (repeat (first | with_reducible exact Below.refl _ _ | with_reducible assumption | with_reducible refine below_alloc ?_ _ | with_reducible refine Below.drew ?_ | with_reducible refine Below.setCell ?_ (by dsimp only; omega) _))).trans (k9.below (by first | (simp; done) | (simp; omega) | exact (show Below W6.heap.size W6 _ by (repeat (first | with_reducible exact Below.refl _ _ | with_reducible assumption | with_reducible refine below_alloc ?_ _ | with_reducible refine Below.drew ?_ | with_reducible refine Below.setCell ?_ (by dsimp only; omega) _))).size) (fun q hq => (O8.out.lt q (own_mem hq)).1))
           have O9 := Lib.hid own9
           have N29 := (Kept.of_below K9).heap H29.out (by simp)
           have z0 := cell_of_row _ n29 0 _ _ _ N29
           have fz := frozen_of_row _ n29 0 _ _ N29
           clear own9 k9 n9 N29)
        | fail)
      all_goals (go_wp2_with fail)
      all_goals (
        go_meet
        refine ⟨rfl, strange_end HB66.out HNN.out HBL6.out H27.out H28.out H29.out K9 O9.out⟩)
   case rest =>
    obtain ⟨rfl, V, cv, h29, hDV, h27, h28, hbw⟩ := hcut
    obtain ⟨dx, hdx⟩ : ∃ dx, ds ++ [x] = dx := ⟨_, rfl⟩
    have DXO := Lib.hid (show DsOk dx ∧ dx.length ≤ 1000 from by rw [← hdx]; exact ⟨dsok_snoc DO.out IX.out, by rw [List.length_append, List.length_singleton]; omega⟩)
    have WTO := Lib.hid (show WsOk wt ∧ wt.length ≤ 1000 from by rw [← HWT.out]; exact ⟨wsok_take WWO.out 6, by rw [List.length_take]; omega⟩)
    rw [hdx] at h29 hDV
    have B8 := Lib.hid (below_next B6.out hbw)
    have G1 := Lib.hid (G1.out.then_ hbw)
    have G2 := Lib.hid (G2.out.then_ hbw)
    have DA := Lib.hid (DA.out.then_ hbw)
    have EA := Lib.hid (EA.out.then_ hbw)
    have DV := Lib.hid hDV
    have H27 := Lib.hid h27
    have H28 := Lib.hid h28
    have H29 := Lib.hid h29
    have hww8 := (wirs_take WW.out 6).then_ B8.out
    rw [HWT.out] at hww8
    have WW8 := Lib.hid hww8
    clear hww8 HWT hdx
    obtain ⟨lb, hlb⟩ : ∃ lb, l2.set k OD = lb := ⟨_, rfl⟩
    have hlbl : l2.length = lb.length := by rw [← hlb, List.length_set]
    rw [hlb] at G2 SB
    rw [hlbl]
    have HWL := Lib.hid hwl2
    clear h27 h28 h29 hDV hbw hlb hlbl HS10 HEA HEB DA6 HB66 HN1 HNN HBL6 HP20 B6 BL WW S2 hkl HKL hp0 hp1 hl21 hl214 hdl hwl2
    go_wp2_with fail
    refine (HFR.out _ B8.out).mono ?_
    rintro e w9 ⟨A3, l3, c3, rfl, hz1, hg3, hz2, hk3, hb9, hz3, hz4⟩
    have S3 := Lib.hid (few_sized hk3 RO.out)
    have B9 := Lib.hid (below_next B8.out hb9)
    have G1 := Lib.hid (G1.out.then_ hb9)
    have G2 := Lib.hid (G2.out.then_ hb9)
    have G3 := Lib.hid hg3
    have DA := Lib.hid (DA.out.then_ hb9)
    have EA := Lib.hid (EA.out.then_ hb9)
    have DV := Lib.hid (DV.out.then_ hb9)
    have WW8 := Lib.hid (WW8.out.then_ hb9)
    have H27 := Lib.hid ((Kept.of_below hb9).heap H27.out (by simp))
    have H28 := Lib.hid ((Kept.of_below hb9).heap H28.out (by simp))
    have H29 := Lib.hid ((Kept.of_below hb9).heap H29.out (by simp))
    clear hg3 hk3 hb9 HFR B8 RO hz1 hz2 hz3 hz4
    go_upto_region 12 with fail
    obtain ⟨W9, hW9⟩ : ∃ W9, w9.alloc (.cells #[.slice (some ⟨g, 0, none⟩) l.length cg, .slice (some ⟨g2, 0, none⟩) lb.length cg2, .slice A3 l3.length c3] 24) = W9 := ⟨_, rfl⟩
    have hb9 : Below w9.heap.size w9 W9 := by rw [← hW9]; exact below_alloc (Below.refl _ _) _
    have hn9 : W9.heap[w9.heap.size]? = some (.cells #[.slice (some ⟨g, 0, none⟩) l.length cg, .slice (some ⟨g2, 0, none⟩) lb.length cg2, .slice A3 l3.length c3] 24 (0, 0)) := by rw [← hW9]; exact World.alloc_heap_new _ _
    rw [hW9]
    obtain ⟨h9, hh9⟩ : ∃ h9, w9.heap.size = h9 := ⟨_, rfl⟩
    rw [hh9] at hn9 ⊢
    have HGS := Lib.hid (fun (i : Nat) (hi : i < 3) => (show ∃ (A' : Option Addr) (c' : Nat) (m : List Grp), W9.cell? ⟨h9, i, none⟩ = some (.slice A' m.length c') ∧ GrpsAt W9 A' m ∧ Sized m from by
      rcases (show i = 0 ∨ i = 1 ∨ i = 2 by omega) with rfl | rfl | rfl
      · exact ⟨_, _, l, (cells3 hn9).1, G1.out.then_ hb9, S1.out⟩
      · exact ⟨_, _, lb, (cells3 hn9).2.1, G2.out.then_ hb9, SB.out⟩
      · exact ⟨_, _, l3, (cells3 hn9).2.2, G3.out.then_ hb9, S3.out⟩))
    have B9 := Lib.hid (below_next B9.out hb9)
    have DA := Lib.hid (DA.out.then_ hb9)
    have EA := Lib.hid (EA.out.then_ hb9)
    have DV := Lib.hid (DV.out.then_ hb9)
    have WW8 := Lib.hid (WW8.out.then_ hb9)
    have H27 := Lib.hid ((Kept.of_below hb9).heap H27.out (by simp))
    have H28 := Lib.hid ((Kept.of_below hb9).heap H28.out (by simp))
    have H29 := Lib.hid ((Kept.of_below hb9).heap H29.out (by simp))
    clear hW9 hb9 hn9 hh9 G1 G2 G3 S1 SB S3
    go_loopw [31, 33, 34, 35, 36, 37, 38, 39, 40, 41, 42, 43, 44, 45, 47, 48, 49, 50, 51, 52, 53, 54, 55, 57, 58, 59, 60, 61, 62, 63, 64, 65, 66, 67, 112] (fun _ _ _ _ _ _ _ _ _ _ _ _ _ _ _ _ _ _ _ _ _ _ _ _ _ _ _ _ _ _ _ _ _ _ i wr => ∃ i' : Nat, i' ≤ 3 ∧ i = .int .i64 (i' : Int) ∧ Below W9.heap.size W9 wr) (fun _ _ _ _ _ _ _ _ _ _ _ _ _ _ _ _ _ _ _ _ _ _ _ _ _ _ _ _ _ _ _ _ _ _ i _ => 4 - (intOf i).toNat)
    case atStart => exact ⟨0, by omega, rfl, Below.refl _ _⟩
    case round =>
      obtain ⟨i, hi3, rfl, hB⟩ := hrel
      have HB := Lib.hid hB
      clear hB
      by_cases hi : i < 3
      · as_aux_lemma =>
        have hiI : (i : Int) < 3 := by omega
        have hi0 : (0 : Int) ≤ (i : Int) := by omega
        obtain ⟨Am, cm, m, hcm, hgm, hsm⟩ := HGS.out i hi
        have r0 := cell_then HB.out hcm
        have GM := Lib.hid hgm
        have SM := Lib.hid hsm
        clear hcm hgm hsm
        obtain ⟨bv, hv1, hv2⟩ := both_valid Am cm m W9 GM.out SM.out
        have HV1 := Lib.hid hv1
        have HV2 := Lib.hid hv2
        clear hv1 hv2
        go_wp2_with fail
        refine (HV1.out _ HB.out).mono ?_
        rintro e w10 ⟨rfl, hb⟩
        have HB10 := Lib.hid (below_next HB.out hb)
        clear hb r0
        go_wp2_with fail
        refine (HV2.out _ HB10.out).mono ?_
        rintro e w11 ⟨rfl, hb⟩
        have HB11 := Lib.hid (below_next HB10.out hb)
        clear hb HB10 HB HV1 HV2
        obtain ⟨pa0, pa1⟩ := BPA.out
        go_wp2_with fail
        refine (HPA.out _).mono ?_
        rintro e w12 ⟨rfl, rfl⟩
        go_upto_region 17 with fail
        obtain ⟨W12, hW12⟩ : ∃ W12, w11.alloc (.cells #[.int .i64 a, .int .i64 (10 * (1 + PA))] 3) = W12 := ⟨_, rfl⟩
        have hb12 : Below w11.heap.size w11 W12 := by rw [← hW12]; exact below_alloc (Below.refl _ _) _
        have hn12 : W12.heap[w11.heap.size]? = some (.cells #[.int .i64 a, .int .i64 (10 * (1 + PA))] 3 (0, 0)) := by rw [← hW12]; exact World.alloc_heap_new _ _
        rw [hW12]
        obtain ⟨h12, hh12⟩ : ∃ h12, w11.heap.size = h12 := ⟨_, rfl⟩
        rw [hh12] at hn12 ⊢
        have HCY := Lib.hid (fun (j : Nat) (hj : j < 2) => (show ∃ y : Int, W12.cell? ⟨h12, j, none⟩ = some (.int .i64 y) ∧ I64 y from by
          rcases (show j = 0 ∨ j = 1 by omega) with rfl | rfl
          · exact ⟨a, (cells2 hn12).1, IA.out⟩
          · exact ⟨_, (cells2 hn12).2, ⟨by omega, by omega⟩⟩))
        have HB12 := Lib.hid (below_next HB11.out hb12)
        clear hW12 hb12 hn12 hh12 HB11 pa0 pa1
        go_loopw [33, 34, 35, 36, 37, 38, 39, 40, 41, 42, 43, 44, 45, 128] (fun _ _ _ _ _ _ _ _ _ _ _ _ _ j wr => ∃ j' : Nat, j' ≤ 2 ∧ j = .int .i64 (j' : Int) ∧ Below W12.heap.size W12 wr) (fun _ _ _ _ _ _ _ _ _ _ _ _ _ j _ => 3 - (intOf j).toNat)
        case atStart => exact ⟨0, by omega, rfl, Below.refl _ _⟩
        case round =>
          obtain ⟨j, hj2, rfl, hB⟩ := hrel
          have HB := Lib.hid hB
          clear hB
          by_cases hj : j < 2
          · as_aux_lemma =>
            have hjI : (j : Int) < 2 := by omega
            have hj0 : (0 : Int) ≤ (j : Int) := by omega
            obtain ⟨y, hy, iy⟩ := HCY.out j hj
            have r0 := cell_then HB.out hy
            obtain ⟨pms, perr, hpl, hp1, hp2⟩ := both_path Am cm m y W9 GM.out SM.out iy
            obtain ⟨q1, q1e, hq1, hq2⟩ := both_common Am cm m y b W9 GM.out SM.out iy IB.out
            obtain ⟨q3, q3e, hq3, hq4⟩ := both_common Am cm m y (10 * (1 + PB)) W9 GM.out SM.out iy ⟨by have := BPB.out; omega, by have := BPB.out; omega⟩
            have HP1 := Lib.hid hp1
            have HP2 := Lib.hid hp2
            have HQ1 := Lib.hid hq1
            have HQ2 := Lib.hid hq2
            have HQ3 := Lib.hid hq3
            have HQ4 := Lib.hid hq4
            clear hp1 hp2 hq1 hq2 hq3 hq4 hy iy
            have BX := Lib.hid (below_next HB12.out HB.out)
            go_wp2_with fail
            refine (HP1.out _ BX.out).mono ?_
            rintro e v1 ⟨A5, c5, rfl, hi5, hb⟩
            have BX1 := Lib.hid (below_next BX.out hb)
            have BY1 := Lib.hid (below_next HB.out hb)
            have I5 := Lib.hid hi5
            clear hb hi5 r0 HP1
            go_wp2_with fail
            refine (HP2.out _ BX1.out).mono ?_
            rintro e v2 ⟨A6, c6, rfl, hi6, hb⟩
            have BX2 := Lib.hid (below_next BX1.out hb)
            have BY2 := Lib.hid (below_next BY1.out hb)
            have I5 := Lib.hid (I5.out.then_ hb)
            have I6 := Lib.hid hi6
            clear hb hi6 BX1 BY1 HP2
            go_wp2_with fail
            refine (HQ1.out _ BX2.out).mono ?_
            rintro e v3 ⟨rfl, hb⟩
            have BX3 := Lib.hid (below_next BX2.out hb)
            have BY3 := Lib.hid (below_next BY2.out hb)
            have I5 := Lib.hid (I5.out.then_ hb)
            have I6 := Lib.hid (I6.out.then_ hb)
            clear hb BX2 BY2 HQ1
            go_wp2_with fail
            refine (HQ2.out _ BX3.out).mono ?_
            rintro e v4 ⟨rfl, hb⟩
            have BX4 := Lib.hid (below_next BX3.out hb)
            have BY4 := Lib.hid (below_next BY3.out hb)
            have I5 := Lib.hid (I5.out.then_ hb)
            have I6 := Lib.hid (I6.out.then_ hb)
            clear hb BX3 BY3 HQ2
            obtain ⟨pb0, pb1⟩ := BPB.out
            go_wp2_with fail
            refine (HPB.out _).mono ?_
            rintro e v5 ⟨rfl, rfl⟩
            go_wp2_with fail
            refine (HQ3.out _ BX4.out).mono ?_
            rintro e v5 ⟨rfl, hb⟩
            have BX5 := Lib.hid (below_next BX4.out hb)
            have BY5 := Lib.hid (below_next BY4.out hb)
            have I5 := Lib.hid (I5.out.then_ hb)
            have I6 := Lib.hid (I6.out.then_ hb)
            clear hb BX4 BY4 HQ3
            go_wp2_with fail
            refine (HPB.out _).mono ?_
            rintro e v6 ⟨rfl, rfl⟩
            go_wp2_with fail
            refine (HQ4.out _ BX5.out).mono ?_
            rintro e v6 ⟨rfl, hb⟩
            have BX6 := Lib.hid (below_next BX5.out hb)
            have BY6 := Lib.hid (below_next BY5.out hb)
            have HIY := Lib.hid (ints_yes A5 A6 c5 c6 pms v6 hpl (I5.out.then_ hb) (I6.out.then_ hb))
            clear hb BX5 BY5 HQ4 pb0 pb1 I5 I6
            go_wp2_with fail
            refine HIY.out.mono ?_
            rintro e v7 ⟨rfl, hb⟩
            have BY7 := Lib.hid (below_next BY6.out hb)
            clear hb HIY BX6 BY6
            go_wp2_with fail
            exact ⟨⟨j + 1, by omega, by go_num, BY7.out⟩, by simp [intOf]; omega⟩
          · as_aux_lemma =>
            have hjI : ¬ (j : Int) < 2 := by omega
            have HB13 := Lib.hid (below_next HB12.out HB.out)
            clear HB HB12 HCY hj hj2
            obtain ⟨pi0, pi1⟩ := BPI.out
            go_wp2_with fail
            refine (HPI.out _).mono ?_
            rintro e w13 ⟨rfl, rfl⟩
            go_upto_region 29 with fail
            rename World => Wb
            obtain ⟨W13, hW13⟩ : ∃ W13, Wb.alloc (.cells #[.int .i64 id, .int .i64 (3 * PI)] 3) = W13 := ⟨_, rfl⟩
            have hb13 : Below Wb.heap.size Wb W13 := by rw [← hW13]; exact below_alloc (Below.refl _ _) _
            have hn13 : W13.heap[Wb.heap.size]? = some (.cells #[.int .i64 id, .int .i64 (3 * PI)] 3 (0, 0)) := by rw [← hW13]; exact World.alloc_heap_new _ _
            rw [hW13]
            obtain ⟨h13, hh13⟩ : ∃ h13, Wb.heap.size = h13 := ⟨_, rfl⟩
            rw [hh13] at hn13 ⊢
            have HCN := Lib.hid (fun (j : Nat) (hj : j < 2) => (show ∃ y : Int, W13.cell? ⟨h13, j, none⟩ = some (.int .i64 y) ∧ I64 y from by
              rcases (show j = 0 ∨ j = 1 by omega) with rfl | rfl
              · exact ⟨id, (cells2 hn13).1, II.out⟩
              · exact ⟨_, (cells2 hn13).2, ⟨by omega, by omega⟩⟩))
            have HB13 := Lib.hid (below_next HB13.out hb13)
            clear hW13 hb13 hn13 hh13 pi0 pi1
            go_loopw [47, 48, 49, 50, 51, 52, 53, 54, 55, 57, 58, 59, 60, 61, 62, 63, 64, 65, 66, 67, 214] (fun _ _ _ _ _ _ _ _ _ _ _ _ _ _ _ _ _ _ _ _ j wr => ∃ j' : Nat, j' ≤ 2 ∧ j = .int .i64 (j' : Int) ∧ Below W13.heap.size W13 wr) (fun _ _ _ _ _ _ _ _ _ _ _ _ _ _ _ _ _ _ _ _ j _ => 3 - (intOf j).toNat)
            case atStart => exact ⟨0, by omega, rfl, Below.refl _ _⟩
            case round =>
              obtain ⟨j, hj2, rfl, hB⟩ := hrel
              have HB := Lib.hid hB
              clear hB
              by_cases hj : j < 2
              · as_aux_lemma =>
                have hjI : (j : Int) < 2 := by omega
                have hj0 : (0 : Int) ≤ (j : Int) := by omega
                obtain ⟨y, hy, iy⟩ := HCN.out j hj
                have r0 := cell_then HB.out hy
                obtain ⟨pms, perr, hpl, hp1, hp2⟩ := both_below Am cm m y W9 GM.out SM.out iy
                obtain ⟨ks, kerr, ⟨hk1, hk2⟩, hk3, hk4⟩ := both_dissolve Am cm m y W9 GM.out SM.out iy
                have IY := Lib.hid iy
                have HP1 := Lib.hid hp1
                have HP2 := Lib.hid hp2
                have HQ1 := Lib.hid hk3
                have HQ2 := Lib.hid hk4
                have HK1 := Lib.hid hk1
                have HK2 := Lib.hid hk2
                clear hp1 hp2 hk1 hk2 hk3 hk4 hy iy
                have BX := Lib.hid (below_next HB13.out HB.out)
                go_wp2_with fail
                refine (HP1.out _ BX.out).mono ?_
                rintro e v1 ⟨A5, c5, rfl, hi5, hb⟩
                have BX1 := Lib.hid (below_next BX.out hb)
                have BY1 := Lib.hid (below_next HB.out hb)
                have I5 := Lib.hid hi5
                clear hb hi5 r0 HP1 BX HB
                go_wp2_with fail
                refine (HP2.out _ BX1.out).mono ?_
                rintro e v2 ⟨A6, c6, rfl, hi6, hb⟩
                have BX2 := Lib.hid (below_next BX1.out hb)
                have BY2 := Lib.hid (below_next BY1.out hb)
                have I5 := Lib.hid (I5.out.then_ hb)
                have I6 := Lib.hid hi6
                clear hb hi6 BX1 BY1 HP2
                go_wp2_with fail
                refine (HQ1.out _ BX2.out).mono ?_
                rintro e v3 ⟨A7, L7, c7, rfl, hg7, hl7, hb⟩
                have BX3 := Lib.hid (below_next BX2.out hb)
                have BY3 := Lib.hid (below_next BY2.out hb)
                have I5 := Lib.hid (I5.out.then_ hb)
                have I6 := Lib.hid (I6.out.then_ hb)
                have G7 := Lib.hid hg7
                have L7E := Lib.hid hl7
                clear hb BX2 BY2 HQ1 hg7 hl7
                go_wp2_with fail
                refine (HQ2.out _ BX3.out).mono ?_
                rintro e v4 ⟨A8, L8, c8, rfl, hg8, hl8, hb⟩
                have BX4 := Lib.hid (below_next BX3.out hb)
                have BY4 := Lib.hid (below_next BY3.out hb)
                have HIY := Lib.hid (ints_yes A5 A6 c5 c6 pms v4 hpl (I5.out.then_ hb) (I6.out.then_ hb))
                have G7 := Lib.hid (G7.out.then_ hb)
                have G8 := Lib.hid hg8
                have HSM := Lib.hid (fun W (hW : Below v4.heap.size v4 W) => same_yes A7 A8 c7 c8 L7 L8 W (G7.out.then_ hW) (G8.out.then_ hW) (by have := congrArg List.length L7E.out; rw [List.length_map] at this; have := HK1.out; omega) (fun z hz => HK2.out (key z) (by rw [← L7E.out]; exact List.mem_map_of_mem hz)) (L7E.out.trans hl8.symm))
                clear hb BX3 BY3 HQ2 hg8 I5 I6
                go_wp2_with fail
                refine HIY.out.mono ?_
                rintro e v5 ⟨rfl, hb⟩
                have BX5 := Lib.hid (below_next BX4.out hb)
                have BY5 := Lib.hid (below_next BY4.out hb)
                have HSN := Lib.hid (HSM.out _ hb)
                clear hb HIY BX4 BY4 HSM G7 G8 L7E hl8
                go_wp2_with fail
                refine HSN.out.mono ?_
                rintro e v6 ⟨rfl, hb⟩
                have BX6 := Lib.hid (below_next BX5.out hb)
                have BY6 := Lib.hid (below_next BY5.out hb)
                have z27 := (Kept.of_below BX6.out).heap H27.out (by simp)
                have z28 := (Kept.of_below BX6.out).heap H28.out (by simp)
                have z29 := (Kept.of_below BX6.out).heap H29.out (by simp)
                obtain ⟨s0, s1⟩ := cells2 z27
                obtain ⟨s2, s3⟩ := cells2 z28
                obtain ⟨s4, s5⟩ := cells2 z29
                clear hb HSN BX5 BY5 z27 z28 z29 HK1 HK2
                go_upto_region 38 with (refine wpList_nets rfl (.tmp 262) (.tmp 263) (.tmp 264) rfl _ _ _ _ _ _ rfl rfl rfl ?_)
                obtain ⟨W14, hW14⟩ : ∃ W14, v6.alloc (.cells #[.slice D ds.length cd, .slice E ws.length ce, .slice D ds.length cd, .slice WA wt.length cw, .slice V dx.length cv, .slice E ws.length ce] 36) = W14 := ⟨_, rfl⟩
                have hb14 : Below v6.heap.size v6 W14 := by rw [← hW14]; exact below_alloc (Below.refl _ _) _
                have hn14 : W14.heap[v6.heap.size]? = some (.cells #[.slice D ds.length cd, .slice E ws.length ce, .slice D ds.length cd, .slice WA wt.length cw, .slice V dx.length cv, .slice E ws.length ce] 36 (0, 0)) := by rw [← hW14]; exact World.alloc_heap_new _ _
                rw [hW14]
                obtain ⟨h14, hh14⟩ : ∃ h14, v6.heap.size = h14 := ⟨_, rfl⟩
                rw [hh14] at hn14 ⊢
                have HZN := Lib.hid (fun (q : Nat) (hq : q < 3) => (show ∃ (D' : Option Addr) (c1 : Nat) (d' : List Dev) (E' : Option Addr) (c2 : Nat) (w' : List Wir), W14.cell? ⟨h14, q * 2, none⟩ = some (.slice D' d'.length c1) ∧ W14.cell? ⟨h14, q * 2 + 1, none⟩ = some (.slice E' w'.length c2) ∧ (DevsAt W9 D' d' ∧ DsOk d' ∧ d'.length ≤ 1000) ∧ WirsAt W9 E' w' ∧ WsOk w' ∧ w'.length ≤ 1000 from by
                  have hl1 := HLD.out
                  have hl2 := HWL.out
                  rcases (show q = 0 ∨ q = 1 ∨ q = 2 by omega) with rfl | rfl | rfl
                  · exact ⟨_, _, ds, _, _, ws, (cells6 hn14).1, (cells6 hn14).2.1, ⟨DA.out, DO.out, by omega⟩, EA.out, EO.out, by omega⟩
                  · exact ⟨_, _, ds, _, _, wt, (cells6 hn14).2.2.1, (cells6 hn14).2.2.2.1, ⟨DA.out, DO.out, by omega⟩, WW8.out, WTO.out.1, WTO.out.2⟩
                  · exact ⟨_, _, dx, _, _, ws, (cells6 hn14).2.2.2.2.1, (cells6 hn14).2.2.2.2.2, ⟨DV.out, DXO.out.1, DXO.out.2⟩, EA.out, EO.out, by omega⟩))
                have BX7 := Lib.hid (below_next BX6.out hb14)
                have BY7 := Lib.hid (below_next BY6.out hb14)
                clear hW14 hb14 hn14 hh14 s0 s1 s2 s3 s4 s5 BX6 BY6
                go_loopw [57, 58, 59, 60, 61, 62, 63, 64, 65, 66, 67, 267] (fun _ _ _ _ _ _ _ _ _ _ _ q wr => ∃ q' : Nat, q' ≤ 3 ∧ q = .int .i64 (q' : Int) ∧ Below W14.heap.size W14 wr) (fun _ _ _ _ _ _ _ _ _ _ _ q _ => 4 - (intOf q).toNat)
                case atStart => exact ⟨0, by omega, rfl, Below.refl _ _⟩
                case round =>
                  obtain ⟨q, hq3, rfl, hB⟩ := hrel
                  have HB := Lib.hid hB
                  clear hB
                  by_cases hq : q < 3
                  · as_aux_lemma =>
                    have hqI : (q : Int) < 3 := by omega
                    have hq0 : (0 : Int) ≤ (q : Int) := by omega
                    obtain ⟨D1, e1, dd, E1, f1, ww, hc1, hc2, ⟨hD, hDO, hDL⟩, hE, hEO, hEL⟩ := HZN.out q hq
                    have r0 := cell_then HB.out hc1
                    have r1 := cell_then HB.out hc2
                    obtain ⟨PL, perr2, hpl, hp1, hp2⟩ := both_ports Am cm m y E1 f1 ww W9 GM.out SM.out IY.out hE hEO hEL
                    obtain ⟨ka, kb, kc, kd, kerr2, ⟨hk1, hk2, hk3, hk4⟩, hk5, hk6⟩ := both_collapse Am cm m y D1 e1 dd E1 f1 ww W9 GM.out SM.out IY.out hD hDO hDL hE hEO hEL
                    have HP1 := Lib.hid hp1
                    have HP2 := Lib.hid hp2
                    have HQ1 := Lib.hid hk5
                    have HQ2 := Lib.hid hk6
                    have HK := Lib.hid (And.intro hk1 (And.intro hk2 (And.intro hk3 hk4)))
                    clear hp1 hp2 hk1 hk2 hk3 hk4 hk5 hk6 hc1 hc2 hD hDO hDL hE hEO hEL
                    have BX := Lib.hid (below_next BX7.out HB.out)
                    go_upto_region 40 with fail
                    obtain ⟨W15, hW15⟩ : ∃ W15, wr.alloc (.cells #[.slice D1 dd.length e1, .slice E1 ww.length f1] 36) = W15 := ⟨_, rfl⟩
                    have hb15 : Below wr.heap.size wr W15 := by rw [← hW15]; exact below_alloc (Below.refl _ _) _
                    have s0 : W15.cell? ⟨wr.heap.size, 0, none⟩ = some (.slice D1 dd.length e1) := by rw [← hW15]; exact new_cell rfl
                    have s1 : W15.cell? ⟨wr.heap.size, 1, none⟩ = some (.slice E1 ww.length f1) := by rw [← hW15]; exact new_cell rfl
                    have BX := Lib.hid (below_next BX.out hb15)
                    have BY := Lib.hid (below_next HB.out hb15)
                    rw [hW15]
                    obtain ⟨h57, hh57⟩ : ∃ h57, wr.heap.size = h57 := ⟨_, rfl⟩
                    rw [hh57] at s0 s1 ⊢
                    clear hW15 hb15 hh57 r0 r1 HB
                    go_wp2_with fail
                    refine (HP1.out _ BX.out).mono ?_
                    rintro e v8 ⟨A5, c5, rfl, hi5, hb⟩
                    have BX1 := Lib.hid (below_next BX.out hb)
                    have BY1 := Lib.hid (below_next BY.out hb)
                    have I5 := Lib.hid hi5
                    have s0 := cell_then hb s0
                    have s1 := cell_then hb s1
                    clear hb hi5 BX BY HP1
                    go_wp2_with fail
                    refine (HP2.out _ BX1.out).mono ?_
                    rintro e v9 ⟨A6, c6, rfl, hi6, hb⟩
                    have BX2 := Lib.hid (below_next BX1.out hb)
                    have BY2 := Lib.hid (below_next BY1.out hb)
                    have I5 := Lib.hid (I5.out.then_ hb)
                    have I6 := Lib.hid hi6
                    have s0 := cell_then hb s0
                    have s1 := cell_then hb s1
                    clear hb hi6 BX1 BY1 HP2
                    go_wp2_with fail
                    refine (HQ1.out _ BX2.out).mono ?_
                    rintro e v10 ⟨a1, b1, a2, b2, a3, b3, a4, b4, rfl, n1, n2, hb⟩
                    have BX3 := Lib.hid (below_next BX2.out hb)
                    have BY3 := Lib.hid (below_next BY2.out hb)
                    have I5 := Lib.hid (I5.out.then_ hb)
                    have I6 := Lib.hid (I6.out.then_ hb)
                    have N1 := Lib.hid n1
                    have N2 := Lib.hid n2
                    have s0 := cell_then hb s0
                    have s1 := cell_then hb s1
                    unfold nv
                    clear hb BX2 BY2 HQ1 n1 n2
                    go_upto_region 43 with fail
                    obtain ⟨W16, hW16⟩ : ∃ W16, (v10.alloc (.cells #[.slice a1 ka.length b1, .slice a2 kb.length b2] 36)).alloc (.cells #[.slice a3 kc.length b3, .slice a4 kd.length b4] 36) = W16 := ⟨_, rfl⟩
                    have hb16 : Below v10.heap.size v10 W16 := by rw [← hW16]; exact below_alloc (below_alloc (Below.refl _ _) _) _
                    have t0 : W16.cell? ⟨v10.heap.size, 0, none⟩ = some (.slice a1 ka.length b1) := by rw [← hW16]; exact keep_alloc _ (new_cell rfl)
                    have t1 : W16.cell? ⟨v10.heap.size, 1, none⟩ = some (.slice a2 kb.length b2) := by rw [← hW16]; exact keep_alloc _ (new_cell rfl)
                    have hz16 : (v10.alloc (.cells #[.slice a1 ka.length b1, .slice a2 kb.length b2] 36)).heap.size = v10.heap.size + 1 := World.size_alloc _ _
                    have t2 : W16.cell? ⟨v10.heap.size + 1, 0, none⟩ = some (.slice a3 kc.length b3) := by rw [← hW16, ← hz16]; exact new_cell rfl
                    have t3 : W16.cell? ⟨v10.heap.size + 1, 1, none⟩ = some (.slice a4 kd.length b4) := by rw [← hW16, ← hz16]; exact new_cell rfl
                    have BX4 := Lib.hid (below_next BX3.out hb16)
                    have BY4 := Lib.hid (below_next BY3.out hb16)
                    have I5 := Lib.hid (I5.out.then_ hb16)
                    have I6 := Lib.hid (I6.out.then_ hb16)
                    have N1 := Lib.hid (N1.out.then_ hb16)
                    have N2 := Lib.hid (N2.out.then_ hb16)
                    have s0 := cell_then hb16 s0
                    have s1 := cell_then hb16 s1
                    rw [hW16]
                    obtain ⟨h62, hh62⟩ : ∃ h62, v10.heap.size = h62 := ⟨_, rfl⟩
                    rw [hh62] at t0 t1 t2 t3 ⊢
                    obtain ⟨h63, hh63⟩ : ∃ h63, h62 + 1 = h63 := ⟨_, rfl⟩
                    rw [hh63] at t2 t3 ⊢
                    clear hW16 hb16 hh62 hz16 hh63 BX3 BY3
                    go_wp2_with fail
                    refine (HQ2.out _ BX4.out).mono ?_
                    rintro e v11 ⟨x1, y1, x2, y2, x3, y3, x4, y4, rfl, n1, n2, hb⟩
                    have BY5 := Lib.hid (below_next BY4.out hb)
                    have I5 := Lib.hid (I5.out.then_ hb)
                    have I6 := Lib.hid (I6.out.then_ hb)
                    have N1 := Lib.hid (N1.out.then_ hb)
                    have N2 := Lib.hid (N2.out.then_ hb)
                    have M1 := Lib.hid n1
                    have M2 := Lib.hid n2
                    have t0 := cell_then hb t0
                    have t1 := cell_then hb t1
                    have t2 := cell_then hb t2
                    have t3 := cell_then hb t3
                    unfold nv
                    clear hb BX4 BY4 HQ2 n1 n2 s0 s1
                    go_upto_region 44 with fail
                    obtain ⟨W17, hW17⟩ : ∃ W17, (v11.alloc (.cells #[.slice x1 ka.length y1, .slice x2 kb.length y2] 36)).alloc (.cells #[.slice x3 kc.length y3, .slice x4 kd.length y4] 36) = W17 := ⟨_, rfl⟩
                    have hb17 : Below v11.heap.size v11 W17 := by rw [← hW17]; exact below_alloc (below_alloc (Below.refl _ _) _) _
                    have u0 : W17.cell? ⟨v11.heap.size, 0, none⟩ = some (.slice x1 ka.length y1) := by rw [← hW17]; exact keep_alloc _ (new_cell rfl)
                    have u1 : W17.cell? ⟨v11.heap.size, 1, none⟩ = some (.slice x2 kb.length y2) := by rw [← hW17]; exact keep_alloc _ (new_cell rfl)
                    have hz17 : (v11.alloc (.cells #[.slice x1 ka.length y1, .slice x2 kb.length y2] 36)).heap.size = v11.heap.size + 1 := World.size_alloc _ _
                    have u2 : W17.cell? ⟨v11.heap.size + 1, 0, none⟩ = some (.slice x3 kc.length y3) := by rw [← hW17, ← hz17]; exact new_cell rfl
                    have u3 : W17.cell? ⟨v11.heap.size + 1, 1, none⟩ = some (.slice x4 kd.length y4) := by rw [← hW17, ← hz17]; exact new_cell rfl
                    have BY6 := Lib.hid (below_next BY5.out hb17)
                    have HSP := Lib.hid (sameports_yes A5 A6 c5 c6 PL W17 (I5.out.then_ hb17) (I6.out.then_ hb17) hpl)
                    have N1 := Lib.hid (N1.out.then_ hb17)
                    have N2 := Lib.hid (N2.out.then_ hb17)
                    have M1 := Lib.hid (M1.out.then_ hb17)
                    have M2 := Lib.hid (M2.out.then_ hb17)
                    have t0 := cell_then hb17 t0
                    have t1 := cell_then hb17 t1
                    have t2 := cell_then hb17 t2
                    have t3 := cell_then hb17 t3
                    rw [hW17]
                    obtain ⟨h65, hh65⟩ : ∃ h65, v11.heap.size = h65 := ⟨_, rfl⟩
                    rw [hh65] at u0 u1 u2 u3 ⊢
                    obtain ⟨h66, hh66⟩ : ∃ h66, h65 + 1 = h66 := ⟨_, rfl⟩
                    rw [hh66] at u2 u3 ⊢
                    have HN1 := Lib.hid (fun W (hW : Below W17.heap.size W17 W) => samenets_yes _ _ _ _ ka kb W (N1.out.then_ hW) (M1.out.then_ hW) HK.out.1 HK.out.2.1)
                    have HN2 := Lib.hid (fun W (hW : Below W17.heap.size W17 W) => samenets_yes _ _ _ _ kc kd W (N2.out.then_ hW) (M2.out.then_ hW) HK.out.2.2.1 HK.out.2.2.2)
                    unfold nv at HN1 HN2
                    clear hW17 hb17 hh65 hz17 hh66 BY5 I5 I6 N1 N2 M1 M2 HK hpl
                    go_wp2_with fail
                    refine HSP.out.mono ?_
                    rintro e v12 ⟨rfl, hb⟩
                    have BZ1 := Lib.hid hb
                    have t0 := cell_then hb t0
                    have t1 := cell_then hb t1
                    have t2 := cell_then hb t2
                    have t3 := cell_then hb t3
                    have u0 := cell_then hb u0
                    have u1 := cell_then hb u1
                    have u2 := cell_then hb u2
                    have u3 := cell_then hb u3
                    clear hb HSP
                    go_wp2_with fail
                    refine (HN1.out _ BZ1.out).mono ?_
                    rintro e v13 ⟨rfl, hb⟩
                    have BZ2 := Lib.hid (below_next BZ1.out hb)
                    have t2 := cell_then hb t2
                    have t3 := cell_then hb t3
                    have u2 := cell_then hb u2
                    have u3 := cell_then hb u3
                    clear hb HN1 BZ1 t0 t1 u0 u1
                    go_wp2_with fail
                    refine (HN2.out _ BZ2.out).mono ?_
                    rintro e v14 ⟨rfl, hb⟩
                    have BZ3 := Lib.hid (below_next BY6.out (below_next BZ2.out hb))
                    clear hb HN2 BZ2 t2 t3 u2 u3
                    go_wp2_with fail
                    exact ⟨⟨q + 1, by omega, by go_num, BZ3.out⟩, by simp [intOf]; omega⟩
                  · as_aux_lemma =>
                    have hqI : ¬ (q : Int) < 3 := by omega
                    have BY8 := Lib.hid (below_next BY7.out HB.out)
                    go_wp2_with fail
                    exact ⟨⟨j + 1, by omega, by go_num, BY8.out⟩, by simp [intOf]; omega⟩
              · as_aux_lemma =>
                have hjI : ¬ (j : Int) < 2 := by omega
                have HB14 := Lib.hid (below_next HB13.out HB.out)
                go_wp2_with fail
                exact ⟨⟨i + 1, by omega, by go_num, HB14.out⟩, by simp [intOf]; omega⟩
      · as_aux_lemma =>
        have hiI : ¬ (i : Int) < 3 := by omega
        have BZ := Lib.hid (below_next B9.out HB.out)
        go_wp2_with fail
        go_ret
        exact ⟨rfl, BZ.out⟩
end Go.Proofs.Ytebfenkjipaedaa.Gr
