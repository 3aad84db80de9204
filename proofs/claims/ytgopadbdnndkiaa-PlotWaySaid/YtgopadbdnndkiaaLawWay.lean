/- The law PlotWay. PlotWay: the way along all pulls is the lifted way, and the ways of all strokes together; no condition beyond the row of the statement. -/
import Derived.Test.YtgopadbdnndkiaaPk
import Derived.Test.YtgopadbdnndkiaaPl
import Derived.Test.YtgopadbdnndkiaaFramePl
namespace Go.Proofs.Ytgopadbdnndkiaa.Pt
open Go.RowKit Str
attribute [local go_sem] Oper.semAt_some
theorem sm_bd {f : Nat → Int} {b : Int} (h : ∀ i, 0 ≤ f i ∧ f i ≤ b) : ∀ (k : Nat), 0 ≤ sm f (List.range k) ∧ sm f (List.range k) ≤ b * k
  | 0 => by simp [sm]
  | k + 1 => by
    have h1 := sm_bd h k
    have h2 := h k
    have e : b * ((k + 1 : Nat) : Int) = b * (k : Int) + b := by rw [show ((k + 1 : Nat) : Int) = (k : Int) + 1 from rfl, Int.mul_add, Int.mul_one]
    rw [sm_range, e]
    omega
/-- the way of stroke i, 0 beyond the page -/
def wayI (l : List Stk) (i : Nat) : Int := if i < l.length then wayF (l.getD i stk0).D else 0
theorem wayI_bd {l : List Stk} (hO : PageOk l) (i : Nat) : 0 ≤ wayI l i ∧ wayI l i ≤ 819000 := by
  unfold wayI
  split
  · next h =>
    have hv := hO.each i h
    have hl := (vstr hv).2.2
    have := way_bd (placed (validB_dots hv)) ((l.getD i stk0).D.length - 1) (by omega)
    rw [wayF]
    omega
  · omega
theorem sm_congr {f g : Nat → Int} : ∀ {a : List Nat}, (∀ i ∈ a, f i = g i) → sm f a = sm g a
  | [], _ => rfl
  | i :: a, h => by rw [sm_cons, sm_cons, h i (by simp), sm_congr (fun j hj => h j (by simp [hj]))]
theorem take_pxy {L : List Pul} {k : Nat} (h : k < L.length) : (L.take (k + 1)).map pxy = (L.take k).map pxy ++ [((L.getD k pul0).x, (L.getD k pul0).y)] := by rw [take_pul h, List.map_append]; rfl
theorem pl_snoc (p q : Int × Int) (a : List (Int × Int)) : pl p (a ++ [q]) = pl p a + gapI (lastP p a).1 (lastP p a).2 q.1 q.2 := by
  rw [pl_append, pl, pl]; omega
theorem pl_bd' {p : Int × Int} : ∀ {a : List (Int × Int)}, ((0 ≤ p.1 ∧ p.1 ≤ 4095) ∧ (0 ≤ p.2 ∧ p.2 ≤ 4095)) → (∀ q ∈ a, (0 ≤ q.1 ∧ q.1 ≤ 4095) ∧ (0 ≤ q.2 ∧ q.2 ≤ 4095)) → 0 ≤ pl p a ∧ pl p a ≤ 4095 * a.length
  | [], _, _ => by simp [pl]
  | q :: t, h, ha => by
    have h1 := ha q (by simp)
    have h2 := pl_bd' (p := q) (a := t) h1 (fun x hx => ha x (by simp [hx]))
    have h3 := gapI_bd h.1 h.2 h1.1 h1.2
    rw [pl, List.length_cons]
    push_cast
    omega
theorem lastP_bd : ∀ {a : List (Int × Int)} {p : Int × Int}, ((0 ≤ p.1 ∧ p.1 ≤ 4095) ∧ (0 ≤ p.2 ∧ p.2 ≤ 4095)) → (∀ q ∈ a, (0 ≤ q.1 ∧ q.1 ≤ 4095) ∧ (0 ≤ q.2 ∧ q.2 ≤ 4095)) → (0 ≤ (lastP p a).1 ∧ (lastP p a).1 ≤ 4095) ∧ (0 ≤ (lastP p a).2 ∧ (lastP p a).2 ≤ 4095)
  | [], _, h, _ => h
  | q :: t, p, _, ha => by
    show (0 ≤ (lastP q t).1 ∧ _) ∧ _
    exact lastP_bd (ha q (by simp)) (fun x hx => ha x (by simp [hx]))
set_option maxRecDepth 100000 in
set_option maxHeartbeats 8000000 in
theorem way_law (X : Option Addr) (cx : Nat) (rows : List Row3) (Y : Option Addr) (cy : Nat) (ys : List Int) (w : World) (hR : RowsAt w X rows) (hc : rows.length ≤ cx) (hm : rows.length ≤ 9223372036854775807) (hY : IntsAt w Y ys) (hI : ∀ y ∈ ys, I64 y) (hcy : ys.length ≤ cy) (hyl : ys.length ≤ 9223372036854775807) :
    Calls Try.prog 8 #[.slice X rows.length cx, .slice Y ys.length cy] w fun e w' => e = .returned (.bool true) ∧ Below w.heap.size w w' := by
  have HSA := Lib.hid (sane_any w)
  have HMA := Lib.hid (fun W (hW : Below w.heap.size w W) => made26_any X cx rows W (hR.then_ hW) hc hm)
  have HRI := Lib.hid (fun W (hW : Below w.heap.size w W) A c l (hP : PageAt W A l) (hO : PageOk l) (hc : l.length ≤ c) => rides26_any A c l Y cy ys W hP hO hc (hY.then_ hW) hI hcy hyl)
  clear hR hY hI hc hm hcy hyl
  go_enter Try.func8, Try.ntmps8
  go_wp2_with fail
  refine HSA.out.mono ?_
  rintro e w1 ⟨rfl, b1⟩
  have HB1 := Lib.hid b1
  have HM1 := Lib.hid (HMA.out _ b1)
  clear b1
  go_wp2_with fail
  refine HM1.out.mono ?_
  rintro e w2 ⟨A, c, l, rfl, hmp, -, hp, hlc, b2⟩
  have hO := hmp.ok
  have HO := Lib.hid hO
  have HP := Lib.hid hp
  have HB2 := Lib.hid (below_next HB1.out b2)
  have HR2 := Lib.hid (HRI.out _ HB2.out A c l hp hO hlc)
  have hlc' : (l.length : Int) ≤ (c : Int) := by omega
  have hl9 : (l.length : Int) ≤ 9 := by have := hO.len; omega
  clear b2 hmp hO hp HM1 HMA HSA
  go_wp2_with fail
  refine HR2.out.mono ?_
  rintro e w3 ⟨v3, rs, rfl, hF, hrl, own3, b3⟩
  obtain ⟨AR, cR, rfl, hcR⟩ := own_slice own3
  have hcR2 : rs.length ≤ cR := by omega
  have hrd : RdsAt w3 AR (rs.map (rdv l)) := rds_of_own own3
  have HRD := Lib.hid hrd
  have HF := Lib.hid hF
  have HRL := Lib.hid hrl
  have HB3 := Lib.hid (below_next HB2.out b3)
  have HP3 := Lib.hid (HP.out.then_ b3)
  have hpu := pulls_any A c l AR cR rs w3 HP3.out HO.out hrd hF hcR2 hrl
  have hlf := fun W (hW : Below w3.heap.size w3 W) => lifted_any A c l AR cR rs W (HP3.out.then_ hW) HO.out (hrd.then_ hW) hF hcR2 hrl
  rw [hrl] at hpu
  simp only [hrl] at hlf
  have HPU := Lib.hid hpu
  have HLF := Lib.hid hlf
  clear own3 b3 hrd hF hpu hlf HR2 HRI hrl
  go_wp2_with fail
  refine HPU.out.mono ?_
  rintro e w4 ⟨v4, rfl, own4, b4⟩
  obtain ⟨AP, cP, rfl, hcP⟩ := own_slice own4
  have hpl : (pulsR l rs).length ≤ 1800 := by
    have := pulsR_length HO.out (rs := rs) (fresh_mem HF.out)
    rw [HRL.out] at this
    omega
  have hpc : ((pulsR l rs).length : Int) ≤ (cP : Int) := by omega
  have hpl' : ((pulsR l rs).length : Int) ≤ 1800 := by omega
  have HPS := Lib.hid (puls_of_own own4)
  have HB4 := Lib.hid (below_next HB3.out b4)
  have HL4 := Lib.hid (HLF.out _ b4)
  have HP4 := Lib.hid (HP3.out.then_ b4)
  have HWA := Lib.hid (way_all HO.out HF.out HRL.out)
  have HBD := Lib.hid (fun q (hq : q ∈ (pulsR l rs).map pxy) => show (0 ≤ q.1 ∧ q.1 ≤ 4095) ∧ (0 ≤ q.2 ∧ q.2 ≤ 4095) from by
    obtain ⟨u, hu, rfl⟩ := List.mem_map.1 hq
    exact pulsR_bd HO.out (fresh_mem HF.out) u hu)
  have hfb := lift_bd HO.out (rs := rs) (p := (0, 0)) (by simp) (fresh_mem HF.out)
  have hfb2 : 0 ≤ lift l (0, 0) rs ∧ lift l (0, 0) rs ≤ 36855 := by rw [HRL.out] at hfb; omega
  obtain ⟨F, hF⟩ : ∃ F, lift l (0, 0) rs = F := ⟨_, rfl⟩
  rw [hF] at HL4 HWA hfb2
  obtain ⟨L, hL⟩ : ∃ L, pulsR l rs = L := ⟨_, rfl⟩
  rw [hL] at hpl hpc hpl' HPS HWA HBD ⊢
  clear own4 b4 HPU HLF hF hL hfb hpl
  go_wp2_with fail
  refine HL4.out.mono ?_
  rintro e w5 ⟨rfl, b5⟩
  have HP5 := Lib.hid (HP4.out.then_ b5)
  have HB5 := Lib.hid (below_next HB4.out b5)
  have HPS5 := Lib.hid (HPS.out.then_ b5)
  clear b5 HL4
  go_wp2_with fail
  go_loopw [10, 12] (fun v j wr => ∃ k : Nat, k ≤ l.length ∧ j = .int .i64 (k : Int) ∧ v = .int .i64 (F + sm (wayI l) (List.range k)) ∧ Below w5.heap.size w5 wr) (fun _ j _ => l.length - (intOf j).toNat)
  case atStart => exact ⟨0, by omega, rfl, by simp [sm], Below.refl _ _⟩
  case round =>
    obtain ⟨k, hk, rfl, rfl, hB⟩ := hrel
    have hsb := sm_bd (wayI_bd HO.out) k
    obtain ⟨Q, hQ⟩ : ∃ Q, sm (wayI l) (List.range k) = Q := ⟨_, rfl⟩
    rw [hQ] at hsb
    have hQb : 0 ≤ Q ∧ Q ≤ 7371000 := by omega
    rw [hQ]
    by_cases hlt : k < l.length
    · have hv := HO.out.each k hlt
      have hcs := HO.out.cap k hlt
      have hwi : wayI l k = wayF (l.getD k stk0).D := by rw [wayI, if_pos hlt]
      have hwb := wayI_bd HO.out k
      have hnx := sm_range (wayI l) k
      obtain ⟨s, hs⟩ : ∃ s, l.getD k stk0 = s := ⟨_, rfl⟩
      obtain ⟨b, o, rfl, hS⟩ := (HP5.out.then_ hB) k hlt
      rw [hs] at hv hcs hS hwi
      rw [hQ, hwi] at hnx
      rw [hwi] at hwb
      have c0 := hS.p
      have c1 := hS.n
      have c2 := hS.d
      have HC := Lib.hid (way_yes s.P s.N s.A s.c s.D wr hS.dots hv)
      obtain ⟨Z, hZ⟩ : ∃ Z, wayF s.D = Z := ⟨_, rfl⟩
      rw [hZ] at HC hnx hwb
      have HNX := Lib.hid hnx
      have hkl : (k : Int) < (l.length : Int) := by omega
      have hk0 : (0 : Int) ≤ (k : Int) := by omega
      have HB := Lib.hid hB
      clear hv hcs hs hS hB hwi hnx hZ hQ hsb
      go_wp2_with fail
      refine HC.out.mono ?_
      rintro e w6 ⟨rfl, b6⟩
      have HB6 := Lib.hid (below_next HB.out b6)
      clear b6 HC
      go_wp2_with fail
      exact ⟨⟨k + 1, by omega, by go_num, by rw [HNX.out, Int.add_assoc], HB6.out⟩, by simp [intOf]; omega⟩
    · obtain rfl : k = l.length := by omega
      have hend : pl (0, 0) (L.map pxy) = F + Q := by
        rw [HWA.out, ← hQ]
        congr 1
        exact sm_congr fun i hi => by rw [wayI, if_pos (List.mem_range.1 hi)]
      have HEND := Lib.hid hend
      have HB6 := Lib.hid hB
      have HPS6 := Lib.hid (HPS5.out.then_ hB)
      clear hB hlt hend hQ hsb
      go_wp2_with fail
      obtain ⟨w7, hw7⟩ : ∃ w7, w7 = wr := ⟨_, rfl⟩
      subst hw7
      have hV : Var2 (w7.alloc (.cells #[.int .i64 0, .int .i64 0] 56)) w7.heap.size := Var2.of (v0 := .int .i64 0) (v1 := .int .i64 0) ⟨by simp [go_sem], by simp [go_sem]⟩ ⟨by simp [go_sem], by simp [go_sem]⟩
      go_loopw [16, 17] (fun v j wr => ∃ k : Nat, k ≤ L.length ∧ j = .int .i64 (k : Int) ∧ v = .int .i64 (pl (0, 0) ((L.take k).map pxy)) ∧ wr.cell? ⟨w7.heap.size, 0, none⟩ = some (.int .i64 (lastP (0, 0) ((L.take k).map pxy)).1) ∧ wr.cell? ⟨w7.heap.size, 1, none⟩ = some (.int .i64 (lastP (0, 0) ((L.take k).map pxy)).2) ∧ Var2 wr w7.heap.size ∧ Below w7.heap.size w7 wr) (fun _ j _ => L.length - (intOf j).toNat)
      case atStart => exact ⟨0, by omega, rfl, rfl, by simp [go_sem, lastP], by simp [go_sem, lastP], hV, below_alloc (Below.refl _ _) _⟩
      case round =>
        obtain ⟨k, hk, rfl, rfl, hx, hy, hVr, hBr⟩ := hrel
        clear hV
        by_cases hlt : k < L.length
        · have hsub : ∀ q ∈ (L.take k).map pxy, (0 ≤ q.1 ∧ q.1 ≤ 4095) ∧ (0 ≤ q.2 ∧ q.2 ≤ 4095) := fun q hq => by
            obtain ⟨u, hu, rfl⟩ := List.mem_map.1 hq
            exact HBD.out _ (List.mem_map.2 ⟨u, List.mem_of_mem_take hu, rfl⟩)
          have hlb := lastP_bd (a := (L.take k).map pxy) (p := (0, 0)) (by simp) hsub
          have hpb := pl_bd' (a := (L.take k).map pxy) (p := (0, 0)) (by simp) hsub
          rw [List.length_map, List.length_take, Nat.min_eq_left hk] at hpb
          have hub := HBD.out ((L.getD k pul0).x, (L.getD k pul0).y) (List.mem_map.2 ⟨L.getD k pul0, by simp only [List.getD, List.getElem?_eq_getElem hlt, Option.getD_some]; exact List.getElem_mem _, rfl⟩)
          have hnp := pl_snoc (0, 0) ((L.getD k pul0).x, (L.getD k pul0).y) ((L.take k).map pxy)
          have hnl := lastP_snoc (0, 0) ((L.getD k pul0).x, (L.getD k pul0).y) ((L.take k).map pxy)
          rw [← take_pxy hlt] at hnp hnl
          obtain ⟨b, o, rfl, c0, c1, c2⟩ := (HPS6.out.then_ hBr) k hlt
          obtain ⟨u, hu⟩ : ∃ u, L.getD k pul0 = u := ⟨_, rfl⟩
          rw [hu] at c0 c1 c2 hub hnp hnl
          obtain ⟨ud, ux, uy⟩ := u
          dsimp only at c0 c1 c2 hub hnp hnl
          obtain ⟨X1, hX1⟩ : ∃ X1, (lastP (0, 0) ((L.take k).map pxy)).1 = X1 := ⟨_, rfl⟩
          obtain ⟨Y1, hY1⟩ : ∃ Y1, (lastP (0, 0) ((L.take k).map pxy)).2 = Y1 := ⟨_, rfl⟩
          obtain ⟨G, hG⟩ : ∃ G, pl (0, 0) ((L.take k).map pxy) = G := ⟨_, rfl⟩
          rw [hX1] at hx hlb hnp
          rw [hY1] at hy hlb hnp
          rw [hG] at hpb hnp ⊢
          have hgb := gapI_bd hlb.1 hlb.2 hub.1 hub.2
          have HGP := Lib.hid (fun d os => pgap_any X1 Y1 ux uy (Sort.grow (redrawn wr d) os) hlb.1 hlb.2 hub.1 hub.2)
          unfold pv at HGP
          obtain ⟨I, hI⟩ : ∃ I, gapI X1 Y1 ux uy = I := ⟨_, rfl⟩
          rw [hI] at HGP hnp hgb
          have HNP := Lib.hid hnp
          have HNL := Lib.hid hnl
          have HVR := Lib.hid hVr
          have HBR := Lib.hid hBr
          have g_1 := fun D os => cell_regrown hx D os
          have g_2 := fun D os => cell_regrown hy D os
          have g_3 := fun D os => cell_regrown c0 D os
          have g_4 := fun D os => cell_regrown c1 D os
          have g_5 := fun D os => cell_regrown c2 D os
          have C1 := Lib.hid c1
          have C2 := Lib.hid c2
          have hkl : (k : Int) < (L.length : Int) := by omega
          have hk0 : (0 : Int) ≤ (k : Int) := by omega
          have hGb : 0 ≤ G ∧ G ≤ 7371000 := by omega
          have hbl := lt_size c1
          have hgl := lt_size hx
          have hne : b < w7.heap.size := by
            obtain ⟨b', o', e', d0, _⟩ := HPS6.out k hlt
            injection e' with e'
            injection e' with e1 e2
            rw [e1]; exact lt_size d0
          clear hx hy hVr hBr hX1 hY1 hG hI hu hsub hpb hnp hnl hlb hub c0 c1 c2
          go_wp2_with fail
          refine wp_region_quiet_below (by kernel_rfl) (by kernel_rfl) ?_
          repeat (go_big_quiet_step (first | (with_reducible exact Calls.regrown_of (HGP.out _ _))))
          refine wpQuiet_nil ?_
          intro wq hq0
          have hq := below_of_class hq0
          clear hq0
          clear HGP g_1 g_2 g_3 g_4 g_5
          have d1 := cell_then hq C1.out
          have d2 := cell_then hq C2.out
          have V3 := HVR.out.then_ hq
          have z0 := V3.c0
          have z1 := V3.c1
          have f0 := V3.f0
          have f1 := V3.f1
          have HV3 := Lib.hid V3
          have HB3 := Lib.hid (below_next HBR.out hq)
          have hgq := lt_size z0
          clear hq V3
          go_wp2_with fail
          refine ⟨⟨k + 1, by omega, by go_num, by rw [HNP.out], by rw [HNL.out]; exact set_cell (set_same z0) (by omega), by rw [HNL.out]; exact set_same (set_cell z1 (by omega)), (HV3.out.set_ _ _).set_ _ _, (HB3.out.setCell (Nat.le_refl _) _).setCell (Nat.le_refl _) _⟩, by simp [intOf]; omega⟩
        · obtain rfl : k = L.length := by omega
          rw [List.take_length, HEND.out]
          have HBZ := Lib.hid (below_next HB5.out (below_next HB6.out hBr))
          clear hx hy hVr hBr hlt
          have hq := beq_self_eq_true (F + Q)
          go_wp2_with fail
          go_ret
          exact ⟨rfl, HBZ.out⟩
end Go.Proofs.Ytgopadbdnndkiaa.Pt
namespace Go.Proofs.Ytgopadbdnndkiaa.lawPlotWay
open Go.ChangeShapes Go.WideShapes Go.ChangeAt Go.RowKit
open Go.ChangeMaps (open_string shut_string)

theorem readable : ∀ t ∈ (#[22, 23] : Array TypeId).toList, Try.prog.readableRec t = true ∧ t < Try.prog.types.size := by
  intro t ht
  simp only [List.mem_cons, List.not_mem_nil, or_false] at ht
  rcases ht with rfl | rfl
  · exact ⟨by kernel_rfl, of_decide_eq_true (by kernel_rfl)⟩
  · exact ⟨by kernel_rfl, of_decide_eq_true (by kernel_rfl)⟩
set_option maxRecDepth 100000 in
theorem contract (H : Type) (enc : TypeId × Value → H) (W : World) (base : Nat) (args : Array Value) (ds gs : List (DataW H)) (before : List MemPlace)
    (hval : ∀ (j : Nat) t v, Try.f8.params[j]? = some t → args[j]? = some v → Value.okWide Try.prog W .any base t v)
    (hW : DataW.Whole enc Try.prog Try.f8.params.toList Rows.plotWaySpec.vars false W args.toList ds gs before) :
    Calls Try.prog 8 args W fun e W' => ∃ v, e = .returned v ∧ Rows.plotWaySpec.post enc Try.prog Try.f8 false true false false W args v W' := by
  have hW' := hW
  obtain ⟨p, q, hA0, hV, rfl, hfz, hnd⟩ := hW
  have hA : DataW.TrodAll enc Try.prog W 0 (fun _ => true) true Try.f8.params.toList args.toList ds p := hA0
  rw [Try.params8] at hA hval
  obtain ⟨v0, vs0, d0, ds0, p0, q0, hargs, rfl, rfl, h0, r0⟩ := trodAll_cons hA
  obtain ⟨v1, vs1, d1, ds1, p1, q1, rfl, rfl, rfl, h1, r1⟩ := trodAll_cons r0
  obtain ⟨rfl, rfl, rfl⟩ := trodAll_nil r1
  obtain rfl : args = #[v0, v1] := by cases args; simp_all
  obtain ⟨rfl, rfl⟩ := trodVars_none hV
  obtain ⟨X0, c0, rows0, rfl, hR0, hc0, hm0⟩ := open_pages Try.underlying22 Try.underlying70 Try.underlying71 Try.underlying3 (by kernel_rfl) (by kernel_rfl) (by kernel_rfl) (hval 0 22 v0 rfl rfl) h0
  obtain ⟨Y1, k1, ys1, rfl, hY1, hI1, hk1, hn1⟩ := open_nums Try.underlying23 Try.underlying3 (by kernel_rfl) (hval 1 23 v1 rfl rfl) h1
  clear hA0
  refine (Pt.way_law X0 c0 rows0 Y1 k1 ys1 W hR0 hc0 hm0 hY1 hI1 hk1 hn1).mono ?_
  rintro e W' ⟨rfl, hb⟩
  exact ⟨_, rfl, law_post laidOut (by rw [Try.params8]; exact readable) hW' rfl rfl rfl Try.underlying4 hb⟩
theorem reads (os : Os) {H : Type} (enc : TypeId × Value → H) : ∃ places, DataW.whole enc Try.prog ((World.holding Try.prog os ⟨#[], #[], []⟩).forCall (fun _ _ => 0) ⟨#[], #[.slice none 0 0, .slice none 0 0], []⟩).memory Try.f8.params.toList Rows.plotWaySpec.vars false (#[.slice none 0 0, .slice none 0 0] : Array Value).toList 8 = some ([.nil, .nil], [], places) :=
  ⟨[], by kernel_rfl⟩
set_option maxRecDepth 100000 in
theorem lifted (os : Os) (started : os.Started) (H : Type) (enc : TypeId × Value → H) (F : Stop.Interp) :
    ReturnsInHanded {} Try.checked os 8 .any ((OpenSpec.ofChange Rows.plotWaySpec).preRow enc Try.prog Try.f8 Rows.plotWayRow.domain false Rows.plotWayRow.laid) (((OpenSpec.ofChange Rows.plotWaySpec).at F).post enc Try.prog Try.f8 false true false false) := by
  obtain ⟨places, hx⟩ := reads os enc
  refine returnsInHanded_of_row (C := Try.checked) (s := OpenSpec.ofChange Rows.plotWaySpec) own started (by kernel_rfl) Try.func8
    (witness_row_at (enc := enc) (C := Try.checked) false (World.holding Try.prog os ⟨#[], #[], []⟩) #[.slice none 0 0, .slice none 0 0] rfl (by kernel_rfl) (by kernel_rfl) (by kernel_rfl)
      (OpenSpec.preRow_of_cond 8 hx (by kernel_rfl) (fun k hk => by cases hk) (by kernel_rfl) (laid_none _ _))) ?_
  intro W base args ds gs before hval hW _ _ _ hL _ _
  exact contract H enc W base args ds gs before hval hW
theorem said : Rows.PlotWaySaid :=
  OpenClaim.holds_of_cond 8 Try.f8 rfl rfl rfl rfl rfl rfl rfl ⟨rfl, rfl, rfl, rfl, rfl⟩ rfl rfl rfl rfl rfl (by kernel_rfl) Try.func8 (by kernel_rfl)
    (of_decide_eq_true (by kernel_rfl)) (by unfold Func.isWrapper; rw [if_neg (of_decide_eq_false (by kernel_rfl))]; exact ⟨rfl, rfl⟩)
    (fun os started H enc _ F => by rw [OpenClaim.pre_eq_preRow]; exact lifted os started H enc F)
end Go.Proofs.Ytgopadbdnndkiaa.lawPlotWay
