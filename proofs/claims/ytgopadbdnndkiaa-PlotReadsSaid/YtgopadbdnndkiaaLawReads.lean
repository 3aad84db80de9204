/- The law PlotReads. PlotReads: what is read from the pulls of rides are the places of the strokes, in the order of the rides, those that are Back from the last dot to the first one; no condition beyond the row of the statement. -/
import Derived.Test.YtgopadbdnndkiaaPk
import Derived.Test.YtgopadbdnndkiaaPl
import Derived.Test.YtgopadbdnndkiaaPc
import Derived.Deep.RegionHeld3
import Derived.Test.YtgopadbdnndkiaaPn
namespace Go.Proofs.Ytgopadbdnndkiaa.Pt
open Go.RowKit Str
attribute [local go_sem] Oper.semAt_some
theorem own_head {w : World} {base n : Nat} {e : TypeId} {size : Nat} {v : Value} {xs : List Value} (h : w.ownsRow base e size v n xs) : ∃ A c, v = .slice A n c ∧ n ≤ c ∧ (c : Int) ≤ 9223372036854775807 := by
  rcases h.2 with ⟨h1, h2⟩ | ⟨g, cap, cur, h1, _, _, h3, h4, _⟩
  · subst h2
    exact ⟨none, 0, h1, by omega, by omega⟩
  · exact ⟨some ⟨g, 0, none⟩, cap, h1, h3, by unfold maxLen at h4; omega⟩
/-- a stroke in a variable of its own -/
structure StkC (W : World) (g : Nat) (s : Stk) : Prop where
  p : W.cell? ⟨g, 0, none⟩ = some (.int .i64 s.P)
  n : W.cell? ⟨g, 1, none⟩ = some (.int .i64 s.N)
  d : W.cell? ⟨g, 2, none⟩ = some (.slice s.A s.D.length s.c)
  v : Var3 W g
theorem StkC.then_ {W W' : World} {g : Nat} {s : Stk} (h : StkC W g s) (hb : Below W.heap.size W W') : StkC W' g s := ⟨cell_then hb h.p, cell_then hb h.n, cell_then hb h.d, h.v.then_ hb⟩
theorem StkC.new (W : World) (s : Stk) (t : TypeId) : StkC (W.alloc (.cells #[.int .i64 s.P, .int .i64 s.N, .slice s.A s.D.length s.c] t)) W.heap.size s := ⟨new_cell rfl, new_cell rfl, new_cell rfl, Var3.new _ _ _ _ _⟩
theorem StkC.put {W : World} {g : Nat} {s : Stk} (h : StkC W g s) (z : Stk) : StkC (((W.setCell ⟨g, 0, none⟩ (.int .i64 z.P)).setCell ⟨g, 1, none⟩ (.int .i64 z.N)).setCell ⟨g, 2, none⟩ (.slice z.A z.D.length z.c)) g z :=
  ⟨set_cell (set_cell (set_same h.p) (by omega)) (by omega), set_cell (set_same (set_cell h.n (by omega))) (by omega), set_same (set_cell (set_cell h.d (by omega)) (by omega)), ((h.v.set_ _ _).set_ _ _).set_ _ _⟩
theorem code_eq {l : List Stk} (hO : PageOk l) {i j : Nat} (hi : i < l.length) (hj : j < l.length) : (codeI (l.getD i stk0) == codeI (l.getD j stk0)) = decide (i = j) := by
  rw [Bool.eq_iff_iff, beq_iff_eq, decide_eq_true_eq]
  constructor
  · intro h
    rcases Nat.lt_trichotomy i j with h2 | h2 | h2
    · have := asc_lt hO h2 hj; omega
    · exact h2
    · have := asc_lt hO h2 hi; omega
  · rintro rfl; rfl
theorem dot_xy {L : List Dot} {i : Nat} (h : i < L.length) : (L.map xy).getD i (0, 0) = xy (dotAt L i) := by
  simp [List.getD, dotAt, List.getElem?_eq_getElem h]
/-- the dot that a ride draws as its k-th -/
def rdot (r n k : Nat) : Nat := if r % 2 = 1 then n - 1 - k else k
theorem plc_dot (l : List Stk) (r k : Nat) {s : Stk} (hs : l.getD (r / 2) stk0 = s) (hk : k < s.D.length) : (plc l r).getD k (0, 0) = xy (dotAt s.D (rdot r s.D.length k)) := by
  unfold plc rdot
  rw [hs]
  split
  · have h1 := getD_rev (s.D.map xy) k (by simpa using hk)
    rw [← h1, List.length_map]
    exact dot_xy (by omega)
  · exact dot_xy hk
/-- a drawn list, from its header to its places -/
theorem DrawnAt.at_ {w : World} {base n cD : Nat} {AD : Option Addr} {L : List (List (Int × Int))} {hs : List Value} (h : DrawnAt w base (.slice AD n cD) L hs) {i : Nat} (hi : i < L.length) (hp : 0 < (L.getD i []).length) :
    ∃ bD gi ci, AD = some ⟨bD, 0, none⟩ ∧ w.cell? ⟨bD, i, none⟩ = some (.slice (some ⟨gi, 0, none⟩) (L.getD i []).length ci) ∧ (L.getD i []).length ≤ ci ∧ (ci : Int) ≤ 9223372036854775807 ∧ PlsAt w gi (L.getD i []) := by
  have ho := h.own
  obtain ⟨bD, c1, h1, _, _⟩ := ho.form (by omega)
  injection h1 with e1 e2 e3
  subst e1 e2 e3
  have hr := h.row i hi
  obtain ⟨gi, ci, h2, _, _⟩ := hr.form hp
  have hc := ho.cellAt i (by omega)
  have hl := h.len
  have h3 : hs[i]? = some (hs.getD i undef) := by simp [List.getD, List.getElem?_eq_getElem (show i < hs.length by omega)]
  rw [h3, h2] at hc
  rw [h2] at hr
  exact ⟨bD, gi, ci, rfl, hc, (own_cap hr).1, (own_cap hr).2, pls_of_own hr⟩
set_option maxRecDepth 100000 in
set_option maxHeartbeats 8000000 in
theorem reads_law (X : Option Addr) (cx : Nat) (rows : List Row3) (Y : Option Addr) (cy : Nat) (ys : List Int) (w : World) (hR : RowsAt w X rows) (hc : rows.length ≤ cx) (hm : rows.length ≤ 9223372036854775807) (hY : IntsAt w Y ys) (hI : ∀ y ∈ ys, I64 y) (hcy : ys.length ≤ cy) (hyl : ys.length ≤ 9223372036854775807) :
    Calls Try.prog 5 #[.slice X rows.length cx, .slice Y ys.length cy] w fun e w' => e = .returned (.bool true) ∧ Below w.heap.size w w' := by
  have HSA := Lib.hid (fun W => sane_any W)
  have HMA := Lib.hid (fun W (hW : Below w.heap.size w W) => made26_any X cx rows W (hR.then_ hW) hc hm)
  have HRI := Lib.hid (fun W (hW : Below w.heap.size w W) A c l (hP : PageAt W A l) (hO : PageOk l) (hc : l.length ≤ c) => rides26_any A c l Y cy ys W hP hO hc (hY.then_ hW) hI hcy hyl)
  clear hR hY hI hc hm hcy hyl
  go_enter Try.func5, Try.ntmps5
  go_wp2_with fail
  refine (HSA.out _).mono ?_
  rintro e w1 ⟨rfl, b1⟩
  have HB1 := Lib.hid b1
  have HM1 := Lib.hid (HMA.out _ b1)
  clear b1 HSA
  go_wp2_with fail
  refine HM1.out.mono ?_
  rintro e w2 ⟨A, c, l, rfl, hmp, -, hp, hlc, b2⟩
  have hO := hmp.ok
  have HO := Lib.hid hO
  have HP := Lib.hid hp
  have HB2 := Lib.hid (below_next HB1.out b2)
  have HR2 := Lib.hid (HRI.out _ HB2.out A c l hp hO hlc)
  have hlc' : (l.length : Int) ≤ (c : Int) := by omega
  have hl9 : (l.length : Int) ≤ 9 := by have := hO.len; omega
  clear b2 hmp hO hp HM1 HMA
  go_wp2_with fail
  refine HR2.out.mono ?_
  rintro e w3 ⟨v3, rs, rfl, hF, hrl, own3, b3⟩
  obtain ⟨AR, cR, rfl, hcR⟩ := own_slice own3
  have hcR2 : rs.length ≤ cR := by omega
  have hrd : RdsAt w3 AR (rs.map (rdv l)) := rds_of_own own3
  have HRD := Lib.hid hrd
  have HMM := Lib.hid (fresh_mem hF)
  have HRL := Lib.hid hrl
  have HB3 := Lib.hid (below_next HB2.out b3)
  have HP3 := Lib.hid (HP.out.then_ b3)
  have hpu := pulls_any A c l AR cR rs w3 HP3.out HO.out hrd hF hcR2 hrl
  rw [hrl] at hpu
  have HPU := Lib.hid hpu
  have hcR' : (l.length : Int) ≤ (cR : Int) := by omega
  clear own3 b3 hrd hF hpu HR2 HRI hrl
  go_wp2_with fail
  refine HPU.out.mono ?_
  rintro e w4 ⟨v4, rfl, own4, b4⟩
  obtain ⟨AP, cP, rfl, hcP⟩ := own_slice own4
  have hok := puls_ok HO.out HMM.out (by have := HRL.out; omega)
  have HB4 := Lib.hid (below_next HB3.out b4)
  have HP4 := Lib.hid (HP3.out.then_ b4)
  have HRD4 := Lib.hid (HRD.out.then_ b4)
  have hre := read_any AP cP (pulsR l rs) w4 (puls_of_own own4) hok
  rw [rdL, rdL_rides HO.out rs [] HMM.out, List.nil_append] at hre
  have HRE := Lib.hid hre
  clear own4 b4 HPU hok hre HP3 HRD
  go_wp2_with fail
  refine HRE.out.mono ?_
  rintro e w5 ⟨v5, hs, rfl, hD, b5⟩
  obtain ⟨AD, cD, rfl, hcD, hcD2⟩ := own_head hD.own
  have hdl : (rs.map (plc l)).length = l.length := by rw [List.length_map, HRL.out]
  have HDA := Lib.hid hD
  have HB5 := Lib.hid (below_next HB4.out b5)
  have HP5 := Lib.hid (HP4.out.then_ b5)
  have HRD5 := Lib.hid (HRD4.out.then_ b5)
  rw [hdl] at hcD ⊢
  have hcD' : (l.length : Int) ≤ (cD : Int) := by omega
  have q1 : ((l.length : Int) != (l.length : Int)) = false := by simp
  clear hD b5 HRE HP4 HRD4
  go_wp2_with fail
  clear q1
  go_loopw [12, 13, 14, 15, 16] (fun v _ _ _ _ wr => ∃ i : Nat, i ≤ l.length ∧ v = .int .i64 (i : Int) ∧ Below w5.heap.size w5 wr) (fun v _ _ _ _ _ => l.length - (intOf v).toNat)
  case atStart => exact ⟨0, by omega, rfl, Below.refl _ _⟩
  case round =>
    obtain ⟨i, hi, rfl, hB⟩ := hrel
    by_cases hlt : i < l.length
    · obtain ⟨wo, hwo⟩ : ∃ wo, wo = wr := ⟨_, rfl⟩
      subst hwo
      have hir : i < rs.length := by rw [HRL.out]; exact hlt
      have hr := HMM.out _ (getD_mem hir)
      have hrv : (rs.map (rdv l)).getD i (0, false) = rdv l (rs.getD i 0) := by simp [List.getD, List.getElem?_eq_getElem hir]
      have hpv : (rs.map (plc l)).getD i [] = plc l (rs.getD i 0) := by simp [List.getD, List.getElem?_eq_getElem hir]
      obtain ⟨r, hrr⟩ : ∃ r, rs.getD i 0 = r := ⟨_, rfl⟩
      rw [hrr] at hr hrv hpv
      have hpp := plc_pos HO.out hr
      obtain ⟨bD, gi, ci, rfl, hd, hci, hci2, hpl⟩ := (HDA.out.then_ hB).at_ (i := i) (by rw [hdl]; exact hlt) (by rw [hpv]; exact hpp.1)
      rw [hpv] at hd hci hpl
      obtain ⟨bR, oR, rfl, d0, d1⟩ := (HRD5.out.then_ hB) i (by rw [List.length_map]; exact hir)
      rw [hrv] at d0 d1
      obtain ⟨b, o, rfl, hS0⟩ := (HP5.out.then_ hB) 0 (by omega)
      have c0 := hS0.p
      have c1 := hS0.n
      have c2 := hS0.d
      rw [Nat.zero_mul, Nat.add_zero] at c0 c1 c2
      have hii : (i : Int) < (l.length : Int) := by omega
      have hi0 : 0 ≤ (i : Int) := by omega
      have hl0 : 0 < (l.length : Int) := by omega
      have HPL := Lib.hid hpl
      have HB := Lib.hid hB
      have HHD := Lib.hid hd
      have HD0 := Lib.hid d0
      have HD1 := Lib.hid d1
      clear hpl hB hd d0 d1 hS0 hrv hpv
      go_wp2_with fail
      have hsn := StkC.new wo (l.getD 0 stk0) 50
      simp only [List.getD] at hsn
      obtain ⟨w6, hv⟩ : ∃ vv_ : World, (wo.alloc (.cells #[.int .i64 (l[0]?.getD stk0).P, .int .i64 (l[0]?.getD stk0).N, .slice (l[0]?.getD stk0).A (l[0]?.getD stk0).D.length (l[0]?.getD stk0).c] 50)) = vv_ := ⟨_, rfl⟩
      have hA6 : Below wo.heap.size wo w6 := by rw [← hv]; exact below_alloc (Below.refl _ _) _
      rw [hv] at hsn ⊢
      have HSN := Lib.hid hsn
      have HA6 := Lib.hid hA6
      clear hv hsn hA6 c0 c1 c2
      go_loopw [14] (fun v wi => ∃ k : Nat, k ≤ l.length ∧ v = .int .i64 (k : Int) ∧ ∃ m, m < l.length ∧ (r / 2 < k → m = r / 2) ∧ StkC wi wo.heap.size (l.getD m stk0) ∧ Below wo.heap.size wo wi) (fun v _ => l.length - (intOf v).toNat)
      case atStart => exact ⟨0, by omega, rfl, 0, by omega, fun h => by omega, HSN.out, HA6.out⟩
      case round =>
        obtain ⟨k, hk, rfl, m, hm, hmk, hsc, hBi⟩ := hrel
        by_cases hkl : k < l.length
        · have hkS := (HP5.out.then_ (below_next HB.out hBi)) k hkl
          obtain ⟨b', o', hbo, hS⟩ := hkS
          have hb' : b' = b ∧ o' = o := by
            injection hbo with h1
            injection h1 with h1 h2
            exact ⟨h1.symm, h2.symm⟩
          obtain ⟨rfl, rfl⟩ := hb'
          clear hbo
          have hv := HO.out.each k hkl
          have hce := code_eq HO.out hkl (show r / 2 < l.length by omega)
          have hd0 := cell_then hBi HD0.out
          rw [rdv] at hd0
          dsimp only at hd0
          obtain ⟨s, hs⟩ : ∃ s, l.getD k stk0 = s := ⟨_, rfl⟩
          obtain ⟨z, hz⟩ : ∃ z, codeI (l.getD (r / 2) stk0) = z := ⟨_, rfl⟩
          rw [hs] at hS hv hce
          rw [hz] at hd0 hce
          have c0 := hS.p
          have c1 := hS.n
          have c2 := hS.d
          have HC := Lib.hid (fun d os => code_s s (Sort.grow (redrawn wr d) os) (hS.dots.below (below_regrown _ _ _)) hv)
          have g_1 := fun D os => cell_regrown c0 D os
          have g_2 := fun D os => cell_regrown c1 D os
          have g_3 := fun D os => cell_regrown c2 D os
          have g_4 := fun D os => cell_regrown hd0 D os
          have hkk : (k : Int) < (l.length : Int) := by omega
          have hk0 : 0 ≤ (k : Int) := by omega
          have hgb := lt_size c0
          have hgr := lt_size hd0
          have HSC := Lib.hid hsc
          have HBI := Lib.hid hBi
          obtain ⟨y, hy⟩ : ∃ y, codeI s = y := ⟨_, rfl⟩
          rw [hy] at HC hce
          have HS := Lib.hid hS
          have HCE := Lib.hid hce
          clear c0 c1 c2 hd0 hS hv hz hy hsc hBi hce
          go_wp2_with fail
          refine wp_region_quiet_below (by kernel_rfl) (by kernel_rfl) ?_
          repeat (go_big_quiet_step (first | (with_reducible exact Calls.regrown_of (HC.out _ _))))
          refine wpQuiet_nil ?_
          intro wq hq0
          have hq := below_of_class hq0
          clear hq0
          clear HC g_1 g_2 g_3 g_4
          have HSq := Lib.hid (HS.out.then_ hq)
          have HSCq := Lib.hid (HSC.out.then_ hq)
          have HBq := Lib.hid (below_next HBI.out hq)
          clear hq HS HSC
          by_cases hkr : k = r / 2
          · have q2 : (y == z) = true := by rw [HCE.out]; simp [hkr]
            have c0 := HSq.out.p
            have c1 := HSq.out.n
            have c2 := HSq.out.d
            have x0 := HSCq.out.p
            have x1 := HSCq.out.n
            have x2 := HSCq.out.d
            have f0 := HSCq.out.v.f0
            have f1 := HSCq.out.v.f1
            have f2 := HSCq.out.v.f2
            have hbl := lt_size c0
            have hgl := lt_size x0
            have HPUT := Lib.hid (HSCq.out.put s)
            have HKR := Lib.hid hkr
            clear HCE hkr hmk
            go_wp2_with fail
            exact ⟨⟨k + 1, by omega, by go_num, k, hkl, fun _ => HKR.out, by rw [hs]; exact HPUT.out, ((HBq.out.setCell (Nat.le_refl _) _).setCell (Nat.le_refl _) _).setCell (Nat.le_refl _) _⟩, by simp [intOf]; omega⟩
          · have q2 : (y == z) = false := by rw [HCE.out]; simp [hkr]
            have HMK := Lib.hid (fun h : r / 2 < k + 1 => hmk (by omega))
            clear HCE hkr hmk
            go_wp2_with fail
            exact ⟨⟨k + 1, by omega, by go_num, m, hm, HMK.out, HSCq.out, HBq.out⟩, by simp [intOf]; omega⟩
        · obtain rfl : k = l.length := by omega
          obtain rfl : m = r / 2 := hmk (by omega)
          have hv := HO.out.each (r / 2) hm
          have hcs := HO.out.cap (r / 2) hm
          obtain ⟨s, hs⟩ : ∃ s, l.getD (r / 2) stk0 = s := ⟨_, rfl⟩
          have hln : (plc l r).length = s.D.length := by rw [plc_length, hs]
          rw [hs] at hsc hv hcs
          have hvs := vstr hv
          have hhd := cell_then hBi HHD.out
          rw [hln] at hhd
          have HPI := Lib.hid (HPL.out.then_ hBi)
          have HHI := Lib.hid hhd
          have HD1I := Lib.hid (cell_then hBi HD1.out)
          have hsd := hsc.d
          have HSC := Lib.hid hsc
          have HBI := Lib.hid hBi
          have q3 : ((s.D.length : Int) != (s.D.length : Int)) = false := by simp
          have g_1 := fun D os => cell_regrown hhd D os
          have g_2 := fun D os => cell_regrown hsd D os
          have hgd := lt_size hhd
          have hgs := lt_size hsd
          clear hmk hsc hBi hhd hsd
          go_wp2_with fail
          refine wp_region_quiet_below (by kernel_rfl) (by kernel_rfl) ?_
          repeat (go_big_quiet_step (fail))
          refine wpQuiet_nil ?_
          intro wq hq0
          have hq := below_of_class hq0
          clear hq0
          clear g_1 g_2 q3
          obtain ⟨b', o', hbo, hS⟩ := (HP5.out.then_ (below_next HB.out HBI.out)) (r / 2) hm
          clear hbo
          rw [hs] at hS
          have HDT := Lib.hid (hS.dots.below hq)
          have HPQ := Lib.hid (HPI.out.then_ hq)
          have HHQ := Lib.hid (cell_then hq HHI.out)
          have HDQ := Lib.hid (cell_then hq HD1I.out)
          have HSQ := Lib.hid (HSC.out.then_ hq)
          have HBQ := Lib.hid (below_next HB.out (below_next HBI.out hq))
          clear hS hq HPI HHI HD1I HSC HBI HPL HHD HD0 HD1 HSN HA6
          go_wp2_with fail
          go_loopw [15, 16] (fun v _ wd => ∃ k : Nat, k ≤ s.D.length ∧ v = .int .i64 (k : Int) ∧ Below wq.heap.size wq wd) (fun v _ _ => s.D.length - (intOf v).toNat)
          case atStart => exact ⟨0, by omega, rfl, Below.refl _ _⟩
          case round =>
            obtain ⟨k, hk, rfl, hBd⟩ := hrel
            have hsd := cell_then hBd HSQ.out.d
            have hgs2 := lt_size hsd
            by_cases hkd : k < s.D.length
            · have hkk : (k : Int) < (s.D.length : Int) := by omega
              have hk0 : 0 ≤ (k : Int) := by omega
              have hpk := (HPQ.out.then_ hBd) k (by rw [hln]; exact hkd)
              rw [plc_dot l r k hs hkd] at hpk
              have hdot := (HDT.out.below hBd)
              obtain ⟨bd, od, hA, hbd, hcl⟩ := hdot.open_ (by omega)
              rw [hA] at hsd
              obtain ⟨x0, x1, x2, x3⟩ := hcl k hkd
              have hdb := cell_then hBd HDQ.out
              rw [rdv] at hdb
              dsimp only at hdb
              have hhd := cell_then hBd HHQ.out
              have hgr := lt_size hdb
              have hcs' : (s.D.length : Int) ≤ (s.c : Int) := by omega
              have hci' : (s.D.length : Int) ≤ (ci : Int) := by omega
              have HBD := Lib.hid hBd
              by_cases hbk : r % 2 = 1
              · have hqk : rdot r s.D.length k = s.D.length - 1 - k := by rw [rdot, if_pos hbk]
                rw [show (r % 2 == 1) = true by simp [hbk]] at hdb
                rw [hqk] at hpk
                obtain ⟨y0, y1, y2, y3⟩ := hcl (s.D.length - 1 - k) (by omega)
                obtain ⟨q, hq⟩ : ∃ q, s.D.length - 1 - k = q := ⟨_, rfl⟩
                have hqi : (s.D.length : Int) - 1 - (k : Int) = (q : Int) := by omega
                have hql : (q : Int) < (s.D.length : Int) := by omega
                have hq0 : 0 ≤ (q : Int) := by omega
                rw [hq] at y0 y1 y2 y3 hpk
                obtain ⟨a, ha⟩ : ∃ a, dotAt s.D k = a := ⟨_, rfl⟩
                rw [ha] at x0 x1 x2 x3
                obtain ⟨ax, ay, at_, ap⟩ := a
                obtain ⟨z, hz⟩ : ∃ a, dotAt s.D q = a := ⟨_, rfl⟩
                rw [hz] at y0 y1 y2 y3 hpk
                obtain ⟨bx, by_, bt, bp⟩ := z
                simp only [xy] at x0 x1 x2 x3 y0 y1 y2 y3 hpk
                obtain ⟨p0, p1⟩ := hpk
                clear hcl hdot hqk ha hz hBd hbk hq
                go_wp2_with fail
                have hAz : Below wr.heap.size wr (wr.alloc (.cells #[.int .i64 bx, .int .i64 by_, .int .i64 bt, .int .i64 bp] 54)) := below_alloc (Below.refl _ _) _
                have t0 : (wr.alloc (.cells #[.int .i64 bx, .int .i64 by_, .int .i64 bt, .int .i64 bp] 54)).cell? ⟨wr.heap.size, 0, none⟩ = some (.int .i64 bx) := new_cell rfl
                have t1 : (wr.alloc (.cells #[.int .i64 bx, .int .i64 by_, .int .i64 bt, .int .i64 bp] 54)).cell? ⟨wr.heap.size, 1, none⟩ = some (.int .i64 by_) := new_cell rfl
                obtain ⟨wz, hv⟩ : ∃ vv_ : World, (wr.alloc (.cells #[.int .i64 bx, .int .i64 by_, .int .i64 bt, .int .i64 bp] 54)) = vv_ := ⟨_, rfl⟩
                rw [hv] at hAz t0 t1 ⊢
                replace hhd := cell_then hAz hhd
                replace p0 := cell_then hAz p0
                replace p1 := cell_then hAz p1
                have HBZ := Lib.hid (below_next HBD.out hAz)
                have hgz := lt_size t0
                have hgh := lt_size hhd
                have hgp := lt_size p0
                have hn := fun w => neq_place w bx bx by_ by_
                simp only [decide_true, and_self, Bool.not_true] at hn
                have g_1 := fun D os => cell_regrown hhd D os
                have g_2 := fun D os => cell_regrown p0 D os
                have g_3 := fun D os => cell_regrown p1 D os
                have g_4 := fun D os => cell_regrown t0 D os
                have g_5 := fun D os => cell_regrown t1 D os
                clear hv hAz x0 x1 x2 x3 y0 y1 y2 y3 hsd hdb hhd p0 p1 t0 t1 hA
                go_wp2_with fail
                refine wp_region_quiet_below (by kernel_rfl) (by kernel_rfl) ?_
                repeat (go_big_quiet_step (fail))
                refine wpQuiet_nil ?_
                intro wq hq0
                have hq := below_of_class hq0
                clear hq0
                clear g_1 g_2 g_3 g_4 g_5 hn
                have HBY := Lib.hid (below_next HBZ.out hq)
                clear hq
                go_wp2_with fail
                exact ⟨⟨k + 1, by omega, by go_num, HBY.out⟩, by simp [intOf]; omega⟩
              · have hqk : rdot r s.D.length k = k := by rw [rdot, if_neg hbk]
                rw [show (r % 2 == 1) = false by simp [hbk]] at hdb
                rw [hqk] at hpk
                obtain ⟨a, ha⟩ : ∃ a, dotAt s.D k = a := ⟨_, rfl⟩
                rw [ha] at x0 x1 x2 x3 hpk
                obtain ⟨ax, ay, at_, ap⟩ := a
                simp only [xy] at x0 x1 x2 x3 hpk
                obtain ⟨p0, p1⟩ := hpk
                clear hcl hdot hqk ha hBd hbk
                go_wp2_with fail
                have hAz : Below wr.heap.size wr (wr.alloc (.cells #[.int .i64 ax, .int .i64 ay, .int .i64 at_, .int .i64 ap] 54)) := below_alloc (Below.refl _ _) _
                have t0 : (wr.alloc (.cells #[.int .i64 ax, .int .i64 ay, .int .i64 at_, .int .i64 ap] 54)).cell? ⟨wr.heap.size, 0, none⟩ = some (.int .i64 ax) := new_cell rfl
                have t1 : (wr.alloc (.cells #[.int .i64 ax, .int .i64 ay, .int .i64 at_, .int .i64 ap] 54)).cell? ⟨wr.heap.size, 1, none⟩ = some (.int .i64 ay) := new_cell rfl
                obtain ⟨wz, hv⟩ : ∃ vv_ : World, (wr.alloc (.cells #[.int .i64 ax, .int .i64 ay, .int .i64 at_, .int .i64 ap] 54)) = vv_ := ⟨_, rfl⟩
                rw [hv] at hAz t0 t1 ⊢
                replace hhd := cell_then hAz hhd
                replace p0 := cell_then hAz p0
                replace p1 := cell_then hAz p1
                have HBZ := Lib.hid (below_next HBD.out hAz)
                have hgz := lt_size t0
                have hgh := lt_size hhd
                have hgp := lt_size p0
                have hn := fun w => neq_place w ax ax ay ay
                simp only [decide_true, and_self, Bool.not_true] at hn
                have g_1 := fun D os => cell_regrown hhd D os
                have g_2 := fun D os => cell_regrown p0 D os
                have g_3 := fun D os => cell_regrown p1 D os
                have g_4 := fun D os => cell_regrown t0 D os
                have g_5 := fun D os => cell_regrown t1 D os
                clear hv hAz x0 x1 x2 x3 hsd hdb hhd p0 p1 t0 t1 hA
                go_wp2_with fail
                refine wp_region_quiet_below (by kernel_rfl) (by kernel_rfl) ?_
                repeat (go_big_quiet_step (fail))
                refine wpQuiet_nil ?_
                intro wq hq0
                have hq := below_of_class hq0
                clear hq0
                clear g_1 g_2 g_3 g_4 g_5 hn
                have HBY := Lib.hid (below_next HBZ.out hq)
                clear hq
                go_wp2_with fail
                exact ⟨⟨k + 1, by omega, by go_num, HBY.out⟩, by simp [intOf]; omega⟩
            · have hkk : ¬ (k : Int) < (s.D.length : Int) := by omega
              have HBZ := Lib.hid (below_next HBQ.out hBd)
              clear hBd
              go_wp2_with fail
              exact ⟨⟨i + 1, by omega, by go_num, HBZ.out⟩, by simp [intOf]; omega⟩
    · have hii : ¬ (i : Int) < (l.length : Int) := by omega
      have HBZ := Lib.hid (below_next HB5.out hB)
      clear hB hlt
      go_wp2_with fail
      go_ret
      exact ⟨rfl, HBZ.out⟩
end Go.Proofs.Ytgopadbdnndkiaa.Pt
namespace Go.Proofs.Ytgopadbdnndkiaa.lawPlotReads
open Go.ChangeShapes Go.WideShapes Go.ChangeAt Go.RowKit
open Go.ChangeMaps (open_string shut_string)

theorem readable : ∀ t ∈ (#[22, 23] : Array TypeId).toList, Try.prog.readableRec t = true ∧ t < Try.prog.types.size := by
  intro t ht
  simp only [List.mem_cons, List.not_mem_nil, or_false] at ht
  rcases ht with rfl | rfl
  · exact ⟨by kernel_rfl, of_decide_eq_true (by kernel_rfl)⟩
  · exact ⟨by kernel_rfl, of_decide_eq_true (by kernel_rfl)⟩
set_option maxRecDepth 100000 in
theorem contract (H : Type) (enc : TypeId × Value → H) (W : World) (base : Nat) (args : Array Value) (ds gs : List (DataW H)) (before : List MemPlace)
    (hval : ∀ (j : Nat) t v, Try.f5.params[j]? = some t → args[j]? = some v → Value.okWide Try.prog W .any base t v)
    (hW : DataW.Whole enc Try.prog Try.f5.params.toList Rows.plotReadsSpec.vars false W args.toList ds gs before) :
    Calls Try.prog 5 args W fun e W' => ∃ v, e = .returned v ∧ Rows.plotReadsSpec.post enc Try.prog Try.f5 false true false false W args v W' := by
  have hW' := hW
  obtain ⟨p, q, hA0, hV, rfl, hfz, hnd⟩ := hW
  have hA : DataW.TrodAll enc Try.prog W 0 (fun _ => true) true Try.f5.params.toList args.toList ds p := hA0
  rw [Try.params5] at hA hval
  obtain ⟨v0, vs0, d0, ds0, p0, q0, hargs, rfl, rfl, h0, r0⟩ := trodAll_cons hA
  obtain ⟨v1, vs1, d1, ds1, p1, q1, rfl, rfl, rfl, h1, r1⟩ := trodAll_cons r0
  obtain ⟨rfl, rfl, rfl⟩ := trodAll_nil r1
  obtain rfl : args = #[v0, v1] := by cases args; simp_all
  obtain ⟨rfl, rfl⟩ := trodVars_none hV
  obtain ⟨X0, c0, rows0, rfl, hR0, hc0, hm0⟩ := open_pages Try.underlying22 Try.underlying70 Try.underlying71 Try.underlying3 (by kernel_rfl) (by kernel_rfl) (by kernel_rfl) (hval 0 22 v0 rfl rfl) h0
  obtain ⟨Y1, k1, ys1, rfl, hY1, hI1, hk1, hn1⟩ := open_nums Try.underlying23 Try.underlying3 (by kernel_rfl) (hval 1 23 v1 rfl rfl) h1
  clear hA0
  refine (Pt.reads_law X0 c0 rows0 Y1 k1 ys1 W hR0 hc0 hm0 hY1 hI1 hk1 hn1).mono ?_
  rintro e W' ⟨rfl, hb⟩
  exact ⟨_, rfl, law_post laidOut (by rw [Try.params5]; exact readable) hW' rfl rfl rfl Try.underlying4 hb⟩
theorem reads (os : Os) {H : Type} (enc : TypeId × Value → H) : ∃ places, DataW.whole enc Try.prog ((World.holding Try.prog os ⟨#[], #[], []⟩).forCall (fun _ _ => 0) ⟨#[], #[.slice none 0 0, .slice none 0 0], []⟩).memory Try.f5.params.toList Rows.plotReadsSpec.vars false (#[.slice none 0 0, .slice none 0 0] : Array Value).toList 8 = some ([.nil, .nil], [], places) :=
  ⟨[], by kernel_rfl⟩
set_option maxRecDepth 100000 in
theorem lifted (os : Os) (started : os.Started) (H : Type) (enc : TypeId × Value → H) (F : Stop.Interp) :
    ReturnsInHanded {} Try.checked os 5 .any ((OpenSpec.ofChange Rows.plotReadsSpec).preRow enc Try.prog Try.f5 Rows.plotReadsRow.domain false Rows.plotReadsRow.laid) (((OpenSpec.ofChange Rows.plotReadsSpec).at F).post enc Try.prog Try.f5 false true false false) := by
  obtain ⟨places, hx⟩ := reads os enc
  refine returnsInHanded_of_row (C := Try.checked) (s := OpenSpec.ofChange Rows.plotReadsSpec) own started (by kernel_rfl) Try.func5
    (witness_row_at (enc := enc) (C := Try.checked) false (World.holding Try.prog os ⟨#[], #[], []⟩) #[.slice none 0 0, .slice none 0 0] rfl (by kernel_rfl) (by kernel_rfl) (by kernel_rfl)
      (OpenSpec.preRow_of_cond 8 hx (by kernel_rfl) (fun k hk => by cases hk) (by kernel_rfl) (laid_none _ _))) ?_
  intro W base args ds gs before hval hW _ _ _ hL _ _
  exact contract H enc W base args ds gs before hval hW
theorem said : Rows.PlotReadsSaid :=
  OpenClaim.holds_of_cond 5 Try.f5 rfl rfl rfl rfl rfl rfl rfl ⟨rfl, rfl, rfl, rfl, rfl⟩ rfl rfl rfl rfl rfl (by kernel_rfl) Try.func5 (by kernel_rfl)
    (of_decide_eq_true (by kernel_rfl)) (by unfold Func.isWrapper; rw [if_neg (of_decide_eq_false (by kernel_rfl))]; exact ⟨rfl, rfl⟩)
    (fun os started H enc _ F => by rw [OpenClaim.pre_eq_preRow]; exact lifted os started H enc F)
end Go.Proofs.Ytgopadbdnndkiaa.lawPlotReads
