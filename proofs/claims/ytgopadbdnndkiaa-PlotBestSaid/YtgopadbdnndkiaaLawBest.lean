/- The law PlotBest. PlotBest: the rides of Best are right, and have the lifted way that it returns; no right rides have a lesser one; no condition beyond the row of the statement. -/
import Derived.Test.YtgopadbdnndkiaaPk
import Derived.Test.YtgopadbdnndkiaaPl
import Derived.Test.YtgopadbdnndkiaaPq
import Derived.Test.YtgopadbdnndkiaaPc
import Derived.Test.YtgopadbdnndkiaaPn
namespace Go.Proofs.Ytgopadbdnndkiaa.Pt
open Go.RowKit Str
attribute [local go_sem] Oper.semAt_some
/-- rides in a row of their own, that can be stored to -/
def RrN (W : World) (g : Nat) (L : List (Int × Bool)) : Prop := ∀ i, i < L.length → (W.cell? ⟨g, i * 2, none⟩ = some (.int .i64 (L.getD i (0, false)).1) ∧ W.frozen? ⟨g, i * 2, none⟩ = false) ∧ (W.cell? ⟨g, i * 2 + 1, none⟩ = some (.bool (L.getD i (0, false)).2) ∧ W.frozen? ⟨g, i * 2 + 1, none⟩ = false)
theorem RrN.then_ {W W' : World} {g : Nat} {L : List (Int × Bool)} (h : RrN W g L) (hb : Below W.heap.size W W') : RrN W' g L := fun i hi => ⟨var_then hb (h i hi).1, var_then hb (h i hi).2⟩
theorem RrN.rds {W : World} {g : Nat} {L : List (Int × Bool)} (h : RrN W g L) : RdsAt W (some ⟨g, 0, none⟩) L := fun i hi => ⟨g, 0, rfl, by rw [Nat.zero_add]; exact (h i hi).1.1, by rw [Nat.zero_add]; exact (h i hi).2.1⟩
theorem rcells_at : ∀ (L : List (Int × Bool)) (i : Nat), i < L.length → (rcells L)[i * 2]? = some (.int .i64 (L.getD i (0, false)).1) ∧ (rcells L)[i * 2 + 1]? = some (.bool (L.getD i (0, false)).2)
  | [], i, h => by simp at h
  | r :: t, 0, _ => ⟨rfl, rfl⟩
  | r :: t, i + 1, h => by
    have := rcells_at t i (by simpa using h)
    have e : rcells (r :: t) = .int .i64 r.1 :: .bool r.2 :: rcells t := rfl
    rw [e, show (i + 1) * 2 = i * 2 + 1 + 1 by omega, show i * 2 + 1 + 1 + 1 = (i * 2 + 1) + 1 + 1 by omega]
    simpa using this
theorem rcells_one (L : List (Int × Bool)) : ∀ u ∈ rcells L, u.oneCell' = true := by
  intro u hu
  obtain ⟨r, _, hr⟩ := List.mem_flatMap.1 hu
  simp at hr
  rcases hr with rfl | rfl <;> rfl
theorem rr_of_own {w : World} {base g n c : Nat} {e : TypeId} {L : List (Int × Bool)} (h : w.ownsRow base e 2 (.slice (some ⟨g, 0, none⟩) n c) n (rcells L)) (hn : L.length = n) : RrN w g L := fun i hi => by
  have hc := rcells_at L i hi
  exact ⟨⟨by rw [h.cellAt (i * 2) (by omega), hc.1], h.frozenAt _⟩, ⟨by rw [h.cellAt (i * 2 + 1) (by omega), hc.2], h.frozenAt _⟩⟩
theorem getD_set (L : List (Int × Bool)) (i j : Nat) (x : Int × Bool) (hi : i < L.length) : (L.set i x).getD j (0, false) = if j = i then x else L.getD j (0, false) := by
  by_cases h : j = i
  · subst h; simp [List.getD, List.getElem?_set_self hi]
  · simp [List.getD, List.getElem?_set_ne (Ne.symm h), h]
theorem RrN.turn {W : World} {g : Nat} {L : List (Int × Bool)} (h : RrN W g L) {i : Nat} (hi : i < L.length) (b : Bool) : RrN (W.setCell ⟨g, i * 2 + 1, none⟩ (.bool b)) g (L.set i ((L.getD i (0, false)).1, b)) := fun j hj => by
  rw [List.length_set] at hj
  have hh := h j hj
  rw [getD_set L i j _ hi]
  refine ⟨⟨?_, by rw [frozen_set]; exact hh.1.2⟩, ⟨?_, by rw [frozen_set]; exact hh.2.2⟩⟩
  · rw [set_cell hh.1.1 (by omega)]
    split
    · next e => rw [e]
    · rfl
  · by_cases e : j = i
    · rw [if_pos e, e]; rw [e] at hh; exact set_same hh.2.1
    · rw [if_neg e]; exact set_cell hh.2.1 (by omega)
theorem RrN.put {W : World} {g : Nat} {L : List (Int × Bool)} (h : RrN W g L) {i : Nat} (hi : i < L.length) (c : Int) (b : Bool) : RrN ((W.setCell ⟨g, i * 2, none⟩ (.int .i64 c)).setCell ⟨g, i * 2 + 1, none⟩ (.bool b)) g (L.set i (c, b)) := fun j hj => by
  rw [List.length_set] at hj
  have hh := h j hj
  rw [getD_set L i j _ hi]
  refine ⟨⟨?_, by rw [frozen_set, frozen_set]; exact hh.1.2⟩, ⟨?_, by rw [frozen_set, frozen_set]; exact hh.2.2⟩⟩
  · by_cases e : j = i
    · rw [if_pos e, e]; rw [e] at hh; exact set_cell (set_same hh.1.1) (by omega)
    · rw [if_neg e]; exact set_cell (set_cell hh.1.1 (by omega)) (by omega)
  · by_cases e : j = i
    · rw [if_pos e, e]; rw [e] at hh; exact set_same (set_cell hh.2.1 (by omega))
    · rw [if_neg e]; exact set_cell (set_cell hh.2.1 (by omega)) (by omega)
theorem getD_rdv (l : List Stk) (rs : List Nat) {i : Nat} (h : i < rs.length) : (rs.map (rdv l)).getD i (0, false) = rdv l (rs.getD i 0) := by simp [List.getD, List.getElem?_eq_getElem h]
theorem turn_rides (l : List Stk) (rs : List Nat) {i : Nat} (h : i < rs.length) : (rs.map (rdv l)).set i (((rs.map (rdv l)).getD i (0, false)).1, !((rs.map (rdv l)).getD i (0, false)).2) = (rs.set i (flipR (rs.getD i 0))).map (rdv l) := by
  rw [getD_rdv l rs h, List.map_set, rdv_flip]
/-- two rides exchanged -/
def swapR (rs : List Nat) (i j : Nat) : List Nat := (rs.set i (rs.getD j 0)).set j (rs.getD i 0)
theorem swap_rides (l : List Stk) (rs : List Nat) {i j : Nat} (hi : i < rs.length) (hj : j < rs.length) : ((rs.map (rdv l)).set i ((rs.map (rdv l)).getD j (0, false))).set j ((rs.map (rdv l)).getD i (0, false)) = (swapR rs i j).map (rdv l) := by
  rw [getD_rdv l rs hi, getD_rdv l rs hj, swapR, List.map_set, List.map_set]
theorem swap_perm (rs : List Nat) {i j : Nat} (hi : i < rs.length) (hj : j < rs.length) : (swapR rs i j).Perm rs := by
  have h1 : rs.getD j 0 = rs[j] := by simp [List.getD, List.getElem?_eq_getElem hj]
  have h2 : rs.getD i 0 = rs[i] := by simp [List.getD, List.getElem?_eq_getElem hi]
  rw [swapR, h1, h2]
  exact List.set_set_perm hi hj
set_option maxRecDepth 100000 in
set_option maxHeartbeats 8000000 in
theorem best_law (X : Option Addr) (cx : Nat) (rows : List Row3) (Y : Option Addr) (cy : Nat) (ys : List Int) (w : World) (hR : RowsAt w X rows) (hc : rows.length ≤ cx) (hm : rows.length ≤ 9223372036854775807) (hY : IntsAt w Y ys) (hI : ∀ y ∈ ys, I64 y) (hcy : ys.length ≤ cy) (hyl : ys.length ≤ 9223372036854775807) :
    Calls Try.prog 3 #[.slice X rows.length cx, .slice Y ys.length cy] w fun e w' => e = .returned (.bool true) ∧ Below w.heap.size w w' := by
  obtain ⟨j0, hj0, e0, e1, e2⟩ := info_parts ride_info
  have HSA := Lib.hid (fun W => sane_any W)
  have HMA := Lib.hid (fun W (hW : Below w.heap.size w W) => made26_any X cx rows W (hR.then_ hW) hc hm)
  have HRI := Lib.hid (fun W (hW : Below w.heap.size w W) A c l (hP : PageAt W A l) (hO : PageOk l) (hc : l.length ≤ c) => rides26_any A c l Y cy ys W hP hO hc (hY.then_ hW) hI hcy hyl)
  clear hR hY hI hc hm hcy hyl
  go_enter Try.func3, Try.ntmps3
  go_wp2_with fail
  refine (HSA.out _).mono ?_
  rintro e w1 ⟨rfl, b1⟩
  have HB1 := Lib.hid b1
  have HM1 := Lib.hid (HMA.out _ b1)
  clear b1 HSA
  go_wp2_with fail
  refine HM1.out.mono ?_
  rintro e w2 ⟨A, c, l, rfl, hmp, -, hp, hlc, b2⟩
  have hO := hmp.ok
  have HO := Lib.hid hO
  have HP := Lib.hid hp
  have HB2 := Lib.hid (below_next HB1.out b2)
  have hbe := best_any A c l w2 hp hO hlc
  have hlc' : (l.length : Int) ≤ (c : Int) := by omega
  have hl9 : (l.length : Int) ≤ 9 := by have := hO.len; omega
  have hvb := Plt.val_bd l.length (gapF l) hO.len (gapF_bd hO) 0 18 (by omega)
  obtain ⟨hbF, hbn, hbv⟩ := best_fresh l hO.len
  have HLE := Lib.hid (fun rs (hF : Fresh l.length 0 rs) (hn : rs.length = l.length) => lift_least hO.len hF hn)
  obtain ⟨V, hV⟩ : ∃ V, Plt.val l.length (gapF l) 0 18 = V := ⟨_, rfl⟩
  obtain ⟨bs, hbs⟩ : ∃ bs, bestR l = bs := ⟨_, rfl⟩
  rw [hV] at hbe hvb HLE hbv
  rw [hbs] at hbe hbF hbn hbv
  have HBE := Lib.hid hbe
  have HBF := Lib.hid hbF
  have HBN := Lib.hid hbn
  have HLF := Lib.hid (fun W (hW : Below w2.heap.size w2 W) rs A' c' (hR : RdsAt W A' (rs.map (rdv l))) (hF : Fresh l.length 0 rs) (hn : rs.length = l.length) (hc : rs.length ≤ c') => lifted_any A c l A' c' rs W (hp.then_ hW) hO hR hF hc hn)
  clear b2 hmp hO hp HM1 HMA hV hbs hbe hbF
  go_wp2_with fail
  refine HBE.out.mono ?_
  rintro e w3 ⟨v3, rfl, own3, b3⟩
  rw [hbn] at own3
  obtain ⟨AB, cB, rfl, hcB⟩ := own_slice own3
  have HB3 := Lib.hid (below_next HB2.out b3)
  have HB23 := Lib.hid b3
  have HP3 := Lib.hid (HP.out.then_ b3)
  have HOW3 := Lib.hid own3
  have hl3 := HLF.out w3 b3 bs AB cB (rds_of_own own3) HBF.out hbn (by omega)
  rw [hbn, hbv] at hl3
  have HL3 := Lib.hid hl3
  clear b3 HBE own3 hl3 hbv
  go_wp2_with fail
  refine HL3.out.mono ?_
  rintro e w4 ⟨rfl, b4⟩
  have HB4 := Lib.hid (below_next HB3.out b4)
  have HB24 := Lib.hid (below_next HB23.out b4)
  have HP4 := Lib.hid (HP3.out.then_ b4)
  have HOW4 := Lib.hid (own_then HOW3.out b4)
  have HR4 := Lib.hid (HRI.out _ HB4.out A c l HP4.out HO.out hlc)
  clear b4 HL3 HRI HOW3
  go_wp2_with fail
  refine HR4.out.mono ?_
  rintro e w5 ⟨v5, rs, rfl, hF, hrl, own5, b5⟩
  obtain ⟨AR, cR, rfl, hcR⟩ := own_slice own5
  have hrd : RdsAt w5 AR (rs.map (rdv l)) := rds_of_own own5
  have HB5 := Lib.hid (below_next HB4.out b5)
  have HB25 := Lib.hid (below_next HB24.out b5)
  have HOW5 := Lib.hid (own_then HOW4.out b5)
  have hlf := HLF.out w5 HB25.out rs AR cR hrd hF hrl (by omega)
  rw [hrl] at hlf
  have hfl := HLE.out rs hF hrl
  obtain ⟨F, hFF⟩ : ∃ F, lift l (0, 0) rs = F := ⟨_, rfl⟩
  rw [hFF] at hlf hfl
  have HL5 := Lib.hid hlf
  clear hFF own5 b5 hrd hF hlf HR4 hrl hcR HP4 HOW4
  go_wp2_with fail
  refine HL5.out.mono ?_
  rintro e w6 ⟨rfl, b6⟩
  have HB6 := Lib.hid (below_next HB5.out b6)
  have HB26 := Lib.hid (below_next HB25.out b6)
  have HOW6 := Lib.hid (own_then HOW5.out b6)
  clear b6 HL5 HOW5
  have q1 : (V != V) = false := by simp
  have q2 : decide (F < V) = false := by simp; omega
  have q3 : ((l.length : Int) != (l.length : Int)) = false := by simp
  go_wp2_with fail
  clear q1 q2 q3
  have HNL := Lib.hid (fun W (hW : Below w2.heap.size w2 W) rs' A' c' (hR : RdsAt W A' (rs'.map (rdv l))) (hF : Fresh l.length 0 rs') (hn : rs'.length = l.length) (hc : rs'.length ≤ c') => And.intro (HLF.out W hW rs' A' c' hR hF hn hc) (HLE.out rs' hF hn))
  clear HLF HLE
  have HJ := Lib.hid (And.intro hj0 (And.intro e0 (And.intro e1 e2)))
  clear hj0 e0 e1 e2
  go_loopw [14, 15, 16, 17] (fun v _ _ _ wr => ∃ k : Nat, k ≤ l.length ∧ v = .int .i64 (k : Int) ∧ Below w6.heap.size w6 wr) (fun v _ _ _ _ => l.length - (intOf v).toNat)
  case atStart => exact ⟨0, by omega, rfl, Below.refl _ _⟩
  case round =>
    obtain ⟨k, hk, rfl, hB⟩ := hrel
    by_cases hlt : k < l.length
    · have hki : (k : Int) < (l.length : Int) := by omega
      have hk0 : 0 ≤ (k : Int) := by omega
      have hn0 : 0 < l.length := by omega
      have HB := Lib.hid hB
      have HOWr := Lib.hid (own_then HOW6.out hB)
      obtain ⟨gB, cB', hAB, hgB, hgs⟩ := HOWr.out.form hn0
      have hAB2 : AB = some ⟨gB, 0, none⟩ := by injection hAB
      clear hAB
      subst hAB2
      have HOWr2 := HOWr
      have HE0 := Lib.hid (World.ownsRow_lit (base := wr.heap.size) (e := 35) (size := 2) wr #[] 0 (by omega) (by unfold maxLen; omega) rfl)
      have hnw : ∀ j u, (rcells (bs.map (rdv l)))[j]? = some u → (wr.alloc (.cells #[] 35)).cell? ((⟨gB, 0, none⟩ : Addr).add j) = some u := fun j u h => cell_then (below_alloc (Below.refl _ _) _) (HOWr.out.cells rfl j u h)
      have HNW := Lib.hid hnw
      have hrl := HOWr.out.1
      clear hnw hB
      go_wp2_with (at_builtin; refine wpList_appendN rfl _ _ 27 rfl wr.heap.size 35 j0 _ 2 16 Try.underlying27 HJ.out.1 HJ.out.2.1 HJ.out.2.2.1 HJ.out.2.2.2 rfl (by omega) (.slice (some ⟨wr.heap.size, 0, none⟩) 0 0) 0 [] rfl HE0.out ⟨gB, 0, none⟩ l.length cB (rcells (bs.map (rdv l))) rfl hrl HNW.out (rcells_one _) (by unfold maxLen; omega) (by omega) (by simp [go_sem]) ?_)
      rintro v7 w7 own7 kp7 hg7
      obtain ⟨g7, c7, rfl, hgw7, -⟩ := own7.form hn0
      have hc7 := own_cap own7
      have R7 := rr_of_own own7 (by rw [List.length_map, HBN.out])
      have B7 : Below wr.heap.size wr w7 := Kept.below_next (below_alloc (Below.refl _ _) _) kp7 (by simp [go_sem]) (fun k hk => by have := own_mem hk; simp [Value.ownBlock] at this; omega)
      have hkL : k < (bs.map (rdv l)).length := by rw [List.length_map, HBN.out]; exact hlt
      have hkb : k < bs.length := by rw [HBN.out]; exact hlt
      have hc7' : (l.length : Int) ≤ (c7 : Int) := by omega
      have hu := R7 k hkL
      have u0 := hu.2.1
      have f0 := hu.2.2
      have hgl7 := lt_size u0
      have R8 := R7.turn hkL (!((bs.map (rdv l)).getD k (0, false)).2)
      rw [turn_rides l bs hkb] at R8
      have B8 : Below wr.heap.size wr (w7.setCell ⟨g7, k * 2 + 1, none⟩ (.bool (!((bs.map (rdv l)).getD k (0, false)).2))) := B7.setCell hgw7 _
      obtain ⟨bk, hbk⟩ : ∃ b, ((bs.map (rdv l)).getD k (0, false)).2 = b := ⟨_, rfl⟩
      rw [hbk] at u0 R8 B8
      have hl8 := HNL.out _ (below_next HB26.out (below_next HB.out B8)) _ _ c7 R8.rds (fresh_flip HBF.out hkb) (by rw [List.length_set, HBN.out]) (by rw [List.length_set, HBN.out]; exact hc7.1)
      rw [List.length_set, HBN.out] at hl8
      have HL8 := Lib.hid hl8
      have HB8 := Lib.hid (below_next HB.out B8)
      have HOW8 := Lib.hid (own_then HOWr.out B8)
      clear own7 kp7 hg7 R7 hu hl8 R8 B7 B8 hbk HE0 HNW
      go_wp2_with fail
      obtain ⟨hl8, hm8⟩ := HL8.out
      obtain ⟨M8, hM8⟩ : ∃ M, lift l (0, 0) (bs.set k (flipR (bs.getD k 0))) = M := ⟨_, rfl⟩
      rw [hM8] at hl8 hm8
      refine hl8.mono ?_
      rintro e w9 ⟨rfl, b9⟩
      have HB9 := Lib.hid (below_next HB8.out b9)
      have HOW9 := Lib.hid (own_then HOW8.out b9)
      clear hl8 hM8 HL8 HOW8 HB8 b9 u0 f0
      have q1 : decide (M8 < V) = false := by simp; omega
      by_cases hk0' : k = 0
      · subst hk0'
        have q2 : ((0 : Int) == 0) = true := rfl
        go_wp2_with fail
        exact ⟨⟨1, by omega, by go_num, HB9.out⟩, by simp [intOf]; omega⟩
      · obtain ⟨k1, rfl⟩ : ∃ k1, k = k1 + 1 := ⟨k - 1, by omega⟩
        have q2 : (((k1 + 1 : Nat) : Int) == 0) = false := by simp; omega
        have q3 : ((k1 + 1 : Nat) : Int) - 1 = (k1 : Int) := by omega
        have HE0 := Lib.hid (World.ownsRow_lit (base := w9.heap.size) (e := 35) (size := 2) w9 #[] 0 (by omega) (by unfold maxLen; omega) rfl)
        have hnw : ∀ j u, (rcells (bs.map (rdv l)))[j]? = some u → (w9.alloc (.cells #[] 35)).cell? ((⟨gB, 0, none⟩ : Addr).add j) = some u := fun j u h => cell_then (below_alloc (Below.refl _ _) _) (HOW9.out.cells rfl j u h)
        have HNW := Lib.hid hnw
        clear hnw
        go_wp2_with (at_builtin; refine wpList_appendN rfl _ _ 27 rfl w9.heap.size 35 j0 _ 2 16 Try.underlying27 HJ.out.1 HJ.out.2.1 HJ.out.2.2.1 HJ.out.2.2.2 rfl (by omega) (.slice (some ⟨w9.heap.size, 0, none⟩) 0 0) 0 [] rfl HE0.out ⟨gB, 0, none⟩ l.length _ (rcells (bs.map (rdv l))) rfl hrl HNW.out (rcells_one _) (by unfold maxLen; omega) (by omega) (by simp [go_sem]) ?_)
        rintro v10 w10 own10 kp10 hg10
        obtain ⟨g10, c10, rfl, hgw10, -⟩ := own10.form hn0
        have hc10 := own_cap own10
        have R10 := rr_of_own own10 (by rw [List.length_map, HBN.out])
        have B10 : Below w9.heap.size w9 w10 := Kept.below_next (below_alloc (Below.refl _ _) _) kp10 (by simp [go_sem]) (fun k hk => by have := own_mem hk; simp [Value.ownBlock] at this; omega)
        have hg9 := (HOW9.out.lt gB rfl).2
        have hkL1 : k1 < (bs.map (rdv l)).length := by omega
        have hkb1 : k1 < bs.length := by omega
        have hki1 : (k1 : Int) < (l.length : Int) := by omega
        have hk01 : 0 ≤ (k1 : Int) := by omega
        have hki2 : (k1 : Int) + 1 < (l.length : Int) := by omega
        have hk02 : 0 ≤ (k1 : Int) + 1 := by omega
        have hc10' : (l.length : Int) ≤ (c10 : Int) := by omega
        have RB := rr_of_own (own_then HOW9.out B10) (by rw [List.length_map, HBN.out])
        have ra := RB k1 hkL1
        have rb := RB (k1 + 1) hkL
        have ua := R10 k1 hkL1
        have ub := R10 (k1 + 1) hkL
        have a0 := ra.1.1
        have a1 := ra.2.1
        have b0 := rb.1.1
        have b1 := rb.2.1
        have x0 := ua.1.1
        have x1 := ua.2.1
        have x2 := ub.1.1
        have x3 := ub.2.1
        have y0 := ua.1.2
        have y1 := ua.2.2
        have y2 := ub.1.2
        have y3 := ub.2.2
        obtain ⟨ca, hca⟩ : ∃ b, ((bs.map (rdv l)).getD k1 (0, false)) = b := ⟨_, rfl⟩
        obtain ⟨cb, hcb⟩ : ∃ b, ((bs.map (rdv l)).getD (k1 + 1) (0, false)) = b := ⟨_, rfl⟩
        have R11 := R10.put hkL ca.1 ca.2
        have R12 := R11.put (i := k1) (by rw [List.length_set]; exact hkL1) cb.1 cb.2
        have hsw := swap_rides l bs (i := k1 + 1) (j := k1) hkb hkb1
        rw [hca, hcb] at hsw
        have hR12 : ((bs.map (rdv l)).set (k1 + 1) (ca.1, ca.2)).set k1 (cb.1, cb.2) = (swapR bs (k1 + 1) k1).map (rdv l) := hsw
        rw [hR12] at R12
        rw [hca] at a0 a1 x0 x1
        rw [hcb] at b0 b1 x2 x3
        obtain ⟨ca0, ca1⟩ := ca
        obtain ⟨cb0, cb1⟩ := cb
        dsimp only at a0 a1 b0 b1 x0 x1 x2 x3 R12
        have hne : g10 ≠ gB := by omega
        have hne' : gB ≠ g10 := by omega
        have hgl10 := lt_size x0
        have B12 := (((B10.setCell (p := ⟨g10, (k1 + 1) * 2, none⟩) hgw10 (.int .i64 ca0)).setCell (p := ⟨g10, (k1 + 1) * 2 + 1, none⟩) hgw10 (.bool ca1)).setCell (p := ⟨g10, k1 * 2, none⟩) hgw10 (.int .i64 cb0)).setCell (p := ⟨g10, k1 * 2 + 1, none⟩) hgw10 (.bool cb1)
        have hl12 := HNL.out _ (below_next HB26.out (below_next HB9.out B12)) _ _ c10 R12.rds (fresh_perm HBF.out (swap_perm bs hkb hkb1)) (by rw [swapR, List.length_set, List.length_set, HBN.out]) (by rw [swapR, List.length_set, List.length_set, HBN.out]; exact hc10.1)
        rw [show (swapR bs (k1 + 1) k1).length = l.length by rw [swapR, List.length_set, List.length_set, HBN.out]] at hl12
        have HL12 := Lib.hid hl12
        have HB12 := Lib.hid (below_next HB9.out B12)
        clear RB ra rb ua ub R10 R11 R12 hca hcb hsw hR12 hl12 B10 B12 own10 kp10 hg10 HE0 HNW
        go_wp2_with fail
        obtain ⟨hl12, hm12⟩ := HL12.out
        obtain ⟨M12, hM12⟩ : ∃ M, lift l (0, 0) (swapR bs (k1 + 1) k1) = M := ⟨_, rfl⟩
        rw [hM12] at hl12 hm12
        refine hl12.mono ?_
        rintro e w13 ⟨rfl, b13⟩
        have HB13 := Lib.hid (below_next HB12.out b13)
        clear hl12 hM12 HL12 HB12 b13 a0 a1 b0 b1 x0 x1 x2 x3 y0 y1 y2 y3
        have q4 : decide (M12 < V) = false := by simp; omega
        go_wp2_with fail
        exact ⟨⟨k1 + 1 + 1, by omega, by go_num, HB13.out⟩, by simp [intOf]; omega⟩
    · have hki : ¬ (k : Int) < (l.length : Int) := by omega
      have HBZ := Lib.hid (below_next HB6.out hB)
      clear hB hlt
      go_wp2_with fail
      go_ret
      exact ⟨rfl, HBZ.out⟩
end Go.Proofs.Ytgopadbdnndkiaa.Pt
namespace Go.Proofs.Ytgopadbdnndkiaa.lawPlotBest
open Go.ChangeShapes Go.WideShapes Go.ChangeAt Go.RowKit
open Go.ChangeMaps (open_string shut_string)

theorem readable : ∀ t ∈ (#[22, 23] : Array TypeId).toList, Try.prog.readableRec t = true ∧ t < Try.prog.types.size := by
  intro t ht
  simp only [List.mem_cons, List.not_mem_nil, or_false] at ht
  rcases ht with rfl | rfl
  · exact ⟨by kernel_rfl, of_decide_eq_true (by kernel_rfl)⟩
  · exact ⟨by kernel_rfl, of_decide_eq_true (by kernel_rfl)⟩
set_option maxRecDepth 100000 in
theorem contract (H : Type) (enc : TypeId × Value → H) (W : World) (base : Nat) (args : Array Value) (ds gs : List (DataW H)) (before : List MemPlace)
    (hval : ∀ (j : Nat) t v, Try.f3.params[j]? = some t → args[j]? = some v → Value.okWide Try.prog W .any base t v)
    (hW : DataW.Whole enc Try.prog Try.f3.params.toList Rows.plotBestSpec.vars false W args.toList ds gs before) :
    Calls Try.prog 3 args W fun e W' => ∃ v, e = .returned v ∧ Rows.plotBestSpec.post enc Try.prog Try.f3 false true false false W args v W' := by
  have hW' := hW
  obtain ⟨p, q, hA0, hV, rfl, hfz, hnd⟩ := hW
  have hA : DataW.TrodAll enc Try.prog W 0 (fun _ => true) true Try.f3.params.toList args.toList ds p := hA0
  rw [Try.params3] at hA hval
  obtain ⟨v0, vs0, d0, ds0, p0, q0, hargs, rfl, rfl, h0, r0⟩ := trodAll_cons hA
  obtain ⟨v1, vs1, d1, ds1, p1, q1, rfl, rfl, rfl, h1, r1⟩ := trodAll_cons r0
  obtain ⟨rfl, rfl, rfl⟩ := trodAll_nil r1
  obtain rfl : args = #[v0, v1] := by cases args; simp_all
  obtain ⟨rfl, rfl⟩ := trodVars_none hV
  obtain ⟨X0, c0, rows0, rfl, hR0, hc0, hm0⟩ := open_pages Try.underlying22 Try.underlying70 Try.underlying71 Try.underlying3 (by kernel_rfl) (by kernel_rfl) (by kernel_rfl) (hval 0 22 v0 rfl rfl) h0
  obtain ⟨Y1, k1, ys1, rfl, hY1, hI1, hk1, hn1⟩ := open_nums Try.underlying23 Try.underlying3 (by kernel_rfl) (hval 1 23 v1 rfl rfl) h1
  clear hA0
  refine (Pt.best_law X0 c0 rows0 Y1 k1 ys1 W hR0 hc0 hm0 hY1 hI1 hk1 hn1).mono ?_
  rintro e W' ⟨rfl, hb⟩
  exact ⟨_, rfl, law_post laidOut (by rw [Try.params3]; exact readable) hW' rfl rfl rfl Try.underlying4 hb⟩
theorem reads (os : Os) {H : Type} (enc : TypeId × Value → H) : ∃ places, DataW.whole enc Try.prog ((World.holding Try.prog os ⟨#[], #[], []⟩).forCall (fun _ _ => 0) ⟨#[], #[.slice none 0 0, .slice none 0 0], []⟩).memory Try.f3.params.toList Rows.plotBestSpec.vars false (#[.slice none 0 0, .slice none 0 0] : Array Value).toList 8 = some ([.nil, .nil], [], places) :=
  ⟨[], by kernel_rfl⟩
set_option maxRecDepth 100000 in
theorem lifted (os : Os) (started : os.Started) (H : Type) (enc : TypeId × Value → H) (F : Stop.Interp) :
    ReturnsInHanded {} Try.checked os 3 .any ((OpenSpec.ofChange Rows.plotBestSpec).preRow enc Try.prog Try.f3 Rows.plotBestRow.domain false Rows.plotBestRow.laid) (((OpenSpec.ofChange Rows.plotBestSpec).at F).post enc Try.prog Try.f3 false true false false) := by
  obtain ⟨places, hx⟩ := reads os enc
  refine returnsInHanded_of_row (C := Try.checked) (s := OpenSpec.ofChange Rows.plotBestSpec) own started (by kernel_rfl) Try.func3
    (witness_row_at (enc := enc) (C := Try.checked) false (World.holding Try.prog os ⟨#[], #[], []⟩) #[.slice none 0 0, .slice none 0 0] rfl (by kernel_rfl) (by kernel_rfl) (by kernel_rfl)
      (OpenSpec.preRow_of_cond 8 hx (by kernel_rfl) (fun k hk => by cases hk) (by kernel_rfl) (laid_none _ _))) ?_
  intro W base args ds gs before hval hW _ _ _ hL _ _
  exact contract H enc W base args ds gs before hval hW
theorem said : Rows.PlotBestSaid :=
  OpenClaim.holds_of_cond 3 Try.f3 rfl rfl rfl rfl rfl rfl rfl ⟨rfl, rfl, rfl, rfl, rfl⟩ rfl rfl rfl rfl rfl (by kernel_rfl) Try.func3 (by kernel_rfl)
    (of_decide_eq_true (by kernel_rfl)) (by unfold Func.isWrapper; rw [if_neg (of_decide_eq_false (by kernel_rfl))]; exact ⟨rfl, rfl⟩)
    (fun os started H enc _ F => by rw [OpenClaim.pre_eq_preRow]; exact lifted os started H enc F)
end Go.Proofs.Ytgopadbdnndkiaa.lawPlotBest
