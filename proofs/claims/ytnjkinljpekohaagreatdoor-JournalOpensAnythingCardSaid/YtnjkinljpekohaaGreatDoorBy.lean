/- The reference's Room and Append of a journal. A journal and the reference's, each on its disk, side by side; the law's world and its open. The law's begin and the calls that it makes on both journals. -/
import Derived.Test.YtnjkinljpekohaaGreatDoorBx
import Derived.Test.YtnjkinljpekohaaGreatDoorBo
import Derived.Test.YtnjkinljpekohaaGreatDoorBu
import Derived.Test.YtnjkinljpekohaaGreatDoorBn
import Derived.Deep.RegionHeld3
import Derived.Deep.RegionHeldLaw
namespace Go.Proofs.YtnjkinljpekohaaGreatDoor.Jo
open Go.RowKit Sha Dsk Jr
attribute [local go_sem] Oper.semAt_some
theorem own_low {w : World} {base n size : Nat} {e : TypeId} {v : Value} {xs : List Value} (h : w.ownsRow base e size v n xs) : w.ownsRow 0 e size v n xs := by
  refine ⟨h.1, ?_⟩
  rcases h.2 with ⟨h1, h2⟩ | ⟨g, cap, cur, h1, _, h2⟩
  · exact .inl ⟨h1, h2⟩
  · exact .inr ⟨g, cap, cur, h1, Nat.zero_le _, h2⟩
theorem rroom_any (gk h k z : Nat) (u : Value) (G : List Nat) (b : Bool) (rs : List ByteArray) (D : Dk) (w : World) (hR : RefAt w h G D) (hT : RjT w gk h u b rs k) (hz : D.sure.length = z) (hk : k ≤ z) :
    Calls Tryz.prog 25 #[.pointer (some ⟨gk, 0, none⟩)] w fun e w' => e = .returned (.int .i64 ((z : Int) - (k : Int))) ∧ w.drew = w' := by
  have hmx := hR.ok.max
  obtain ⟨gs, cs, c0⟩ := hR.row
  rw [hz] at c0 hmx
  have d0 := (cells4 hT.blk).1
  have d2 := (cells4 hT.blk).2.2.1
  clear hR hT hz
  go_enter Tryz.func25, Tryz.ntmps25
  go_wp2_with fail
  go_region
  all_goals
    go_wp2_with fail
    go_ret
    exact ⟨rfl, rfl⟩
/-- what the reference's Append leaves -/
def RAppQ (gk h : Nat) (u : Value) (G : List Nat) (R : Int × Bool × List ByteArray × Dk) (w : World) (e : Ending) (w' : World) : Prop :=
  ∃ G' u', e = .returned (.int .i64 R.1) ∧ RefAt w' h G' R.2.2.2 ∧ RjT w' gk h u' R.2.1 R.2.2.1 (need R.2.2.1) ∧ Kept (gk :: G) w w' ∧ New w G G' ∧ (∀ x ∈ u'.ownBlock.toList, x ∈ u.ownBlock.toList ∨ w.heap.size ≤ x) ∧ ∀ x ∈ gk :: u'.ownBlock.toList, x ∉ G'
theorem rapp_same {gk h : Nat} {u : Value} {G : List Nat} {b : Bool} {rs : List ByteArray} {D : Dk} {w w' : World} {c : Int} (hR : RefAt w h G D) (hT : RjT w gk h u b rs (need rs)) (hap : ∀ x ∈ gk :: u.ownBlock.toList, x ∉ G) (hb : Below w.heap.size w w') :
    RAppQ gk h u G (c, b, rs, D) w (.returned (.int .i64 c)) w' :=
  ⟨G, u, rfl, hR.below hb, hT.below hb, (Kept.of_below hb).mono (fun _ h => by cases h), New.refl _ _, fun x hx => .inl hx, hap⟩
/-- an Append that finds the disk without power: the journal is broken -/
theorem rapp_broke {gk h : Nat} {u : Value} {G G' : List Nat} {rs : List ByteArray} {D' : Dk} {w w' : World} (hT : RjT w gk h u false rs (need rs)) (hap : ∀ x ∈ gk :: u.ownBlock.toList, x ∉ G) (r : RefAt w' h G' D') (k : Kept G w w') (n : New w G G') :
    RAppQ gk h u G (331, true, rs, D') w (.returned (.int .i64 331)) (w'.setCell ⟨gk, 3, none⟩ (.bool true)) := by
  have hu : ∀ x ∈ u.ownBlock.toList, x ≠ gk := fun x hx e => hT.ne (by rw [← e]; exact Option.mem_toList.1 hx)
  have hgG' : ∀ x ∈ gk :: u.ownBlock.toList, x ∉ G' := fun x hx hx' => by
    rcases n x hx' with h | h
    · exact hap x hx h
    · have : x < w.heap.size := by
        rcases List.mem_cons.1 hx with rfl | hx
        · exact hT.lt
        · exact (hT.own.lt x (own_mem hx)).2
      omega
  have t1 := hT.kept k (hap gk (by simp)) (fun x hx => hap x (List.mem_cons_of_mem _ hx))
  have K : Kept [gk] w' (w'.setCell ⟨gk, 3, none⟩ (.bool true)) := (Kept.refl _ _).setCell (.inl (by simp)) _
  have s1 := heap_setCell_same w' gk 3 _ _ (.bool true) t1.blk
  refine ⟨G', u, rfl, r.kept K (fun x hx hx2 => ?_), ⟨by simpa using s1, K.own t1.own (fun x hx hx2 => ?_), t1.ne⟩, (k.mono (fun x hx => List.mem_cons_of_mem _ hx)).setCell (.inl (by simp)) _, n, fun x hx => .inl hx, hgG'⟩
  · obtain rfl : x = gk := by simpa using hx2
    exact hgG' x (by simp) hx
  · obtain rfl : x = gk := by simpa using hx2
    exact hT.ne hx
theorem st_take (h : ByteArray) (l : List ByteArray) (k : Nat) (hk : k < l.length) : st chainS h (l.take (k + 1)) = st chainS h (l.take k) ++ Jr.stored chainS (hd chainS h (l.take k)) l[k] ∧ hd chainS h (l.take (k + 1)) = chainS (hd chainS h (l.take k)) l[k] := by
  rw [List.take_succ_eq_append_getElem hk, st_append, hd_append]
  exact ⟨by simp [st], rfl⟩
theorem sof_add (a b : List UInt8) : sof a ++ sof b = sof (a ++ b) := by
  apply ByteArray.ext
  simp [sof, ByteArray.data_append]
theorem drop1 (O : ByteArray) : O.extract 1 O.size = sof ((bts O).drop 1) := by
  rw [← sof_bts (O.extract 1 O.size), bts_extract, List.take_of_length_le (by rw [List.length_drop, bts_length]; exact Nat.le_refl _)]
theorem take1 (O : ByteArray) : O.extract 0 1 = sof ((bts O).take 1) := by
  rw [← sof_bts (O.extract 0 1), bts_extract]; rfl
set_option maxRecDepth 100000 in
set_option maxHeartbeats 8000000 in
theorem rapp_any (gk h N c z : Nat) (u : Value) (G : List Nat) (rs : List ByteArray) (D : Dk) (A : Option Addr) (l : List ByteArray) (w : World) (hR : RefAt w h G D) (hT : RjT w gk h u false rs (need rs)) (hap : ∀ x ∈ gk :: u.ownBlock.toList, x ∉ G) (hv : Vis D) (hA : Was w (gk :: G) A l) (hN : l.length = N) (hn : N ≤ 1000)
    (hrn : rs.length ≤ 50000) (hs : ∀ s ∈ l, s.size ≤ 65536) (hrs : ∀ s ∈ rs, s.size ≤ 65536) (hz : D.sure.length = z) (hf : need rs ≤ z) (hz1 : 1 ≤ z) (hpl : D.pend.length ≤ 800000) :
    Calls Tryz.prog 26 #[.pointer (some ⟨gk, 0, none⟩), .slice A N c] w (RAppQ gk h u G (apR false rs D l) w) := by
  obtain ⟨Au, cu, rfl, hcu, how⟩ := own_full hT.own rfl
  have d3 := (cells4 hT.blk).2.2.2
  have d1 := (cells4 hT.blk).2.1
  have hzm := hR.ok.max
  rw [hz] at hzm
  obtain ⟨M, hM⟩ : ∃ M, rs.length = M := ⟨_, rfl⟩
  obtain ⟨H0, hH0⟩ : ∃ H0, hd chainS zed rs = H0 := ⟨_, rfl⟩
  have hH0s : H0.size = 32 := by rw [← hH0]; exact hd_size zed zed_size _
  have hrh := rhead_any Au cu M rs w (own_strs how rfl) hM (by omega) hrs
  rw [hH0] at hrh
  obtain ⟨K, hK⟩ : ∃ K, need rs = K := ⟨_, rfl⟩
  have HT := Lib.hid hT
  have HR := Lib.hid hR
  have HAP := Lib.hid hap
  have HV := Lib.hid hv
  have HA := Lib.hid hA
  have HN := Lib.hid hN
  have HS := Lib.hid hs
  have HZ := Lib.hid hz
  have HM := Lib.hid hM
  have HH0 := Lib.hid hH0
  have HRH := Lib.hid hrh
  have HK := Lib.hid hK
  have hap0 : apR false rs D l = if z < K + need l then (341, false, rs, D) else if l = [] then (0, false, rs, D) else if (put4 D K (st chainS H0 l)).1 = 0 then (0, false, rs ++ l, (put4 D K (st chainS H0 l)).2) else ((put4 D K (st chainS H0 l)).1, true, rs, (put4 D K (st chainS H0 l)).2) := by
    unfold apR
    rw [if_neg (by rw [no_long hs]; simp), hz, hK, hH0]
  have HAP0 := Lib.hid hap0
  rw [hM] at d1 hrn
  rw [hK] at hf
  clear hT hR hap hv hA hN hs hz hM hH0 hrh how hK hap0 hrs
  go_enter Tryz.func26, Tryz.ntmps26
  go_wp2_with fail
  refine HRH.out.mono ?_
  rintro e w1 ⟨rfl, b1⟩
  have B1 := Lib.hid b1
  clear b1 HRH
  go_wp2_with fail
  go_loopw [5, 6, 7] (fun so sh i wr => ∃ (k : Nat) (O H : ByteArray), i = .int .i64 (k : Int) ∧ k ≤ N ∧ so = .string O ∧ sh = .string H ∧ Hid (bts O = st chainS H0 (l.take k)) ∧ Hid (hd chainS H0 (l.take k) = H) ∧ H.size = 32 ∧ O.size ≤ k * 70000 ∧ Below w.heap.size w wr) (fun _ _ i _ => N - (intOf i).toNat)
  case atStart => exact ⟨0, ⟨#[]⟩, H0, rfl, Nat.zero_le _, rfl, rfl, Lib.hid rfl, Lib.hid rfl, hH0s, Nat.zero_le _, B1.out⟩
  case round =>
    obtain ⟨k, O, H, rfl, hk, rfl, rfl, HO, HH, hH, hOs, hb⟩ := hrel
    clear B1
    by_cases hlt : k < N
    · have hkl : k < l.length := by have := HN.out; omega
      have g1 : (k : Int) < (N : Int) := by omega
      obtain ⟨b1, o1, rfl, c1⟩ := strs_at HA.out.strs hkl
      obtain ⟨e1, e2⟩ := st_take H0 l k hkl
      have sz := HS.out _ (List.getElem_mem hkl)
      obtain ⟨x, hx⟩ : ∃ x, l[k] = x := ⟨_, rfl⟩
      rw [hx] at c1 e1 e2 sz
      rw [HH.out] at e1 e2
      have hsl := st_len H x
      obtain ⟨X, hX⟩ : ∃ X, sof (Jr.stored chainS H x) = X := ⟨_, rfl⟩
      have hXs : X.size ≤ 65578 := by
        have h1 := pstr_size x sz
        rw [← bts_length, bts_sof] at h1
        rw [← hX, ← bts_length, bts_sof, hsl]; omega
      have hst := fun W => rstored_any H x W hH sz
      rw [hX] at hst
      have hcs := chain_size H x
      obtain ⟨C, hC⟩ : ∃ C, chainS H x = C := ⟨_, rfl⟩
      rw [hC] at hcs e2
      simp only [hC] at hst
      have hnO : bts (O ++ X) = st chainS H0 (l.take (k + 1)) := by
        rw [e1, ← HO.out, ← hX]
        have := congrArg bts (sof_add (bts O) (Jr.stored chainS H x))
        rw [bts_sof, sof_bts] at this
        exact this
      have HNO := Lib.hid hnO
      have HE2 := Lib.hid e2
      have HST := Lib.hid hst
      have c2 := cell_then hb c1
      have C1 := Lib.hid c1
      have HB := Lib.hid hb
      clear hkl hx hsl hX hst hC hnO e1 e2 hb c1
      go_wp2_with fail
      refine (HST.out wr).mono ?_
      rintro e w2 ⟨rfl, b2⟩
      have B2 := Lib.hid (below_next HB.out b2)
      clear b2 c2
      go_wp2_with fail
      refine ⟨⟨k + 1, _, _, by go_num, by omega, rfl, rfl, HNO, HE2, hcs, by rw [ByteArray.size_append]; omega, B2.out⟩, by simp [intOf]; omega⟩
    · obtain rfl : k = N := by omega
      have g1 : ¬ (k : Int) < (k : Int) := by omega
      have hO := HO.out
      rw [List.take_of_length_le (by rw [HN.out]; exact Nat.le_refl _)] at hO
      have hOn : O.size = need l := by rw [← bts_length, hO, st_need]
      have HOO := Lib.hid hO
      have HON := Lib.hid hOn
      have RZ := HR.out.below hb
      have TZ := HT.out.below hb
      rw [HK.out] at TZ
      have hrm := rroom_any gk h K z _ G false rs D wr RZ TZ HZ.out hf
      have HRM := Lib.hid hrm
      have HB := Lib.hid hb
      clear hO hOn RZ TZ hrm HO HH hb
      by_cases hfit : z < K + need l
      · have hlim : (z : Int) - (K : Int) < (O.size : Int) := by have := HON.out; omega
        have hap1 := HAP0.out
        rw [if_pos hfit] at hap1
        have HAP1 := Lib.hid hap1
        clear hap1 hfit
        go_wp2_with fail
        refine HRM.out.mono ?_
        rintro e w2 ⟨rfl, hw2⟩
        have B2 : Hid (Below w.heap.size w w2) := (show Below w.heap.size w w2 by rw [← hw2]; exact HB.out.drew)
        clear hw2
        go_wp2_with fail
        go_ret
        have hfin : RAppQ gk h (.slice Au rs.length cu) G (apR false rs D l) w (.returned (.int .i64 341)) w2 := by
          rw [HAP1.out]
          exact rapp_same HR.out HT.out HAP.out B2.out
        exact hfin
      · have hlim : ¬ (z : Int) - (K : Int) < (O.size : Int) := by have := HON.out; omega
        have hap1 := HAP0.out
        rw [if_neg hfit] at hap1
        by_cases hl0 : l = []
        · have hO0 : O = ⟨#[]⟩ := by
            have h1 := HOO.out
            rw [hl0] at h1
            rw [← sof_bts O, h1]; rfl
          have hOe : (O.toList == (⟨#[]⟩ : ByteArray).toList) = true := (str_beq_iff _ _).2 hO0
          have hOe2 : O.toList = [] := by rw [hO0, ByteArray.toList_eq]
          rw [if_pos hl0] at hap1
          have HAP1 := Lib.hid hap1
          clear hap1 hfit hO0 hl0
          go_wp2_with fail
          refine HRM.out.mono ?_
          rintro e w2 ⟨rfl, hw2⟩
          have B2 : Hid (Below w.heap.size w w2) := (show Below w.heap.size w w2 by rw [← hw2]; exact HB.out.drew)
          clear hw2
          go_wp2_with fail
          go_ret
          have hfin : RAppQ gk h (.slice Au rs.length cu) G (apR false rs D l) w (.returned (.int .i64 0)) w2 := by
            rw [HAP1.out]
            exact rapp_same HR.out HT.out HAP.out B2.out
          exact hfin
        · rw [if_neg hl0] at hap1
          have hO1 : 1 ≤ O.size := by
            have h1 := need_count l
            have h2 := List.length_pos_iff.2 hl0
            have h3 := HON.out
            omega
          have hOn : O ≠ ⟨#[]⟩ := fun e => by rw [e] at hO1; exact absurd hO1 (by decide)
          have hOe : (O.toList == (⟨#[]⟩ : ByteArray).toList) = false := by
            rw [← Bool.not_eq_true]
            exact fun h => hOn ((str_beq_iff _ _).1 h)
          have hOe2 : ¬ O.toList = [] := fun h => hOn (by
            rw [ByteArray.toList_eq] at h
            exact ByteArray.ext (Array.toList_inj.1 h))
          have hOe3 : O.toList.isEmpty = false := by cases hq : O.toList with | nil => exact absurd hq hOe2 | cons _ _ => rfl
          have hO1i : (1 : Int) ≤ (O.size : Int) := by omega
          have e1 := drop1 O
          have e0 := take1 O
          obtain ⟨s, hsx⟩ : ∃ s, st chainS H0 l = s := ⟨_, rfl⟩
          rw [hsx] at hap1
          have hOs : bts O = s := HOO.out.trans hsx
          rw [hOs] at e1 e0
          have hsl : s.length = O.size := by rw [← hOs, bts_length]
          obtain ⟨X1, hX1⟩ : ∃ X1, sof (s.drop 1) = X1 := ⟨_, rfl⟩
          obtain ⟨X0, hX0⟩ : ∃ X0, sof (s.take 1) = X0 := ⟨_, rfl⟩
          have hX1s : X1.size = O.size - 1 := by rw [← hX1, ← bts_length, bts_sof, List.length_drop, hsl]
          have hX0s : X0.size = 1 := by rw [← hX0, ← bts_length, bts_sof, List.length_take, hsl]; omega
          rw [hX1] at e1
          rw [hX0] at e0
          have hput : put4 D K s = if D.off then (331, D) else if (Dsk.wr D (K + 1) X1).off then (331, Dsk.wr D (K + 1) X1) else if (Dsk.wr (sy (Dsk.wr D (K + 1) X1)) K X0).off then (331, Dsk.wr (sy (Dsk.wr D (K + 1) X1)) K X0) else (0, sy (Dsk.wr (sy (Dsk.wr D (K + 1) X1)) K X0)) := by
            rw [← hX1, ← hX0]; rfl
          have hKO : K + O.size ≤ z := by have := HON.out; omega
          have E1 := Lib.hid e1
          have E0 := Lib.hid e0
          have HPT := Lib.hid hput
          have HP1 := Lib.hid hap1
          have HNE := Lib.hid hl0
          clear hap1 hfit hl0 hOn e1 e0 hsx hOs hsl hX1 hX0 hput hlt
          go_wp2_with fail
          refine HRM.out.mono ?_
          rintro e w2 ⟨rfl, hw2⟩
          have B2 : Hid (Below w.heap.size w w2) := (show Below w.heap.size w w2 by rw [← hw2]; exact HB.out.drew)
          have K2 := Lib.hid ((Kept.of_below B2.out).mono (S' := G) (fun _ h => by cases h))
          have N2 : Hid (New w G G) := (show New w G G from New.refl _ _)
          have R2 := Lib.hid (HR.out.below B2.out)
          clear hw2 hO1i
          have t2 := HT.out.kept K2.out (HAP.out gk (by simp)) (fun x hx => HAP.out x (List.mem_cons_of_mem _ hx))
          have p20 := (cells4 t2.blk).1
          have p21 := (cells4 t2.blk).2.1
          have p22 := (cells4 t2.blk).2.2.1
          have p23 := frozen_of_row w2 gk 3 _ _ t2.blk
          have p24 := (cells4 t2.blk).2.2.2
          rw [HK.out] at p22
          clear t2

          go_wp2_with fail
          have g_p0 := fun D os => cell_regrown p20 D os
          have g_p2 := fun D os => cell_regrown p22 D os
          have hO1j : (1 : Int) ≤ (O.size : Int) := by omega
          refine wp_region_head 11 (by kernel_rfl) (by kernel_rfl) ?_
          simp only [List.take_succ_cons, List.take_zero, List.drop_succ_cons, List.drop_zero]
          repeat (go_big_quiet_step (fail))
          refine wpQuiet_nil ?_
          intro wq hq
          clear g_p0 g_p2 p20 p21 p22 p23 p24
          have Rq := Lib.hid (R2.out.below hq)
          have Kq := Lib.hid (K2.out.and_below hq)
          have Nq : Hid (New w G G) := (show New w G G from New.refl _ _)
          obtain ⟨D1, hD1⟩ : ∃ D1, Dsk.wr D (K + 1) X1 = D1 := ⟨_, rfl⟩
          obtain ⟨D2, hD2⟩ : ∃ D2, sy D1 = D2 := ⟨_, rfl⟩
          obtain ⟨D3, hD3⟩ : ∃ D3, Dsk.wr D2 K X0 = D3 := ⟨_, rfl⟩
          obtain ⟨D4, hD4⟩ : ∃ D4, sy D3 = D4 := ⟨_, rfl⟩
          have hpt := HPT.out
          rw [hD1, hD2, hD3, hD4] at hpt
          have hl1 : D1.sure.length = z := by rw [← hD1]; exact HZ.out
          have hp1 : D1.pend.length ≤ 900000 := by rw [← hD1]; show (D.pend ++ [_]).length ≤ _; simp; omega
          have hv1 : Vis D1 := by rw [← hD1]; exact vis_wr HV.out _ _
          have hp2 : D2.pend.length ≤ 10 := by rw [← hD2]; simp [sy]
          have hv2 : Vis D2 := by rw [← hD2]; exact vis_sy _
          have hp3 : D3.pend.length ≤ 10 := by rw [← hD3]; show (D2.pend ++ [_]).length ≤ _; rw [← hD2]; simp [sy]
          have hv3 : Vis D3 := by rw [← hD3]; exact vis_wr hv2 _ _
          have ho2 : D2.off = D1.off := by rw [← hD2]; rfl
          have HPP := Lib.hid hpt
          have HD1 := Lib.hid hD1
          have HD2 := Lib.hid hD2
          have HD3 := Lib.hid hD3
          have HD4 := Lib.hid hD4
          have HL1 := Lib.hid hl1
          have HV1 := Lib.hid hv1
          have HV3 := Lib.hid hv3
          have HOO2 := Lib.hid ho2
          clear hq hpt hD1 hD2 hD3 hD4 hl1 hv1 hv2 hv3 ho2 HPT K2 N2 R2 B2 HRM hO1j
          cases hoff : D.off with
          | true =>
            have hap1 := HP1.out
            rw [HPP.out, hoff, if_pos rfl, if_neg (by simp)] at hap1
            have HAP1 := Lib.hid hap1
            have hw := rwrite_off ((K : Int) + 1) X1 h G D wq Rq.out hoff
            have HW := Lib.hid hw
            clear hap1 hw hoff
            go_wp2_with fail
            rw [E1.out]
            refine HW.out.mono ?_
            rintro e w3 ⟨rfl, rfl⟩
            have tq := HT.out.kept Kq.out (HAP.out gk (by simp)) (fun x hx => HAP.out x (List.mem_cons_of_mem _ hx))
            have pq0 := (cells4 tq.blk).1
            have pq1 := (cells4 tq.blk).2.1
            have pq2 := (cells4 tq.blk).2.2.1
            have pq3 := frozen_of_row wq gk 3 _ _ tq.blk
            have pq4 := (cells4 tq.blk).2.2.2
            rw [HK.out] at pq2
            clear tq
            go_wp2_with fail
            go_ret
            have hfin : RAppQ gk h (.slice Au rs.length cu) G (apR false rs D l) w (.returned (.int .i64 331)) (wq.setCell ⟨gk, 3, none⟩ (.bool true)) := by
              rw [HAP1.out]
              exact rapp_broke HT.out HAP.out Rq.out Kq.out Nq.out
            exact hfin

          | false =>
            have hw := rwrite_in (K + 1) X1 h G D wq Rq.out hoff (by rw [HZ.out]; omega) (by omega)
            rw [HD1.out, show (((K + 1 : Nat)) : Int) = (K : Int) + 1 by omega] at hw
            have HW := Lib.hid hw
            have HOF := Lib.hid hoff
            clear hw hoff
            go_wp2_with fail
            rw [E1.out]
            refine HW.out.mono ?_
            rintro e w3 ⟨G3, rfl, r3, k3, n3⟩
            have R3 := Lib.hid r3
            have K3 := Lib.hid (Kq.out.trans k3 (New.refl _ _))
            have N3 := Lib.hid (Nq.out.trans n3 Kq.out.size)
            clear r3 k3 n3 HW
            have t3 := HT.out.kept K3.out (HAP.out gk (by simp)) (fun x hx => HAP.out x (List.mem_cons_of_mem _ hx))
            have p30 := (cells4 t3.blk).1
            have p31 := (cells4 t3.blk).2.1
            have p32 := (cells4 t3.blk).2.2.1
            have p33 := frozen_of_row w3 gk 3 _ _ t3.blk
            have p34 := (cells4 t3.blk).2.2.2
            rw [HK.out] at p32
            clear t3

            cases hoff : D1.off with
            | true =>
              have hap1 := HP1.out
              rw [HPP.out, HOF.out, if_neg (show ¬ (false = true) by simp), hoff, if_pos rfl, if_neg (by simp)] at hap1
              have HAP1 := Lib.hid hap1
              have hw := rsync_off h G3 D1 w3 R3.out hoff
              have HW := Lib.hid hw
              clear hap1 hw hoff
              go_wp2_with fail
              refine HW.out.mono ?_
              rintro e w4 ⟨rfl, rfl⟩
              go_wp2_with fail
              go_ret
              have hfin : RAppQ gk h (.slice Au rs.length cu) G (apR false rs D l) w (.returned (.int .i64 331)) (w3.setCell ⟨gk, 3, none⟩ (.bool true)) := by
                rw [HAP1.out]
                exact rapp_broke HT.out HAP.out R3.out K3.out N3.out
              exact hfin

            | false =>
              have hw := rsync_ok h G3 D1 w3 R3.out hoff HV1.out (by rw [HL1.out]; exact hz1) (by omega)
              have hl2 : D2.sure.length = z := by rw [← HD2.out]; show D1.vis.length = z; rw [R3.out.ok.len, HL1.out]
              rw [HD2.out] at hw
              have HW := Lib.hid hw
              have HOF1 := Lib.hid hoff
              have hoff2 : D2.off = false := by rw [HOO2.out, hoff]
              have HL2 := Lib.hid hl2
              have HOF2 := Lib.hid hoff2
              clear hw hoff hl2 hoff2
              go_wp2_with fail
              refine HW.out.mono ?_
              rintro e w4 ⟨G4, rfl, r4, k4, n4⟩
              have R4 := Lib.hid r4
              have K4 := Lib.hid (K3.out.trans k4 N3.out)
              have N4 := Lib.hid (N3.out.trans n4 K3.out.size)
              clear r4 k4 n4 HW p30 p31 p32 p33 p34
              have t4 := HT.out.kept K4.out (HAP.out gk (by simp)) (fun x hx => HAP.out x (List.mem_cons_of_mem _ hx))
              have p40 := (cells4 t4.blk).1
              have p41 := (cells4 t4.blk).2.1
              have p42 := (cells4 t4.blk).2.2.1
              have p43 := frozen_of_row w4 gk 3 _ _ t4.blk
              have p44 := (cells4 t4.blk).2.2.2
              rw [HK.out] at p42
              clear t4

              go_wp2_with fail
              have g_p0 := fun D os => cell_regrown p40 D os
              have g_p2 := fun D os => cell_regrown p42 D os
              have hO1j : (1 : Int) ≤ (O.size : Int) := by omega
              refine wp_region_head 10 (by kernel_rfl) (by kernel_rfl) ?_
              simp only [List.take_succ_cons, List.take_zero, List.drop_succ_cons, List.drop_zero]
              repeat (go_big_quiet_step (fail))
              refine wpQuiet_nil ?_
              intro wq hq
              clear g_p0 g_p2 p40 p41 p42 p43 p44
              obtain ⟨wv, hwv⟩ : ∃ wv, wv = wq := ⟨_, rfl⟩
              have R5 := Lib.hid (R4.out.below hq)
              have K5 := Lib.hid (K4.out.and_below hq)
              have hw := rwrite_in K X0 h G4 D2 _ R5.out HOF2.out (by rw [HL2.out]; omega) (by omega)
              rw [HD3.out] at hw
              have HW := Lib.hid hw
              have hl3 : D3.sure.length = z := by rw [← HD3.out]; exact HL2.out
              have HL3 := Lib.hid hl3
              clear hw hq hO1j hl3
              go_wp2_with fail
              rw [E0.out]
              refine HW.out.mono ?_
              rintro e w6 ⟨G6, rfl, r6, k6, n6⟩
              have R6 := Lib.hid r6
              have K6 := Lib.hid (K5.out.trans k6 N4.out)
              have N6 := Lib.hid (N4.out.trans n6 K5.out.size)
              clear r6 k6 n6 HW
              have t6 := HT.out.kept K6.out (HAP.out gk (by simp)) (fun x hx => HAP.out x (List.mem_cons_of_mem _ hx))
              have p60 := (cells4 t6.blk).1
              have p61 := (cells4 t6.blk).2.1
              have p62 := (cells4 t6.blk).2.2.1
              have p63 := frozen_of_row w6 gk 3 _ _ t6.blk
              have p64 := (cells4 t6.blk).2.2.2
              rw [HK.out] at p62
              clear t6

              cases hoff : D3.off with
              | true =>
                have hap1 := HP1.out
                rw [HPP.out, HOF.out, if_neg (show ¬ (false = true) by simp), HOF1.out, if_neg (show ¬ (false = true) by simp), hoff, if_pos rfl, if_neg (by simp)] at hap1
                have HAP1 := Lib.hid hap1
                have hw := rsync_off h G6 D3 w6 R6.out hoff
                have HW := Lib.hid hw
                clear hap1 hw hoff
                go_wp2_with fail
                refine HW.out.mono ?_
                rintro e w7 ⟨rfl, rfl⟩
                go_wp2_with fail
                go_ret
                have hfin : RAppQ gk h (.slice Au rs.length cu) G (apR false rs D l) w (.returned (.int .i64 331)) (w6.setCell ⟨gk, 3, none⟩ (.bool true)) := by
                  rw [HAP1.out]
                  exact rapp_broke HT.out HAP.out R6.out K6.out N6.out
                exact hfin

              | false =>
                have hap1 := HP1.out
                rw [HPP.out, HOF.out, if_neg (show ¬ (false = true) by simp), HOF1.out, if_neg (show ¬ (false = true) by simp), hoff, if_neg (show ¬ (false = true) by simp), if_pos rfl] at hap1
                have HAP1 := Lib.hid hap1
                have hw := rsync_ok h G6 D3 w6 R6.out hoff HV3.out (by rw [HL3.out]; exact hz1) (by omega)
                rw [HD4.out] at hw
                have HW := Lib.hid hw
                clear hap1 hw hoff
                go_wp2_with fail
                refine HW.out.mono ?_
                rintro e w7 ⟨G7, rfl, r7, k7, n7⟩
                have R7 := Lib.hid r7
                have K7 := Lib.hid (K6.out.trans k7 N6.out)
                have N7 := Lib.hid (N6.out.trans n7 K6.out.size)
                clear r7 k7 n7 HW p60 p61 p62 p63 p64
                have T7 := Lib.hid (HT.out.kept K7.out (HAP.out gk (by simp)) (fun x hx => HAP.out x (List.mem_cons_of_mem _ hx)))
                have p71 := (cells4 T7.out.blk).2.1
                rw [HM.out] at p71
                have hA7 := Lib.hid (HA.out.turn (K7.out.mono (fun x hx => List.mem_cons_of_mem _ hx)) (New.cons N7.out gk))
                have hg7 := T7.out.lt
                obtain ⟨i0, hi0, hz0, hz1', hz2⟩ := info_parts str_info1
                have I1 := Lib.hid hi0
                have I2 := Lib.hid hz0
                have I3 := Lib.hid hz1'
                have I4 := Lib.hid hz2
                clear hi0 hz0 hz1' hz2
                go_wp2_with (at_builtin; first
                  | (refine wpList_append_strs rfl (.tmp 98) (.tmp 102) 32 rfl w7.heap.size 9 i0 _ Tryz.underlying32 I1.out I2.out I3.out I4.out rfl (.slice none 0 0) 0 [] rfl rfl (World.ownsRow_nil _ _ _ _) Au M cu rs HM.out rfl (own_strs T7.out.own rfl) (by omega) (by omega) ?_; intro v8 w8 o8 k8; have O8 := Lib.hid o8; have B8 := Lib.hid (k8.below_next (B := w7.heap.size) (Below.refl _ _) (Nat.le_refl _) (by simp [Value.ownBlock])); clear o8 k8 p71)
                  | (refine wpList_append_strs rfl (.tmp 105) (.tmp 106) 32 rfl w7.heap.size 9 i0 _ Tryz.underlying32 I1.out I2.out I3.out I4.out rfl v8 (0 + M) ([] ++ rs) rfl (by have := HM.out; simp; omega) O8.out A k c l HN.out rfl (hA7.out.strs.then_ B8.out) (by omega) B8.out.size ?_; intro v9 w9 o9 k9; obtain ⟨A9, c9, rfl, hc9, o9⟩ := own_full o9 (by have := HM.out; have := HN.out; simp; omega); obtain ⟨Q, hQ⟩ : ∃ Q, ([] ++ rs ++ l).length = Q := ⟨_, rfl⟩; rw [hQ] at o9 hc9 ⊢; have HQ := Lib.hid hQ; have O9 := Lib.hid o9; have B9 := Lib.hid (k9.below_next (B := w7.heap.size) B8.out B8.out.size (fun x hx => (O8.out.lt x (own_mem hx)).1)); have t9 := T7.out.below B9.out; have q1 := (cells4 t9.blk).2.1; have q2 := (cells4 t9.blk).2.2.1; rw [HK.out] at q2; have y1 := frozen_of_row w9 gk 1 _ _ t9.blk; have y2 := frozen_of_row w9 gk 2 _ _ t9.blk; have T9 := Lib.hid t9; clear o9 k9 t9 hQ hc9))
                go_ret
                have hQ2 : (rs ++ l).length = Q := by rw [← HQ.out, List.nil_append]
                have o9 := O9.out
                rw [List.nil_append] at o9
                have hb9 : ∀ x ∈ (Value.slice A9 Q c9).ownBlock.toList, w7.heap.size ≤ x ∧ x < w9.heap.size := fun x hx => o9.lt x (own_mem hx)
                have hne : (Value.slice A9 Q c9).ownBlock ≠ some gk := fun e => by have := (hb9 gk (by rw [e]; simp)).1; omega
                have s1 := heap_setCell_same w9 gk 1 _ _ (.slice A9 Q c9) T9.out.blk
                have s2 := heap_setCell_same _ gk 2 _ _ (.int .i64 ((K : Int) + (O.size : Int))) s1
                have o10 := own_low (own_set (own_set o9 (p := ⟨gk, 1, none⟩) hne (.slice A9 Q c9)) (p := ⟨gk, 2, none⟩) hne (.int .i64 ((K : Int) + (O.size : Int))))
                have KF : Kept [gk] w7 ((w9.setCell ⟨gk, 1, none⟩ (.slice A9 Q c9)).setCell ⟨gk, 2, none⟩ (.int .i64 ((K : Int) + (O.size : Int)))) := (((Kept.of_below B9.out).mono (fun _ h => by cases h)).setCell (.inl (by simp)) _).setCell (.inl (by simp)) _
                have hgG : gk ∉ G7 := fun hm => by
                  rcases N7.out gk hm with h | h
                  · exact HAP.out gk (by simp) h
                  · have := HT.out.lt; omega
                have hfin : RAppQ gk h (.slice Au rs.length cu) G (apR false rs D l) w (.returned (.int .i64 0)) ((w9.setCell ⟨gk, 1, none⟩ (.slice A9 Q c9)).setCell ⟨gk, 2, none⟩ (.int .i64 ((K : Int) + (O.size : Int)))) := by
                  rw [HAP1.out]
                  refine ⟨G7, .slice A9 Q c9, rfl, R7.out.kept KF (fun x hx hx2 => hgG (by obtain rfl : x = gk := (by simpa using hx2); exact hx)), ⟨?_, by rw [hQ2]; exact o10, hne⟩, (K7.out.mono (fun x hx => List.mem_cons_of_mem _ hx)).trans KF (New.of_lt (fun x hx => by obtain rfl : x = gk := (by simpa using hx); simp)), N7.out, fun x hx => .inr (Nat.le_trans K7.out.size (hb9 x hx).1), fun x hx hx2 => ?_⟩
                  · rw [show ((need (rs ++ l) : Nat) : Int) = (K : Int) + (O.size : Int) by rw [need_append, HK.out, HON.out]; omega]
                    simpa using s2
                  · rcases List.mem_cons.1 hx with rfl | hx
                    · exact hgG hx2
                    · have h1 := (hb9 x hx).1
                      have h2 := R7.out.lt x hx2
                      omega
                exact hfin
end Go.Proofs.YtnjkinljpekohaaGreatDoor.Jo
namespace Go.Proofs.YtnjkinljpekohaaGreatDoor.Jo
open Go.RowKit Sha Dsk Jr
attribute [local go_sem] Oper.semAt_some
/-- both disks, and the law's world that names them -/
structure Pr0 (w0 w : World) (gw gd h : Nat) (F G : List Nat) (D : Dk) (pj pk : Value) : Prop where
  ds : Ds w0 w gd F D
  r : RefAt w h G D
  vis : Vis D
  g : ∀ x ∈ G, w0.heap.size ≤ x
  dis : ∀ x ∈ F, x ∉ G
  blk : w.heap[gw]? = some (.cells #[.pointer (some ⟨gd, 0, none⟩), pj, .pointer (some ⟨h, 0, none⟩), pk] 51 (0, 0))
  new : w0.heap.size ≤ gw
  out : gw ∉ F ∧ gw ∉ G
/-- both journals on them -/
structure Pr1 (w0 w : World) (gw gd h : Nat) (F G : List Nat) (D : Dk) (gj : Nat) (v : Value) (gk : Nat) (u : Value) (b : Bool) (rs : List ByteArray) : Prop where
  p : Pr0 w0 w gw gd h F G D (.pointer (some ⟨gj, 0, none⟩)) (.pointer (some ⟨gk, 0, none⟩))
  j : Jd w0 w gj gd v F b rs D
  k : RjT w gk h u b rs (need rs)
  kn : ∀ x ∈ gk :: u.ownBlock.toList, w0.heap.size ≤ x
  ka : ∀ x ∈ gk :: u.ownBlock.toList, x ∉ G
  d1 : ∀ x ∈ gk :: u.ownBlock.toList, x ∉ gj :: F
  d2 : ∀ x ∈ gj :: v.ownBlock.toList, x ∉ gk :: G
  o1 : gw ≠ gj ∧ gw ≠ gk
theorem Pr0.then_ {w0 w w' : World} {gw gd h : Nat} {F G : List Nat} {D : Dk} {pj pk : Value} (P : Pr0 w0 w gw gd h F G D pj pk) (hb : Below w.heap.size w w') : Pr0 w0 w' gw gd h F G D pj pk :=
  ⟨P.ds.then_ hb, P.r.below hb, P.vis, P.g, P.dis, (Kept.of_below hb).heap P.blk (by simp), P.new, P.out⟩
theorem Pr1.then_ {w0 w w' : World} {gw gd h : Nat} {F G : List Nat} {D : Dk} {gj : Nat} {v : Value} {gk : Nat} {u : Value} {b : Bool} {rs : List ByteArray} (P : Pr1 w0 w gw gd h F G D gj v gk u b rs) (hb : Below w.heap.size w w') : Pr1 w0 w' gw gd h F G D gj v gk u b rs :=
  ⟨P.p.then_ hb, P.j.then_ hb, P.k.below hb, P.kn, P.ka, P.d1, P.d2, P.o1⟩
theorem Ds.far {w0 w w' : World} {gd : Nat} {F S : List Nat} {D : Dk} (h : Ds w0 w gd F D) (k : Kept S w w') (hS : ∀ x ∈ S, w0.heap.size ≤ x) (hd : ∀ x ∈ F, x ∉ S) : Ds w0 w' gd F D :=
  ⟨h.disk.kept k hd, h.new, k.below_next h.below h.below.size hS⟩
theorem Jd.far {w0 w w' : World} {gj gd : Nat} {v : Value} {F S : List Nat} {b : Bool} {rs : List ByteArray} {D : Dk} (h : Jd w0 w gj gd v F b rs D) (k : Kept S w w') (hS : ∀ x ∈ S, w0.heap.size ≤ x) (hd : ∀ x ∈ F, x ∉ S) (hj : ∀ x ∈ gj :: v.ownBlock.toList, x ∉ S) : Jd w0 w' gj gd v F b rs D :=
  ⟨h.ds.far k hS hd, tape_kept h.jrn k (hj gj (by simp)) (fun x hx => hj x (List.mem_cons_of_mem _ (Option.mem_toList.2 hx))), h.newj, h.apart, h.fit, h.small⟩
/-- the state that the law's world holds: the disk, and the journals if there are any -/
def WSt (w0 w : World) (gw : Nat) (o : Option (Bool × List ByteArray)) (D : Dk) : Prop :=
  ∃ gd h F G, match o with
    | none => Pr0 w0 w gw gd h F G D (.pointer none) (.pointer none)
    | some x => ∃ gj v gk u, Pr1 w0 w gw gd h F G D gj v gk u x.1 x.2
theorem opR_code {D : Dk} (h : (opR D).2.1 = none) : (opR D).1 ≠ 0 := by
  cases ho : D.off with
  | true => rw [opR_off ho]; show (331 : Int) ≠ 0; decide
  | false =>
    cases hl : Jr.load chainS D.vis D.vis.length zed 0 with
    | none => rw [opR_none ho hl]; show (342 : Int) ≠ 0; decide
    | some x =>
      obtain ⟨acc, H, k⟩ := x
      rw [opR_some ho hl] at h ⊢
      split at h
      · cases h
      · rename_i hw
        rw [if_neg hw]
        exact hw
theorem vis_opR {D : Dk} (hv : Vis D) : Vis (opR D).2.2 := by
  have hw : ∀ k, Vis (wipe D k).2 := fun k => by
    unfold wipe
    split
    · exact hv
    · split
      · exact hv
      · split
        · exact vis_wr hv _ _
        · exact vis_sy _
  cases ho : D.off with
  | true => rw [opR_off ho]; exact hv
  | false =>
    cases hl : Jr.load chainS D.vis D.vis.length zed 0 with
    | none => rw [opR_none ho hl]; exact hv
    | some x =>
      obtain ⟨acc, H, k⟩ := x
      rw [opR_some ho hl]
      split <;> exact hw k
theorem ropen_any (h n : Nat) (G : List Nat) (D : Dk) (w : World) (hR : RefAt w h G D) (hv : Vis D) (hn : D.sure.length = n) (hn1 : 1 ≤ n) (hpl : D.pend.length ≤ 900000) :
    Calls Tryz.prog 63 #[.pointer (some ⟨h, 0, none⟩)] w (ROpnQ h G (opR D) w) := by
  cases ho : D.off with
  | true => exact ropen_off h G D w hR ho
  | false => exact ropen_on h n G D w hR ho hv hn hn1 hpl
set_option maxRecDepth 100000 in
set_option maxHeartbeats 4000000 in
theorem wopen_any (w0 : World) (gw gd h : Nat) (F G : List Nat) (D : Dk) (pj pk : Value) (a : Addr) (w : World) (P : Pr0 w0 w gw gd h F G D pj pk) (hj1 : ∃ x, pj = .pointer x) (hk1 : ∃ x, pk = .pointer x) (hK : RoundIn w0) (hE : ErrIn w0 222 (.pointer (some a))) (hn1 : 1 ≤ D.sure.length) (hpl : D.pend.length ≤ 900000) :
    Calls Tryz.prog 29 #[.pointer (some ⟨gw, 0, none⟩)] w fun e w' => e = .returned (.bool true) ∧ WSt w0 w' gw ((opR D).2.1.map fun rs => (false, rs)) (opR D).2.2 := by
  have ho1 := jd_open w0 gd F D a w P.ds hK hE hpl
  have hor := fun W (hR : RefAt W h G D) => ropen_any h _ G D W hR P.vis rfl hn1 hpl
  have hvo := vis_opR P.vis
  have hco := opR_code (D := D)
  obtain ⟨pj, rfl⟩ := hj1
  obtain ⟨pk, rfl⟩ := hk1
  obtain ⟨R, hR⟩ : ∃ R, opR D = R := ⟨_, rfl⟩
  rw [hR] at ho1 hvo hco ⊢
  simp only [hR] at hor
  obtain ⟨c, o, D'⟩ := R
  dsimp only at hvo hco
  have PP := Lib.hid P
  have HO := Lib.hid ho1
  have HOR := Lib.hid hor
  have HV := Lib.hid hvo
  have c0 := (cells4 P.blk).1
  have hgl := hlt P.blk
  clear ho1 hor hvo hR hK hE P
  cases o with
  | none =>
    have hc := hco rfl
    have hc1 : (c == 0) = false := by simpa using hc
    have hc2 : (c != 0) = true := by simpa using hc
    clear hco hc
    go_enter Tryz.func29, Tryz.ntmps29
    go_wp2_with fail
    refine HO.out.mono ?_
    rintro e w1 ⟨F1, s1, k1, n1, he⟩
    obtain rfl : e = .returned (.tuple #[.pointer none, .int .i64 c]) := he
    have r1 := PP.out.r.kept k1 (fun x hx hx2 => PP.out.dis x hx2 hx)
    have B1 := Lib.hid (k1.heap PP.out.blk PP.out.out.1)
    have S1 : Hid (Ds w0 w1 gd F1 D') := (show Ds w0 w1 gd F1 D' from s1)
    have HR1 := Lib.hid (HOR.out w1 r1)
    have hGl := PP.out.r.lt
    have d1 : ∀ x ∈ F1, x ∉ G := fun x hx hx2 => by
      rcases n1 x hx with h' | h'
      · exact PP.out.dis x h' hx2
      · have := hGl x hx2; omega
    have g1 : gw ∉ F1 := fun hx => by
      rcases n1 _ hx with h' | h'
      · exact PP.out.out.1 h'
      · omega
    have hs1 := k1.size
    have DD1 := Lib.hid d1
    have c2 := (cells4 B1.out).2.2.1
    clear s1 k1 n1 r1 hGl d1 c0
    go_wp2_with fail
    refine HR1.out.mono ?_
    rintro e w2 ⟨G2, r2, k2, n2, he⟩
    obtain rfl : e = .returned (.tuple #[.pointer none, .int .i64 c]) := he
    have R2 : Hid (RefAt w2 h G2 D') := (show RefAt w2 h G2 D' from r2)
    have B2 := Lib.hid (k2.heap B1.out PP.out.out.2)
    have S2 := Lib.hid (S1.out.far k2 PP.out.g DD1.out)
    have hF1 := S1.out.disk.lt
    have d2 : ∀ x ∈ F1, x ∉ G2 := fun x hx hx2 => by
      rcases n2 x hx2 with h' | h'
      · exact DD1.out x hx h'
      · have := hF1 x hx; omega
    have g2 : gw ∉ G2 := fun hx => by
      rcases n2 _ hx with h' | h'
      · exact PP.out.out.2 h'
      · omega
    have hG2 : ∀ x ∈ G2, w0.heap.size ≤ x := fun x hx => by
      rcases n2 x hx with h' | h'
      · exact PP.out.g x h'
      · have := S1.out.below.size; omega
    have DD2 := Lib.hid d2
    have HG2 := Lib.hid hG2
    have q1 := (cells4 B2.out).2.1
    have q3 := (cells4 B2.out).2.2.2
    have f1 := frozen_of_row w2 gw 1 _ _ B2.out
    have f3 := frozen_of_row w2 gw 3 _ _ B2.out
    clear r2 k2 n2 c2 hF1 d2 hG2
    go_wp2_with fail
    go_ret
    have s1 := heap_setCell_same w2 gw 1 _ _ (.pointer none) B2.out
    have s3 := heap_setCell_same _ gw 3 _ _ (.pointer none) s1
    have KF : Kept [gw] w2 ((w2.setCell ⟨gw, 1, none⟩ (.pointer none)).setCell ⟨gw, 3, none⟩ (.pointer none)) := ((Kept.refl _ _).setCell (.inl (by simp)) _).setCell (.inl (by simp)) _
    refine ⟨rfl, gd, h, F1, G2, ?_⟩
    exact ⟨S2.out.far KF (fun x hx => by obtain rfl : x = gw := (by simpa using hx); exact PP.out.new) (fun x hx hx2 => g1 (by obtain rfl : x = gw := (by simpa using hx2); exact hx)),
      R2.out.kept KF (fun x hx hx2 => g2 (by obtain rfl : x = gw := (by simpa using hx2); exact hx)), HV.out, HG2.out, DD2.out, by simpa using s3, PP.out.new, g1, g2⟩
  | some rs =>
    clear hco
    go_enter Tryz.func29, Tryz.ntmps29
    go_wp2_with fail
    refine HO.out.mono ?_
    rintro e w1 ⟨F1, s1, k1, n1, gj, v, he, hj, hjn⟩
    obtain rfl : e = .returned (.tuple #[.pointer (some ⟨gj, 0, none⟩), .int .i64 0]) := he
    have r1 := PP.out.r.kept k1 (fun x hx hx2 => PP.out.dis x hx2 hx)
    have B1 := Lib.hid (k1.heap PP.out.blk PP.out.out.1)
    have J1 : Hid (Jd w0 w1 gj gd v F1 false rs D') := (show Jd w0 w1 gj gd v F1 false rs D' from hj)
    have HR1 := Lib.hid (HOR.out w1 r1)
    have hGl := PP.out.r.lt
    have d1 : ∀ x ∈ F1, x ∉ G := fun x hx hx2 => by
      rcases n1 x hx with h' | h'
      · exact PP.out.dis x h' hx2
      · have := hGl x hx2; omega
    have g1 : gw ∉ F1 := fun hx => by
      rcases n1 _ hx with h' | h'
      · exact PP.out.out.1 h'
      · omega
    have j1 : ∀ x ∈ gj :: v.ownBlock.toList, x ∉ G ∧ x ≠ gw := fun x hx => ⟨fun hx2 => by have := hjn x hx; have := hGl x hx2; omega, fun e => by have := hjn x hx; omega⟩
    have j1l : ∀ x ∈ gj :: v.ownBlock.toList, x < w1.heap.size := fun x hx => by
      rcases List.mem_cons.1 hx with rfl | hx
      · exact hlt J1.out.jrn.blk
      · exact (J1.out.jrn.own.lt x (own_mem hx)).2
    have hs1 := k1.size
    have DD1 := Lib.hid d1
    have JJ1 := Lib.hid j1
    have JL1 := Lib.hid j1l
    have c2 := (cells4 B1.out).2.2.1
    clear s1 k1 n1 r1 hGl d1 c0 hj hjn j1 j1l
    go_wp2_with fail
    refine HR1.out.mono ?_
    rintro e w2 ⟨G2, r2, k2, n2, gk, u, he, t2, hkn, hks⟩
    obtain rfl : e = .returned (.tuple #[.pointer (some ⟨gk, 0, none⟩), .int .i64 0]) := he
    have R2 : Hid (RefAt w2 h G2 D') := (show RefAt w2 h G2 D' from r2)
    have T2 := Lib.hid t2
    have B2 := Lib.hid (k2.heap B1.out PP.out.out.2)
    have J2 := Lib.hid (J1.out.far k2 PP.out.g DD1.out (fun x hx => (JJ1.out x hx).1))
    have hF1 := J1.out.ds.disk.lt
    have d2 : ∀ x ∈ F1, x ∉ G2 := fun x hx hx2 => by
      rcases n2 x hx2 with h' | h'
      · exact DD1.out x hx h'
      · have := hF1 x hx; omega
    have g2 : gw ∉ G2 := fun hx => by
      rcases n2 _ hx with h' | h'
      · exact PP.out.out.2 h'
      · omega
    have hG2 : ∀ x ∈ G2, w0.heap.size ≤ x := fun x hx => by
      rcases n2 x hx with h' | h'
      · exact PP.out.g x h'
      · have := J1.out.ds.below.size; omega
    have k1 : ∀ x ∈ gk :: u.ownBlock.toList, w0.heap.size ≤ x ∧ x ∉ G2 ∧ x ∉ gj :: F1 := fun x hx => by
      have h1 := hkn x hx
      refine ⟨by have := J1.out.ds.below.size; omega, h1.2, fun hx2 => ?_⟩
      rcases List.mem_cons.1 hx2 with rfl | hx2
      · have := JL1.out x (by simp); omega
      · have := hF1 x hx2; omega
    have j2 : ∀ x ∈ gj :: v.ownBlock.toList, x ∉ gk :: G2 := fun x hx hx2 => by
      have h3 := JL1.out x hx
      rcases List.mem_cons.1 hx2 with rfl | hx2
      · have := (hkn x (by simp)).1; omega
      · rcases n2 x hx2 with h' | h'
        · exact (JJ1.out x hx).1 h'
        · omega
    have gk1 : gw ≠ gk := fun e => by have := (hkn gk (by simp)).1; omega
    have hw2 : ∀ x ∈ gk :: u.ownBlock.toList, x ≠ gw := fun x hx e => by have := (hkn x hx).1; omega
    have DD2 := Lib.hid d2
    have HG2 := Lib.hid hG2
    have KK1 := Lib.hid k1
    have JJ2 := Lib.hid j2
    have HW2 := Lib.hid hw2
    have q1 := (cells4 B2.out).2.1
    have q3 := (cells4 B2.out).2.2.2
    have f1 := frozen_of_row w2 gw 1 _ _ B2.out
    have f3 := frozen_of_row w2 gw 3 _ _ B2.out
    clear r2 k2 n2 c2 hF1 d2 hG2 k1 j2 t2 hkn hks hw2
    go_wp2_with fail
    go_ret
    have s1 := heap_setCell_same w2 gw 1 _ _ (.pointer (some ⟨gj, 0, none⟩)) B2.out
    have s3 := heap_setCell_same _ gw 3 _ _ (.pointer (some ⟨gk, 0, none⟩)) s1
    have KF : Kept [gw] w2 ((w2.setCell ⟨gw, 1, none⟩ (.pointer (some ⟨gj, 0, none⟩))).setCell ⟨gw, 3, none⟩ (.pointer (some ⟨gk, 0, none⟩))) := ((Kept.refl _ _).setCell (.inl (by simp)) _).setCell (.inl (by simp)) _
    have hgw : ∀ x ∈ [gw], w0.heap.size ≤ x := fun x hx => by obtain rfl : x = gw := (by simpa using hx); exact PP.out.new
    have hF : ∀ x ∈ F1, x ∉ [gw] := fun x hx hx2 => g1 (by obtain rfl : x = gw := (by simpa using hx2); exact hx)
    refine ⟨rfl, gd, h, F1, G2, gj, v, gk, u, ⟨J2.out.ds.far KF hgw hF, R2.out.kept KF (fun x hx hx2 => g2 (by obtain rfl : x = gw := (by simpa using hx2); exact hx)), HV.out, HG2.out, DD2.out, by simpa using s3, PP.out.new, g1, g2⟩,
      J2.out.far KF hgw hF (fun x hx hx2 => (JJ1.out x hx).2 (by simpa using hx2)), T2.out.kept KF (fun hx => HW2.out gk (by simp) (by simpa using hx)) (fun x hx hx2 => HW2.out x (List.mem_cons_of_mem _ hx) (by simpa using hx2)),
      fun x hx => (KK1.out x hx).1, fun x hx => (KK1.out x hx).2.1, fun x hx => (KK1.out x hx).2.2, JJ2.out, fun e => (JJ1.out gj (by simp)).2 e.symm, gk1⟩
end Go.Proofs.YtnjkinljpekohaaGreatDoor.Jo
namespace Go.Proofs.YtnjkinljpekohaaGreatDoor.Jo
open Go.RowKit Sha Dsk Jr
attribute [local go_sem] Oper.semAt_some
/-- Append, with where the records then lie -/
theorem jd_append2 (w0 : World) (gj gd n : Nat) (v : Value) (F : List Nat) (b : Bool) (rs : List ByteArray) (D : Dk) (l : List ByteArray) (A : Option Addr) (c : Nat) (w : World) (h : Jd w0 w gj gd v F b rs D) (hK : RoundIn w0)
    (hA : StrsAt w A l) (hl : l.length = n) (hn : n ≤ 1000) (hcap : n ≤ c) (hs : ∀ s ∈ l, (s.size : Int) ≤ 9223372036854775807) (hpl : D.pend.length ≤ 800000) :
    Calls Tryz.prog 17 #[.pointer (some ⟨gj, 0, none⟩), .slice A n c] w fun e w' => ∃ F' v', e = .returned (.int .i64 (apR b rs D l).1) ∧ Jd w0 w' gj gd v' F' (apR b rs D l).2.1 (apR b rs D l).2.2.1 (apR b rs D l).2.2.2 ∧ Kept (gj :: F) w w' ∧ New w F F' ∧ ∀ x ∈ gj :: v'.ownBlock.toList, x ∈ gj :: v.ownBlock.toList ∨ w.heap.size ≤ x := by
  have hok := h.ds.disk.ok
  have hmx := hok.max
  have hfit := h.fit
  have hq : Calls Tryz.prog 17 #[.pointer (some ⟨gj, 0, none⟩), .slice A n c] w (AppQ gj gd v F (app b (trip rs) D l) w) := by
    by_cases hno : b = true ∨ l.any longB = true
    · exact app_no gj gd n v F b (trip rs) D l A c w h.ds.disk h.jrn h.apart hA hl hn hs hno
    · obtain rfl : b = false := by
        cases b
        · rfl
        · exact absurd (.inl rfl) hno
      have hlb : l.any longB = false := by
        cases hx : l.any longB
        · rfl
        · exact absurd (.inr hx) hno
      have hcnt := need_count rs
      exact app_yes gj gd n v F (trip rs) D l A c w h.ds.disk h.jrn h.apart hA hl hn hcap hs hlb (hK.then_ h.ds.below) (by rw [show (trip rs).2.2 = need rs from st_need _ _]; exact hfit) (by rw [show (trip rs).1 = rs from rfl]; omega) (hd_size zed zed_size rs) hpl
  refine hq.mono ?_
  rintro e w' ⟨F', v', rfl, h1, h2, h3, h4, h5, h6⟩
  rw [app_apR] at h1 h2 ⊢
  have hgj := h.newj gj (by simp)
  have hb : Below w0.heap.size w0 w' := h3.below_next h.ds.below h.ds.below.size (fun x hx => by
    rcases List.mem_cons.1 hx with rfl | hx
    · exact hgj
    · exact h.ds.new x hx)
  have hsz := h.ds.below.size
  obtain ⟨f1, f2⟩ := apR_fit (b := b) (l := l) hok hfit
  refine ⟨F', v', rfl, ⟨⟨h1, fun x hx => ?_, hb⟩, h2, fun x hx => ?_, h6, by rw [f1]; exact f2, apR_small h.small⟩, h3, h4, h5⟩
  · rcases h4 x hx with h' | h'
    · exact h.ds.new x h'
    · omega
  · rcases h5 x hx with h' | h'
    · exact h.newj x h'
    · omega
/-- both disks turned alike -/
theorem Pr0.both {w0 w w1 w2 : World} {gw gd h : Nat} {F G F1 G2 : List Nat} {D D' : Dk} {pj pk : Value} (P : Pr0 w0 w gw gd h F G D pj pk) (d1 : DiskAt w1 gd F1 D') (k1 : Kept F w w1) (n1 : New w F F1) (r2 : RefAt w2 h G2 D') (k2 : Kept G w1 w2) (n2 : New w1 G G2) (hv : Vis D') : Pr0 w0 w2 gw gd h F1 G2 D' pj pk := by
  have s1 := P.ds.turn d1 k1 n1
  have hGl := P.r.lt
  have hgl := hlt P.blk
  have e1 : ∀ x ∈ F1, x ∉ G := fun x hx hx2 => by
    rcases n1 x hx with h' | h'
    · exact P.dis x h' hx2
    · have := hGl x hx2; omega
  have hF1 := s1.disk.lt
  have z1 := k1.size
  refine ⟨s1.far k2 P.g e1, r2, hv, fun x hx => ?_, fun x hx hx2 => ?_, k2.heap (k1.heap P.blk P.out.1) P.out.2, P.new, fun hx => ?_, fun hx => ?_⟩
  · rcases n2 x hx with h' | h'
    · exact P.g x h'
    · have := s1.below.size; omega
  · rcases n2 x hx2 with h' | h'
    · exact e1 x hx h'
    · have := hF1 x hx; omega
  · rcases n1 _ hx with h' | h'
    · exact P.out.1 h'
    · omega
  · rcases n2 _ hx with h' | h'
    · exact P.out.2 h'
    · omega
/-- both disks turned alike below their journals -/
theorem Pr1.both {w0 w w1 w2 : World} {gw gd h : Nat} {F G F1 G2 : List Nat} {D D' : Dk} {gj : Nat} {v : Value} {gk : Nat} {u : Value} {b : Bool} {rs : List ByteArray} (P : Pr1 w0 w gw gd h F G D gj v gk u b rs) (d1 : DiskAt w1 gd F1 D') (k1 : Kept F w w1) (n1 : New w F F1)
    (r2 : RefAt w2 h G2 D') (k2 : Kept G w1 w2) (n2 : New w1 G G2) (hv : Vis D') (hl : D'.sure.length = D.sure.length) : Pr1 w0 w2 gw gd h F1 G2 D' gj v gk u b rs := by
  have p2 := P.p.both d1 k1 n1 r2 k2 n2 hv
  have s1 := P.p.ds.turn d1 k1 n1
  have j1 := P.j.turn s1 k1 n1 hl
  have e1 : ∀ x ∈ F1, x ∉ G := fun x hx hx2 => by
    rcases n1 x hx with h' | h'
    · exact P.p.dis x h' hx2
    · have := P.p.r.lt x hx2; omega
  have hjl : ∀ x ∈ gj :: v.ownBlock.toList, x < w1.heap.size := fun x hx => by
    rcases List.mem_cons.1 hx with rfl | hx
    · exact hlt j1.jrn.blk
    · exact (j1.jrn.own.lt x (own_mem hx)).2
  have hkl : ∀ x ∈ gk :: u.ownBlock.toList, x < w.heap.size := fun x hx => by
    rcases List.mem_cons.1 hx with rfl | hx
    · exact P.k.lt
    · exact (P.k.own.lt x (own_mem hx)).2
  have q1 : ∀ x ∈ gk :: u.ownBlock.toList, x ∉ F := fun x hx hx2 => P.d1 x hx (List.mem_cons_of_mem _ hx2)
  have k1' := P.k.kept k1 (q1 gk (by simp)) (fun x hx => q1 x (List.mem_cons_of_mem _ hx))
  have k2' := k1'.kept k2 (P.ka gk (by simp)) (fun x hx => P.ka x (List.mem_cons_of_mem _ hx))
  have z1 := k1.size
  refine ⟨p2, j1.far k2 P.p.g e1 (fun x hx hx2 => P.d2 x hx (List.mem_cons_of_mem _ hx2)), k2', P.kn, fun x hx hx2 => ?_, fun x hx hx2 => ?_, fun x hx hx2 => ?_, P.o1⟩
  · rcases n2 x hx2 with h' | h'
    · exact P.ka x hx h'
    · have := hkl x hx; omega
  · rcases List.mem_cons.1 hx2 with rfl | hx2
    · exact P.d1 x hx (by simp)
    · rcases n1 x hx2 with h' | h'
      · exact q1 x hx h'
      · have := hkl x hx; omega
  · rcases List.mem_cons.1 hx2 with rfl | hx2
    · exact P.d2 x hx (by simp)
    · rcases n2 x hx2 with h' | h'
      · exact P.d2 x hx (List.mem_cons_of_mem _ h')
      · have := hjl x hx; omega
/-- both journals behind an Append -/
theorem Pr1.app {w0 w w1 w2 : World} {gw gd h : Nat} {F G F1 G2 : List Nat} {D D' : Dk} {gj : Nat} {v v1 : Value} {gk : Nat} {u u2 : Value} {b b' : Bool} {rs rs' : List ByteArray} (P : Pr1 w0 w gw gd h F G D gj v gk u b rs) (j1 : Jd w0 w1 gj gd v1 F1 b' rs' D') (k1 : Kept (gj :: F) w w1) (n1 : New w F F1)
    (m1 : ∀ x ∈ gj :: v1.ownBlock.toList, x ∈ gj :: v.ownBlock.toList ∨ w.heap.size ≤ x) (r2 : RefAt w2 h G2 D') (t2 : RjT w2 gk h u2 b' rs' (need rs')) (k2 : Kept (gk :: G) w1 w2) (n2 : New w1 G G2) (m2 : ∀ x ∈ u2.ownBlock.toList, x ∈ u.ownBlock.toList ∨ w1.heap.size ≤ x) (a2 : ∀ x ∈ gk :: u2.ownBlock.toList, x ∉ G2) (hv : Vis D') :
    Pr1 w0 w2 gw gd h F1 G2 D' gj v1 gk u2 b' rs' := by
  have hgl := hlt P.p.blk
  have hGl := P.p.r.lt
  have hkl : ∀ x ∈ gk :: u.ownBlock.toList, x < w.heap.size := fun x hx => by
    rcases List.mem_cons.1 hx with rfl | hx
    · exact P.k.lt
    · exact (P.k.own.lt x (own_mem hx)).2
  have hjl : ∀ x ∈ gj :: v1.ownBlock.toList, x < w1.heap.size := fun x hx => by
    rcases List.mem_cons.1 hx with rfl | hx
    · exact hlt j1.jrn.blk
    · exact (j1.jrn.own.lt x (own_mem hx)).2
  have hF1 := j1.ds.disk.lt
  have z1 := k1.size
  have hS : ∀ x ∈ gk :: G, w0.heap.size ≤ x := fun x hx => by
    rcases List.mem_cons.1 hx with rfl | hx
    · exact P.kn x (by simp)
    · exact P.p.g x hx
  have e1 : ∀ x ∈ F1, x ∉ gk :: G := fun x hx hx2 => by
    rcases n1 x hx with h' | h'
    · rcases List.mem_cons.1 hx2 with rfl | hx2
      · exact P.d1 x (by simp) (List.mem_cons_of_mem _ h')
      · exact P.p.dis x h' hx2
    · rcases List.mem_cons.1 hx2 with rfl | hx2
      · have := hkl x (by simp); omega
      · have := hGl x hx2; omega
  have e2 : ∀ x ∈ gj :: v1.ownBlock.toList, x ∉ gk :: G := fun x hx hx2 => by
    rcases m1 x hx with h' | h'
    · exact P.d2 x h' hx2
    · rcases List.mem_cons.1 hx2 with rfl | hx2
      · have := hkl x (by simp); omega
      · have := hGl x hx2; omega
  have j2 := j1.far k2 hS e1 e2
  have b1 := k1.heap P.p.blk (fun hx => by
    rcases List.mem_cons.1 hx with hx | hx
    · exact P.o1.1 hx
    · exact P.p.out.1 hx)
  have b2 := k2.heap b1 (fun hx => by
    rcases List.mem_cons.1 hx with hx | hx
    · exact P.o1.2 hx
    · exact P.p.out.2 hx)
  have hub : ∀ x ∈ gk :: u2.ownBlock.toList, x ∈ gk :: u.ownBlock.toList ∨ w1.heap.size ≤ x := fun x hx => by
    rcases List.mem_cons.1 hx with rfl | hx
    · exact .inl (by simp)
    · exact (m2 x hx).imp (fun h => List.mem_cons_of_mem _ h) id
  refine ⟨⟨j2.ds, r2, hv, fun x hx => ?_, fun x hx hx2 => ?_, b2, P.p.new, fun hx => ?_, fun hx => ?_⟩, j2, t2, fun x hx => ?_, a2, fun x hx hx2 => ?_, fun x hx hx2 => ?_, P.o1⟩
  · rcases n2 x hx with h' | h'
    · exact P.p.g x h'
    · have := j1.ds.below.size; omega
  · rcases n2 x hx2 with h' | h'
    · exact e1 x hx (List.mem_cons_of_mem _ h')
    · have := hF1 x hx; omega
  · rcases n1 _ hx with h' | h'
    · exact P.p.out.1 h'
    · omega
  · rcases n2 _ hx with h' | h'
    · exact P.p.out.2 h'
    · omega
  · rcases hub x hx with h' | h'
    · exact P.kn x h'
    · have := j1.ds.below.size; omega
  · rcases hub x hx with h' | h'
    · rcases List.mem_cons.1 hx2 with rfl | hx2
      · exact P.d1 x h' (by simp)
      · rcases n1 x hx2 with h2 | h2
        · exact P.d1 x h' (List.mem_cons_of_mem _ h2)
        · have := hkl x h'; omega
    · rcases List.mem_cons.1 hx2 with rfl | hx2
      · have := hjl x (by simp); omega
      · have := hF1 x hx2; omega
  · rcases List.mem_cons.1 hx2 with rfl | hx2
    · exact e2 x hx (by simp)
    · rcases n2 x hx2 with h' | h'
      · exact e2 x hx (List.mem_cons_of_mem _ h')
      · have := hjl x hx; omega
def cutc (D : Dk) : Int := if D.off then 331 else 0
def cutD (D : Dk) (n : Int) : Dk := if D.off then D else cu D n
theorem cut_gen (n : Int) (gd : Nat) (F : List Nat) (D : Dk) (w : World) (hd : DiskAt w gd F D) (h0 : 0 ≤ n) (hm : n ≤ 9223372036854775807) : Calls Tryz.prog 13 #[.pointer (some ⟨gd, 0, none⟩), .int .i64 n] w (TurnQ gd F (cutD D n) (.int .i64 (cutc D)) w) := by
  cases ho : D.off with
  | true =>
    rw [cutD, cutc, if_pos ho, if_pos ho]
    refine (cut_off n gd F D w hd ho).mono ?_
    rintro e w' ⟨rfl, rfl⟩
    exact ⟨F, rfl, hd, Kept.refl _ _, New.refl _ _⟩
  | false =>
    rw [cutD, cutc, if_neg (by rw [ho]; simp), if_neg (by rw [ho]; simp)]
    exact cut_yes n gd F D w hd ho h0 hm
theorem rcut_gen (n : Int) (h : Nat) (G : List Nat) (D : Dk) (w : World) (hR : RefAt w h G D) (h0 : 0 ≤ n) (hm : n ≤ 9223372036854775807) : Calls Tryz.prog 55 #[.pointer (some ⟨h, 0, none⟩), .int .i64 n] w (RTurn h G (cutD D n) (.int .i64 (cutc D)) w) := by
  cases ho : D.off with
  | true =>
    rw [cutD, cutc, if_pos ho, if_pos ho]
    refine (rcut_off n h G D w hR ho).mono ?_
    rintro e w' ⟨rfl, rfl⟩
    exact ⟨G, rfl, hR, Kept.refl _ _, New.refl _ _⟩
  | false =>
    rw [cutD, cutc, if_neg (by rw [ho]; simp), if_neg (by rw [ho]; simp)]
    exact rcut_yes n h G D w hR ho h0 hm
theorem cutD_vis {D : Dk} (hv : Vis D) (n : Int) : Vis (cutD D n) := by
  unfold cutD; split
  · exact hv
  · exact vis_cu hv n
theorem cutD_len (D : Dk) (n : Int) : (cutD D n).sure.length = D.sure.length ∧ (cutD D n).pend = D.pend := by
  unfold cutD; split
  · exact ⟨rfl, rfl⟩
  · exact ⟨rfl, rfl⟩
end Go.Proofs.YtnjkinljpekohaaGreatDoor.Jo
