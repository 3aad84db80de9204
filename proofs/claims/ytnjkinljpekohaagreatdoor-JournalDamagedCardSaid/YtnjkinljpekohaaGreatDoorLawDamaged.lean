/- JournalDamaged: the law. JournalDamaged: if a byte of the stored records that is not one of the length of a record is changed, Open returns ErrDamaged or fewer records (if a first byte becomes 0), or two different strings have the same digest; no condition beyond the row of the statement. -/
import Derived.Test.YtnjkinljpekohaaGreatDoorBw
import Derived.Lib.QuietBelow
import Derived.Test.YtnjkinljpekohaaGreatDoorBl
import Derived.Test.YtnjkinljpekohaaGreatDoorBp
namespace Go.Proofs.YtnjkinljpekohaaGreatDoor.Jo
open Go.RowKit Sha Dsk Jr
attribute [local go_sem] Oper.semAt_some
set_option maxRecDepth 100000 in
set_option maxHeartbeats 8000000 in
theorem dmg_law (at_ : Int) (cb : UInt8) (a : Addr) (A : Option Addr) (NG c : Nat) (G : List Grp) (w : World) (hK : RoundIn w) (hE : ErrIn w 222 (.pointer (some a))) (ha : I64 at_) (hG : GrpsAt w A G) (hN : G.length = NG) (_hNm : (NG : Int) ≤ 9223372036854775807) :
    Calls Tryz.prog 6 #[.slice A NG c, .int .i64 at_, .int .u8 ((cb.toNat : Nat) : Int)] w fun e w' => e = .returned (.bool true) ∧ Below w.heap.size w w' := by
  have HK := Lib.hid hK
  have HE := Lib.hid hE
  have HG := Lib.hid hG
  have HNG := Lib.hid hN
  have HAT := Lib.hid ha
  obtain ⟨x, hx⟩ : ∃ x : Int, ((cb.toNat : Nat) : Int) = x := ⟨_, rfl⟩
  have hx0 : 0 ≤ x := by omega
  have hx1 : x ≤ 255 := by have := cb.toNat_lt; omega
  rw [hx]
  have HX := Lib.hid hx
  have hnew := new_any 6000 w (by omega) (by omega)
  have HNW := Lib.hid (fun W => new_any 6000 W (by omega) (by omega))
  clear hK hE hG hN ha hx hnew
  go_enter Tryz.func6, Tryz.ntmps6
  go_wp2_with fail
  refine (sane_any a w HK.out HE.out).mono ?_
  rintro e w1 ⟨rfl, b1⟩
  have B1 := Lib.hid b1
  clear b1
  go_wp2_with fail
  refine (HNW.out w1).mono ?_
  rintro e w3 ⟨gd, F3, rfl, d3, n3, b3⟩
  have S3 : Hid (Ds w w3 gd F3 (nw 6000)) := (show Ds w w3 gd F3 (nw 6000) from ⟨d3, fun x hx => by have := n3 x hx; have := B1.out.size; omega, below_next B1.out b3⟩)
  clear d3 n3 b3 HNW
  go_wp2_with fail
  refine (jd_open w gd F3 (nw 6000) a w3 S3.out HK.out HE.out (by simp [nw])).mono ?_
  rw [opR_good (Good0.new 6000).good (by simp)]
  rintro e w4 ⟨F4, s4, -, -, gj, v4, rfl, j4, -⟩
  have J4 := Lib.hid j4
  clear s4 j4
  go_wp2_with fail
  go_loopw [12] (fun i wr => ∃ (k : Nat) (v : Value) (F : List Nat) (rs : List ByteArray) (D : Dk), k ≤ NG ∧ k ≤ 6 ∧ i = .int .i64 (k : Int) ∧ Jd w wr gj gd v F false rs D ∧ Good0 D rs 6000 ∧ need rs ≤ 852 * k) (fun i _ => 6 - (intOf i).toNat)
  case atStart => exact ⟨0, v4, F4, [], nw 6000, Nat.zero_le _, Nat.zero_le _, rfl, J4.out, Good0.new 6000, by simp [need]⟩
  case round =>
    obtain ⟨k, v, F, rs, D, hkN, hk6, rfl, hj, hg, hnd⟩ := hrel
    have J := Lib.hid hj
    have HGd := Lib.hid hg
    clear hj hg J4
    by_cases h1 : k < NG ∧ k < 6
    · obtain ⟨h1, h2⟩ := h1
      obtain ⟨b, o, rfl, hc, hgr⟩ := HG.out k (by rw [HNG.out]; exact h1)
      obtain ⟨g, hgd⟩ : ∃ g, G.getD k default = g := ⟨_, rfl⟩
      rw [hgd] at hc hgr
      obtain ⟨gA, gc, gl⟩ := g
      have hcr := cell_then J.out.ds.below hc
      have hfew := few_grp ⟨gA, gc, gl⟩ wr (hgr.then_ J.out.ds.below)
      obtain ⟨l, hl⟩ : ∃ l, fewS gl 6 = l := ⟨_, rfl⟩
      have hls := fewS_small gl
      have hl6 := few_len gl
      have hl1 := fewS_sizes gl 6
      dsimp only at hfew hcr
      rw [hl] at hls hl6 hfew hl1
      have hnl := need_few l hl6 hl1
      obtain ⟨D2, hap, hg2⟩ := apR_good (l := l) HGd.out hls (by omega)
      have hn2 : need (rs ++ l) ≤ 852 * (k + 1) := by rw [need_append]; omega
      have HFW := Lib.hid hfew
      have HLs := Lib.hid hls
      have HAp := Lib.hid hap
      have HG2 := Lib.hid hg2
      have hp : D.pend.length ≤ 800000 := by rw [HGd.out.good.none]; decide
      have g1 : (k : Int) < (NG : Int) := by omega
      have g2 : (k : Int) < 6 := by omega
      have g0 : (0 : Int) ≤ (k : Int) := by omega
      clear hc hgr hgd hls hap hg2 hfew hl hl1 hnl
      go_wp2_with fail
      refine HFW.out.mono ?_
      rintro e w5 ⟨A5, c5, rfl, st5, hc5, b5⟩
      have ha := jd_append w gj gd l.length v F false rs D l A5 c5 w5 (J.out.then_ b5) HK.out st5 rfl (by omega) hc5 (fun s hs => by have := HLs.out s hs; omega) hp
      rw [HAp.out] at ha
      have HA := Lib.hid ha
      clear ha st5 b5 hc5
      go_wp2_with fail
      refine HA.out.mono ?_
      rintro e w6 ⟨F6, v6, rfl, j6, -, -⟩
      have J6 : Hid (Jd w w6 gj gd v6 F6 false (rs ++ l) D2) := (show Jd w w6 gj gd v6 F6 false (rs ++ l) D2 from j6)
      clear j6
      dsimp only
      go_wp2_with fail
      exact ⟨⟨k + 1, v6, F6, rs ++ l, D2, by omega, by omega, by go_num, J6.out, HG2.out, hn2⟩, by simp [intOf]; omega⟩
    · obtain ⟨N, hN⟩ : ∃ N, rs.length = N := ⟨_, rfl⟩
      obtain ⟨U, hU⟩ : ∃ U, need rs = U := ⟨_, rfl⟩
      have hN5 : N ≤ 50000 := by have := need_count rs; omega
      have hUN : 34 * N ≤ U := by have := need_count rs; omega
      have hU6 : U ≤ 5112 := by omega
      obtain ⟨R, hR⟩ : ∃ R : Int, ((6000 : Nat) : Int) - (U : Int) = R := ⟨_, rfl⟩
      have hR0 : 0 ≤ R := by omega
      have hR6 : R ≤ 6000 := by omega
      have hRU : 6000 - R = (U : Int) := by omega
      have hu0 : U = 0 → N = 0 := fun h => by omega
      have HN := Lib.hid hN
      have HU := Lib.hid hU
      have HR := Lib.hid hR
      have HRU := Lib.hid hRU
      have hend : ¬ (k : Int) < (NG : Int) ∨ ((k : Int) < (NG : Int) ∧ ¬ (k : Int) < 6) := by omega
      clear h1 hN hU hR hRU hnd
      rcases hend with g1 | ⟨g1, g2⟩
      all_goals
        go_wp2_with fail
        refine (jd_recs3 w gj gd N v F false rs D wr J.out HN.out).mono ?_
        rintro e w5 ⟨A5, c5, rfl, hc5, hw5, b5⟩
        have J5 : Hid (Jd w w5 gj gd v F false rs D) := (show Jd w w5 gj gd v F false rs D from J.out.then_ b5)
        have V5 : Hid (Was w5 (gj :: F) A5 rs) := (show Was w5 (gj :: F) A5 rs from hw5)
        have hrm := jd_room w gj gd v F false rs D w5 J5.out
        rw [HGd.out.len, HU.out, HR.out] at hrm
        have HRM := Lib.hid hrm
        clear hw5 b5 hrm
        go_wp2_with fail
        refine HRM.out.mono ?_
        rintro e w6 ⟨rfl, hw6⟩
        have J6 : Hid (Jd w w6 gj gd v F false rs D) := (show Jd w w6 gj gd v F false rs D by rw [← hw6]; exact J5.out.drew)
        have V6 : Hid (Was w6 (gj :: F) A5 rs) := (show Was w6 (gj :: F) A5 rs by rw [← hw6]; exact V5.out.then_ (Below.refl _ _).drew)
        clear hw6 HRM
        have HB6 := Lib.hid J6.out.ds.below
        by_cases hU0 : U = 0
        · obtain rfl : N = 0 := hu0 hU0
          obtain rfl : R = 6000 := by have := HRU.out; omega
          clear HRU HR hu0
          go_wp2_with fail
          go_ret
          exact ⟨rfl, HB6.out⟩
        · have q1 : ¬ 6000 - R ≤ 0 := by have := HRU.out; omega
          have q2 : ¬ 6000 ≤ R := by have := HRU.out; omega
          have q3 : ¬ 6000 < 6000 - R := by omega
          obtain ⟨kk, hkk, hkU⟩ : ∃ kk, pk at_ U = kk ∧ kk < U := ⟨_, rfl, pk_lt at_ (by omega)⟩
          have hpk := pick_any at_ U w6 HAT.out (by omega) (by omega)
          rw [hkk] at hpk
          have HPK := Lib.hid hpk
          obtain ⟨sb, hsb⟩ : ∃ sb, sizedL rs (kk : Int) = sb := ⟨_, rfl⟩
          have HSB := Lib.hid hsb
          clear hpk hkk hsb hu0
          go_wp2_with fail
          rw [HRU.out]
          refine HPK.out.mono ?_
          rintro e w7 ⟨rfl, rfl⟩
          have hsz := sized_any A5 c5 N kk rs w6 V6.out.strs HN.out hN5 J6.out.small (by omega)
          rw [HSB.out] at hsz
          have HSZ := Lib.hid hsz
          clear hsz q1 q2 q3 HPK
          go_wp2_with fail
          refine HSZ.out.mono ?_
          rintro e w8 ⟨rfl, b8⟩
          have J8 : Hid (Jd w w8 gj gd v F false rs D) := (show Jd w w8 gj gd v F false rs D from J6.out.then_ b8)
          have V8 : Hid (Was w8 (gj :: F) A5 rs) := (show Was w8 (gj :: F) A5 rs from V6.out.then_ b8)
          clear b8 HSZ
          cases sb with
          | true =>
            have HB8 := Lib.hid J8.out.ds.below
            go_wp2_with fail
            go_ret
            exact ⟨rfl, HB8.out⟩
          | false =>
            have hct := content_on gd F D w8 J8.out.ds.disk HGd.out.good.on
            obtain ⟨S, hS⟩ : ∃ S, sof D.vis = S := ⟨_, rfl⟩
            have hSs : (S.size : Int) = 6000 := by rw [← hS, ← bts_length, bts_sof, HGd.out.good.vis, HGd.out.len]; rfl
            rw [hS] at hct
            have HCT := Lib.hid hct
            have HS := Lib.hid hS
            have hks : kk < S.size := by omega
            have HSS := Lib.hid hSs
            clear hct hS
            go_wp2_with fail
            refine HCT.out.mono ?_
            rintro e w9 ⟨rfl, rfl⟩
            have HB8 := Lib.hid J8.out.ds.below
            rcases Bool.eq_false_or_eq_true (((S[kk].toNat : Nat) : Int) == x) with y | y
            · go_wp2_with fail
              go_ret
              exact ⟨rfl, HB8.out⟩
            · have hcv := conv_byte cb w8.heap.size (w8.alloc (.cells #[.int .u8 x] 5)) (by rw [HX.out]; exact new_cell rfl)
              have hne : D.vis.getD kk 0 ≠ cb := fun e => by
                rw [beq_eq_false_iff_ne] at y
                apply y
                rw [← HX.out, ← e]
                have hS := HS.out
                subst hS
                have hl : kk < D.vis.length := by have := bts_length (sof D.vis); rw [bts_sof] at this; omega
                show ((((sof D.vis)[kk]'hks).toNat : Nat) : Int) = _
                rw [List.getD, List.getElem?_eq_getElem hl]
                rfl
              have hdo := dmg_open (c := cb) HGd.out (by rw [HU.out]; exact hkU) HSB.out hne
              have HDO := Lib.hid hdo
              have HCV := Lib.hid hcv
              have hB9 := below_alloc (Below.refl w8.heap.size w8) (.cells #[.int .u8 x] 5)
              obtain ⟨W9, hW9⟩ : ∃ W9, w8.alloc (.cells #[.int .u8 x] 5) = W9 := ⟨_, rfl⟩
              have HW9 := Lib.hid hW9
              rw [hW9] at hB9
              have J9 : Hid (Jd w W9 gj gd v F false rs D) := (show Jd w W9 gj gd v F false rs D from J8.out.then_ hB9)
              have V9 : Hid (Was W9 (gj :: F) A5 rs) := (show Was W9 (gj :: F) A5 rs from V8.out.then_ hB9)
              have hwr := write_in kk (sof [cb]) gd F D W9 J9.out.ds.disk HGd.out.good.on (by rw [HGd.out.len, ← bts_length, bts_sof, List.length_singleton]; omega) (by rw [HGd.out.good.none]; decide)
              obtain ⟨D10, hD10⟩ : ∃ D10, Dsk.wr D kk (sof [cb]) = D10 := ⟨_, rfl⟩
              have hp10 : D10.pend.length ≤ 10 := by
                rw [← hD10]
                show (D.pend ++ [_]).length ≤ 10
                rw [HGd.out.good.none]; simp
              have hl10 : D10.sure.length = 6000 := by rw [← hD10]; exact HGd.out.len
              rw [hD10] at hwr HDO
              have HWR := Lib.hid hwr
              have HL10 := Lib.hid hl10
              clear hcv hne hdo hB9 hW9 hwr hD10 hl10
              go_wp2_with (rw [HCV.out])
              rw [HW9.out]
              refine HWR.out.mono ?_
              rintro e w10 ⟨F10, rfl, d10, k10, n10⟩
              have S10 : Hid (Ds w w10 gd F10 D10) := (show Ds w w10 gd F10 D10 from J9.out.ds.turn d10 k10 n10)
              have V10 : Hid (Was w10 (gj :: F10) A5 rs) := (show Was w10 (gj :: F10) A5 rs from V9.out.turn (k10.mono (fun x hx => List.mem_cons_of_mem _ hx)) (New.cons n10 gj))
              have hok := S10.out.disk.ok
              have hol : (opR D10).2.2.sure.length = 6000 := by
                have := opn_length hok
                rw [HL10.out] at this
                exact this
              have ho := jd_open w gd F10 D10 a w10 S10.out HK.out HE.out (by omega)
              clear d10 k10 n10 hok HWR
              rcases HDO.out with h342 | ⟨is, D2, h0, hor⟩
              · rw [h342] at ho
                have HO := Lib.hid ho
                clear ho h342 hol
                go_wp2_with fail
                refine HO.out.mono ?_
                rintro e w11 ⟨F11, s11, k11, n11, he⟩
                obtain rfl : e = .returned (.tuple #[.pointer none, .int .i64 342]) := he
                have HB11 := Lib.hid s11.below
                clear s11 k11 n11
                go_wp2_with fail
                go_ret
                exact ⟨rfl, HB11.out⟩
              · rw [h0] at ho hol
                have HO := Lib.hid ho
                have HOL := Lib.hid hol
                have HOR := Lib.hid hor
                clear ho h0 hol hor HDO
                go_wp2_with fail
                refine HO.out.mono ?_
                rintro e w11 ⟨F11, -, k11, n11, gx, vx, rfl, jx, -⟩
                have J11 : Hid (Jd w w11 gx gd vx F11 false is D2) := (show Jd w w11 gx gd vx F11 false is D2 from jx)
                have V11 : Hid (Was w11 (gj :: F11) A5 rs) := (show Was w11 (gj :: F11) A5 rs from V10.out.turn (k11.mono (fun x hx => List.mem_cons_of_mem _ hx)) (New.cons n11 gj))
                have HIS := Lib.hid jx.small
                have hN25 : is.length ≤ 50000 := by have h1 := need_count is; have h2 := J11.out.fit; have h3 : D2.sure.length = 6000 := HOL.out; omega
                have hcol : Meet chainS zed rs is → Coll (headsT rs N) (headsT is is.length) := fun h => by rw [← HN.out]; exact meet_coll h
                obtain ⟨N2, hN2⟩ : ∃ N2, is.length = N2 := ⟨_, rfl⟩
                rw [hN2] at hN25
                simp only [hN2] at hcol
                have hor := HOR.out
                rw [hN2] at hor
                have HOR2 := Lib.hid hor
                have HN2 := Lib.hid hN2
                have HCL := Lib.hid hcol
                clear k11 n11 jx HO HOR hN2 hcol hor
                go_wp2_with fail
                refine (jd_recs3 w gx gd N2 vx F11 false is D2 w11 J11.out HN2.out).mono ?_
                rintro e w12 ⟨A12, c12, rfl, hc12, hw12, b12⟩
                have J12 : Hid (Jd w w12 gx gd vx F11 false is D2) := (show Jd w w12 gx gd vx F11 false is D2 from J11.out.then_ b12)
                have V12 : Hid (Was w12 (gj :: F11) A5 rs) := (show Was w12 (gj :: F11) A5 rs from V11.out.then_ b12)
                have I12 : Hid (Was w12 (gx :: F11) A12 is) := (show Was w12 (gx :: F11) A12 is from hw12)
                clear hw12 b12
                by_cases hx00 : x = 0
                · by_cases hlt : N2 < N
                  · have hlt' : decide (N2 < N) = true := by simp [hlt]
                    have hsa := same_any A12 A5 N2 N2 c12 c5 is (rs.take N2) w12 I12.out.strs (fun i hi => by
                      rw [List.length_take] at hi
                      obtain ⟨b', o', h1, h2⟩ := V12.out.strs i (by omega)
                      refine ⟨b', o', h1, ?_⟩
                      rw [h2, List.getD, List.getD, List.getElem?_take, if_pos (by omega)]) HN2.out (by rw [List.length_take, HN.out]; omega) (by omega) (by omega)
                    by_cases hpre : is = rs.take N2
                    · rw [decide_eq_true hpre] at hsa
                      have HSA := Lib.hid hsa
                      have hx9 : (x == 0) = true := by rw [hx00]; rfl
                      have hn5 : N2 ≤ c5 := by omega
                      clear hsa hpre hx00
                      go_wp2_with fail
                      refine HSA.out.mono ?_
                      rintro e w13 ⟨rfl, b13⟩
                      have HB13 := Lib.hid (below_next J12.out.ds.below b13)
                      clear b13
                      go_wp2_with fail
                      go_ret
                      exact ⟨rfl, HB13.out⟩
                    · rw [decide_eq_false hpre] at hsa
                      have HC := Lib.hid (HCL.out (by
                        rcases HOR2.out with h | h
                        · exact absurd h.2.2 hpre
                        · exact h))
                      have HSA := Lib.hid hsa
                      have hx9 : (x == 0) = true := by rw [hx00]; rfl
                      have hn5 : N2 ≤ c5 := by omega
                      clear hsa hpre hx00
                      go_wp2_with fail
                      refine HSA.out.mono ?_
                      rintro e w13 ⟨rfl, b13⟩
                      have J13 : Hid (Jd w w13 gx gd vx F11 false is D2) := (show Jd w w13 gx gd vx F11 false is D2 from J12.out.then_ b13)
                      have V13 : Hid (Was w13 (gj :: F11) A5 rs) := (show Was w13 (gj :: F11) A5 rs from V12.out.then_ b13)
                      have I13 : Hid (Was w13 (gx :: F11) A12 is) := (show Was w13 (gx :: F11) A12 is from I12.out.then_ b13)
                      clear b13 HSA
                      have hk1 := heads_any A5 c5 N rs w13 V13.out.strs HN.out hN5 J6.out.small
                      have HK1 := Lib.hid hk1
                      clear hk1
                      go_wp2_with fail
                      refine HK1.out.mono ?_
                      rintro e w14 ⟨A14, c14, rfl, o14, b14⟩
                      have O14 := Lib.hid o14
                      have hk2 := heads_any A12 c12 N2 is w14 (I13.out.strs.then_ b14) HN2.out hN25 HIS.out
                      have HK2 := Lib.hid hk2
                      have B14 := Lib.hid (below_next J13.out.ds.below b14)
                      clear hk2 o14 b14 HK1
                      go_wp2_with fail
                      refine HK2.out.mono ?_
                      rintro e w15 ⟨A15, c15, rfl, o15, b15⟩
                      have HA := Lib.hid ((own_strs O14.out (headsT_length rs N)).then_ b15)
                      have HB := Lib.hid (own_strs o15 (headsT_length is N2))
                      have B15 := Lib.hid (below_next B14.out b15)
                      clear o15 b15 HK2 O14
                      obtain ⟨xs, hxs⟩ : ∃ xs, headsT rs N = xs := ⟨_, rfl⟩
                      obtain ⟨ys, hys⟩ : ∃ ys, headsT is N2 = ys := ⟨_, rfl⟩
                      have hcc := HC.out
                      have hsx := headsT_sizes HN.out.symm J6.out.small
                      have hsy := headsT_sizes HN2.out.symm HIS.out
                      have hlx := headsT_length rs N
                      have hly := headsT_length is N2
                      rw [hxs] at hcc hsx hlx HA
                      rw [hys] at hcc hsy hly HB
                      clear hxs hys
                      obtain ⟨j, hj1, hj2, hj3, hj4⟩ := hcc
                      have hjx : j < N := by omega
                      have hjy : j < N2 := by omega
                      have HJ3 := Lib.hid hj3
                      have HJ4 := Lib.hid hj4
                      have HSX := Lib.hid hsx
                      have HSY := Lib.hid hsy
                      have HLX := Lib.hid hlx
                      have HLY := Lib.hid hly
                      clear hj3 hj4 hsx hsy hlx hly
                      obtain ⟨wl, hwl⟩ : ∃ wl, wl = wr := ⟨_, rfl⟩
                      subst hwl
                      go_wp2_with fail
                      go_loopw [23] (fun i wq => ∃ q : Nat, i = .int .i64 (q : Int) ∧ q ≤ j ∧ Below w15.heap.size w15 wq) (fun i _ => j + 1 - (intOf i).toNat)
                      case atStart => exact ⟨0, rfl, Nat.zero_le _, Below.refl _ _⟩
                      case round =>
                        obtain ⟨q, rfl, hq, hb⟩ := hrel
                        have hkx : q < xs.length := by have := HLX.out; omega
                        have hky : q < ys.length := by have := HLY.out; omega
                        have y1 : (q : Int) < (N : Int) := by omega
                        have y2 : (q : Int) < (N2 : Int) := by omega
                        obtain ⟨b1, o1, rfl, c1⟩ := strs_at (HA.out.then_ hb) hkx
                        obtain ⟨b2, o2, rfl, c2⟩ := strs_at (HB.out.then_ hb) hky
                        have s1 := HSX.out _ (List.getElem_mem hkx)
                        have s2 := HSY.out _ (List.getElem_mem hky)
                        have hj : q = j → xs[q] ≠ ys[q] ∧ sumS xs[q] = sumS ys[q] := fun e => by subst e; exact ⟨HJ3.out, HJ4.out⟩
                        obtain ⟨u, hu⟩ : ∃ u, xs[q] = u := ⟨_, rfl⟩
                        obtain ⟨t, ht⟩ : ∃ t, ys[q] = t := ⟨_, rfl⟩
                        rw [hu] at c1 s1 hj
                        rw [ht] at c2 s2 hj
                        have C1 := Lib.hid c1
                        have C2 := Lib.hid c2
                        have HBB := Lib.hid (below_next B15.out hb)
                        have HB5 := Lib.hid hb
                        have HJ := Lib.hid hj
                        have HSU := Lib.hid (fun d os => rsum_any u (Sort.grow (redrawn wr d) os) s1)
                        have HSV := Lib.hid (fun d os => rsum_any t (Sort.grow (redrawn wr d) os) s2)
                        clear hu ht c1 c2 hj hkx hky hb
                        go_wp2_with fail
                        by_cases he : u = t
                        · have hd : (u.toList == t.toList) = true := eq_of he
                          have hkj : q < j := by
                            rcases Nat.lt_or_ge q j with h | h
                            · exact h
                            · exact absurd he (HJ.out (by omega)).1
                          have g_1 := fun D os => cell_regrown C1.out D os
                          have g_2 := fun D os => cell_regrown C2.out D os
                          refine wp_region_quiet_below (by kernel_rfl) (by kernel_rfl) ?_
                          repeat (go_big_quiet_step (fail))
                          refine wpQuiet_nil ?_
                          intro wq hq0
                          have hq := below_of_class hq0
                          clear hq0
                          clear g_1 g_2
                          go_wp2_with fail
                          refine ⟨⟨q + 1, by rfl, by omega, below_next HB5.out hq⟩, by simp [intOf]; omega⟩
                        · have hd : (u.toList == t.toList) = false := neq_of he
                          by_cases hs : sumS u = sumS t
                          · have hd2 : ((sumS u).toList == (sumS t).toList) = true := eq_of hs
                            have g_1 := fun D os => cell_regrown C1.out D os
                            have g_2 := fun D os => cell_regrown C2.out D os
                            refine wp_region_quiet_below (by kernel_rfl) (by kernel_rfl) ?_
                            repeat (go_big_quiet_step (first | (with_reducible exact Calls.regrown_of (HSU.out _ _)) | (with_reducible exact Calls.regrown_of (HSV.out _ _))))
                            refine wpQuiet_nil ?_
                            intro wq hq0
                            have hq := below_of_class hq0
                            clear hq0
                            clear g_1 g_2
                            go_wp2_with fail
                            go_ret
                            exact ⟨rfl, below_next HBB.out hq⟩
                          · have hd2 : ((sumS u).toList == (sumS t).toList) = false := neq_of hs
                            have hkj : q < j := by
                              rcases Nat.lt_or_ge q j with h | h
                              · exact h
                              · exact absurd (HJ.out (by omega)).2 hs
                            have g_1 := fun D os => cell_regrown C1.out D os
                            have g_2 := fun D os => cell_regrown C2.out D os
                            refine wp_region_quiet_below (by kernel_rfl) (by kernel_rfl) ?_
                            repeat (go_big_quiet_step (first | (with_reducible exact Calls.regrown_of (HSU.out _ _)) | (with_reducible exact Calls.regrown_of (HSV.out _ _))))
                            refine wpQuiet_nil ?_
                            intro wq hq0
                            have hq := below_of_class hq0
                            clear hq0
                            clear g_1 g_2
                            go_wp2_with fail
                            refine ⟨⟨q + 1, by rfl, by omega, below_next HB5.out hq⟩, by simp [intOf]; omega⟩
                  · have hlt' : decide (N2 < N) = false := by simp; omega
                    have HC := Lib.hid (HCL.out (by
                      rcases HOR2.out with h | h
                      · exact absurd h.2.1 (by rw [HN.out]; exact hlt)
                      · exact h))
                    have hx9 : (x == 0) = true := by rw [hx00]; rfl
                    clear hx00
                    have hk1 := heads_any A5 c5 N rs w12 V12.out.strs HN.out hN5 J6.out.small
                    have HK1 := Lib.hid hk1
                    clear hk1
                    go_wp2_with fail
                    refine HK1.out.mono ?_
                    rintro e w14 ⟨A14, c14, rfl, o14, b14⟩
                    have O14 := Lib.hid o14
                    have hk2 := heads_any A12 c12 N2 is w14 (I12.out.strs.then_ b14) HN2.out hN25 HIS.out
                    have HK2 := Lib.hid hk2
                    have B14 := Lib.hid (below_next J12.out.ds.below b14)
                    clear hk2 o14 b14 HK1
                    go_wp2_with fail
                    refine HK2.out.mono ?_
                    rintro e w15 ⟨A15, c15, rfl, o15, b15⟩
                    have HA := Lib.hid ((own_strs O14.out (headsT_length rs N)).then_ b15)
                    have HB := Lib.hid (own_strs o15 (headsT_length is N2))
                    have B15 := Lib.hid (below_next B14.out b15)
                    clear o15 b15 HK2 O14
                    obtain ⟨xs, hxs⟩ : ∃ xs, headsT rs N = xs := ⟨_, rfl⟩
                    obtain ⟨ys, hys⟩ : ∃ ys, headsT is N2 = ys := ⟨_, rfl⟩
                    have hcc := HC.out
                    have hsx := headsT_sizes HN.out.symm J6.out.small
                    have hsy := headsT_sizes HN2.out.symm HIS.out
                    have hlx := headsT_length rs N
                    have hly := headsT_length is N2
                    rw [hxs] at hcc hsx hlx HA
                    rw [hys] at hcc hsy hly HB
                    clear hxs hys
                    obtain ⟨j, hj1, hj2, hj3, hj4⟩ := hcc
                    have hjx : j < N := by omega
                    have hjy : j < N2 := by omega
                    have HJ3 := Lib.hid hj3
                    have HJ4 := Lib.hid hj4
                    have HSX := Lib.hid hsx
                    have HSY := Lib.hid hsy
                    have HLX := Lib.hid hlx
                    have HLY := Lib.hid hly
                    clear hj3 hj4 hsx hsy hlx hly
                    obtain ⟨wl, hwl⟩ : ∃ wl, wl = wr := ⟨_, rfl⟩
                    subst hwl
                    go_wp2_with fail
                    go_loopw [23] (fun i wq => ∃ q : Nat, i = .int .i64 (q : Int) ∧ q ≤ j ∧ Below w15.heap.size w15 wq) (fun i _ => j + 1 - (intOf i).toNat)
                    case atStart => exact ⟨0, rfl, Nat.zero_le _, Below.refl _ _⟩
                    case round =>
                      obtain ⟨q, rfl, hq, hb⟩ := hrel
                      have hkx : q < xs.length := by have := HLX.out; omega
                      have hky : q < ys.length := by have := HLY.out; omega
                      have y1 : (q : Int) < (N : Int) := by omega
                      have y2 : (q : Int) < (N2 : Int) := by omega
                      obtain ⟨b1, o1, rfl, c1⟩ := strs_at (HA.out.then_ hb) hkx
                      obtain ⟨b2, o2, rfl, c2⟩ := strs_at (HB.out.then_ hb) hky
                      have s1 := HSX.out _ (List.getElem_mem hkx)
                      have s2 := HSY.out _ (List.getElem_mem hky)
                      have hj : q = j → xs[q] ≠ ys[q] ∧ sumS xs[q] = sumS ys[q] := fun e => by subst e; exact ⟨HJ3.out, HJ4.out⟩
                      obtain ⟨u, hu⟩ : ∃ u, xs[q] = u := ⟨_, rfl⟩
                      obtain ⟨t, ht⟩ : ∃ t, ys[q] = t := ⟨_, rfl⟩
                      rw [hu] at c1 s1 hj
                      rw [ht] at c2 s2 hj
                      have C1 := Lib.hid c1
                      have C2 := Lib.hid c2
                      have HBB := Lib.hid (below_next B15.out hb)
                      have HB5 := Lib.hid hb
                      have HJ := Lib.hid hj
                      have HSU := Lib.hid (fun d os => rsum_any u (Sort.grow (redrawn wr d) os) s1)
                      have HSV := Lib.hid (fun d os => rsum_any t (Sort.grow (redrawn wr d) os) s2)
                      clear hu ht c1 c2 hj hkx hky hb
                      go_wp2_with fail
                      by_cases he : u = t
                      · have hd : (u.toList == t.toList) = true := eq_of he
                        have hkj : q < j := by
                          rcases Nat.lt_or_ge q j with h | h
                          · exact h
                          · exact absurd he (HJ.out (by omega)).1
                        have g_1 := fun D os => cell_regrown C1.out D os
                        have g_2 := fun D os => cell_regrown C2.out D os
                        refine wp_region_quiet_below (by kernel_rfl) (by kernel_rfl) ?_
                        repeat (go_big_quiet_step (fail))
                        refine wpQuiet_nil ?_
                        intro wq hq0
                        have hq := below_of_class hq0
                        clear hq0
                        clear g_1 g_2
                        go_wp2_with fail
                        refine ⟨⟨q + 1, by rfl, by omega, below_next HB5.out hq⟩, by simp [intOf]; omega⟩
                      · have hd : (u.toList == t.toList) = false := neq_of he
                        by_cases hs : sumS u = sumS t
                        · have hd2 : ((sumS u).toList == (sumS t).toList) = true := eq_of hs
                          have g_1 := fun D os => cell_regrown C1.out D os
                          have g_2 := fun D os => cell_regrown C2.out D os
                          refine wp_region_quiet_below (by kernel_rfl) (by kernel_rfl) ?_
                          repeat (go_big_quiet_step (first | (with_reducible exact Calls.regrown_of (HSU.out _ _)) | (with_reducible exact Calls.regrown_of (HSV.out _ _))))
                          refine wpQuiet_nil ?_
                          intro wq hq0
                          have hq := below_of_class hq0
                          clear hq0
                          clear g_1 g_2
                          go_wp2_with fail
                          go_ret
                          exact ⟨rfl, below_next HBB.out hq⟩
                        · have hd2 : ((sumS u).toList == (sumS t).toList) = false := neq_of hs
                          have hkj : q < j := by
                            rcases Nat.lt_or_ge q j with h | h
                            · exact h
                            · exact absurd (HJ.out (by omega)).2 hs
                          have g_1 := fun D os => cell_regrown C1.out D os
                          have g_2 := fun D os => cell_regrown C2.out D os
                          refine wp_region_quiet_below (by kernel_rfl) (by kernel_rfl) ?_
                          repeat (go_big_quiet_step (first | (with_reducible exact Calls.regrown_of (HSU.out _ _)) | (with_reducible exact Calls.regrown_of (HSV.out _ _))))
                          refine wpQuiet_nil ?_
                          intro wq hq0
                          have hq := below_of_class hq0
                          clear hq0
                          clear g_1 g_2
                          go_wp2_with fail
                          refine ⟨⟨q + 1, by rfl, by omega, below_next HB5.out hq⟩, by simp [intOf]; omega⟩
                · have HC := Lib.hid (HCL.out (by
                    rcases HOR2.out with h | h
                    · exact absurd (by rw [← HX.out, h.1]; rfl) hx00
                    · exact h))
                  have hx9 : (x == 0) = false := by rw [beq_eq_false_iff_ne]; exact hx00
                  clear hx00
                  have hk1 := heads_any A5 c5 N rs w12 V12.out.strs HN.out hN5 J6.out.small
                  have HK1 := Lib.hid hk1
                  clear hk1
                  go_wp2_with fail
                  refine HK1.out.mono ?_
                  rintro e w14 ⟨A14, c14, rfl, o14, b14⟩
                  have O14 := Lib.hid o14
                  have hk2 := heads_any A12 c12 N2 is w14 (I12.out.strs.then_ b14) HN2.out hN25 HIS.out
                  have HK2 := Lib.hid hk2
                  have B14 := Lib.hid (below_next J12.out.ds.below b14)
                  clear hk2 o14 b14 HK1
                  go_wp2_with fail
                  refine HK2.out.mono ?_
                  rintro e w15 ⟨A15, c15, rfl, o15, b15⟩
                  have HA := Lib.hid ((own_strs O14.out (headsT_length rs N)).then_ b15)
                  have HB := Lib.hid (own_strs o15 (headsT_length is N2))
                  have B15 := Lib.hid (below_next B14.out b15)
                  clear o15 b15 HK2 O14
                  obtain ⟨xs, hxs⟩ : ∃ xs, headsT rs N = xs := ⟨_, rfl⟩
                  obtain ⟨ys, hys⟩ : ∃ ys, headsT is N2 = ys := ⟨_, rfl⟩
                  have hcc := HC.out
                  have hsx := headsT_sizes HN.out.symm J6.out.small
                  have hsy := headsT_sizes HN2.out.symm HIS.out
                  have hlx := headsT_length rs N
                  have hly := headsT_length is N2
                  rw [hxs] at hcc hsx hlx HA
                  rw [hys] at hcc hsy hly HB
                  clear hxs hys
                  obtain ⟨j, hj1, hj2, hj3, hj4⟩ := hcc
                  have hjx : j < N := by omega
                  have hjy : j < N2 := by omega
                  have HJ3 := Lib.hid hj3
                  have HJ4 := Lib.hid hj4
                  have HSX := Lib.hid hsx
                  have HSY := Lib.hid hsy
                  have HLX := Lib.hid hlx
                  have HLY := Lib.hid hly
                  clear hj3 hj4 hsx hsy hlx hly
                  obtain ⟨wl, hwl⟩ : ∃ wl, wl = wr := ⟨_, rfl⟩
                  subst hwl
                  go_wp2_with fail
                  go_loopw [23] (fun i wq => ∃ q : Nat, i = .int .i64 (q : Int) ∧ q ≤ j ∧ Below w15.heap.size w15 wq) (fun i _ => j + 1 - (intOf i).toNat)
                  case atStart => exact ⟨0, rfl, Nat.zero_le _, Below.refl _ _⟩
                  case round =>
                    obtain ⟨q, rfl, hq, hb⟩ := hrel
                    have hkx : q < xs.length := by have := HLX.out; omega
                    have hky : q < ys.length := by have := HLY.out; omega
                    have y1 : (q : Int) < (N : Int) := by omega
                    have y2 : (q : Int) < (N2 : Int) := by omega
                    obtain ⟨b1, o1, rfl, c1⟩ := strs_at (HA.out.then_ hb) hkx
                    obtain ⟨b2, o2, rfl, c2⟩ := strs_at (HB.out.then_ hb) hky
                    have s1 := HSX.out _ (List.getElem_mem hkx)
                    have s2 := HSY.out _ (List.getElem_mem hky)
                    have hj : q = j → xs[q] ≠ ys[q] ∧ sumS xs[q] = sumS ys[q] := fun e => by subst e; exact ⟨HJ3.out, HJ4.out⟩
                    obtain ⟨u, hu⟩ : ∃ u, xs[q] = u := ⟨_, rfl⟩
                    obtain ⟨t, ht⟩ : ∃ t, ys[q] = t := ⟨_, rfl⟩
                    rw [hu] at c1 s1 hj
                    rw [ht] at c2 s2 hj
                    have C1 := Lib.hid c1
                    have C2 := Lib.hid c2
                    have HBB := Lib.hid (below_next B15.out hb)
                    have HB5 := Lib.hid hb
                    have HJ := Lib.hid hj
                    have HSU := Lib.hid (fun d os => rsum_any u (Sort.grow (redrawn wr d) os) s1)
                    have HSV := Lib.hid (fun d os => rsum_any t (Sort.grow (redrawn wr d) os) s2)
                    clear hu ht c1 c2 hj hkx hky hb
                    go_wp2_with fail
                    by_cases he : u = t
                    · have hd : (u.toList == t.toList) = true := eq_of he
                      have hkj : q < j := by
                        rcases Nat.lt_or_ge q j with h | h
                        · exact h
                        · exact absurd he (HJ.out (by omega)).1
                      have g_1 := fun D os => cell_regrown C1.out D os
                      have g_2 := fun D os => cell_regrown C2.out D os
                      refine wp_region_quiet_below (by kernel_rfl) (by kernel_rfl) ?_
                      repeat (go_big_quiet_step (fail))
                      refine wpQuiet_nil ?_
                      intro wq hq0
                      have hq := below_of_class hq0
                      clear hq0
                      clear g_1 g_2
                      go_wp2_with fail
                      refine ⟨⟨q + 1, by rfl, by omega, below_next HB5.out hq⟩, by simp [intOf]; omega⟩
                    · have hd : (u.toList == t.toList) = false := neq_of he
                      by_cases hs : sumS u = sumS t
                      · have hd2 : ((sumS u).toList == (sumS t).toList) = true := eq_of hs
                        have g_1 := fun D os => cell_regrown C1.out D os
                        have g_2 := fun D os => cell_regrown C2.out D os
                        refine wp_region_quiet_below (by kernel_rfl) (by kernel_rfl) ?_
                        repeat (go_big_quiet_step (first | (with_reducible exact Calls.regrown_of (HSU.out _ _)) | (with_reducible exact Calls.regrown_of (HSV.out _ _))))
                        refine wpQuiet_nil ?_
                        intro wq hq0
                        have hq := below_of_class hq0
                        clear hq0
                        clear g_1 g_2
                        go_wp2_with fail
                        go_ret
                        exact ⟨rfl, below_next HBB.out hq⟩
                      · have hd2 : ((sumS u).toList == (sumS t).toList) = false := neq_of hs
                        have hkj : q < j := by
                          rcases Nat.lt_or_ge q j with h | h
                          · exact h
                          · exact absurd (HJ.out (by omega)).2 hs
                        have g_1 := fun D os => cell_regrown C1.out D os
                        have g_2 := fun D os => cell_regrown C2.out D os
                        refine wp_region_quiet_below (by kernel_rfl) (by kernel_rfl) ?_
                        repeat (go_big_quiet_step (first | (with_reducible exact Calls.regrown_of (HSU.out _ _)) | (with_reducible exact Calls.regrown_of (HSV.out _ _))))
                        refine wpQuiet_nil ?_
                        intro wq hq0
                        have hq := below_of_class hq0
                        clear hq0
                        clear g_1 g_2
                        go_wp2_with fail
                        refine ⟨⟨q + 1, by rfl, by omega, below_next HB5.out hq⟩, by simp [intOf]; omega⟩
end Go.Proofs.YtnjkinljpekohaaGreatDoor.Jo
namespace Go.Proofs.YtnjkinljpekohaaGreatDoor.lawJournalDamaged
open Go.ChangeShapes Go.WideShapes Go.ChangeAt Go.RowKit
open Go.ChangeMaps (open_string shut_string)

theorem readable : ∀ t ∈ (#[63, 3, 5] : Array TypeId).toList, Tryz.prog.readableRec t = true ∧ t < Tryz.prog.types.size := by
  intro t ht
  simp only [List.mem_cons, List.not_mem_nil, or_false] at ht
  rcases ht with rfl | rfl | rfl
  · exact ⟨by kernel_rfl, of_decide_eq_true (by kernel_rfl)⟩
  · exact ⟨by kernel_rfl, of_decide_eq_true (by kernel_rfl)⟩
  · exact ⟨by kernel_rfl, of_decide_eq_true (by kernel_rfl)⟩
set_option maxRecDepth 100000 in
theorem contract (H : Type) (enc : TypeId × Value → H) (W : World) (base : Nat) (args : Array Value) (ds gs : List (DataW H)) (before : List MemPlace)
    (hval : ∀ (j : Nat) t v, Tryz.f6.params[j]? = some t → args[j]? = some v → Value.okWide Tryz.prog W .any base t v)
    (hW : DataW.Whole enc Tryz.prog Tryz.f6.params.toList Rows.journalDamagedSpec.vars false W args.toList ds gs before) (hL : laidMetH Tryz.prog Rows.journalDamagedRow.laid W) :
    Calls Tryz.prog 6 args W fun e W' => ∃ v, e = .returned v ∧ Rows.journalDamagedSpec.post enc Tryz.prog Tryz.f6 false true false false W args v W' := by
  have hW' := hW
  obtain ⟨p, q, hA0, hV, rfl, hfz, hnd⟩ := hW
  have hA : DataW.TrodAll enc Tryz.prog W 0 (fun _ => true) true Tryz.f6.params.toList args.toList ds p := hA0
  rw [Tryz.params6] at hA hval
  obtain ⟨v0, vs0, d0, ds0, p0, q0, hargs, rfl, rfl, h0, r0⟩ := trodAll_cons hA
  obtain ⟨v1, vs1, d1, ds1, p1, q1, rfl, rfl, rfl, h1, r1⟩ := trodAll_cons r0
  obtain ⟨v2, vs2, d2, ds2, p2, q2, rfl, rfl, rfl, h2, r2⟩ := trodAll_cons r1
  obtain ⟨rfl, rfl, rfl⟩ := trodAll_nil r2
  obtain rfl : args = #[v0, v1, v2] := by cases args; simp_all
  obtain ⟨rfl, rfl⟩ := trodVars_none hV
  obtain ⟨x1, rfl, e1, rfl, w1⟩ := open_int Tryz.underlying3 (hval 1 3 v1 rfl rfl) h1
  obtain ⟨x2, rfl, e2, rfl, w2⟩ := open_int Tryz.underlying5 (hval 2 5 v2 rfl rfl) h2
  obtain ⟨Aa, ca, Ga, rfl, hna, hGa⟩ := open_grps Tryz.underlying63 Tryz.underlying32 Tryz.underlying9 (by kernel_rfl) (by kernel_rfl) rfl (hval 0 63 v0 rfl rfl) h0
  obtain ⟨cb, rfl⟩ := Jo.byte_of (u8_lo w2) (u8_hi w2)
  obtain ⟨aE, hE⟩ := sentinel hL
  clear hA0
  refine (Jo.dmg_law x1 cb aE Aa _ ca Ga W (table hL) hE ⟨i64_lo w1, i64_hi w1⟩ hGa rfl hna).mono ?_
  rintro e W' ⟨rfl, hb⟩
  exact ⟨_, rfl, law_post laidOut (by rw [Tryz.params6]; exact readable) hW' rfl rfl rfl Tryz.underlying4 hb⟩
theorem laid_met (os : Os) : laidMet Tryz.prog Rows.journalDamagedRow.laid ((laidWorld os).forCall (fun _ _ => 0) ⟨#[], #[.slice none 0 0, .int .i64 0, .int .u8 0], []⟩).memory :=
  laidMet_of_run' 20 (by kernel_rfl) (by kernel_rfl)
theorem reads (os : Os) {H : Type} (enc : TypeId × Value → H) : ∃ places, DataW.whole enc Tryz.prog ((laidWorld os).forCall (fun _ _ => 0) ⟨#[], #[.slice none 0 0, .int .i64 0, .int .u8 0], []⟩).memory Tryz.f6.params.toList Rows.journalDamagedSpec.vars false (#[.slice none 0 0, .int .i64 0, .int .u8 0] : Array Value).toList 8 = some ([.nil, .lit (.int .i64 0), .lit (.int .u8 0)], [], places) :=
  ⟨[], by kernel_rfl⟩
set_option maxRecDepth 100000 in
theorem lifted (os : Os) (started : os.Started) (H : Type) (enc : TypeId × Value → H) (F : Stop.Interp) :
    ReturnsInHanded {} Tryz.checked os 6 .any ((OpenSpec.ofChange Rows.journalDamagedSpec).preRow enc Tryz.prog Tryz.f6 Rows.journalDamagedRow.domain false Rows.journalDamagedRow.laid) (((OpenSpec.ofChange Rows.journalDamagedSpec).at F).post enc Tryz.prog Tryz.f6 false true false false) := by
  obtain ⟨places, hx⟩ := reads os enc
  refine returnsInHanded_of_row (C := Tryz.checked) (s := OpenSpec.ofChange Rows.journalDamagedSpec) own started (by kernel_rfl) Tryz.func6
    (witness_row_at (enc := enc) (C := Tryz.checked) false (laidWorld os) #[.slice none 0 0, .int .i64 0, .int .u8 0] rfl (by kernel_rfl) (by kernel_rfl) (by kernel_rfl)
      (OpenSpec.preRow_of_cond 8 hx (by kernel_rfl) (fun k hk => by cases hk) (by kernel_rfl) (laid_met os))) ?_
  intro W base args ds gs before hval hW _ _ _ hL _ _
  exact contract H enc W base args ds gs before hval hW hL
theorem said : Rows.JournalDamagedSaid :=
  OpenClaim.holds_of_cond 6 Tryz.f6 rfl rfl rfl rfl rfl rfl rfl ⟨rfl, rfl, rfl, rfl, rfl⟩ rfl rfl rfl rfl rfl (by kernel_rfl) Tryz.func6 (by kernel_rfl)
    (of_decide_eq_true (by kernel_rfl)) (by unfold Func.isWrapper; rw [if_neg (of_decide_eq_false (by kernel_rfl))]; exact ⟨rfl, rfl⟩)
    (fun os started H enc _ F => by rw [OpenClaim.pre_eq_preRow]; exact lifted os started H enc F)
theorem plain (f : FuncId) (fn : Func) (hf : Tryz.pinned.checked.prog.funcNamed "slatewall/slatewalllaw34.JournalDamaged" = some f) (hfn : Tryz.pinned.checked.prog.funcs[f]? = some fn) :
    true = Tryz.pinned.checked.prog.looks [] ∧ ∀ (j : Nat) t, fn.params[j]? = some t → Tryz.pinned.checked.prog.wantsStandIn t = false := by
  obtain rfl : f = 6 := Option.some.inj ((show Tryz.prog.funcNamed "slatewall/slatewalllaw34.JournalDamaged" = some 6 by kernel_rfl).symm.trans hf) |>.symm
  obtain rfl : fn = Tryz.f6 := (Option.some.inj (Tryz.func6.symm.trans hfn)).symm
  refine ⟨by kernel_rfl, fun j t ht => ?_⟩
  rw [Tryz.params6] at ht
  have hm := Array.mem_of_getElem? ht
  simp only [List.mem_toArray, List.mem_cons, List.not_mem_nil, or_false] at hm
  rcases hm with rfl | rfl | rfl
  · exact (show Tryz.prog.wantsStandIn 63 = false by kernel_rfl)
  · exact (show Tryz.prog.wantsStandIn 3 = false by kernel_rfl)
  · exact (show Tryz.prog.wantsStandIn 5 = false by kernel_rfl)
/-- the card -/
theorem card : Rows.JournalDamagedCardSaid :=
  Claim7.holds_tied_plain_at .later [] _ _ _ _ said (fun _ h => by cases h) (by kernel_rfl) (fun _ h => by cases h) journalDamaged_row_tie rfl ⟨rfl, rfl⟩ (by kernel_rfl) rfl plain (by kernel_rfl)
end Go.Proofs.YtnjkinljpekohaaGreatDoor.lawJournalDamaged
