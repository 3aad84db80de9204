/- JournalMatchesReference: the law. -/
import Derived.Test.YtnjkinljpekohaaGreatDoorBz
import Derived.Lib.QuietBelow
import Derived.Deep.RegionHeld3
import Derived.Deep.RegionHeldLaw
namespace Go.Proofs.YtnjkinljpekohaaGreatDoor.Jo
open Go.RowKit Sha Dsk Jr
attribute [local go_sem] Oper.semAt_some
theorem jd_recs4 (w0 : World) (gj gd N : Nat) (v : Value) (F : List Nat) (b : Bool) (rs : List ByteArray) (D : Dk) (w : World) (h : Jd w0 w gj gd v F b rs D) (hN : rs.length = N) :
    Calls Tryz.prog 15 #[.pointer (some ⟨gj, 0, none⟩)] w fun e w' => ∃ A c, e = .returned (.slice A N c) ∧ N ≤ c ∧ Was w' (gj :: F) A rs ∧ Below w.heap.size w w' := by
  subst hN
  refine (jd_recs w0 gj gd v F b rs D w h).mono ?_
  rintro e w' ⟨A, c, rfl, _, how, hb⟩
  obtain ⟨A1, c1, he, hc1, _⟩ := own_full how rfl
  injection he with h1 h2 h3
  subst h1 h3
  exact ⟨A, c, rfl, hc1, was_of_own how rfl h.lt, hb⟩
theorem rlist {w : World} {h : Nat} {G : List Nat} {D : Dk} (hR : RefAt w h G D) : ∃ pa pc, w.cell? ⟨h, 1, none⟩ = some (.slice pa D.pend.length pc) := by
  obtain ⟨_, _, pv, _, _, _, hg, _, hp, _⟩ := hR
  obtain ⟨a, c, rfl⟩ := pend_len hp
  exact ⟨a, c, (cells4 hg).2.1⟩
theorem pend_below {f : FuncId} {args : Array Value} {v : Value} {w : World} (h : Calls Tryz.prog f args w fun e w' => e = .returned v ∧ w = w') : Calls Tryz.prog f args w fun e w' => e = .returned v ∧ Below w.heap.size w w' :=
  h.mono (by rintro e w' ⟨rfl, rfl⟩; exact ⟨rfl, Below.refl _ _⟩)
/-- what Visible gives, as a string -/
theorem vis_str {w : World} {h n : Nat} {G : List Nat} {D : Dk} (hR : RefAt w h G D) (hv : Vis D) (hn : D.sure.length = n) (hn1 : 1 ≤ n) (hpl : D.pend.length ≤ 1000000) : Calls Tryz.prog 23 #[.pointer (some ⟨h, 0, none⟩)] w fun e w' => ∃ g c : Nat, e = .returned (.slice (some ⟨g, 0, none⟩) n c) ∧ (convert 53 9 (.slice (some ⟨g, 0, none⟩) n c)).run Tryz.prog w' = .ok (.string (sof D.vis)) w' ∧ Below w.heap.size w w' := by
  subst hn
  refine (visible_any h G D w hR hn1 hpl).mono ?_
  rintro e w' ⟨g, c, rfl, hrow, _, _, hb⟩
  refine ⟨g, c, rfl, ?_, hb⟩
  have hl : (overs D.sure D.pend).length = D.sure.length := overs_length hR.ok.fit
  have hv' : D.vis = overs D.sure D.pend := hv
  have := conv_rowX hrow 0 D.sure.length c (by rw [hl]; omega)
  rw [List.drop_zero, List.take_of_length_le (by rw [hl]; exact Nat.le_refl _), ← hv'] at this
  exact this
set_option maxRecDepth 100000 in
set_option maxHeartbeats 8000000 in
theorem mat_law (n : Int) (a : Addr) (A : Option Addr) (c : Nat) (L : List Jop) (w : World) (hK : RoundIn w) (hE : ErrIn w 222 (.pointer (some a))) (hn : I64 n) (hA : OpsAt w A L) (hL : OpsOk L) (_hc : L.length ≤ c) (_hcm : (c : Int) ≤ 9223372036854775807) :
    Calls Tryz.prog 4 #[.int .i64 n, .slice A L.length c] w fun e w' => e = .returned (.bool true) ∧ Below w.heap.size w w' := by
  have hsz := szI_le n
  obtain ⟨z, hz⟩ : ∃ z, szI n = z := ⟨_, rfl⟩
  rw [hz] at hsz
  have hbg := fun W (hb : Below w.heap.size w W) => begin_any n z a w W hb hn hz hK hE
  obtain ⟨NL, hNL⟩ : ∃ NL, L.length = NL := ⟨_, rfl⟩
  rw [hNL] at _hc ⊢
  have HBG := Lib.hid hbg
  have HK := Lib.hid hK
  have HE := Lib.hid hE
  have HA := Lib.hid hA
  have HL := Lib.hid hL
  have HNL := Lib.hid hNL
  clear hK hE hA hL hn hbg hz hNL
  go_enter Tryz.func4, Tryz.ntmps4
  go_wp2_with fail
  refine (sane_any a w HK.out HE.out).mono ?_
  rintro e w1 ⟨rfl, b1⟩
  have B1 := Lib.hid b1
  clear b1
  go_wp2_with fail
  refine (HBG.out w1 B1.out).mono ?_
  rintro e w2 ⟨gw, rfl, hs2⟩
  have S2 := Lib.hid hs2
  clear hs2
  go_wp2_with fail
  go_loopw [8] (fun i wr => ∃ (k : Nat) (o : Option (Bool × List ByteArray)) (D : Dk), k ≤ NL ∧ k ≤ 25 ∧ i = .int .i64 (k : Int) ∧ WSt w wr gw o D ∧ D.sure.length = z ∧ D.pend.length ≤ 2 * k) (fun i _ => 25 - (intOf i).toNat)
  case atStart => exact ⟨0, _, _, Nat.zero_le _, Nat.zero_le _, rfl, S2.out, by simp [nw], by simp [nw]⟩
  case round =>
    obtain ⟨k, o, D, hkN, hk25, rfl, hst, hz, hpl⟩ := hrel
    have ST := Lib.hid hst
    have HZ := Lib.hid hz
    have hbel : Below w.heap.size w wr := by
      obtain ⟨gd, h, F, G, h1⟩ := hst
      cases o with
      | none => exact h1.ds.below
      | some x => obtain ⟨_, _, _, _, h2⟩ := h1; exact h2.p.ds.below
    have BEL := Lib.hid hbel
    clear hst hz hbel S2
    by_cases h1 : k < NL ∧ k < 25
    · obtain ⟨h1, h2⟩ := h1
      have hk : k < L.length := by have := HNL.out; omega
      obtain ⟨bb, ob, rfl, hx⟩ := HA.out k hk
      have hok := HL.out k hk
      obtain ⟨x, hxe⟩ : ∃ x, L.getD k jop0 = x := ⟨_, rfl⟩
      rw [hxe] at hx hok
      have X := hx.then_ BEL.out
      have hdo := does_any w gw (2 * k) z o D x a wr ST.out ⟨hx.grp, hx.ints⟩ hok HK.out HE.out HZ.out hsz.1 hsz.2 hpl (by omega)
      obtain ⟨kd, la, lc, ll, nn, ka, kc, kl⟩ := x
      dsimp only at hdo
      have c0 := X.kind
      have c1 := X.row
      have c2 := X.num
      have c3 := X.keep
      dsimp only at c0 c1 c2 c3
      have HDO := Lib.hid hdo
      have g1 : (k : Int) < (NL : Int) := by omega
      have g2 : (k : Int) < 25 := by omega
      have g0 : (0 : Int) ≤ (k : Int) := by omega
      clear hxe hx hok hk X hdo
      go_wp2_with fail
      refine HDO.out.mono ?_
      rintro e w3 ⟨o', D', rfl, st3, hp3, hl3⟩
      obtain ⟨gd, h, F, G, hst⟩ := st3
      have HST := Lib.hid hst
      have hP : ∃ pj pk, (∃ x, pj = Value.pointer x) ∧ (∃ x, pk = Value.pointer x) ∧ Pr0 w w3 gw gd h F G D' pj pk := by
        cases o' with
        | none => exact ⟨_, _, ⟨_, rfl⟩, ⟨_, rfl⟩, hst⟩
        | some x =>
          obtain ⟨gj, v, gk, u, h1⟩ := hst
          exact ⟨_, _, ⟨_, rfl⟩, ⟨_, rfl⟩, h1.p⟩
      obtain ⟨pj, pk, -, -, P⟩ := hP
      have HL3 := Lib.hid hl3
      have PP := Lib.hid P
      have p0 := (cells4 P.blk).1
      have p2 := (cells4 P.blk).2.2.1
      obtain ⟨pa, pc, r1⟩ := rlist P.r
      have r2 := P.r.down
      have hpn := fun W (hd : DiskAt W gd F D') => pending_any gd F D' W hd
      obtain ⟨M, hM⟩ : ∃ M, D'.pend.length = M := ⟨_, rfl⟩
      simp only [hM] at hpn
      rw [hM] at r1 hp3
      have HPN := Lib.hid hpn
      have HM := Lib.hid hM
      clear hst P hl3 hpn hM c0 c1 c2 c3 HDO
      have hwl : gw < w3.heap.size := lt_size p0
      have hhl : h < w3.heap.size := lt_size r1
      cases hof : D'.off with
      | true =>
        rw [hof] at r2
        have HOF := Lib.hid hof
        clear hof
        have HP3 := Lib.hid (fun d os => pend_below (HPN.out (Sort.grow (redrawn w3 d) os) (PP.out.ds.disk.below (below_regrown w3 d os))))
        go_wp2_with fail
        have g_1 := fun D os => cell_regrown p0 D os
        have g_2 := fun D os => cell_regrown p2 D os
        have g_3 := fun D os => cell_regrown r1 D os
        have g_4 := fun D os => cell_regrown r2 D os
        refine wp_region_quiet_below (by kernel_rfl) (by kernel_rfl) ?_
        repeat (go_big_quiet_step ((with_reducible exact Calls.regrown_of (HP3.out _ _))))
        refine wpQuiet_nil ?_
        intro wq hq0
        have hq := below_of_class hq0
        clear hq0
        clear g_1 g_2 g_3 g_4 p0 p2 r1 r2 hwl hhl
        have HZW := Lib.hid hq
        clear hq
        obtain ⟨wz, hwz⟩ : ∃ wz, wz = wq := ⟨_, rfl⟩
        subst hwz
        have BZ := Lib.hid (below_next PP.out.ds.below HZW.out)
        cases o' with
        | none =>
          have P1 := Lib.hid (show Pr0 w w3 gw gd h F G D' (.pointer none) (.pointer none) from HST.out)
          have q1 := (cells4 (P1.out.then_ HZW.out).blk).2.1
          have ql := lt_size q1
          go_wp2_with fail
          have g_1 := fun D os => cell_regrown q1 D os
          refine wp_region_quiet_below (by kernel_rfl) (by kernel_rfl) ?_
          repeat (go_big_quiet_step (fail))
          refine wpQuiet_nil ?_
          intro wq hq0
          have hq := below_of_class hq0
          clear hq0
          clear g_1 q1 ql
          have HQ := Lib.hid hq
          clear hq
          go_wp2_with fail
          exact ⟨⟨k + 1, none, D', by omega, by omega, by go_num, ⟨gd, h, F, G, (P1.out.then_ HZW.out).then_ HQ.out⟩, HL3.out, by rw [HM.out]; omega⟩, by simp [intOf]; omega⟩
        | some bx =>
          obtain ⟨b, rs⟩ := bx
          obtain ⟨gj, v, gk, u, hQ⟩ := HST.out
          have Q := Lib.hid (show Pr1 w w3 gw gd h F G D' gj v gk u b rs from hQ)
          have QZ := Lib.hid (Q.out.then_ HZW.out)
          have QD := Lib.hid (QZ.out.then_ (Below.refl _ _).drew)
          obtain ⟨Au, cu, hue, hcu, how⟩ := own_full QZ.out.k.own rfl
          have k1 := (cells4 QZ.out.k.blk).2.1
          have q1 := (cells4 QZ.out.p.blk).2.1
          have q3 := (cells4 QZ.out.p.blk).2.2.2
          obtain ⟨N, hN⟩ : ∃ N, rs.length = N := ⟨_, rfl⟩
          have hN5 : N ≤ 50000 := by have h1 := need_count rs; have h2 := Q.out.j.fit; have h3 := HL3.out; omega
          rw [hue, hN] at k1
          have hus := own_strs how rfl
          have hkz : need rs ≤ z := by have h2 := Q.out.j.fit; have h3 := HL3.out; omega
          obtain ⟨RR, hRR⟩ : ∃ RR : Int, (z : Int) - (need rs : Int) = RR := ⟨_, rfl⟩
          have hrm := fun W (hj : Jd w W gj gd v F b rs D') => jd_room w gj gd v F b rs D' W hj
          have hrr := fun W (hr : RefAt W h G D') (ht : RjT W gk h u b rs (need rs)) => rroom_any gk h (need rs) z u G b rs D' W hr ht HL3.out hkz
          simp only [HL3.out, hRR] at hrm
          simp only [hRR] at hrr
          have hrc := fun W (hj : Jd w W gj gd v F b rs D') => jd_recs4 w gj gd N v F b rs D' W hj hN
          have hsa := fun A7 c7 W (h1 : StrsAt W A7 rs) (h2 : StrsAt W Au rs) => same_any A7 Au N N c7 cu rs rs W h1 h2 hN hN (by omega) (by omega)
          simp only [decide_true] at hsa
          have HRM := Lib.hid hrm
          have HRR := Lib.hid hrr
          have HRC := Lib.hid hrc
          have HSA := Lib.hid hsa
          have HUS := Lib.hid (show StrsAt wz.drew Au rs from hus.then_ (Below.refl _ _).drew)
          have X0 := Lib.hid (show wz.drew.cell? ⟨gw, 1, none⟩ = some (.pointer (some ⟨gj, 0, none⟩)) ∧ wz.drew.cell? ⟨gw, 3, none⟩ = some (.pointer (some ⟨gk, 0, none⟩)) ∧ wz.drew.cell? ⟨gk, 1, none⟩ = some (.slice Au N cu) from ⟨q1, q3, k1⟩)
          have ql := lt_size q1
          have kl' := lt_size k1
          clear HST hQ hue hcu how hN hus hRR hrm hrr hrc hsa hkz
          go_wp2_with fail
          go_region_held3 (fun w' => w'.cell? ⟨gw, 1, none⟩ = some (.pointer (some ⟨gj, 0, none⟩)) ∧ w'.cell? ⟨gw, 3, none⟩ = some (.pointer (some ⟨gk, 0, none⟩)) ∧ w'.cell? ⟨gk, 1, none⟩ = some (.slice Au N cu)) (first | with_reducible exact X0.out | with_reducible exact X9.out | with_reducible exact X8.out | with_reducible exact X7.out | with_reducible exact X6.out)
            (first
              | (go_at_call 15; (with_reducible refine (HRC.out _ QD.out.j).mono ?_); rintro e w6 ⟨A6, c6, rfl, hc6, hw6, b6⟩; have Q6 := Lib.hid (QD.out.then_ b6); have U6 := Lib.hid (HUS.out.then_ b6); have X6 := Lib.hid (show w6.cell? ⟨gw, 1, none⟩ = some (.pointer (some ⟨gj, 0, none⟩)) ∧ w6.cell? ⟨gw, 3, none⟩ = some (.pointer (some ⟨gk, 0, none⟩)) ∧ w6.cell? ⟨gk, 1, none⟩ = some (.slice Au N cu) from ⟨cell_then b6 X0.out.1, cell_then b6 X0.out.2.1, cell_then b6 X0.out.2.2⟩); have V6 := Lib.hid hw6.strs; have BB6 := Lib.hid b6; clear b6 hw6)
              | (go_at_call 16; (with_reducible refine (HSA.out _ _ _ V6.out U6.out).mono ?_); rintro e w7 ⟨rfl, b7⟩; have Q7 := Lib.hid (Q6.out.then_ b7); have X7 := Lib.hid (show w7.cell? ⟨gw, 1, none⟩ = some (.pointer (some ⟨gj, 0, none⟩)) ∧ w7.cell? ⟨gw, 3, none⟩ = some (.pointer (some ⟨gk, 0, none⟩)) ∧ w7.cell? ⟨gk, 1, none⟩ = some (.slice Au N cu) from ⟨cell_then b7 X6.out.1, cell_then b7 X6.out.2.1, cell_then b7 X6.out.2.2⟩); clear b7)
              | (go_at_call 24; (with_reducible refine (HRM.out _ Q7.out.j).mono ?_); rintro e w8 ⟨rfl, hw8⟩; have b8 : Below w7.heap.size w7 w8 := (by rw [← hw8]; exact (Below.refl _ _).drew); have Q8 := Lib.hid (Q7.out.then_ b8); have X8 := Lib.hid (show w8.cell? ⟨gw, 1, none⟩ = some (.pointer (some ⟨gj, 0, none⟩)) ∧ w8.cell? ⟨gw, 3, none⟩ = some (.pointer (some ⟨gk, 0, none⟩)) ∧ w8.cell? ⟨gk, 1, none⟩ = some (.slice Au N cu) from ⟨cell_then b8 X7.out.1, cell_then b8 X7.out.2.1, cell_then b8 X7.out.2.2⟩); clear b8 hw8)
              | (go_at_call 25; (with_reducible refine (HRR.out _ Q8.out.p.r Q8.out.k).mono ?_); rintro e w9 ⟨rfl, hw9⟩; have b9 : Below w8.heap.size w8 w9 := (by rw [← hw9]; exact (Below.refl _ _).drew); have Q9 := Lib.hid (Q8.out.then_ b9); have X9 := Lib.hid (show w9.cell? ⟨gw, 1, none⟩ = some (.pointer (some ⟨gj, 0, none⟩)) ∧ w9.cell? ⟨gw, 3, none⟩ = some (.pointer (some ⟨gk, 0, none⟩)) ∧ w9.cell? ⟨gk, 1, none⟩ = some (.slice Au N cu) from ⟨cell_then b9 X8.out.1, cell_then b9 X8.out.2.1, cell_then b9 X8.out.2.2⟩); clear b9 hw9))
          all_goals
            go_wp2_with fail
            exact ⟨⟨k + 1, some (b, rs), D', by omega, by omega, by go_num, ⟨gd, h, F, G, gj, v, gk, u, Q9.out⟩, HL3.out, by rw [HM.out]; omega⟩, by simp [intOf]; omega⟩
      | false =>
        rw [hof] at r2
        have hct := fun W (hd : DiskAt W gd F D') => content_on gd F D' W hd hof
        have hvs := fun W (hr : RefAt W h G D') => vis_str hr PP.out.vis HL3.out hsz.1 (by rw [HM.out]; omega)
        obtain ⟨S, hS⟩ : ∃ S, sof D'.vis = S := ⟨_, rfl⟩
        simp only [hS] at hct hvs
        have HCT := Lib.hid hct
        have HVS := Lib.hid hvs
        have hSS : (S.toList == S.toList) = true := beq_self_eq_true _
        have PD := Lib.hid (PP.out.then_ (Below.refl _ _).drew)
        have X0 := Lib.hid (show w3.drew.cell? ⟨gw, 0, none⟩ = some (.pointer (some ⟨gd, 0, none⟩)) ∧ w3.drew.cell? ⟨gw, 2, none⟩ = some (.pointer (some ⟨h, 0, none⟩)) ∧ w3.drew.cell? ⟨h, 1, none⟩ = some (.slice pa M pc) ∧ w3.drew.cell? ⟨h, 2, none⟩ = some (.bool false) from ⟨p0, p2, r1, r2⟩)
        clear hof hct hvs hS
        go_wp2_with fail
        go_region_held_law (fun w' => w'.cell? ⟨gw, 0, none⟩ = some (.pointer (some ⟨gd, 0, none⟩)) ∧ w'.cell? ⟨gw, 2, none⟩ = some (.pointer (some ⟨h, 0, none⟩)) ∧ w'.cell? ⟨h, 1, none⟩ = some (.slice pa M pc) ∧ w'.cell? ⟨h, 2, none⟩ = some (.bool false)) (first | with_reducible exact X0.out | with_reducible exact X5.out)
          (first
            | (go_at_call 21; (with_reducible refine (HPN.out _ PD.out.ds.disk).mono ?_); rintro e w4 ⟨rfl, rfl⟩)
            | (go_at_call 22; (with_reducible refine (HCT.out _ PD.out.ds.disk).mono ?_); rintro e w4 ⟨rfl, rfl⟩)
            | (go_at_call 23; (with_reducible refine (HVS.out _ PD.out.r).mono ?_); rintro e wz ⟨gv, cv, rfl, hcv, b5⟩; have X5 := Lib.hid (show wz.cell? ⟨gw, 0, none⟩ = some (.pointer (some ⟨gd, 0, none⟩)) ∧ wz.cell? ⟨gw, 2, none⟩ = some (.pointer (some ⟨h, 0, none⟩)) ∧ wz.cell? ⟨h, 1, none⟩ = some (.slice pa M pc) ∧ wz.cell? ⟨h, 2, none⟩ = some (.bool false) from ⟨cell_then b5 X0.out.1, cell_then b5 X0.out.2.1, cell_then b5 X0.out.2.2.1, cell_then b5 X0.out.2.2.2⟩); have BB5 := Lib.hid b5; clear b5))
        all_goals
          have HZW : Hid (Below w3.heap.size w3 wz) := (show Below w3.heap.size w3 wz from below_next (Below.refl _ _).drew BB5.out)
          clear hcv p0 p2 r1 r2 hwl hhl
          have BZ := Lib.hid (below_next PP.out.ds.below HZW.out)
          cases o' with
          | none =>
            have P1 := Lib.hid (show Pr0 w w3 gw gd h F G D' (.pointer none) (.pointer none) from HST.out)
            have q1 := (cells4 (P1.out.then_ HZW.out).blk).2.1
            have ql := lt_size q1
            go_wp2_with fail
            have g_1 := fun D os => cell_regrown q1 D os
            refine wp_region_quiet_below (by kernel_rfl) (by kernel_rfl) ?_
            repeat (go_big_quiet_step (fail))
            refine wpQuiet_nil ?_
            intro wq hq0
            have hq := below_of_class hq0
            clear hq0
            clear g_1 q1 ql
            have HQ := Lib.hid hq
            clear hq
            go_wp2_with fail
            exact ⟨⟨k + 1, none, D', by omega, by omega, by go_num, ⟨gd, h, F, G, (P1.out.then_ HZW.out).then_ HQ.out⟩, HL3.out, by rw [HM.out]; omega⟩, by simp [intOf]; omega⟩
          | some bx =>
            obtain ⟨b, rs⟩ := bx
            obtain ⟨gj, v, gk, u, hQ⟩ := HST.out
            have Q := Lib.hid (show Pr1 w w3 gw gd h F G D' gj v gk u b rs from hQ)
            have QZ := Lib.hid (Q.out.then_ HZW.out)
            have QD := Lib.hid (QZ.out.then_ (Below.refl _ _).drew)
            obtain ⟨Au, cu, hue, hcu, how⟩ := own_full QZ.out.k.own rfl
            have k1 := (cells4 QZ.out.k.blk).2.1
            have q1 := (cells4 QZ.out.p.blk).2.1
            have q3 := (cells4 QZ.out.p.blk).2.2.2
            obtain ⟨N, hN⟩ : ∃ N, rs.length = N := ⟨_, rfl⟩
            have hN5 : N ≤ 50000 := by have h1 := need_count rs; have h2 := Q.out.j.fit; have h3 := HL3.out; omega
            rw [hue, hN] at k1
            have hus := own_strs how rfl
            have hkz : need rs ≤ z := by have h2 := Q.out.j.fit; have h3 := HL3.out; omega
            obtain ⟨RR, hRR⟩ : ∃ RR : Int, (z : Int) - (need rs : Int) = RR := ⟨_, rfl⟩
            have hrm := fun W (hj : Jd w W gj gd v F b rs D') => jd_room w gj gd v F b rs D' W hj
            have hrr := fun W (hr : RefAt W h G D') (ht : RjT W gk h u b rs (need rs)) => rroom_any gk h (need rs) z u G b rs D' W hr ht HL3.out hkz
            simp only [HL3.out, hRR] at hrm
            simp only [hRR] at hrr
            have hrc := fun W (hj : Jd w W gj gd v F b rs D') => jd_recs4 w gj gd N v F b rs D' W hj hN
            have hsa := fun A7 c7 W (h1 : StrsAt W A7 rs) (h2 : StrsAt W Au rs) => same_any A7 Au N N c7 cu rs rs W h1 h2 hN hN (by omega) (by omega)
            simp only [decide_true] at hsa
            have HRM := Lib.hid hrm
            have HRR := Lib.hid hrr
            have HRC := Lib.hid hrc
            have HSA := Lib.hid hsa
            have HUS := Lib.hid (show StrsAt wz.drew Au rs from hus.then_ (Below.refl _ _).drew)
            have X0 := Lib.hid (show wz.drew.cell? ⟨gw, 1, none⟩ = some (.pointer (some ⟨gj, 0, none⟩)) ∧ wz.drew.cell? ⟨gw, 3, none⟩ = some (.pointer (some ⟨gk, 0, none⟩)) ∧ wz.drew.cell? ⟨gk, 1, none⟩ = some (.slice Au N cu) from ⟨q1, q3, k1⟩)
            have ql := lt_size q1
            have kl' := lt_size k1
            clear HST hQ hue hcu how hN hus hRR hrm hrr hrc hsa hkz
            go_wp2_with fail
            go_region_held3 (fun w' => w'.cell? ⟨gw, 1, none⟩ = some (.pointer (some ⟨gj, 0, none⟩)) ∧ w'.cell? ⟨gw, 3, none⟩ = some (.pointer (some ⟨gk, 0, none⟩)) ∧ w'.cell? ⟨gk, 1, none⟩ = some (.slice Au N cu)) (first | with_reducible exact X0.out | with_reducible exact X9.out | with_reducible exact X8.out | with_reducible exact X7.out | with_reducible exact X6.out)
              (first
                | (go_at_call 15; (with_reducible refine (HRC.out _ QD.out.j).mono ?_); rintro e w6 ⟨A6, c6, rfl, hc6, hw6, b6⟩; have Q6 := Lib.hid (QD.out.then_ b6); have U6 := Lib.hid (HUS.out.then_ b6); have X6 := Lib.hid (show w6.cell? ⟨gw, 1, none⟩ = some (.pointer (some ⟨gj, 0, none⟩)) ∧ w6.cell? ⟨gw, 3, none⟩ = some (.pointer (some ⟨gk, 0, none⟩)) ∧ w6.cell? ⟨gk, 1, none⟩ = some (.slice Au N cu) from ⟨cell_then b6 X0.out.1, cell_then b6 X0.out.2.1, cell_then b6 X0.out.2.2⟩); have V6 := Lib.hid hw6.strs; have BB6 := Lib.hid b6; clear b6 hw6)
                | (go_at_call 16; (with_reducible refine (HSA.out _ _ _ V6.out U6.out).mono ?_); rintro e w7 ⟨rfl, b7⟩; have Q7 := Lib.hid (Q6.out.then_ b7); have X7 := Lib.hid (show w7.cell? ⟨gw, 1, none⟩ = some (.pointer (some ⟨gj, 0, none⟩)) ∧ w7.cell? ⟨gw, 3, none⟩ = some (.pointer (some ⟨gk, 0, none⟩)) ∧ w7.cell? ⟨gk, 1, none⟩ = some (.slice Au N cu) from ⟨cell_then b7 X6.out.1, cell_then b7 X6.out.2.1, cell_then b7 X6.out.2.2⟩); clear b7)
                | (go_at_call 24; (with_reducible refine (HRM.out _ Q7.out.j).mono ?_); rintro e w8 ⟨rfl, hw8⟩; have b8 : Below w7.heap.size w7 w8 := (by rw [← hw8]; exact (Below.refl _ _).drew); have Q8 := Lib.hid (Q7.out.then_ b8); have X8 := Lib.hid (show w8.cell? ⟨gw, 1, none⟩ = some (.pointer (some ⟨gj, 0, none⟩)) ∧ w8.cell? ⟨gw, 3, none⟩ = some (.pointer (some ⟨gk, 0, none⟩)) ∧ w8.cell? ⟨gk, 1, none⟩ = some (.slice Au N cu) from ⟨cell_then b8 X7.out.1, cell_then b8 X7.out.2.1, cell_then b8 X7.out.2.2⟩); clear b8 hw8)
                | (go_at_call 25; (with_reducible refine (HRR.out _ Q8.out.p.r Q8.out.k).mono ?_); rintro e w9 ⟨rfl, hw9⟩; have b9 : Below w8.heap.size w8 w9 := (by rw [← hw9]; exact (Below.refl _ _).drew); have Q9 := Lib.hid (Q8.out.then_ b9); have X9 := Lib.hid (show w9.cell? ⟨gw, 1, none⟩ = some (.pointer (some ⟨gj, 0, none⟩)) ∧ w9.cell? ⟨gw, 3, none⟩ = some (.pointer (some ⟨gk, 0, none⟩)) ∧ w9.cell? ⟨gk, 1, none⟩ = some (.slice Au N cu) from ⟨cell_then b9 X8.out.1, cell_then b9 X8.out.2.1, cell_then b9 X8.out.2.2⟩); clear b9 hw9))
            all_goals
              go_wp2_with fail
              exact ⟨⟨k + 1, some (b, rs), D', by omega, by omega, by go_num, ⟨gd, h, F, G, gj, v, gk, u, Q9.out⟩, HL3.out, by rw [HM.out]; omega⟩, by simp [intOf]; omega⟩
    · have hend : ¬ (k : Int) < (NL : Int) ∨ ((k : Int) < (NL : Int) ∧ ¬ (k : Int) < 25) := by omega
      clear h1
      rcases hend with g1 | ⟨g1, g2⟩
      all_goals
        go_wp2_with fail
        go_ret
        exact ⟨rfl, BEL.out⟩
end Go.Proofs.YtnjkinljpekohaaGreatDoor.Jo
