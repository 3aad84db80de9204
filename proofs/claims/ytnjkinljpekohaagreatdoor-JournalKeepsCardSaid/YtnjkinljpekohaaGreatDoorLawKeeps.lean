/- JournalKeeps: the law. JournalKeeps: through any number of power failures, every group that was acknowledged stays, in its order, and nothing else comes in between but whole groups; no condition beyond the row of the statement. -/
import Derived.Test.YtnjkinljpekohaaGreatDoorBu
import Derived.Deep.RegionHeldLaw
import Derived.Deep.RegionHeld3
import Derived.Deep.RegionLaw
import Derived.Test.YtnjkinljpekohaaGreatDoorBl
namespace Go.Proofs.YtnjkinljpekohaaGreatDoor.Jo
open Go.RowKit Sha Dsk Jr
attribute [local go_sem] Oper.semAt_some
/-- Records, with where its row lies -/
theorem jd_recs2 (w0 : World) (gj gd N : Nat) (v : Value) (F : List Nat) (b : Bool) (rs : List ByteArray) (D : Dk) (w : World) (h : Jd w0 w gj gd v F b rs D) (hN : rs.length = N) :
    Calls Tryz.prog 15 #[.pointer (some ⟨gj, 0, none⟩)] w fun e w' => ∃ A c, e = .returned (.slice A N c) ∧ N ≤ c ∧ Was w' (gj :: F) A rs ∧ Below w.heap.size w w' := by
  subst hN
  refine (jd_recs w0 gj gd v F b rs D w h).mono ?_
  rintro e w' ⟨A, c, rfl, _, how, hb⟩
  obtain ⟨A1, c1, he, hc1, _⟩ := own_full how rfl
  injection he with h1 h2 h3
  subst h1 h3
  exact ⟨A, c, rfl, hc1, was_of_own how rfl h.lt, hb⟩
theorem strs_pre {w : World} {A : Option Addr} {a b : List ByteArray} (h : StrsAt w A (a ++ b)) : StrsAt w A a := fun i hi => by
  obtain ⟨b', o, h1, h2⟩ := h i (by rw [List.length_append]; omega)
  refine ⟨b', o, h1, ?_⟩
  rw [h2, List.getD, List.getD, List.getElem?_append_left hi]
theorem recs_le {w0 w : World} {gj gd : Nat} {v : Value} {F : List Nat} {b : Bool} {rs : List ByteArray} {D : Dk} (h : Jd w0 w gj gd v F b rs D) (hz : D.sure.length ≤ 1500) : rs.length ≤ 50000 := by
  have := need_count rs; have := h.fit; omega
theorem jd_app_len {w0 w : World} {gj gd : Nat} {v : Value} {F : List Nat} {b : Bool} {rs : List ByteArray} {D : Dk} (h : Jd w0 w gj gd v F b rs D) (l : List ByteArray) : (apR b rs D l).2.2.2.sure.length = D.sure.length := (apR_fit h.ds.disk.ok h.fit).1
theorem crash_len {w : World} {gd : Nat} {F : List Nat} {D : Dk} (h : DiskAt w gd F D) (keep : List Int) (t : Int) : (opR (cr D keep t)).2.2.sure.length = D.sure.length := by
  have := opn_length (ok_cr h.ok keep t)
  rw [cr_length h.ok] at this
  exact this
/-- what Cut leaves of a journal's disk -/
def CutQ (gd : Nat) (F : List Nat) (D : Dk) (rs : List ByteArray) (b : Bool) (w : World) (e : Ending) (w' : World) : Prop :=
  ∃ x F' D', e = .returned (.int .i64 x) ∧ DiskAt w' gd F' D' ∧ Kept F w w' ∧ New w F F' ∧ St D' rs b ∧ D'.sure.length = D.sure.length ∧ D'.pend = D.pend
theorem cut_st (n : Int) (gd : Nat) (F : List Nat) (D : Dk) (rs : List ByteArray) (b : Bool) (w : World) (h : DiskAt w gd F D) (hs : St D rs b) (h0 : 1 ≤ n) (hm : n ≤ 9223372036854775807) :
    Calls Tryz.prog 13 #[.pointer (some ⟨gd, 0, none⟩), .int .i64 n] w (CutQ gd F D rs b w) := by
  cases hs with
  | good hg =>
    refine (cut_yes n gd F D w h hg.on (by omega) hm).mono ?_
    rintro e w' ⟨F', rfl, h1, h2, h3⟩
    exact ⟨0, F', cu D n, rfl, h1, h2, h3, .good (hg.cut chainS zed (by omega)), rfl, rfl⟩
  | dead l hd hl =>
    refine (cut_off n gd F D w h hd.off).mono ?_
    rintro e w' ⟨rfl, rfl⟩
    exact ⟨331, F, D, rfl, h, Kept.refl _ _, New.refl _ _, .dead l hd hl, rfl, rfl⟩
/-- what the loop of JournalKeeps holds -/
def KeepI (w : World) (gd k : Nat) (sj sv : Value) (wr : World) : Prop :=
  ∃ (gj : Nat) (v : Value) (F : List Nat) (b : Bool) (rs : List ByteArray) (D : Dk) (As : Option Addr) (N cs : Nat),
    sj = .pointer (some ⟨gj, 0, none⟩) ∧ Jd w wr gj gd v F b rs D ∧ sv = .slice As N cs ∧ rs.length = N ∧ N ≤ cs ∧ Was wr (gj :: F) As rs ∧ St D rs b ∧ D.pend.length ≤ k + 1 ∧ D.sure.length ≤ 1500
set_option maxRecDepth 100000 in
set_option maxHeartbeats 8000000 in
theorem keep_law (n : Int) (a : Addr) (A : Option Addr) (c : Nat) (L : List Jop) (w : World) (hK : RoundIn w) (hE : ErrIn w 222 (.pointer (some a))) (hn : I64 n) (hA : OpsAt w A L) (hL : OpsOk L) (_hc : L.length ≤ c) (_hcm : (c : Int) ≤ 9223372036854775807) :
    Calls Tryz.prog 3 #[.int .i64 n, .slice A L.length c] w fun e w' => e = .returned (.bool true) ∧ Below w.heap.size w w' := by
  have hsz := szI_le n
  have hls := fun W => lsize_any n W hn
  obtain ⟨z, hz⟩ : ∃ z, szI n = z := ⟨_, rfl⟩
  rw [hz] at hsz
  simp only [hz] at hls
  obtain ⟨NL, hNL⟩ : ∃ NL, L.length = NL := ⟨_, rfl⟩
  rw [hNL] at _hc ⊢
  have HLS := Lib.hid hls
  have HK := Lib.hid hK
  have HE := Lib.hid hE
  have HA := Lib.hid hA
  have HL := Lib.hid hL
  have HNL := Lib.hid hNL
  clear hK hE hA hL hn hls hz hNL
  go_enter Tryz.func3, Tryz.ntmps3
  go_wp2_with fail
  refine (sane_any a w HK.out HE.out).mono ?_
  rintro e w1 ⟨rfl, b1⟩
  have B1 := Lib.hid b1
  clear b1
  go_wp2_with fail
  refine (HLS.out _).mono ?_
  rintro e w2 ⟨rfl, rfl⟩
  go_wp2_with fail
  refine (new_any z w1 hsz.1 (by omega)).mono ?_
  rintro e w3 ⟨gd, F3, rfl, d3, n3, b3⟩
  have S3 : Hid (Ds w w3 gd F3 (nw z)) := (show Ds w w3 gd F3 (nw z) from ⟨d3, fun x hx => by have := n3 x hx; have := B1.out.size; omega, below_next B1.out b3⟩)
  clear d3 n3 b3
  go_wp2_with fail
  refine (jd_open w gd F3 (nw z) a w3 S3.out HK.out HE.out (by simp [nw])).mono ?_
  rw [opR_good (Good0.new z).good (by simp)]
  rintro e w4 ⟨F4, s4, -, -, gj4, v4, rfl, j4, -⟩
  have J4 := Lib.hid j4
  clear s4 j4
  go_wp2_with fail
  go_loopw [8, 10, 11] (fun sj sv i wr => ∃ k : Nat, k ≤ NL ∧ k ≤ 20 ∧ i = .int .i64 (k : Int) ∧ KeepI w gd k sj sv wr) (fun _ _ i _ => 20 - (intOf i).toNat)
  case atStart => exact ⟨0, Nat.zero_le _, Nat.zero_le _, rfl, gj4, v4, F4, false, [], nw z, none, 0, 0, rfl, J4.out, rfl, rfl, Nat.le_refl _, was_nil _ _ _, .good (Good0.new z).good, by simp [nw], by simp [nw]; omega⟩
  case round =>
    obtain ⟨k, hkN, hk20, rfl, gj, v, F, b, rs, D, As, N, cs, rfl, hj, rfl, hN, hcs, hw, hst, hpd, hsl⟩ := hrel
    have hN1 := recs_le hj hsl
    rw [hN] at hN1
    have J := Lib.hid hj
    have V := Lib.hid hw
    have ST := Lib.hid hst
    have HN := Lib.hid hN
    clear hj hw hst hN J4
    by_cases h1 : k < NL ∧ k < 20
    · obtain ⟨h1, h2⟩ := h1
      have hk : k < L.length := by have := HNL.out; omega
      obtain ⟨bb, o, rfl, hx⟩ := HA.out k hk
      have hok := HL.out k hk
      obtain ⟨x, hxe⟩ : ∃ x, L.getD k jop0 = x := ⟨_, rfl⟩
      rw [hxe] at hx hok
      obtain ⟨kd, la, lc, ll, nn, ka, kc, kl⟩ := x
      have X0 := Lib.hid hx
      have X := Lib.hid (hx.then_ J.out.ds.below)
      have OK := Lib.hid hok
      obtain ⟨l, hl⟩ : ∃ l, fewS ll 6 = l := ⟨_, rfl⟩
      have hls := fewS_small ll
      have hl6 := few_len ll
      rw [hl] at hls hl6
      have HLs := Lib.hid hls
      have hfw := fun W (hb : Below w.heap.size w W) => few_own ⟨la, lc, ll⟩ W (X0.out.grp.then_ hb)
      dsimp only at hfw
      rw [hl] at hfw
      have HFW := Lib.hid hfw
      have g1 : (k : Int) < (NL : Int) := by omega
      have g2 : (k : Int) < 20 := by omega
      have g0 : (0 : Int) ≤ (k : Int) := by omega
      obtain ⟨p, hp, hp8⟩ : ∃ p, pk kd 8 = p ∧ p < 8 := ⟨_, rfl, pk_lt kd (by omega)⟩
      have hpk := fun W => pick_any kd 8 W OK.out.kind (by omega) (by omega)
      simp only [hp] at hpk
      have HPK := Lib.hid hpk
      have c0 := X.out.kind
      dsimp only at c0
      clear hxe hx hok hls hl hfw hk hp hpk
      have hways : ((p : Int) == 5) = true ∨ (((p : Int) == 5) = false ∧ ((p : Int) == 6) = true) ∨ (((p : Int) == 5) = false ∧ ((p : Int) == 6) = false ∧ ((p : Int) == 7) = true) ∨ (((p : Int) == 5) = false ∧ ((p : Int) == 6) = false ∧ ((p : Int) == 7) = false) := by
        rcases Bool.eq_false_or_eq_true ((p : Int) == 5) with h | h
        · exact .inl h
        · rcases Bool.eq_false_or_eq_true ((p : Int) == 6) with h' | h'
          · exact .inr (.inl ⟨h, h'⟩)
          · rcases Bool.eq_false_or_eq_true ((p : Int) == 7) with h'' | h''
            · exact .inr (.inr (.inl ⟨h, h', h''⟩))
            · exact .inr (.inr (.inr ⟨h, h', h''⟩))
      go_wp2_with fail
      refine (HPK.out _).mono ?_
      rintro e w5 ⟨rfl, rfl⟩
      clear HPK
      rcases hways with x5 | ⟨x5, x6⟩ | ⟨x5, x6, x7⟩ | ⟨x5, x6, x7⟩
      · -- the power is to fail
        obtain ⟨q, hq, hq5⟩ : ∃ q, pk nn 5 = q ∧ q < 5 := ⟨_, rfl, pk_lt nn (by omega)⟩
        have hpk := fun W => pick_any nn 5 W OK.out.num (by omega) (by omega)
        simp only [hq] at hpk
        have HPK := Lib.hid hpk
        have c2 := X.out.num
        dsimp only at c2
        clear hq hpk c0
        go_wp2_with fail
        refine (HPK.out _).mono ?_
        rintro e w6 ⟨rfl, rfl⟩
        clear HPK c2
        go_wp2_with fail
        refine (cut_st (1 + (q : Int)) gd F D rs b _ J.out.ds.disk ST.out (by omega) (by omega)).mono ?_
        rintro e w20 ⟨xx, F20, D20, rfl, d7, k7, n7, st7, hl7, hp7⟩
        have S7 := J.out.ds.turn d7 k7 n7
        have J20 : Hid (Jd w w20 gj gd v F20 b rs D20) := (show Jd w w20 gj gd v F20 b rs D20 from J.out.turn S7 k7 n7 hl7)
        have V20 : Hid (Was w20 (gj :: F20) As rs) := (show Was w20 (gj :: F20) As rs from V.out.turn (k7.mono (fun x hx => List.mem_cons_of_mem _ hx)) (New.cons n7 gj))
        have ST20 : Hid (St D20 rs b) := (show St D20 rs b from st7)
        have hp20 : D20.pend.length ≤ k + 1 + 1 := by rw [hp7]; omega
        have hsl20 : D20.sure.length ≤ 1500 := by rw [hl7]; exact hsl
        have HN20 := Lib.hid HN.out
        have hcs20 := hcs
        clear S7 d7 k7 n7 st7 hl7 hp7

        have hq19 := recs_le J20.out hsl20
        rw [HN20.out] at hq19
        have hq20 : N ≤ 1000000 := by omega
        go_wp2_with fail
        refine (jd_recs2 w gj gd N v F20 b rs D20 w20 J20.out HN20.out).mono ?_
        rintro e w21 ⟨A21, c21, rfl, hc21, hw21, b21⟩
        have J21 : Hid (Jd w w21 gj gd v F20 b rs D20) := (show Jd w w21 gj gd v F20 b rs D20 from J20.out.then_ b21)
        have V21 : Hid (Was w21 (gj :: F20) As rs) := (show Was w21 (gj :: F20) As rs from V20.out.then_ b21)
        have hs21 := same_any A21 As N N c21 cs rs rs w21 hw21.strs V21.out.strs HN20.out HN20.out hq20 hq20
        rw [decide_eq_true rfl] at hs21
        have HS21 := Lib.hid hs21
        have hlt : decide (N < N) = false := by simp
        clear hw21 b21 hs21
        go_wp2_with fail
        refine HS21.out.mono ?_
        rintro e w22 ⟨rfl, b22⟩
        have J22 : Hid (Jd w w22 gj gd v F20 b rs D20) := (show Jd w w22 gj gd v F20 b rs D20 from J21.out.then_ b22)
        have V22 : Hid (Was w22 (gj :: F20) As rs) := (show Was w22 (gj :: F20) As rs from V21.out.then_ b22)
        clear b22 HS21
        go_wp2_with fail
        exact ⟨⟨k + 1, by omega, by omega, by go_num, gj, v, F20, b, rs, D20, As, N, cs, rfl, J22.out, rfl, HN20.out, hcs20, V22.out, ST20.out, hp20, hsl20⟩, by simp [intOf]; omega⟩
      · -- the power fails
        have c2 := X.out.num
        have c3 := X.out.keep
        dsimp only at c2 c3
        obtain ⟨kp, hkp⟩ : ∃ kp, kl.take 20 = kp := ⟨_, rfl⟩
        have hik : IntsAt wr ka kp := by rw [← hkp]; exact ints_cut X.out.ints 20
        have hkl : kp.length = min kl.length 20 := by rw [← hkp, List.length_take]; omega
        have hm0 := OK.out.cap
        have hm9 := OK.out.max
        dsimp only at hm0 hm9
        obtain ⟨NK, hNK⟩ : ∃ NK, kl.length = NK := ⟨_, rfl⟩
        rw [hNK] at c3 hm0 hkl
        have hmin : (min (NK : Int) 20).toNat = kp.length := by omega
        have HMN := Lib.hid hmin
        have hm1 : (NK : Int) ≤ (kc : Int) := by omega
        have hm2 : (0 : Int) ≤ min (NK : Int) 20 := by omega
        have hm3 : min (NK : Int) 20 ≤ (kc : Int) := by omega
        have hcr := fun W (hb : Below wr.heap.size wr W) => crash_any gd F D ka kc kp nn W (J.out.then_ hb).ds.disk (ints_then hik hb) (by omega) OK.out.num.2 (by omega)
        have hcl := crash_len J.out.ds.disk kp nn
        obtain ⟨l2, D2, ho2, hg2⟩ := crash_st ST.out J.out.small kp nn
        obtain ⟨D1, hD1⟩ : ∃ D1, cr D kp nn = D1 := ⟨_, rfl⟩
        have hp1 : D1.pend.length = 0 := by rw [← hD1]; simp [cr]
        have hpo := opn_pend D1
        have hpr : (opR D1).2.2.pend.length ≤ 1 := by show (opn D1).2.2.pend.length ≤ 1; omega
        simp only [hD1] at hcr
        rw [hD1] at ho2 hcl
        rw [ho2] at hcl
        dsimp only at hcl
        obtain ⟨M, hM⟩ : ∃ M, (rs ++ l2).length = M := ⟨_, rfl⟩
        have hNM : N ≤ M := by rw [← hM, List.length_append]; have := HN.out; omega
        have hsl20 : D2.sure.length ≤ 1500 := by rw [hcl]; exact hsl
        rw [ho2] at hpr
        dsimp only at hpr
        have HCR := Lib.hid hcr
        have HO2 := Lib.hid ho2
        have HG2 := Lib.hid hg2
        have l2c := lt_size c2
        have l3c := lt_size c3
        have HN20 := Lib.hid hM
        clear hM hcl
        clear hcr ho2 hg2 hik hkp hkl hD1 hmin hNK hpo c0 hm9
        go_wp2_with fail
        have g_c2 := fun D os => cell_regrown c2 D os
        have g_c3 := fun D os => cell_regrown c3 D os
        refine wp_region_head 19 (by kernel_rfl) (by kernel_rfl) ?_
        simp only [List.take_succ_cons, List.take_zero, List.drop_succ_cons, List.drop_zero]
        repeat (go_big_quiet_step (fail))
        refine wpQuiet_nil ?_
        intro wq hq
        clear g_c2 g_c3 c2 c3
        have JQ : Hid (Jd w wq gj gd v F b rs D) := (show Jd w wq gj gd v F b rs D from J.out.then_ hq)
        have VQ : Hid (Was wq (gj :: F) As rs) := (show Was wq (gj :: F) As rs from V.out.then_ hq)
        have HCW := Lib.hid (HCR.out wq hq)
        clear HCR J V hq hm1 hm2
        go_wp2_with fail
        rw [HMN.out]
        refine HCW.out.mono ?_
        rintro e w7 ⟨F7, rfl, d7, k7, n7⟩
        have S7 : Hid (Ds w w7 gd F7 D1) := (show Ds w w7 gd F7 D1 from JQ.out.ds.turn d7 k7 n7)
        have V7 : Hid (Was w7 (gj :: F7) As rs) := (show Was w7 (gj :: F7) As rs from VQ.out.turn (k7.mono (fun x hx => List.mem_cons_of_mem _ hx)) (New.cons n7 gj))
        have ho := jd_open w gd F7 D1 a w7 S7.out HK.out HE.out (by omega)
        rw [HO2.out] at ho
        have HO := Lib.hid ho
        clear ho d7 k7 n7 hm3 HMN HCW
        go_wp2_with fail
        refine HO.out.mono ?_
        rintro e w8 ⟨F8, -, k8, n8, gk, vk, rfl, jk8, -⟩
        have J8 : Hid (Jd w w8 gk gd vk F8 false (rs ++ l2) D2) := (show Jd w w8 gk gd vk F8 false (rs ++ l2) D2 from jk8)
        have V8 : Hid (Was w8 (gj :: F8) As rs) := (show Was w8 (gj :: F8) As rs from V7.out.turn (k8.mono (fun x hx => List.mem_cons_of_mem _ hx)) (New.cons n8 gj))
        clear k8 n8 jk8 HO HO2
        go_wp2_with fail
        refine (jd_recs2 w gk gd M vk F8 false (rs ++ l2) D2 w8 J8.out HN20.out).mono ?_
        rintro e w9 ⟨A9, c9, rfl, hc9, hw9, b9⟩
        have J9 : Hid (Jd w w9 gk gd vk F8 false (rs ++ l2) D2) := (show Jd w w9 gk gd vk F8 false (rs ++ l2) D2 from J8.out.then_ b9)
        have V9 : Hid (Was w9 (gj :: F8) As rs) := (show Was w9 (gj :: F8) As rs from V8.out.then_ b9)
        have hlt9 : decide (M < N) = false := by simp; omega
        clear hw9 b9
        go_wp2_with fail
        refine (jd_recs2 w gk gd M vk F8 false (rs ++ l2) D2 w9 J9.out HN20.out).mono ?_
        rintro e w10 ⟨A10, c10, rfl, hc10, hw10, b10⟩
        have J10 : Hid (Jd w w10 gk gd vk F8 false (rs ++ l2) D2) := (show Jd w w10 gk gd vk F8 false (rs ++ l2) D2 from J9.out.then_ b10)
        have hs10 := same_any A10 As N N c10 cs rs rs w10 (strs_pre hw10.strs) (V9.out.then_ b10).strs HN.out HN.out (by omega) (by omega)
        rw [decide_eq_true rfl] at hs10
        have HS10 := Lib.hid hs10
        clear hw10 b10 hs10 V9
        have hnc : N ≤ c10 := by omega
        go_wp2_with fail
        refine HS10.out.mono ?_
        rintro e w11 ⟨rfl, b11⟩
        have J11 : Hid (Jd w w11 gk gd vk F8 false (rs ++ l2) D2) := (show Jd w w11 gk gd vk F8 false (rs ++ l2) D2 from J10.out.then_ b11)
        clear b11 HS10 hlt9
        go_wp2_with fail
        refine (jd_recs2 w gk gd M vk F8 false (rs ++ l2) D2 w11 J11.out HN20.out).mono ?_
        rintro e w20 ⟨A20, c20, rfl, hcs20, hw20, b20⟩
        have J20 : Hid (Jd w w20 gk gd vk F8 false (rs ++ l2) D2) := (show Jd w w20 gk gd vk F8 false (rs ++ l2) D2 from J11.out.then_ b20)
        have V20 : Hid (Was w20 (gk :: F8) A20 (rs ++ l2)) := (show Was w20 (gk :: F8) A20 (rs ++ l2) from hw20)
        have ST20 : Hid (St D2 (rs ++ l2) false) := (show St D2 (rs ++ l2) false from .good HG2.out)
        have hp20 : D2.pend.length ≤ k + 1 + 1 := by omega
        clear hw20 b20

        have hq19 := recs_le J20.out hsl20
        rw [HN20.out] at hq19
        have hq20 : M ≤ 1000000 := by omega
        go_wp2_with fail
        refine (jd_recs2 w gk gd M vk F8 false (rs ++ l2) D2 w20 J20.out HN20.out).mono ?_
        rintro e w21 ⟨A21, c21, rfl, hc21, hw21, b21⟩
        have J21 : Hid (Jd w w21 gk gd vk F8 false (rs ++ l2) D2) := (show Jd w w21 gk gd vk F8 false (rs ++ l2) D2 from J20.out.then_ b21)
        have V21 : Hid (Was w21 (gk :: F8) A20 (rs ++ l2)) := (show Was w21 (gk :: F8) A20 (rs ++ l2) from V20.out.then_ b21)
        have hs21 := same_any A21 A20 M M c21 c20 (rs ++ l2) (rs ++ l2) w21 hw21.strs V21.out.strs HN20.out HN20.out hq20 hq20
        rw [decide_eq_true rfl] at hs21
        have HS21 := Lib.hid hs21
        have hlt : decide (M < M) = false := by simp
        clear hw21 b21 hs21
        go_wp2_with fail
        refine HS21.out.mono ?_
        rintro e w22 ⟨rfl, b22⟩
        have J22 : Hid (Jd w w22 gk gd vk F8 false (rs ++ l2) D2) := (show Jd w w22 gk gd vk F8 false (rs ++ l2) D2 from J21.out.then_ b22)
        have V22 : Hid (Was w22 (gk :: F8) A20 (rs ++ l2)) := (show Was w22 (gk :: F8) A20 (rs ++ l2) from V21.out.then_ b22)
        clear b22 HS21
        go_wp2_with fail
        exact ⟨⟨k + 1, by omega, by omega, by go_num, gk, vk, F8, false, (rs ++ l2), D2, A20, M, c20, rfl, J22.out, rfl, HN20.out, hcs20, V22.out, ST20.out, hp20, hsl20⟩, by simp [intOf]; omega⟩
      · -- the power fails
        have c2 := X.out.num
        have c3 := X.out.keep
        dsimp only at c2 c3
        obtain ⟨kp, hkp⟩ : ∃ kp, kl.take 20 = kp := ⟨_, rfl⟩
        have hik : IntsAt wr ka kp := by rw [← hkp]; exact ints_cut X.out.ints 20
        have hkl : kp.length = min kl.length 20 := by rw [← hkp, List.length_take]; omega
        have hm0 := OK.out.cap
        have hm9 := OK.out.max
        dsimp only at hm0 hm9
        obtain ⟨NK, hNK⟩ : ∃ NK, kl.length = NK := ⟨_, rfl⟩
        rw [hNK] at c3 hm0 hkl
        have hmin : (min (NK : Int) 20).toNat = kp.length := by omega
        have HMN := Lib.hid hmin
        have hm1 : (NK : Int) ≤ (kc : Int) := by omega
        have hm2 : (0 : Int) ≤ min (NK : Int) 20 := by omega
        have hm3 : min (NK : Int) 20 ≤ (kc : Int) := by omega
        have hcr := fun W (hb : Below wr.heap.size wr W) => crash_any gd F D ka kc kp nn W (J.out.then_ hb).ds.disk (ints_then hik hb) (by omega) OK.out.num.2 (by omega)
        have hcl := crash_len J.out.ds.disk kp nn
        obtain ⟨l2, D2, ho2, hg2⟩ := crash_st ST.out J.out.small kp nn
        obtain ⟨D1, hD1⟩ : ∃ D1, cr D kp nn = D1 := ⟨_, rfl⟩
        have hp1 : D1.pend.length = 0 := by rw [← hD1]; simp [cr]
        have hpo := opn_pend D1
        have hpr : (opR D1).2.2.pend.length ≤ 1 := by show (opn D1).2.2.pend.length ≤ 1; omega
        simp only [hD1] at hcr
        rw [hD1] at ho2 hcl
        rw [ho2] at hcl
        dsimp only at hcl
        obtain ⟨M, hM⟩ : ∃ M, (rs ++ l2).length = M := ⟨_, rfl⟩
        have hNM : N ≤ M := by rw [← hM, List.length_append]; have := HN.out; omega
        have hsl20 : D2.sure.length ≤ 1500 := by rw [hcl]; exact hsl
        rw [ho2] at hpr
        dsimp only at hpr
        have HCR := Lib.hid hcr
        have HO2 := Lib.hid ho2
        have HG2 := Lib.hid hg2
        have l2c := lt_size c2
        have l3c := lt_size c3
        have HN20 := Lib.hid hM
        clear hM hcl
        clear hcr ho2 hg2 hik hkp hkl hD1 hmin hNK hpo c0 hm9
        go_wp2_with fail
        have g_c2 := fun D os => cell_regrown c2 D os
        have g_c3 := fun D os => cell_regrown c3 D os
        refine wp_region_head 19 (by kernel_rfl) (by kernel_rfl) ?_
        simp only [List.take_succ_cons, List.take_zero, List.drop_succ_cons, List.drop_zero]
        repeat (go_big_quiet_step (fail))
        refine wpQuiet_nil ?_
        intro wq hq
        clear g_c2 g_c3 c2 c3
        have JQ : Hid (Jd w wq gj gd v F b rs D) := (show Jd w wq gj gd v F b rs D from J.out.then_ hq)
        have VQ : Hid (Was wq (gj :: F) As rs) := (show Was wq (gj :: F) As rs from V.out.then_ hq)
        have HCW := Lib.hid (HCR.out wq hq)
        clear HCR J V hq hm1 hm2
        go_wp2_with fail
        rw [HMN.out]
        refine HCW.out.mono ?_
        rintro e w7 ⟨F7, rfl, d7, k7, n7⟩
        have S7 : Hid (Ds w w7 gd F7 D1) := (show Ds w w7 gd F7 D1 from JQ.out.ds.turn d7 k7 n7)
        have V7 : Hid (Was w7 (gj :: F7) As rs) := (show Was w7 (gj :: F7) As rs from VQ.out.turn (k7.mono (fun x hx => List.mem_cons_of_mem _ hx)) (New.cons n7 gj))
        have ho := jd_open w gd F7 D1 a w7 S7.out HK.out HE.out (by omega)
        rw [HO2.out] at ho
        have HO := Lib.hid ho
        clear ho d7 k7 n7 hm3 HMN HCW
        go_wp2_with fail
        refine HO.out.mono ?_
        rintro e w8 ⟨F8, -, k8, n8, gk, vk, rfl, jk8, -⟩
        have J8 : Hid (Jd w w8 gk gd vk F8 false (rs ++ l2) D2) := (show Jd w w8 gk gd vk F8 false (rs ++ l2) D2 from jk8)
        have V8 : Hid (Was w8 (gj :: F8) As rs) := (show Was w8 (gj :: F8) As rs from V7.out.turn (k8.mono (fun x hx => List.mem_cons_of_mem _ hx)) (New.cons n8 gj))
        clear k8 n8 jk8 HO HO2
        go_wp2_with fail
        refine (jd_recs2 w gk gd M vk F8 false (rs ++ l2) D2 w8 J8.out HN20.out).mono ?_
        rintro e w9 ⟨A9, c9, rfl, hc9, hw9, b9⟩
        have J9 : Hid (Jd w w9 gk gd vk F8 false (rs ++ l2) D2) := (show Jd w w9 gk gd vk F8 false (rs ++ l2) D2 from J8.out.then_ b9)
        have V9 : Hid (Was w9 (gj :: F8) As rs) := (show Was w9 (gj :: F8) As rs from V8.out.then_ b9)
        have hlt9 : decide (M < N) = false := by simp; omega
        clear hw9 b9
        go_wp2_with fail
        refine (jd_recs2 w gk gd M vk F8 false (rs ++ l2) D2 w9 J9.out HN20.out).mono ?_
        rintro e w10 ⟨A10, c10, rfl, hc10, hw10, b10⟩
        have J10 : Hid (Jd w w10 gk gd vk F8 false (rs ++ l2) D2) := (show Jd w w10 gk gd vk F8 false (rs ++ l2) D2 from J9.out.then_ b10)
        have hs10 := same_any A10 As N N c10 cs rs rs w10 (strs_pre hw10.strs) (V9.out.then_ b10).strs HN.out HN.out (by omega) (by omega)
        rw [decide_eq_true rfl] at hs10
        have HS10 := Lib.hid hs10
        clear hw10 b10 hs10 V9
        have hnc : N ≤ c10 := by omega
        go_wp2_with fail
        refine HS10.out.mono ?_
        rintro e w11 ⟨rfl, b11⟩
        have J11 : Hid (Jd w w11 gk gd vk F8 false (rs ++ l2) D2) := (show Jd w w11 gk gd vk F8 false (rs ++ l2) D2 from J10.out.then_ b11)
        clear b11 HS10 hlt9
        go_wp2_with fail
        refine (jd_recs2 w gk gd M vk F8 false (rs ++ l2) D2 w11 J11.out HN20.out).mono ?_
        rintro e w20 ⟨A20, c20, rfl, hcs20, hw20, b20⟩
        have J20 : Hid (Jd w w20 gk gd vk F8 false (rs ++ l2) D2) := (show Jd w w20 gk gd vk F8 false (rs ++ l2) D2 from J11.out.then_ b20)
        have V20 : Hid (Was w20 (gk :: F8) A20 (rs ++ l2)) := (show Was w20 (gk :: F8) A20 (rs ++ l2) from hw20)
        have ST20 : Hid (St D2 (rs ++ l2) false) := (show St D2 (rs ++ l2) false from .good HG2.out)
        have hp20 : D2.pend.length ≤ k + 1 + 1 := by omega
        clear hw20 b20

        have hq19 := recs_le J20.out hsl20
        rw [HN20.out] at hq19
        have hq20 : M ≤ 1000000 := by omega
        go_wp2_with fail
        refine (jd_recs2 w gk gd M vk F8 false (rs ++ l2) D2 w20 J20.out HN20.out).mono ?_
        rintro e w21 ⟨A21, c21, rfl, hc21, hw21, b21⟩
        have J21 : Hid (Jd w w21 gk gd vk F8 false (rs ++ l2) D2) := (show Jd w w21 gk gd vk F8 false (rs ++ l2) D2 from J20.out.then_ b21)
        have V21 : Hid (Was w21 (gk :: F8) A20 (rs ++ l2)) := (show Was w21 (gk :: F8) A20 (rs ++ l2) from V20.out.then_ b21)
        have hs21 := same_any A21 A20 M M c21 c20 (rs ++ l2) (rs ++ l2) w21 hw21.strs V21.out.strs HN20.out HN20.out hq20 hq20
        rw [decide_eq_true rfl] at hs21
        have HS21 := Lib.hid hs21
        have hlt : decide (M < M) = false := by simp
        clear hw21 b21 hs21
        go_wp2_with fail
        refine HS21.out.mono ?_
        rintro e w22 ⟨rfl, b22⟩
        have J22 : Hid (Jd w w22 gk gd vk F8 false (rs ++ l2) D2) := (show Jd w w22 gk gd vk F8 false (rs ++ l2) D2 from J21.out.then_ b22)
        have V22 : Hid (Was w22 (gk :: F8) A20 (rs ++ l2)) := (show Was w22 (gk :: F8) A20 (rs ++ l2) from V21.out.then_ b22)
        clear b22 HS21
        go_wp2_with fail
        exact ⟨⟨k + 1, by omega, by omega, by go_num, gk, vk, F8, false, (rs ++ l2), D2, A20, M, c20, rfl, J22.out, rfl, HN20.out, hcs20, V22.out, ST20.out, hp20, hsl20⟩, by simp [intOf]; omega⟩
      · -- a group is appended
        go_wp2_with fail
        refine (jd_recs2 w gj gd N v F b rs D wr J.out HN.out).mono ?_
        rintro e w6 ⟨A6, c6, rfl, hc6, hw6, b6⟩
        have J6 : Hid (Jd w w6 gj gd v F b rs D) := (show Jd w w6 gj gd v F b rs D from J.out.then_ b6)
        have V6 : Hid (Was w6 (gj :: F) As rs) := (show Was w6 (gj :: F) As rs from V.out.then_ b6)
        have R6 : Hid (Was w6 (gj :: F) A6 rs) := (show Was w6 (gj :: F) A6 rs from hw6)
        have c1 := (X0.out.then_ J6.out.ds.below).row
        dsimp only at c1
        obtain ⟨cc, b2, rs2, D2, hap, hst2, hor⟩ := apR_st (l := l) ST.out HLs.out
        have hpp := apR_pend b rs D l
        rw [hap] at hpp
        dsimp only at hpp
        have hsl20 := jd_app_len J.out l
        rw [hap] at hsl20
        dsimp only at hsl20
        replace hsl20 : D2.sure.length ≤ 1500 := by rw [hsl20]; exact hsl
        have HAp := Lib.hid hap
        have HST2 := Lib.hid hst2
        have HOR := Lib.hid hor
        clear hw6 b6 hap hst2 hor c0
        go_wp2_with fail
        refine (HFW.out _ J6.out.ds.below).mono ?_
        rintro e w7 ⟨A7, c7, rfl, o7, hc7, b7⟩
        have J7 : Hid (Jd w w7 gj gd v F b rs D) := (show Jd w w7 gj gd v F b rs D from J6.out.then_ b7)
        have V7 : Hid (Was w7 (gj :: F) As rs) := (show Was w7 (gj :: F) As rs from V6.out.then_ b7)
        have R7 : Hid (Was w7 (gj :: F) A6 rs) := (show Was w7 (gj :: F) A6 rs from R6.out.then_ b7)
        have ha := jd_append w gj gd l.length v F b rs D l A7 c7 w7 J7.out HK.out (own_strs o7 rfl) rfl (by omega) hc7 (fun s hs => by have := HLs.out s hs; omega) (by omega)
        rw [HAp.out] at ha
        have HAA := Lib.hid ha
        clear ha o7 b7 hc7 c1
        go_wp2_with fail
        refine HAA.out.mono ?_
        rintro e w8 ⟨F8, v8, rfl, j8, k8, n8⟩
        have J8 : Hid (Jd w w8 gj gd v8 F8 b2 rs2 D2) := (show Jd w w8 gj gd v8 F8 b2 rs2 D2 from j8)
        have V8 : Hid (Was w8 (gj :: F8) As rs) := (show Was w8 (gj :: F8) As rs from V7.out.turn k8 (New.cons n8 gj))
        have R8 : Hid (Was w8 (gj :: F8) A6 rs) := (show Was w8 (gj :: F8) A6 rs from R7.out.turn k8 (New.cons n8 gj))
        clear j8 k8 n8 HAA
        dsimp only
        have hp20 : D2.pend.length ≤ k + 1 + 1 := by omega
        clear hpp
        rcases HOR.out with ⟨rfl, hrr⟩ | ⟨hcc, hrr⟩
        · have J9 : Hid (Jd w w8 gj gd v8 F8 b2 (rs ++ l) D2) := (show Jd w w8 gj gd v8 F8 b2 (rs ++ l) D2 by rw [← hrr]; exact J8.out)
          have ST20 : Hid (St D2 (rs ++ l) b2) := (show St D2 (rs ++ l) b2 by rw [← hrr]; exact HST2.out)
          clear HOR hrr J8 HST2
          go_wp2_with fail
          obtain ⟨i0, hi0, hz0, hz1, hz2⟩ := info_parts str_info1
          have I1 := Lib.hid hi0
          have I2 := Lib.hid hz0
          have I3 := Lib.hid hz1
          have I4 := Lib.hid hz2
          have e5 := (X0.out.then_ J9.out.ds.below).row
          dsimp only at e5
          have hx5 := lt_size e5
          have HZ : Hid (Below w8.heap.size w8 w8) := (show Below w8.heap.size w8 w8 from Below.refl _ _)
          clear hi0 hz0 hz1 hz2
          go_region_held3 (fun w' => Below w8.heap.size w8 w' ∧ w'.cell? ⟨bb, o + k * 4 + 1, none⟩ = some (.slice la ll.length lc)) ((suffices hB : Below w8.heap.size w8 _ from ⟨hB, cell_then hB e5⟩; first | with_reducible exact (Below.refl _ _).drew | with_reducible exact (below_alloc (Below.refl _ _) _).drew | with_reducible exact B9.out | with_reducible exact B8.out | with_reducible exact B7.out))
            (first
              | (go_at_call 18; (with_reducible refine (HFW.out _ (below_next J9.out.ds.below B7.out)).mono ?_); rintro e w10 ⟨A8, c8, rfl, o8, hc8, b8⟩; have B8 := Lib.hid (below_next B7.out b8); have O8 := Lib.hid o8; have BB8 := Lib.hid b8; clear o8 b8)
              | (refine step_append_strs (by rfl) (.tmp 57) (.tmp 58) 32 (by rfl) w8.heap.size 9 i0 _ Tryz.underlying32 I1.out I2.out I3.out I4.out rfl (.slice (some ⟨w8.heap.size, 0, none⟩) 0 0) 0 [] (by rfl) (own_lit (xs := []) (show (w8.alloc (.cells #[] 9)).heap[w8.heap.size]? = _ from heap_alloc_new w8 _) (Nat.le_refl _) (by simp)) A6 N c6 rs HN.out (by rfl) (R8.out.strs.then_ (below_alloc (Below.refl _ _) _).drew) (by omega) (by simp) ?_; intro v7 w11 o7 k7; have B7 := Lib.hid (k7.below_next (B := w8.heap.size) (below_alloc (Below.refl _ _) _).drew (by simp) (fun x hx => by have hx : x = w8.heap.size := (by simpa [Value.ownBlock] using hx); omega)); have O7 := Lib.hid o7; clear o7 k7)
              | (refine step_append_strs (by rfl) (.tmp 59) (.tmp 65) 32 (by rfl) w8.heap.size 9 i0 _ Tryz.underlying32 I1.out I2.out I3.out I4.out rfl v7 (0 + N) ([] ++ rs) (by rfl) (own_then O7.out BB8.out) A8 l.length c8 l rfl (by rfl) (own_strs O8.out rfl) (by omega) (by have := B8.out.size; omega) ?_; intro v9 w20 o9 k9; have B9 := Lib.hid (k9.below_next (B := w8.heap.size) B8.out B8.out.size (fun x hx => (O7.out.lt x (Option.mem_toList.1 hx)).1)); have O9 := Lib.hid o9; clear o9 k9))
          obtain ⟨A20, c20, rfl, hcs20, p9⟩ := own_full O9.out (by have := HN.out; simp; omega)
          have J20 : Hid (Jd w w20 gj gd v8 F8 b2 (rs ++ l) D2) := (show Jd w w20 gj gd v8 F8 b2 (rs ++ l) D2 from J9.out.then_ B9.out)
          have V20 : Hid (Was w20 (gj :: F8) A20 (rs ++ l)) := (show Was w20 (gj :: F8) A20 (rs ++ l) by rw [List.nil_append] at p9; exact was_of_own p9 rfl J9.out.lt)
          obtain ⟨M, hqn⟩ : ∃ M, ([] ++ rs ++ l).length = M := ⟨_, rfl⟩
          have hqq : (rs ++ l).length = M := by rw [← hqn, List.nil_append]
          rw [hqn] at hcs20 ⊢
          have HN20 := Lib.hid hqq
          clear B7 O7 hc8 B8 O8 BB8 B9 O9 p9 hqn hqq I1 I2 I3 I4 HZ V8 R8 V J hx5 e5 J9

          have hq19 := recs_le J20.out hsl20
          rw [HN20.out] at hq19
          have hq20 : M ≤ 1000000 := by omega
          go_wp2_with fail
          refine (jd_recs2 w gj gd M v8 F8 b2 (rs ++ l) D2 w20 J20.out HN20.out).mono ?_
          rintro e w21 ⟨A21, c21, rfl, hc21, hw21, b21⟩
          have J21 : Hid (Jd w w21 gj gd v8 F8 b2 (rs ++ l) D2) := (show Jd w w21 gj gd v8 F8 b2 (rs ++ l) D2 from J20.out.then_ b21)
          have V21 : Hid (Was w21 (gj :: F8) A20 (rs ++ l)) := (show Was w21 (gj :: F8) A20 (rs ++ l) from V20.out.then_ b21)
          have hs21 := same_any A21 A20 M M c21 c20 (rs ++ l) (rs ++ l) w21 hw21.strs V21.out.strs HN20.out HN20.out hq20 hq20
          rw [decide_eq_true rfl] at hs21
          have HS21 := Lib.hid hs21
          have hlt : decide (M < M) = false := by simp
          clear hw21 b21 hs21
          go_wp2_with fail
          refine HS21.out.mono ?_
          rintro e w22 ⟨rfl, b22⟩
          have J22 : Hid (Jd w w22 gj gd v8 F8 b2 (rs ++ l) D2) := (show Jd w w22 gj gd v8 F8 b2 (rs ++ l) D2 from J21.out.then_ b22)
          have V22 : Hid (Was w22 (gj :: F8) A20 (rs ++ l)) := (show Was w22 (gj :: F8) A20 (rs ++ l) from V21.out.then_ b22)
          clear b22 HS21
          go_wp2_with fail
          exact ⟨⟨k + 1, by omega, by omega, by go_num, gj, v8, F8, b2, (rs ++ l), D2, A20, M, c20, rfl, J22.out, rfl, HN20.out, hcs20, V22.out, ST20.out, hp20, hsl20⟩, by simp [intOf]; omega⟩
        · obtain ⟨w20, hw20⟩ : ∃ y, w8 = y := ⟨_, rfl⟩
          have J20 : Hid (Jd w w20 gj gd v8 F8 b2 rs D2) := (show Jd w w20 gj gd v8 F8 b2 rs D2 by rw [← hrr, ← hw20]; exact J8.out)
          have ST20 : Hid (St D2 rs b2) := (show St D2 rs b2 by rw [← hrr]; exact HST2.out)
          have V20 : Hid (Was w20 (gj :: F8) As rs) := (show Was w20 (gj :: F8) As rs by rw [← hw20]; exact V8.out)
          have HN20 := Lib.hid HN.out
          have hcs20 := hcs
          have xc0 : (cc == 0) = false := by simpa using hcc
          rw [hw20]
          clear HOR hrr J8 HST2 V8 R8 V J hw20 hcc

          have hq19 := recs_le J20.out hsl20
          rw [HN20.out] at hq19
          have hq20 : N ≤ 1000000 := by omega
          go_wp2_with fail
          refine (jd_recs2 w gj gd N v8 F8 b2 rs D2 w20 J20.out HN20.out).mono ?_
          rintro e w21 ⟨A21, c21, rfl, hc21, hw21, b21⟩
          have J21 : Hid (Jd w w21 gj gd v8 F8 b2 rs D2) := (show Jd w w21 gj gd v8 F8 b2 rs D2 from J20.out.then_ b21)
          have V21 : Hid (Was w21 (gj :: F8) As rs) := (show Was w21 (gj :: F8) As rs from V20.out.then_ b21)
          have hs21 := same_any A21 As N N c21 cs rs rs w21 hw21.strs V21.out.strs HN20.out HN20.out hq20 hq20
          rw [decide_eq_true rfl] at hs21
          have HS21 := Lib.hid hs21
          have hlt : decide (N < N) = false := by simp
          clear hw21 b21 hs21
          go_wp2_with fail
          refine HS21.out.mono ?_
          rintro e w22 ⟨rfl, b22⟩
          have J22 : Hid (Jd w w22 gj gd v8 F8 b2 rs D2) := (show Jd w w22 gj gd v8 F8 b2 rs D2 from J21.out.then_ b22)
          have V22 : Hid (Was w22 (gj :: F8) As rs) := (show Was w22 (gj :: F8) As rs from V21.out.then_ b22)
          clear b22 HS21
          go_wp2_with fail
          exact ⟨⟨k + 1, by omega, by omega, by go_num, gj, v8, F8, b2, rs, D2, As, N, cs, rfl, J22.out, rfl, HN20.out, hcs20, V22.out, ST20.out, hp20, hsl20⟩, by simp [intOf]; omega⟩
    · have HB := Lib.hid J.out.ds.below
      have hend : ¬ (k : Int) < (NL : Int) ∨ ((k : Int) < (NL : Int) ∧ ¬ (k : Int) < 20) := by omega
      clear h1
      rcases hend with g1 | ⟨g1, g2⟩
      all_goals
        go_wp2_with fail
        go_ret
        exact ⟨rfl, HB.out⟩
end Go.Proofs.YtnjkinljpekohaaGreatDoor.Jo
namespace Go.Proofs.YtnjkinljpekohaaGreatDoor.lawJournalKeeps
open Go.ChangeShapes Go.WideShapes Go.ChangeAt Go.RowKit
open Go.ChangeMaps (open_string shut_string)

theorem readable : ∀ t ∈ (#[3, 22] : Array TypeId).toList, Tryz.prog.readableRec t = true ∧ t < Tryz.prog.types.size := by
  intro t ht
  simp only [List.mem_cons, List.not_mem_nil, or_false] at ht
  rcases ht with rfl | rfl
  · exact ⟨by kernel_rfl, of_decide_eq_true (by kernel_rfl)⟩
  · exact ⟨by kernel_rfl, of_decide_eq_true (by kernel_rfl)⟩
set_option maxRecDepth 100000 in
theorem contract (H : Type) (enc : TypeId × Value → H) (W : World) (base : Nat) (args : Array Value) (ds gs : List (DataW H)) (before : List MemPlace)
    (hval : ∀ (j : Nat) t v, Tryz.f3.params[j]? = some t → args[j]? = some v → Value.okWide Tryz.prog W .any base t v)
    (hW : DataW.Whole enc Tryz.prog Tryz.f3.params.toList Rows.journalKeepsSpec.vars false W args.toList ds gs before) (hL : laidMetH Tryz.prog Rows.journalKeepsRow.laid W) :
    Calls Tryz.prog 3 args W fun e W' => ∃ v, e = .returned v ∧ Rows.journalKeepsSpec.post enc Tryz.prog Tryz.f3 false true false false W args v W' := by
  have hW' := hW
  obtain ⟨p, q, hA0, hV, rfl, hfz, hnd⟩ := hW
  have hA : DataW.TrodAll enc Tryz.prog W 0 (fun _ => true) true Tryz.f3.params.toList args.toList ds p := hA0
  rw [Tryz.params3] at hA hval
  obtain ⟨v0, vs0, d0, ds0, p0, q0, hargs, rfl, rfl, h0, r0⟩ := trodAll_cons hA
  obtain ⟨v1, vs1, d1, ds1, p1, q1, rfl, rfl, rfl, h1, r1⟩ := trodAll_cons r0
  obtain ⟨rfl, rfl, rfl⟩ := trodAll_nil r1
  obtain rfl : args = #[v0, v1] := by cases args; simp_all
  obtain ⟨rfl, rfl⟩ := trodVars_none hV
  obtain ⟨x0, rfl, e0, rfl, w0⟩ := open_int Tryz.underlying3 (hval 0 3 v0 rfl rfl) h0
  obtain ⟨Aa, ca, La, rfl, hca, hma, hAa, hOa⟩ := open_ops (hval 1 22 v1 rfl rfl) h1
  obtain ⟨aE, hE⟩ := sentinel hL
  clear hA0
  refine (Jo.keep_law x0 aE Aa ca La W (table hL) hE ⟨i64_lo w0, i64_hi w0⟩ hAa hOa hca hma).mono ?_
  rintro e W' ⟨rfl, hb⟩
  exact ⟨_, rfl, law_post laidOut (by rw [Tryz.params3]; exact readable) hW' rfl rfl rfl Tryz.underlying4 hb⟩
theorem laid_met (os : Os) : laidMet Tryz.prog Rows.journalKeepsRow.laid ((laidWorld os).forCall (fun _ _ => 0) ⟨#[], #[.int .i64 0, .slice none 0 0], []⟩).memory :=
  laidMet_of_run' 20 (by kernel_rfl) (by kernel_rfl)
theorem reads (os : Os) {H : Type} (enc : TypeId × Value → H) : ∃ places, DataW.whole enc Tryz.prog ((laidWorld os).forCall (fun _ _ => 0) ⟨#[], #[.int .i64 0, .slice none 0 0], []⟩).memory Tryz.f3.params.toList Rows.journalKeepsSpec.vars false (#[.int .i64 0, .slice none 0 0] : Array Value).toList 8 = some ([.lit (.int .i64 0), .nil], [], places) :=
  ⟨[], by kernel_rfl⟩
set_option maxRecDepth 100000 in
theorem lifted (os : Os) (started : os.Started) (H : Type) (enc : TypeId × Value → H) (F : Stop.Interp) :
    ReturnsInHanded {} Tryz.checked os 3 .any ((OpenSpec.ofChange Rows.journalKeepsSpec).preRow enc Tryz.prog Tryz.f3 Rows.journalKeepsRow.domain false Rows.journalKeepsRow.laid) (((OpenSpec.ofChange Rows.journalKeepsSpec).at F).post enc Tryz.prog Tryz.f3 false true false false) := by
  obtain ⟨places, hx⟩ := reads os enc
  refine returnsInHanded_of_row (C := Tryz.checked) (s := OpenSpec.ofChange Rows.journalKeepsSpec) own started (by kernel_rfl) Tryz.func3
    (witness_row_at (enc := enc) (C := Tryz.checked) false (laidWorld os) #[.int .i64 0, .slice none 0 0] rfl (by kernel_rfl) (by kernel_rfl) (by kernel_rfl)
      (OpenSpec.preRow_of_cond 8 hx (by kernel_rfl) (fun k hk => by cases hk) (by kernel_rfl) (laid_met os))) ?_
  intro W base args ds gs before hval hW _ _ _ hL _ _
  exact contract H enc W base args ds gs before hval hW hL
theorem said : Rows.JournalKeepsSaid :=
  OpenClaim.holds_of_cond 3 Tryz.f3 rfl rfl rfl rfl rfl rfl rfl ⟨rfl, rfl, rfl, rfl, rfl⟩ rfl rfl rfl rfl rfl (by kernel_rfl) Tryz.func3 (by kernel_rfl)
    (of_decide_eq_true (by kernel_rfl)) (by unfold Func.isWrapper; rw [if_neg (of_decide_eq_false (by kernel_rfl))]; exact ⟨rfl, rfl⟩)
    (fun os started H enc _ F => by rw [OpenClaim.pre_eq_preRow]; exact lifted os started H enc F)
theorem plain (f : FuncId) (fn : Func) (hf : Tryz.pinned.checked.prog.funcNamed "slatewall/slatewalllaw34.JournalKeeps" = some f) (hfn : Tryz.pinned.checked.prog.funcs[f]? = some fn) :
    true = Tryz.pinned.checked.prog.looks [] ∧ ∀ (j : Nat) t, fn.params[j]? = some t → Tryz.pinned.checked.prog.wantsStandIn t = false := by
  obtain rfl : f = 3 := Option.some.inj ((show Tryz.prog.funcNamed "slatewall/slatewalllaw34.JournalKeeps" = some 3 by kernel_rfl).symm.trans hf) |>.symm
  obtain rfl : fn = Tryz.f3 := (Option.some.inj (Tryz.func3.symm.trans hfn)).symm
  refine ⟨by kernel_rfl, fun j t ht => ?_⟩
  rw [Tryz.params3] at ht
  have hm := Array.mem_of_getElem? ht
  simp only [List.mem_toArray, List.mem_cons, List.not_mem_nil, or_false] at hm
  rcases hm with rfl | rfl
  · exact (show Tryz.prog.wantsStandIn 3 = false by kernel_rfl)
  · exact (show Tryz.prog.wantsStandIn 22 = false by kernel_rfl)
/-- the card -/
theorem card : Rows.JournalKeepsCardSaid :=
  Claim7.holds_tied_plain_at .later [] _ _ _ _ said (fun _ h => by cases h) (by kernel_rfl) (fun _ h => by cases h) journalKeeps_row_tie rfl ⟨rfl, rfl⟩ (by kernel_rfl) rfl plain (by kernel_rfl)
end Go.Proofs.YtnjkinljpekohaaGreatDoor.lawJournalKeeps
