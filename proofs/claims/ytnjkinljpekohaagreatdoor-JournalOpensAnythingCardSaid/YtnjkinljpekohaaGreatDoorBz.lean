/- The law's does: one call made on both journals. The law's begin: both journals on new disks. -/
import Derived.Test.YtnjkinljpekohaaGreatDoorBy
import Derived.Test.YtnjkinljpekohaaGreatDoorBn
namespace Go.Proofs.YtnjkinljpekohaaGreatDoor.Jo
open Go.RowKit Sha Dsk Jr
attribute [local go_sem] Oper.semAt_some
theorem vis_put4 {D : Dk} (hv : Vis D) (k : Nat) (s : List UInt8) : Vis (put4 D k s).2 := by
  unfold put4
  split
  · exact hv
  · split
    · exact vis_wr hv _ _
    · split
      · exact vis_wr (vis_sy _) _ _
      · exact vis_sy _
theorem vis_apR {b : Bool} {rs : List ByteArray} {D : Dk} {l : List ByteArray} (hv : Vis D) : Vis (apR b rs D l).2.2.2 := by
  unfold apR
  split
  · exact hv
  · split
    · exact hv
    · split
      · exact hv
      · split
        · exact vis_put4 hv _ _
        · exact vis_put4 hv _ _
set_option maxRecDepth 100000 in
theorem rapp_gen (gk h N c z : Nat) (u : Value) (G : List Nat) (b : Bool) (rs : List ByteArray) (D : Dk) (A : Option Addr) (l : List ByteArray) (w : World) (hR : RefAt w h G D) (hT : RjT w gk h u b rs (need rs)) (hap : ∀ x ∈ gk :: u.ownBlock.toList, x ∉ G) (hv : Vis D) (hA : Was w (gk :: G) A l) (hN : l.length = N) (hn : N ≤ 1000)
    (hrn : rs.length ≤ 50000) (hs : ∀ s ∈ l, s.size ≤ 65536) (hrs : ∀ s ∈ rs, s.size ≤ 65536) (hz : D.sure.length = z) (hf : need rs ≤ z) (hz1 : 1 ≤ z) (hpl : D.pend.length ≤ 800000) :
    Calls Tryz.prog 26 #[.pointer (some ⟨gk, 0, none⟩), .slice A N c] w (RAppQ gk h u G (apR b rs D l) w) := by
  cases b with
  | false => exact rapp_any gk h N c z u G rs D A l w hR hT hap hv hA hN hn hrn hs hrs hz hf hz1 hpl
  | true =>
    rw [apR_broken]
    have d3 := (cells4 hT.blk).2.2.2
    have hfin := rapp_same (c := 340) hR hT hap (Below.refl w.heap.size w)
    have HF := Lib.hid hfin
    clear hfin hR hT hap hA
    go_enter Tryz.func26, Tryz.ntmps26
    go_wp2_with fail
    go_ret
    exact HF.out
/-- a call of the law in words, away from where it lies -/
structure JopIn (w : World) (x : Jop) : Prop where
  grp : GrpAt w ⟨x.la, x.lc, x.ll⟩
  ints : IntsAt w x.ka x.kl
/-- what a call leaves -/
def DoesQ (w0 : World) (gw k z : Nat) (e : Ending) (w' : World) : Prop := ∃ o' D', e = .returned (.bool true) ∧ WSt w0 w' gw o' D' ∧ D'.pend.length ≤ k + 2 ∧ D'.sure.length = z
set_option maxRecDepth 100000 in
set_option maxHeartbeats 8000000 in
theorem does_any (w0 : World) (gw k z : Nat) (o : Option (Bool × List ByteArray)) (D : Dk) (x : Jop) (a : Addr) (w : World) (hS : WSt w0 w gw o D) (hx : JopIn w0 x) (hok : JopOk x) (hK : RoundIn w0) (hE : ErrIn w0 222 (.pointer (some a))) (hz : D.sure.length = z) (hz1 : 1 ≤ z) (hz2 : z ≤ 1500) (hpl : D.pend.length ≤ k) (hk : k ≤ 1000) :
    Calls Tryz.prog 20 #[.pointer (some ⟨gw, 0, none⟩), .agg #[.int .i64 x.kind, .slice x.la x.ll.length x.lc, .int .i64 x.n, .slice x.ka x.kl.length x.kc]] w (DoesQ w0 gw k z) := by
  obtain ⟨kd, la, lc, ll, nn, ka, kc, kl⟩ := x
  dsimp only
  obtain ⟨p, hp, hp8⟩ : ∃ p, pk kd 8 = p ∧ p < 8 := ⟨_, rfl, pk_lt kd (by omega)⟩
  have hpk := fun W => pick_any kd 8 W hok.kind (by omega) (by omega)
  simp only [hp] at hpk
  have HPK := Lib.hid hpk
  obtain ⟨q, hq, hq5⟩ : ∃ q, pk nn 5 = q ∧ q < 5 := ⟨_, rfl, pk_lt nn (by omega)⟩
  have hqk := fun W => pick_any nn 5 W hok.num (by omega) (by omega)
  simp only [hq] at hqk
  have HQK := Lib.hid hqk
  have HS := Lib.hid hS
  have HX := Lib.hid hx
  have OK := Lib.hid hok
  have HK := Lib.hid hK
  have HE := Lib.hid hE
  have HZ := Lib.hid hz
  have hways : ((p : Int) == 5) = true ∨ (((p : Int) == 5) = false ∧ ((p : Int) == 6) = true) ∨ (((p : Int) == 5) = false ∧ ((p : Int) == 6) = false ∧ ((p : Int) == 7) = true) ∨ (((p : Int) == 5) = false ∧ ((p : Int) == 6) = false ∧ ((p : Int) == 7) = false) := by
    rcases Bool.eq_false_or_eq_true ((p : Int) == 5) with h | h
    · exact .inl h
    · rcases Bool.eq_false_or_eq_true ((p : Int) == 6) with h' | h'
      · exact .inr (.inl ⟨h, h'⟩)
      · rcases Bool.eq_false_or_eq_true ((p : Int) == 7) with h'' | h''
        · exact .inr (.inr (.inl ⟨h, h', h''⟩))
        · exact .inr (.inr (.inr ⟨h, h', h''⟩))
  clear hp hpk hq hqk hS hx hok hK hE hz
  -- the boxed call
  obtain ⟨W, hW⟩ : ∃ W, w.alloc (.cells #[.int .i64 kd, .slice la ll.length lc, .int .i64 nn, .slice ka kl.length kc] 36) = W := ⟨_, rfl⟩
  have bW : Below w.heap.size w W := by rw [← hW]; exact below_alloc (Below.refl _ _) _
  have x0 : W.cell? ⟨w.heap.size, 0, none⟩ = some (.int .i64 kd) := by rw [← hW]; exact new_cell rfl
  have x1 : W.cell? ⟨w.heap.size, 1, none⟩ = some (.slice la ll.length lc) := by rw [← hW]; exact new_cell rfl
  have x2 : W.cell? ⟨w.heap.size, 2, none⟩ = some (.int .i64 nn) := by rw [← hW]; exact new_cell rfl
  have x3 : W.cell? ⟨w.heap.size, 3, none⟩ = some (.slice ka kl.length kc) := by rw [← hW]; exact new_cell rfl
  have HW := Lib.hid hW
  have BW := Lib.hid bW
  obtain ⟨gb, hgb⟩ : ∃ gb, w.heap.size = gb := ⟨_, rfl⟩
  rw [hgb] at x0 x1 x2 x3
  have HGB := Lib.hid hgb
  clear hW bW hgb
  obtain ⟨gd, h, F, G, hst⟩ := HS.out
  have HST := Lib.hid hst
  clear hst HS
  rcases hways with y5 | ⟨y5, y6⟩ | ⟨y5, y6, y7⟩ | ⟨y5, y6, y7⟩
  · -- the power is to fail
    have hP : ∃ pj pk, (∃ x, pj = Value.pointer x) ∧ (∃ x, pk = Value.pointer x) ∧ Pr0 w0 w gw gd h F G D pj pk := by
      cases o with
      | none => exact ⟨_, _, ⟨_, rfl⟩, ⟨_, rfl⟩, HST.out⟩
      | some x =>
        obtain ⟨gj, v, gk, u, h1⟩ := HST.out
        exact ⟨_, _, ⟨_, rfl⟩, ⟨_, rfl⟩, h1.p⟩
    obtain ⟨pj, pk, hj1, hk1, P⟩ := hP
    have hgF : gb ∉ F := fun hx => by have := P.ds.disk.lt gb hx; have := HGB.out; omega
    have hgG : gb ∉ G := fun hx => by have := P.r.lt gb hx; have := HGB.out; omega
    have PW := Lib.hid (P.then_ BW.out)
    obtain ⟨nq, hnq⟩ : ∃ nq : Int, 1 + (q : Int) = nq := ⟨_, rfl⟩
    have hcg := fun W (hd : DiskAt W gd F D) => cut_gen nq gd F D W hd (by omega) (by omega)
    have hrg := fun W (hr : RefAt W h G D) => rcut_gen nq h G D W hr (by omega) (by omega)
    obtain ⟨cc, hcc⟩ : ∃ cc, cutc D = cc := ⟨_, rfl⟩
    obtain ⟨D', hD'⟩ : ∃ D', cutD D nq = D' := ⟨_, rfl⟩
    have hv' : Vis D' := by rw [← hD']; exact cutD_vis P.vis _
    have hl' : D'.sure.length = z := by rw [← hD', (cutD_len D nq).1, HZ.out]
    have hp' : D'.pend.length ≤ k + 2 := by rw [← hD', (cutD_len D nq).2]; omega
    simp only [hcc, hD'] at hcg hrg
    have HCG := Lib.hid hcg
    have HRG := Lib.hid hrg
    have HV' := Lib.hid hv'
    have HL' := Lib.hid hl'
    have HNQ := Lib.hid hnq
    have e0 := (cells4 PW.out.blk).1
    have e2 := (cells4 PW.out.blk).2.2.1
    have X0 : Hid (W.drew.cell? ⟨gw, 0, none⟩ = some (.pointer (some ⟨gd, 0, none⟩)) ∧ W.drew.cell? ⟨gw, 2, none⟩ = some (.pointer (some ⟨h, 0, none⟩)) ∧ W.drew.cell? ⟨gb, 2, none⟩ = some (.int .i64 nn)) := (show W.drew.cell? ⟨gw, 0, none⟩ = some (.pointer (some ⟨gd, 0, none⟩)) ∧ W.drew.cell? ⟨gw, 2, none⟩ = some (.pointer (some ⟨h, 0, none⟩)) ∧ W.drew.cell? ⟨gb, 2, none⟩ = some (.int .i64 nn) from ⟨e0, e2, x2⟩)
    have PD := Lib.hid (PW.out.then_ (Below.refl _ _).drew)
    have hqs : (1 : Int) + (q : Int) = nq := hnq
    have HGF := Lib.hid hgF
    have HGG := Lib.hid hgG
    clear hcg hrg hcc hD' hv' hl' P hgF hgG hqs hnq hj1 hk1
    go_enter Tryz.func20, Tryz.ntmps20
    go_wp2_with fail
    rw [HW.out, HGB.out]
    refine (HPK.out _).mono ?_
    rintro e w1 ⟨rfl, rfl⟩
    go_wp2_with fail
    have sm1 : IntKind.i64.wrap (1 + (q : Int)) = 1 + (q : Int) := IntWalk.i64_in _ (by omega)
    go_region_held3 (fun w' => w'.cell? ⟨gw, 0, none⟩ = some (.pointer (some ⟨gd, 0, none⟩)) ∧ w'.cell? ⟨gw, 2, none⟩ = some (.pointer (some ⟨h, 0, none⟩)) ∧ w'.cell? ⟨gb, 2, none⟩ = some (.int .i64 nn)) (first | with_reducible exact X0.out | with_reducible exact X6.out | with_reducible exact X7.out)
      (first
        | (go_at_call 12; (refine (HQK.out _).mono ?_); rintro e w5 ⟨rfl, rfl⟩)
        | (go_at_call 13; rw [HNQ.out]; (with_reducible refine (HCG.out _ PD.out.ds.disk).mono ?_); rintro e w6 ⟨F6, rfl, d6, k6, n6⟩; have X6 := Lib.hid (show w6.cell? ⟨gw, 0, none⟩ = some (.pointer (some ⟨gd, 0, none⟩)) ∧ w6.cell? ⟨gw, 2, none⟩ = some (.pointer (some ⟨h, 0, none⟩)) ∧ w6.cell? ⟨gb, 2, none⟩ = some (.int .i64 nn) from ⟨k6.cell X0.out.1 PD.out.out.1, k6.cell X0.out.2.1 PD.out.out.1, k6.cell X0.out.2.2 HGF.out⟩); have R6 := Lib.hid (PD.out.r.kept k6 (fun x hx hx2 => PD.out.dis x hx2 hx)); have DD6 := Lib.hid d6; have K6 := Lib.hid k6; have N6 := Lib.hid n6; clear d6 k6 n6)
        | (go_at_call 55; rw [HNQ.out]; (with_reducible refine (HRG.out _ R6.out).mono ?_); rintro e w7 ⟨G7, rfl, r7, k7, n7⟩; have X7 := Lib.hid (show w7.cell? ⟨gw, 0, none⟩ = some (.pointer (some ⟨gd, 0, none⟩)) ∧ w7.cell? ⟨gw, 2, none⟩ = some (.pointer (some ⟨h, 0, none⟩)) ∧ w7.cell? ⟨gb, 2, none⟩ = some (.int .i64 nn) from ⟨k7.cell X6.out.1 PD.out.out.2, k7.cell X6.out.2.1 PD.out.out.2, k7.cell X6.out.2.2 HGG.out⟩); have R7 := Lib.hid r7; have K7 := Lib.hid k7; have N7 := Lib.hid n7; clear r7 k7 n7))
    all_goals
      go_wp2_with fail
      go_ret
      have hw7 : WSt w0 w7 gw o D' := by
        refine ⟨gd, h, F6, G7, ?_⟩
        cases o with
        | none => exact (Pr0.then_ (Pr0.then_ HST.out BW.out) (Below.refl _ _).drew).both DD6.out K6.out N6.out R7.out K7.out N7.out HV'.out
        | some x =>
          obtain ⟨gj, v, gk, u, h1⟩ := HST.out
          exact ⟨gj, v, gk, u, (Pr1.then_ (Pr1.then_ h1 BW.out) (Below.refl _ _).drew).both DD6.out K6.out N6.out R7.out K7.out N7.out HV'.out (by rw [HL'.out, HZ.out])⟩
      exact ⟨_, _, rfl, hw7, hp', HL'.out⟩
  · -- the power fails
    have hP : ∃ pj pk, (∃ x, pj = Value.pointer x) ∧ (∃ x, pk = Value.pointer x) ∧ Pr0 w0 w gw gd h F G D pj pk := by
      cases o with
      | none => exact ⟨_, _, ⟨_, rfl⟩, ⟨_, rfl⟩, HST.out⟩
      | some x =>
        obtain ⟨gj, v, gk, u, h1⟩ := HST.out
        exact ⟨_, _, ⟨_, rfl⟩, ⟨_, rfl⟩, h1.p⟩
    obtain ⟨pj, pk, hj1, hk1, P⟩ := hP
    obtain ⟨kp, hkp⟩ : ∃ kp, kl.take 20 = kp := ⟨_, rfl⟩
    have hik : IntsAt w0 ka kp := by rw [← hkp]; exact ints_cut HX.out.ints 20
    have hkl : kp.length = min kl.length 20 := by rw [← hkp, List.length_take]; omega
    have hm0 := OK.out.cap
    have hm9 := OK.out.max
    dsimp only at hm0 hm9
    obtain ⟨NK, hNK⟩ : ∃ NK, kl.length = NK := ⟨_, rfl⟩
    rw [hNK] at x3 hm0 hkl HW ⊢
    have hmin : (min (NK : Int) 20).toNat = kp.length := by omega
    have HMN := Lib.hid hmin
    have hm1 : (NK : Int) ≤ (kc : Int) := by omega
    have hm2 : (0 : Int) ≤ min (NK : Int) 20 := by omega
    have hm3 : min (NK : Int) 20 ≤ (kc : Int) := by omega
    have hgF : gb ∉ F := fun hx => by have := P.ds.disk.lt gb hx; have := HGB.out; omega
    have PW := Lib.hid (P.then_ BW.out)
    have hcr := fun W (hd : DiskAt W gd F D) (hi : IntsAt W ka kp) => crash_any gd F D ka kc kp nn W hd hi (by omega) OK.out.num.2 (by omega)
    have hrr := fun W (hr : RefAt W h G D) (hi : IntsAt W ka kp) => rcrash_any h G D ka kc kp nn W hr hi (by omega) OK.out.num.2 (by omega)
    have hl' := cr_length P.ds.disk.ok kp nn
    rw [HZ.out] at hl'
    have hv' := vis_cr D kp nn
    have hp' : (cr D kp nn).pend.length = 0 := by simp [cr]
    obtain ⟨D', hD'⟩ : ∃ D', cr D kp nn = D' := ⟨_, rfl⟩
    simp only [hD'] at hcr hrr
    rw [hD'] at hl' hv' hp'
    have hpo := opn_pend D'
    have HCR := Lib.hid hcr
    have HRR := Lib.hid hrr
    have HIK := Lib.hid hik
    have HL' := Lib.hid hl'
    have HV' := Lib.hid hv'
    have HPO : Hid ((opR D').2.2.pend.length ≤ D'.pend.length + 1) := (show (opR D').2.2.pend.length ≤ D'.pend.length + 1 from hpo)
    have HGF := Lib.hid hgF
    have e0 := (cells4 PW.out.blk).1
    have hgbl : gb < W.heap.size := lt_size x2
    have hgwl := hlt PW.out.blk
    have HJ1 := Lib.hid hj1
    have HK1 := Lib.hid hk1
    clear hcr hrr hik hl' hv' hD' hpo hgF P hkp hkl hNK hmin hj1 hk1
    go_enter Tryz.func20, Tryz.ntmps20
    go_wp2_with fail
    rw [HW.out, HGB.out]
    refine (HPK.out _).mono ?_
    rintro e w1 ⟨rfl, rfl⟩
    go_wp2_with fail
    have g_1 := fun D os => cell_regrown e0 D os
    have g_2 := fun D os => cell_regrown x2 D os
    refine wp_region_head 7 (by kernel_rfl) (by kernel_rfl) ?_
    simp only [List.take_succ_cons, List.take_zero, List.drop_succ_cons, List.drop_zero]
    repeat (go_big_quiet_step (fail))
    refine wpQuiet_nil ?_
    intro wq hq
    clear g_1 g_2
    have PQ := Lib.hid (PW.out.then_ hq)
    have y2 := cell_then hq x2
    have HB := Lib.hid PQ.out.ds.below
    have Y2 := Lib.hid y2
    clear hq e0 x0 x1 x2 x3 y2
    go_wp2_with fail
    rw [HMN.out]
    refine (HCR.out _ PQ.out.ds.disk (ints_then HIK.out HB.out)).mono ?_
    rintro e w3 ⟨F3, rfl, d3, k3, n3⟩
    have e2 : w3.cell? ⟨gw, 2, none⟩ = some (.pointer (some ⟨h, 0, none⟩)) := k3.cell (cells4 PQ.out.blk).2.2.1 PQ.out.out.1
    have z2 : w3.cell? ⟨gb, 2, none⟩ = some (.int .i64 nn) := k3.cell Y2.out HGF.out
    have hgw3 : gw < w3.heap.size := lt_size e2
    have hgb3 : gb < w3.heap.size := lt_size z2
    have DD3 := Lib.hid d3
    have K3 := Lib.hid k3
    have N3 := Lib.hid n3
    have R3 := Lib.hid (PQ.out.r.kept k3 (fun x hx hx2 => PQ.out.dis x hx2 hx))
    clear d3 k3 n3 hgbl hgwl
    go_wp2_with fail
    have g_1 := fun D os => cell_regrown e2 D os
    have g_2 := fun D os => cell_regrown z2 D os
    refine wp_region_head 7 (by kernel_rfl) (by kernel_rfl) ?_
    simp only [List.take_succ_cons, List.take_zero, List.drop_succ_cons, List.drop_zero]
    repeat (go_big_quiet_step (fail))
    refine wpQuiet_nil ?_
    intro wq hq
    clear g_1 g_2 e2 z2
    have D4 := Lib.hid (DD3.out.below hq)
    have K4 := Lib.hid (K3.out.and_below hq)
    have R4 := Lib.hid (R3.out.below hq)
    have HB4 := Lib.hid ((PQ.out.ds.turn DD3.out K3.out N3.out).then_ hq).below
    clear hq hgw3 hgb3
    go_wp2_with fail
    refine (HRR.out _ R4.out (ints_then HIK.out HB4.out)).mono ?_
    rintro e w5 ⟨G5, rfl, r5, k5, n5⟩
    have P5 := Lib.hid (PQ.out.both D4.out K4.out N3.out r5 k5 n5 HV'.out)
    have ho := wopen_any w0 gw gd h F3 G5 D' pj pk a w5 P5.out HJ1.out HK1.out HK.out HE.out (by rw [HL'.out]; exact hz1) (by omega)
    have hlo := opn_length P5.out.ds.disk.ok
    rw [HL'.out] at hlo
    have HLO : Hid ((opR D').2.2.sure.length = z) := (show (opR D').2.2.sure.length = z from hlo)
    have HO := Lib.hid ho
    clear r5 k5 n5 ho hlo
    go_wp2_with fail
    refine HO.out.mono ?_
    rintro e w6 ⟨rfl, hq6⟩
    have HQ6 := Lib.hid hq6
    clear hq6
    go_wp2_with fail
    go_ret
    exact ⟨_, _, rfl, HQ6.out, by have := HPO.out; omega, HLO.out⟩
  · -- opened again
    have P : ∃ pj pk, (∃ x, pj = Value.pointer x) ∧ (∃ x, pk = Value.pointer x) ∧ Pr0 w0 w gw gd h F G D pj pk := by
      cases o with
      | none => exact ⟨_, _, ⟨_, rfl⟩, ⟨_, rfl⟩, HST.out⟩
      | some x =>
        obtain ⟨gj, v, gk, u, h1⟩ := HST.out
        exact ⟨_, _, ⟨_, rfl⟩, ⟨_, rfl⟩, h1.p⟩
    obtain ⟨pj, pk, hj1, hk1, P⟩ := P
    have ho := wopen_any w0 gw gd h F G D pj pk a W (P.then_ BW.out) hj1 hk1 HK.out HE.out (by rw [HZ.out]; exact hz1) (by omega)
    have hpo := opn_pend D
    have hlo := opn_length P.ds.disk.ok
    rw [HZ.out] at hlo
    have HPO : Hid ((opR D).2.2.pend.length ≤ D.pend.length + 1) := (show (opR D).2.2.pend.length ≤ D.pend.length + 1 from hpo)
    have HLO : Hid ((opR D).2.2.sure.length = z) := (show (opR D).2.2.sure.length = z from hlo)
    have HO := Lib.hid ho
    clear P ho hpo hlo hj1 hk1
    go_enter Tryz.func20, Tryz.ntmps20
    go_wp2_with fail
    rw [HW.out, HGB.out]
    refine (HPK.out _).mono ?_
    rintro e w1 ⟨rfl, rfl⟩
    go_wp2_with fail
    refine HO.out.mono ?_
    rintro e w2 ⟨rfl, hq2⟩
    have HQ2 := Lib.hid hq2
    clear hq2
    go_wp2_with fail
    go_ret
    exact ⟨_, _, rfl, HQ2.out, by have := HPO.out; omega, HLO.out⟩
  · -- a group is appended
    obtain ⟨l, hl⟩ : ∃ l, fewS ll 6 = l := ⟨_, rfl⟩
    have hls := fewS_small ll
    have hl6 := few_len ll
    rw [hl] at hls hl6
    have HLs := Lib.hid hls
    have hfw := fun W (hb : Below w0.heap.size w0 W) => few_own ⟨la, lc, ll⟩ W (HX.out.grp.then_ hb)
    dsimp only at hfw
    rw [hl] at hfw
    have HFW := Lib.hid hfw
    clear hl hls hfw
    cases o with
    | none =>
      have P := Lib.hid (show Pr0 w0 w gw gd h F G D (.pointer none) (.pointer none) from HST.out)
      have PW := Lib.hid (P.out.then_ BW.out)
      have e1 := (cells4 PW.out.blk).2.1
      have BWd := Lib.hid (PW.out.then_ (Below.refl _ _).drew).ds.below
      have X0 := Lib.hid (show W.drew.cell? ⟨gw, 1, none⟩ = some (.pointer none) ∧ W.drew.cell? ⟨gb, 1, none⟩ = some (.slice la ll.length lc) from ⟨e1, x1⟩)
      clear HST P
      go_enter Tryz.func20, Tryz.ntmps20
      go_wp2_with fail
      rw [HW.out, HGB.out]
      refine (HPK.out _).mono ?_
      rintro e w1 ⟨rfl, rfl⟩
      go_wp2_with fail
      go_region_held3 (fun w' => w'.cell? ⟨gw, 1, none⟩ = some (.pointer none) ∧ w'.cell? ⟨gb, 1, none⟩ = some (.slice la ll.length lc)) (first | with_reducible exact X0.out | with_reducible exact X5.out)
        (first
          | (go_at_call 18; (with_reducible refine (HFW.out _ BWd.out).mono ?_); rintro e w5 ⟨A5, c5, rfl, o5, hc5, b5⟩; have X5 := Lib.hid (show w5.cell? ⟨gw, 1, none⟩ = some (.pointer none) ∧ w5.cell? ⟨gb, 1, none⟩ = some (.slice la ll.length lc) from ⟨cell_then b5 X0.out.1, cell_then b5 X0.out.2⟩); have B5 := Lib.hid b5; clear b5 o5)
          | (go_at_call 17; (refine (app_nil _ _).mono ?_); rintro e w7 ⟨rfl, rfl⟩))
      all_goals
        go_wp2_with fail
        go_ret
        have hw7 : WSt w0 w5 gw none D := ⟨gd, h, F, G, (PW.out.then_ (Below.refl _ _).drew).then_ B5.out⟩
        exact ⟨_, _, rfl, hw7, by omega, HZ.out⟩
    | some bx =>
      obtain ⟨b, rs⟩ := bx
      obtain ⟨gj, v, gk, u, hP⟩ := HST.out
      have P := Lib.hid (show Pr1 w0 w gw gd h F G D gj v gk u b rs from hP)
      have PW := Lib.hid (P.out.then_ BW.out)
      have PD := Lib.hid (PW.out.then_ (Below.refl _ _).drew)
      have e1 := (cells4 PW.out.p.blk).2.1
      have e3 := (cells4 PW.out.p.blk).2.2.2
      have BWd := Lib.hid PD.out.p.ds.below
      have X0 := Lib.hid (show W.drew.cell? ⟨gw, 1, none⟩ = some (.pointer (some ⟨gj, 0, none⟩)) ∧ W.drew.cell? ⟨gw, 3, none⟩ = some (.pointer (some ⟨gk, 0, none⟩)) ∧ W.drew.cell? ⟨gb, 1, none⟩ = some (.slice la ll.length lc) from ⟨e1, e3, x1⟩)
      have hja := fun A c W (hj : Jd w0 W gj gd v F b rs D) (hA : StrsAt W A l) (hc : l.length ≤ c) => jd_append2 w0 gj gd l.length v F b rs D l A c W hj HK.out hA rfl (by omega) hc (fun s hs => by have := HLs.out s hs; omega) (by omega)
      have hvv := vis_apR (b := b) (rs := rs) (l := l) P.out.p.vis
      have hra := fun A c W (hR : RefAt W h G D) (hT : RjT W gk h u b rs (need rs)) (hA : Was W (gk :: G) A l) => rapp_gen gk h l.length c z u G b rs D A l W hR hT P.out.ka P.out.p.vis hA rfl (by omega) (by have := need_count rs; have := P.out.j.fit; have := HZ.out; omega) HLs.out P.out.j.small HZ.out (by have := P.out.j.fit; have := HZ.out; omega) hz1 (by omega)
      have hll := (apR_fit (b := b) (l := l) P.out.j.ds.disk.ok P.out.j.fit).1
      have hpp := apR_pend b rs D l
      obtain ⟨R, hR⟩ : ∃ R, apR b rs D l = R := ⟨_, rfl⟩
      simp only [hR] at hja hra
      rw [hR] at hvv hll hpp
      obtain ⟨cc, b', rs', D'⟩ := R
      dsimp only at hvv hll hpp hja
      rw [HZ.out] at hll
      have hgF : gb ∉ gj :: F := fun hx => by
        have h1 := HGB.out
        rcases List.mem_cons.1 hx with hx | hx
        · have := hlt P.out.j.jrn.blk; omega
        · have := P.out.p.ds.disk.lt gb hx; omega
      have hgG : gb ∉ gk :: G := fun hx => by
        have h1 := HGB.out
        rcases List.mem_cons.1 hx with hx | hx
        · have := P.out.k.lt; omega
        · have := P.out.p.r.lt gb hx; omega
      have hwF : gw ∉ gj :: F := fun hx => by
        rcases List.mem_cons.1 hx with hx | hx
        · exact P.out.o1.1 hx
        · exact P.out.p.out.1 hx
      have hwG : gw ∉ gk :: G := fun hx => by
        rcases List.mem_cons.1 hx with hx | hx
        · exact P.out.o1.2 hx
        · exact P.out.p.out.2 hx
      have HJA := Lib.hid hja
      have HRA := Lib.hid hra
      have HVV := Lib.hid hvv
      have HLL := Lib.hid hll
      have HGF := Lib.hid hgF
      have HGG := Lib.hid hgG
      have HWF := Lib.hid hwF
      have HWG := Lib.hid hwG
      clear HST hP hja hra hvv hll hR hgF hgG hwF hwG
      go_enter Tryz.func20, Tryz.ntmps20
      go_wp2_with fail
      rw [HW.out, HGB.out]
      refine (HPK.out _).mono ?_
      rintro e w1 ⟨rfl, rfl⟩
      go_wp2_with fail
      go_region_held3 (fun w' => w'.cell? ⟨gw, 1, none⟩ = some (.pointer (some ⟨gj, 0, none⟩)) ∧ w'.cell? ⟨gw, 3, none⟩ = some (.pointer (some ⟨gk, 0, none⟩)) ∧ w'.cell? ⟨gb, 1, none⟩ = some (.slice la ll.length lc)) (first | with_reducible exact X0.out | with_reducible exact X8.out | with_reducible exact X7.out | with_reducible exact X6.out | with_reducible exact X5.out)
        (first
          | (go_at_call 18; (with_reducible refine (HFW.out _ BWd.out).mono ?_); rintro e w5 ⟨A5, c5, rfl, o5, hc5, b5⟩; have X5 := Lib.hid (show w5.cell? ⟨gw, 1, none⟩ = some (.pointer (some ⟨gj, 0, none⟩)) ∧ w5.cell? ⟨gw, 3, none⟩ = some (.pointer (some ⟨gk, 0, none⟩)) ∧ w5.cell? ⟨gb, 1, none⟩ = some (.slice la ll.length lc) from ⟨cell_then b5 X0.out.1, cell_then b5 X0.out.2.1, cell_then b5 X0.out.2.2⟩); have P5 := Lib.hid (PD.out.then_ b5); have S5 := Lib.hid (own_strs o5 rfl); clear b5 o5)
          | (go_at_call 17; (with_reducible refine (HJA.out _ _ _ P5.out.j S5.out hc5).mono ?_); rintro e w6 ⟨F6, v6, rfl, j6, k6, n6, m6⟩; have X6 := Lib.hid (show w6.cell? ⟨gw, 1, none⟩ = some (.pointer (some ⟨gj, 0, none⟩)) ∧ w6.cell? ⟨gw, 3, none⟩ = some (.pointer (some ⟨gk, 0, none⟩)) ∧ w6.cell? ⟨gb, 1, none⟩ = some (.slice la ll.length lc) from ⟨k6.cell X5.out.1 HWF.out, k6.cell X5.out.2.1 HWF.out, k6.cell X5.out.2.2 HGF.out⟩); have J6 := Lib.hid j6; have K6 := Lib.hid k6; have N6 := Lib.hid n6; have M6 := Lib.hid m6; clear j6 k6 n6 m6)
          | (go_at_call 18; (with_reducible refine (HFW.out _ J6.out.ds.below).mono ?_); rintro e w7 ⟨A7, c7, rfl, o7, hc7, b7⟩; have X7 := Lib.hid (show w7.cell? ⟨gw, 1, none⟩ = some (.pointer (some ⟨gj, 0, none⟩)) ∧ w7.cell? ⟨gw, 3, none⟩ = some (.pointer (some ⟨gk, 0, none⟩)) ∧ w7.cell? ⟨gb, 1, none⟩ = some (.slice la ll.length lc) from ⟨cell_then b7 X6.out.1, cell_then b7 X6.out.2.1, cell_then b7 X6.out.2.2⟩); have J7 := Lib.hid (J6.out.then_ b7); have K7 := Lib.hid (K6.out.and_below b7); have R7 := Lib.hid (P5.out.p.r.kept K7.out (fun x hx hx2 => by { rcases List.mem_cons.1 hx2 with rfl | hx2; exact P5.out.d2 x (by simp) (List.mem_cons_of_mem _ hx); exact P5.out.p.dis x hx2 hx })); have T7 := Lib.hid (P5.out.k.kept K7.out (fun hx => P5.out.d1 gk (by simp) hx) (fun x hx hx2 => P5.out.d1 x (List.mem_cons_of_mem _ hx) hx2)); have hkl7 : ∀ x ∈ gk :: G, x < w6.heap.size := (fun x hx => Nat.lt_of_lt_of_le (by { rcases List.mem_cons.1 hx with rfl | hx; exact P5.out.k.lt; exact P5.out.p.r.lt x hx }) K6.out.size); have W7 := Lib.hid (was_of_own o7 rfl hkl7); clear b7 o7 hkl7)
          | (go_at_call 26; (with_reducible refine (HRA.out _ _ _ R7.out T7.out W7.out).mono ?_); rintro e w8 ⟨G8, u8, rfl, r8, t8, k8, n8, m8, a8⟩; have X8 := Lib.hid (show w8.cell? ⟨gw, 1, none⟩ = some (.pointer (some ⟨gj, 0, none⟩)) ∧ w8.cell? ⟨gw, 3, none⟩ = some (.pointer (some ⟨gk, 0, none⟩)) ∧ w8.cell? ⟨gb, 1, none⟩ = some (.slice la ll.length lc) from ⟨k8.cell X7.out.1 HWG.out, k8.cell X7.out.2.1 HWG.out, k8.cell X7.out.2.2 HGG.out⟩); have R8 := Lib.hid r8; have T8 := Lib.hid t8; have K8 := Lib.hid k8; have N8 := Lib.hid n8; have M8 := Lib.hid m8; have A8 := Lib.hid a8; clear r8 t8 k8 n8 m8 a8))
      all_goals
        go_wp2_with fail
        go_ret
        have hw8 : WSt w0 w8 gw (some (b', rs')) D' := ⟨gd, h, F6, G8, gj, v6, gk, u8, P5.out.app J7.out K7.out N6.out M6.out R8.out T8.out K8.out N8.out M8.out A8.out HVV.out⟩
        exact ⟨_, _, rfl, hw8, by omega, HLL.out⟩
end Go.Proofs.YtnjkinljpekohaaGreatDoor.Jo
namespace Go.Proofs.YtnjkinljpekohaaGreatDoor.Jo
open Go.RowKit Sha Dsk Jr
attribute [local go_sem] Oper.semAt_some
set_option maxRecDepth 100000 in
set_option maxHeartbeats 4000000 in
theorem begin_any (n : Int) (z : Nat) (a : Addr) (w0 w : World) (hb : Below w0.heap.size w0 w) (hn : I64 n) (hz : szI n = z) (hK : RoundIn w0) (hE : ErrIn w0 222 (.pointer (some a))) :
    Calls Tryz.prog 19 #[.int .i64 n] w fun e w' => ∃ gw, e = .returned (.tuple #[.pointer (some ⟨gw, 0, none⟩), .bool true]) ∧ WSt w0 w' gw (some (false, [])) (nw z) := by
  have hsz := szI_le n
  have hls := fun W => lsize_any n W hn
  rw [hz] at hsz
  simp only [hz] at hls
  have HLS := Lib.hid hls
  have HK := Lib.hid hK
  have HE := Lib.hid hE
  have HB := Lib.hid hb
  clear hls hK hE hb hn hz
  go_enter Tryz.func19, Tryz.ntmps19
  go_wp2_with fail
  refine (HLS.out _).mono ?_
  rintro e w1 ⟨rfl, rfl⟩
  go_wp2_with fail
  refine (new_any z w hsz.1 (by omega)).mono ?_
  rintro e w1 ⟨gd, F, rfl, d1, n1, b1⟩
  have D1 := Lib.hid d1
  have N1 := Lib.hid n1
  have B1 := Lib.hid b1
  clear d1 n1 b1
  go_wp2_with fail
  refine (HLS.out _).mono ?_
  rintro e w2 ⟨rfl, rfl⟩
  go_wp2_with fail
  refine (ref_new z w1 hsz.1 (by omega)).mono ?_
  rintro e w2 ⟨h, G, rfl, r2, n2, b2⟩
  have hbw := HB.out.size
  have hb1 := B1.out.size
  have hb2 := b2.size
  obtain ⟨W3, hW3⟩ : ∃ W3, w2.alloc (.cells #[.pointer (some ⟨gd, 0, none⟩), .pointer none, .pointer (some ⟨h, 0, none⟩), .pointer none] 51) = W3 := ⟨_, rfl⟩
  have b3 : Below w2.heap.size w2 W3 := by rw [← hW3]; exact below_alloc (Below.refl _ _) _
  have hblk : W3.heap[w2.heap.size]? = some (.cells #[.pointer (some ⟨gd, 0, none⟩), .pointer none, .pointer (some ⟨h, 0, none⟩), .pointer none] 51 (0, 0)) := by rw [← hW3]; exact heap_alloc_new _ _
  have hFl := D1.out.lt
  have hGl := r2.lt
  have P : Pr0 w0 W3 w2.heap.size gd h F G (nw z) (.pointer none) (.pointer none) :=
    ⟨⟨(D1.out.below b2).below b3, fun x hx => by have := N1.out x hx; omega, below_next (below_next (below_next HB.out B1.out) b2) b3⟩, r2.below b3, vis_nw z, fun x hx => by have := n2 x hx; omega,
      fun x hx hx2 => by have h1 := hFl x hx; have h2 := n2 x hx2; omega, hblk, by omega, fun hx => by have := hFl _ hx; omega, fun hx => by have := hGl _ hx; omega⟩
  have PP := Lib.hid P
  have HW3 := Lib.hid hW3
  obtain ⟨gw, hgw⟩ : ∃ gw, w2.heap.size = gw := ⟨_, rfl⟩
  rw [hgw] at PP
  have ho := wopen_any w0 gw gd h F G (nw z) (.pointer none) (.pointer none) a W3 PP.out ⟨_, rfl⟩ ⟨_, rfl⟩ HK.out HE.out (by simp [nw]; omega) (by simp [nw])
  rw [opR_good (Good0.new z).good (by simp)] at ho
  have HO := Lib.hid ho
  have HGW := Lib.hid hgw
  clear hW3 b3 hblk hFl hGl P hgw ho r2 n2 b2 hbw hb1 hb2
  go_wp2_with fail
  rw [HW3.out, HGW.out]
  refine HO.out.mono ?_
  rintro e w4 ⟨rfl, hq⟩
  have HQ := Lib.hid hq
  clear hq
  go_wp2_with fail
  go_ret2
  exact ⟨gw, rfl, HQ.out⟩
end Go.Proofs.YtnjkinljpekohaaGreatDoor.Jo
