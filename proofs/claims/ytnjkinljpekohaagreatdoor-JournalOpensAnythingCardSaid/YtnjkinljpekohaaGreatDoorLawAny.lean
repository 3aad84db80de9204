/- JournalOpensAnything: the law. JournalOpensAnything: Open agrees with the reference implementation on a disk with arbitrary contents, and on a journal of which one byte is changed; no condition beyond the row of the statement. -/
import Derived.Test.YtnjkinljpekohaaGreatDoorLawMatches
import Derived.Test.YtnjkinljpekohaaGreatDoorBw
import Derived.Test.YtnjkinljpekohaaGreatDoorBl
import Derived.Test.YtnjkinljpekohaaGreatDoorBp
namespace Go.Proofs.YtnjkinljpekohaaGreatDoor.Jo
open Go.RowKit Sha Dsk Jr
attribute [local go_sem] Oper.semAt_some
/-- the normal end, in this state, in a world of this kind -/
def EndsAs (A : Act) (R : World → Prop) : Exit → Act → World → Prop
  | .normal, a, w => a = A ∧ R w
  | _, _, _ => False
theorem wp_alike {P : Program} {c : Code} {Q : Exit → Act → World → Prop} {a : Act} {w : World} {A : Act} (R : World → Prop) (hreg : c.wp P (EndsAs A R) a w) (hcont : ∀ w', R w' → Q .normal A w') : c.wp P Q a w :=
  Code.wp_mono (fun e a' w' h => by
    cases e with
    | normal => obtain ⟨rfl, h⟩ := h; exact hcont _ h
    | _ => exact h.elim) hreg
/-- a disk turned, in words of a world -/
def Turned (gd : Nat) (F : List Nat) (D' : Dk) (W w' : World) : Prop := ∃ F', DiskAt w' gd F' D' ∧ Kept F W w' ∧ New W F F'
def RTurned (h : Nat) (G : List Nat) (D' : Dk) (W w' : World) : Prop := ∃ G', RefAt w' h G' D' ∧ Kept G W w' ∧ New W G G'
theorem opR_on {D : Dk} (ho : D.off = false) (hl : D.left = 0) : (opR D).2.2.off = false := by
  have hw : ∀ k, (wipe D k).2.off = false := fun k => by
    unfold wipe
    split
    · exact ho
    · split
      · exact ho
      · split
        · rename_i h; rw [offW, if_pos hl, ho] at h; cases h
        · show offW D = false
          rw [offW, if_pos hl, ho]
  cases hld : Jr.load chainS D.vis D.vis.length zed 0 with
  | none => rw [opR_none ho hld]; exact ho
  | some x =>
    obtain ⟨acc, H, k⟩ := x
    rw [opR_some ho hld]
    split <;> exact hw k
theorem wr_on {D : Dk} (ho : D.off = false) (hl : D.left = 0) (o : Nat) (s : ByteArray) : (Dsk.wr D o s).off = false ∧ (Dsk.wr D o s).left = 0 := by
  refine ⟨?_, ?_⟩
  · show offW D = false
    rw [offW, if_pos hl, ho]
  · show leftW D = 0
    rw [leftW, if_pos hl]
set_option maxRecDepth 100000 in
set_option maxHeartbeats 8000000 in
theorem any_law (n at_ : Int) (s : ByteArray) (cb : UInt8) (a : Addr) (la : Option Addr) (lc : Nat) (ll : List ByteArray) (w : World) (hK : RoundIn w) (hE : ErrIn w 222 (.pointer (some a))) (hn : I64 n) (ha : I64 at_) (hs : (s.size : Int) ≤ 9223372036854775807) (hG : GrpAt w ⟨la, lc, ll⟩) :
    Calls Tryz.prog 5 #[.int .i64 n, .string s, .slice la ll.length lc, .int .i64 at_, .int .u8 ((cb.toNat : Nat) : Int)] w fun e w' => e = .returned (.bool true) ∧ Below w.heap.size w w' := by
  have hsz := szI_le n
  have hls := fun W => lsize_any n W hn
  obtain ⟨z, hz⟩ : ∃ z, szI n = z := ⟨_, rfl⟩
  rw [hz] at hsz
  simp only [hz] at hls
  have hbg := fun W (hb : Below w.heap.size w W) => begin_any n z a w W hb hn hz hK hE
  obtain ⟨kk, hkk, hkz⟩ : ∃ kk, pk at_ z = kk ∧ kk < z := ⟨_, rfl, pk_lt at_ hsz.1⟩
  have hpk := fun W => pick_any at_ z W ha hsz.1 (by omega)
  simp only [hkk] at hpk
  obtain ⟨x, hx⟩ : ∃ x : Int, ((cb.toNat : Nat) : Int) = x := ⟨_, rfl⟩
  have hx0 : 0 ≤ x := by omega
  have hx1 : x ≤ 255 := by have := cb.toNat_lt; omega
  rw [hx]
  obtain ⟨l, hl⟩ : ∃ l, fewS ll 6 = l := ⟨_, rfl⟩
  have hlz := fewS_small ll
  have hl6 := few_len ll
  rw [hl] at hlz hl6
  have hfw := fun W (hb : Below w.heap.size w W) => few_own ⟨la, lc, ll⟩ W (hG.then_ hb)
  dsimp only at hfw
  rw [hl] at hfw
  obtain ⟨NL, hNL⟩ : ∃ NL, ll.length = NL := ⟨_, rfl⟩
  rw [hNL] at hfw ⊢
  have HBG := Lib.hid hbg
  have HLS := Lib.hid hls
  have HPK := Lib.hid hpk
  have HFW := Lib.hid hfw
  have HLs := Lib.hid hlz
  have HK := Lib.hid hK
  have HE := Lib.hid hE
  have HX := Lib.hid hx
  clear hK hE hn ha hbg hls hpk hfw hlz hz hkk hl hNL hx hG
  go_enter Tryz.func5, Tryz.ntmps5
  go_wp2_with fail
  refine (sane_any a w HK.out HE.out).mono ?_
  rintro e w1 ⟨rfl, b1⟩
  have B1 := Lib.hid b1
  clear b1
  go_wp2_with fail
  refine (HBG.out w1 B1.out).mono ?_
  rintro e w2 ⟨gw, rfl, hs2⟩
  obtain ⟨gd, h, F, G, gj, v, gk, u, hP⟩ := hs2
  have P2 := Lib.hid (show Pr1 w w2 gw gd h F G (nw z) gj v gk u false [] from hP)
  clear hP
  by_cases hNL : 0 < NL
  · have g0 : (0 : Int) < (NL : Int) := by omega
    have PD := Lib.hid (P2.out.then_ (Below.refl _ _).drew)
    have e1 := (cells4 P2.out.p.blk).2.1
    have e3 := (cells4 P2.out.p.blk).2.2.2
    have BWd := Lib.hid PD.out.p.ds.below
    have X0 := Lib.hid (show w2.drew.cell? ⟨gw, 1, none⟩ = some (.pointer (some ⟨gj, 0, none⟩)) ∧ w2.drew.cell? ⟨gw, 3, none⟩ = some (.pointer (some ⟨gk, 0, none⟩)) from ⟨e1, e3⟩)
    have hja := fun A c W (hj : Jd w W gj gd v F false [] (nw z)) (hA : StrsAt W A l) (hc : l.length ≤ c) => jd_append2 w gj gd l.length v F false [] (nw z) l A c W hj HK.out hA rfl (by omega) hc (fun s hs => by have := HLs.out s hs; omega) (by simp [nw])
    have hra := fun A c W (hR : RefAt W h G (nw z)) (hT : RjT W gk h u false [] (need [])) (hA : Was W (gk :: G) A l) => rapp_gen gk h l.length c z u G false [] (nw z) A l W hR hT P2.out.ka P2.out.p.vis hA rfl (by omega) (by simp) HLs.out (by simp) (by simp [nw]) (by simp [need]) hsz.1 (by simp [nw])
    obtain ⟨cc, rs', D', hap, hg'⟩ := apR_any (l := l) (Good0.new z) HLs.out
    have hvv := vis_apR (b := false) (rs := []) (l := l) P2.out.p.vis
    simp only [hap] at hja hra
    rw [hap] at hvv
    dsimp only at hvv hja
    have hwF : gw ∉ gj :: F := fun hx => by
      rcases List.mem_cons.1 hx with hx | hx
      · exact P2.out.o1.1 hx
      · exact P2.out.p.out.1 hx
    have hwG : gw ∉ gk :: G := fun hx => by
      rcases List.mem_cons.1 hx with hx | hx
      · exact P2.out.o1.2 hx
      · exact P2.out.p.out.2 hx
    have HJA := Lib.hid hja
    have HRA := Lib.hid hra
    have HVV := Lib.hid hvv
    have HG' := Lib.hid hg'
    have HWF := Lib.hid hwF
    have HWG := Lib.hid hwG
    clear hja hra hvv hg' hap hwF hwG
    go_wp2_with fail
    go_region_held3 (fun w' => w'.cell? ⟨gw, 1, none⟩ = some (.pointer (some ⟨gj, 0, none⟩)) ∧ w'.cell? ⟨gw, 3, none⟩ = some (.pointer (some ⟨gk, 0, none⟩))) (first | with_reducible exact X0.out | with_reducible exact X8.out | with_reducible exact X7.out | with_reducible exact X6.out | with_reducible exact X5.out)
      (first
        | (go_at_call 18; (with_reducible refine (HFW.out _ BWd.out).mono ?_); rintro e w5 ⟨A5, c5, rfl, o5, hc5, b5⟩; have X5 := Lib.hid (show w5.cell? ⟨gw, 1, none⟩ = some (.pointer (some ⟨gj, 0, none⟩)) ∧ w5.cell? ⟨gw, 3, none⟩ = some (.pointer (some ⟨gk, 0, none⟩)) from ⟨cell_then b5 X0.out.1, cell_then b5 X0.out.2⟩); have P5 := Lib.hid (PD.out.then_ b5); have S5 := Lib.hid (own_strs o5 rfl); clear b5 o5)
        | (go_at_call 17; (with_reducible refine (HJA.out _ _ _ P5.out.j S5.out hc5).mono ?_); rintro e w6 ⟨F6, v6, rfl, j6, k6, n6, m6⟩; have X6 := Lib.hid (show w6.cell? ⟨gw, 1, none⟩ = some (.pointer (some ⟨gj, 0, none⟩)) ∧ w6.cell? ⟨gw, 3, none⟩ = some (.pointer (some ⟨gk, 0, none⟩)) from ⟨k6.cell X5.out.1 HWF.out, k6.cell X5.out.2 HWF.out⟩); have J6 := Lib.hid j6; have K6 := Lib.hid k6; have N6 := Lib.hid n6; have M6 := Lib.hid m6; clear j6 k6 n6 m6)
        | (go_at_call 18; (with_reducible refine (HFW.out _ J6.out.ds.below).mono ?_); rintro e w7 ⟨A7, c7, rfl, o7, hc7, b7⟩; have X7 := Lib.hid (show w7.cell? ⟨gw, 1, none⟩ = some (.pointer (some ⟨gj, 0, none⟩)) ∧ w7.cell? ⟨gw, 3, none⟩ = some (.pointer (some ⟨gk, 0, none⟩)) from ⟨cell_then b7 X6.out.1, cell_then b7 X6.out.2⟩); have J7 := Lib.hid (J6.out.then_ b7); have K7 := Lib.hid (K6.out.and_below b7); have R7 := Lib.hid (P5.out.p.r.kept K7.out (fun x hx hx2 => by { rcases List.mem_cons.1 hx2 with rfl | hx2; exact P5.out.d2 x (by simp) (List.mem_cons_of_mem _ hx); exact P5.out.p.dis x hx2 hx })); have T7 := Lib.hid (P5.out.k.kept K7.out (fun hx => P5.out.d1 gk (by simp) hx) (fun x hx hx2 => P5.out.d1 x (List.mem_cons_of_mem _ hx) hx2)); have hkl7 : ∀ x ∈ gk :: G, x < w6.heap.size := (fun x hx => Nat.lt_of_lt_of_le (by { rcases List.mem_cons.1 hx with rfl | hx; exact P5.out.k.lt; exact P5.out.p.r.lt x hx }) K6.out.size); have W7 := Lib.hid (was_of_own o7 rfl hkl7); clear b7 o7 hkl7)
        | (go_at_call 26; (with_reducible refine (HRA.out _ _ _ R7.out T7.out W7.out).mono ?_); rintro e w8 ⟨G8, u8, rfl, r8, t8, k8, n8, m8, a8⟩; have X8 := Lib.hid (show w8.cell? ⟨gw, 1, none⟩ = some (.pointer (some ⟨gj, 0, none⟩)) ∧ w8.cell? ⟨gw, 3, none⟩ = some (.pointer (some ⟨gk, 0, none⟩)) from ⟨k8.cell X7.out.1 HWG.out, k8.cell X7.out.2 HWG.out⟩); have R8 := Lib.hid r8; have T8 := Lib.hid t8; have K8 := Lib.hid k8; have N8 := Lib.hid n8; have M8 := Lib.hid m8; have A8 := Lib.hid a8; clear r8 t8 k8 n8 m8 a8))
    all_goals
      have P8 := Lib.hid (P5.out.app J7.out K7.out N6.out M6.out R8.out T8.out K8.out N8.out M8.out A8.out HVV.out)
      clear HJA HRA PD X0 X5 X6 X7 X8 P5 S5 J6 K6 N6 M6 J7 K7 R7 T7 W7 R8 T8 K8 N8 M8 A8 e1 e3 BWd hc5 hc7 HVV HWF HWG
      have e0 := (cells4 P8.out.p.blk).1
      have hcv := conv_byte cb w8.heap.size
      rw [HX.out] at hcv
      have hwr := fun W (hb : Below w8.heap.size w8 W) => write_in kk (sof [cb]) gd F6 D' W (P8.out.p.ds.disk.below hb) HG'.out.good.on (by rw [HG'.out.len, ← bts_length, bts_sof, List.length_singleton]; omega) (by rw [HG'.out.good.none]; decide)
      obtain ⟨D3, hD3⟩ : ∃ D3, Dsk.wr D' kk (sof [cb]) = D3 := ⟨_, rfl⟩
      have hv3 : Vis D3 := by rw [← hD3]; exact vis_wr P8.out.p.vis _ _
      have hl3 : D3.sure.length = z := by rw [← hD3]; exact HG'.out.len
      have hp3 : D3.pend.length ≤ 900000 := by
        rw [← hD3]
        show (D'.pend ++ [_]).length ≤ _
        rw [HG'.out.good.none]; simp
      have hon := wr_on HG'.out.good.on HG'.out.left kk (sof [cb])
      rw [hD3] at hon
      simp only [hD3] at hwr
      have HWR := Lib.hid hwr
      have HD3 := Lib.hid hD3
      have HV3 := Lib.hid hv3
      have HL3 := Lib.hid hl3
      have HPE := Lib.hid hp3
      have HON := Lib.hid hon.1
      have HLF := Lib.hid hon.2
      clear hwr hD3 hv3 hl3 hp3 hon
      have X0 := Lib.hid (show w8.drew.cell? ⟨gw, 0, none⟩ = some (.pointer (some ⟨gd, 0, none⟩)) from e0)
      have XA := Lib.hid (show (w8.alloc (.cells #[.int .u8 x] 5)).drew.cell? ⟨gw, 0, none⟩ = some (.pointer (some ⟨gd, 0, none⟩)) from cell_then (below_alloc (Below.refl _ _) _).drew e0)
      have el := lt_size e0
      go_wp2_with fail
      apply wp_alike (Turned gd F6 D3 (w8.alloc (.cells #[.int .u8 x] 5)).drew)
      case hreg =>
        go_region_held_law (fun w' => w'.cell? ⟨gw, 0, none⟩ = some (.pointer (some ⟨gd, 0, none⟩))) (first | with_reducible exact X0.out | with_reducible exact XA.out | with_reducible exact X9.out)
          (first
            | (go_at_call 10; (refine (HLS.out _).mono ?_); rintro e w5 ⟨rfl, rfl⟩)
            | (go_at_call 12; (refine (HPK.out _).mono ?_); rintro e w5 ⟨rfl, rfl⟩)
            | (go_at_call 27; (with_reducible refine (HWR.out _ (below_alloc (Below.refl _ _) _).drew).mono ?_); rintro e w9 ⟨F9, rfl, d9, k9, n9⟩; have X9 := Lib.hid (k9.cell XA.out P8.out.p.out.1); have D9 := Lib.hid d9; have K9 := Lib.hid k9; have N9 := Lib.hid n9; clear d9 k9 n9))
        all_goals exact ⟨rfl, F9, D9.out, K9.out, N9.out⟩
      case hcont =>
        rintro w9 ⟨F9, d9, k9, n9⟩
        have D9 := Lib.hid d9
        have K9 := Lib.hid k9
        have N9 := Lib.hid n9
        clear d9 k9 n9
        have P8A := Lib.hid (P8.out.p.then_ (below_alloc (Below.refl w8.heap.size w8) (.cells #[.int .u8 x] 5)).drew)
        have R9 := Lib.hid (P8A.out.r.kept K9.out (fun x hx hx2 => P8A.out.dis x hx2 hx))
        have e2 : w9.cell? ⟨gw, 2, none⟩ = some (.pointer (some ⟨h, 0, none⟩)) := K9.out.cell (cells4 P8A.out.blk).2.2.1 P8A.out.out.1
        have hcv2 := conv_byte cb w9.heap.size
        rw [HX.out] at hcv2
        have hrw := fun W (hb : Below w9.heap.size w9 W) => rwrite_in kk (sof [cb]) h G8 D' W (R9.out.below hb) HG'.out.good.on (by rw [HG'.out.len, ← bts_length, bts_sof, List.length_singleton]; omega) (by rw [HG'.out.good.none]; decide)
        simp only [HD3.out] at hrw
        have HRW := Lib.hid hrw
        have Y0 := Lib.hid (show w9.drew.cell? ⟨gw, 2, none⟩ = some (.pointer (some ⟨h, 0, none⟩)) from e2)
        have YA := Lib.hid (show (w9.alloc (.cells #[.int .u8 x] 5)).drew.cell? ⟨gw, 2, none⟩ = some (.pointer (some ⟨h, 0, none⟩)) from cell_then (below_alloc (Below.refl _ _) _).drew e2)
        have el2 := lt_size e2
        clear hrw hcv e0 el X0 XA HWR
        go_wp2_with fail
        apply wp_alike (RTurned h G8 D3 (w9.alloc (.cells #[.int .u8 x] 5)).drew)
        case hreg =>
          go_region_held_law (fun w' => w'.cell? ⟨gw, 2, none⟩ = some (.pointer (some ⟨h, 0, none⟩))) (first | with_reducible exact Y0.out | with_reducible exact YA.out | with_reducible exact Y9.out)
            (first
              | (go_at_call 10; (refine (HLS.out _).mono ?_); rintro e w5 ⟨rfl, rfl⟩)
              | (go_at_call 12; (refine (HPK.out _).mono ?_); rintro e w5 ⟨rfl, rfl⟩)
              | (go_at_call 28; (with_reducible refine (HRW.out _ (below_alloc (Below.refl _ _) _).drew).mono ?_); rintro e w12 ⟨G12, rfl, r12, k12, n12⟩; have Y9 := Lib.hid (k12.cell YA.out P8.out.p.out.2); have R12 := Lib.hid r12; have K12 := Lib.hid k12; have N12 := Lib.hid n12; clear r12 k12 n12))
          all_goals exact ⟨rfl, G12, R12.out, K12.out, N12.out⟩
        case hcont =>
          rintro w12 ⟨G12, r12, k12, n12⟩
          have R12 := Lib.hid r12
          have K12 := Lib.hid k12
          have N12 := Lib.hid n12
          clear r12 k12 n12
          have BA := below_alloc (Below.refl w9.heap.size w9) (.cells #[.int .u8 x] 5)
          have P12 := Lib.hid (P8A.out.both (D9.out.below BA.drew) (K9.out.and_below BA.drew) N9.out R12.out K12.out N12.out HV3.out)
          clear BA hcv2 e2 el2 Y0 YA R12 K12 N12 R9 P8A D9 K9 N9 HRW HV3 HD3 HG' P8 P2
          have ho := wopen_any w gw gd h F9 G12 D3 _ _ a w12 P12.out ⟨_, rfl⟩ ⟨_, rfl⟩ HK.out HE.out (by rw [HL3.out]; exact hsz.1) HPE.out
          have hoo := opR_on HON.out HLF.out
          have hlo := opn_length P12.out.ds.disk.ok
          rw [HL3.out] at hlo
          have hol : (opR D3).2.2.sure.length = z := hlo
          have hpo : (opR D3).2.2.pend.length ≤ D3.pend.length + 1 := opn_pend D3
          obtain ⟨R, hR⟩ : ∃ R, opR D3 = R := ⟨_, rfl⟩
          rw [hR] at ho hoo hol hpo
          obtain ⟨c0, o, D4⟩ := R
          dsimp only at ho hoo hol hpo
          have HO := Lib.hid ho
          have HOO := Lib.hid hoo
          have HL4 := Lib.hid hol
          have hp4 : D4.pend.length ≤ 1000000 := by have := HPE.out; omega
          have HP4 := Lib.hid hp4
          clear ho hoo hlo hol hpo hR hp4
          go_wp2_with fail
          refine HO.out.mono ?_
          rintro e w13 ⟨rfl, hq⟩
          obtain ⟨gd, h, F4, G4, hq⟩ := hq
          have HST := Lib.hid hq
          clear hq HO
          cases o with
          | none =>
            have P13 := Lib.hid (show Pr0 w w13 gw gd h F4 G4 D4 (.pointer none) (.pointer none) from HST.out)
            have q1 := (cells4 P13.out.blk).2.1
            have ql := lt_size q1
            go_wp2_with fail
            have g_1 := fun D os => cell_regrown q1 D os
            refine wp_region_quiet_below (by kernel_rfl) (by kernel_rfl) ?_
            repeat (go_big_quiet_step (fail))
            refine wpQuiet_nil ?_
            intro wq hq0
            have hq := below_of_class hq0
            clear hq0
            clear g_1 q1 ql
            have HQ := Lib.hid hq
            clear hq
            go_wp2_with fail
            go_ret
            exact ⟨rfl, below_next P13.out.ds.below HQ.out⟩
          | some rs =>
            obtain ⟨gj, v, gk, u, hQ⟩ := HST.out
            have Q := Lib.hid (show Pr1 w w13 gw gd h F4 G4 D4 gj v gk u false rs from hQ)
            have QD := Lib.hid (Q.out.then_ (Below.refl _ _).drew)
            obtain ⟨Au, cu, hue, hcu, how⟩ := own_full Q.out.k.own rfl
            have k1 := (cells4 Q.out.k.blk).2.1
            have q0 := (cells4 Q.out.p.blk).1
            have q1 := (cells4 Q.out.p.blk).2.1
            have q2 := (cells4 Q.out.p.blk).2.2.1
            have q3 := (cells4 Q.out.p.blk).2.2.2
            obtain ⟨N, hN⟩ : ∃ N, rs.length = N := ⟨_, rfl⟩
            have hN5 : N ≤ 50000 := by have h1 := need_count rs; have h2 := Q.out.j.fit; have h3 := HL4.out; omega
            rw [hue, hN] at k1
            have hus := own_strs how rfl
            have hkz : need rs ≤ z := by have h2 := Q.out.j.fit; have h3 := HL4.out; omega
            obtain ⟨RR, hRR⟩ : ∃ RR : Int, (z : Int) - (need rs : Int) = RR := ⟨_, rfl⟩
            have hrm := fun W (hj : Jd w W gj gd v F4 false rs D4) => jd_room w gj gd v F4 false rs D4 W hj
            have hrr := fun W (hr : RefAt W h G4 D4) (ht : RjT W gk h u false rs (need rs)) => rroom_any gk h (need rs) z u G4 false rs D4 W hr ht HL4.out hkz
            simp only [HL4.out, hRR] at hrm
            simp only [hRR] at hrr
            have hrc := fun W (hj : Jd w W gj gd v F4 false rs D4) => jd_recs4 w gj gd N v F4 false rs D4 W hj hN
            have hsa := fun A7 c7 W (h1 : StrsAt W A7 rs) (h2 : StrsAt W Au rs) => same_any A7 Au N N c7 cu rs rs W h1 h2 hN hN (by omega) (by omega)
            simp only [decide_true] at hsa
            have hct := fun W (hd : DiskAt W gd F4 D4) => content_on gd F4 D4 W hd HOO.out
            have hvs := fun W (hr : RefAt W h G4 D4) => vis_str hr Q.out.p.vis HL4.out hsz.1 HP4.out
            obtain ⟨S, hS⟩ : ∃ S, sof D4.vis = S := ⟨_, rfl⟩
            simp only [hS] at hct hvs
            have hSS : (S.toList == S.toList) = true := beq_self_eq_true _
            have HRM := Lib.hid hrm
            have HRR := Lib.hid hrr
            have HRC := Lib.hid hrc
            have HSA := Lib.hid hsa
            have HCT := Lib.hid hct
            have HVS := Lib.hid hvs
            have HUS := Lib.hid (show StrsAt w13.drew Au rs from hus.then_ (Below.refl _ _).drew)
            have X0 := Lib.hid (show w13.drew.cell? ⟨gw, 0, none⟩ = some (.pointer (some ⟨gd, 0, none⟩)) ∧ w13.drew.cell? ⟨gw, 1, none⟩ = some (.pointer (some ⟨gj, 0, none⟩)) ∧ w13.drew.cell? ⟨gw, 2, none⟩ = some (.pointer (some ⟨h, 0, none⟩)) ∧ w13.drew.cell? ⟨gw, 3, none⟩ = some (.pointer (some ⟨gk, 0, none⟩)) ∧ w13.drew.cell? ⟨gk, 1, none⟩ = some (.slice Au N cu) from ⟨q0, q1, q2, q3, k1⟩)
            have ql := lt_size q1
            have kl' := lt_size k1
            clear HST hQ hue hcu how hN hus hRR hrm hrr hrc hsa hkz hct hvs hS
            go_wp2_with fail
            go_region_held_law (fun w' => w'.cell? ⟨gw, 0, none⟩ = some (.pointer (some ⟨gd, 0, none⟩)) ∧ w'.cell? ⟨gw, 1, none⟩ = some (.pointer (some ⟨gj, 0, none⟩)) ∧ w'.cell? ⟨gw, 2, none⟩ = some (.pointer (some ⟨h, 0, none⟩)) ∧ w'.cell? ⟨gw, 3, none⟩ = some (.pointer (some ⟨gk, 0, none⟩)) ∧ w'.cell? ⟨gk, 1, none⟩ = some (.slice Au N cu)) (first | with_reducible exact X0.out | with_reducible exact X10.out | with_reducible exact X9.out | with_reducible exact X8.out | with_reducible exact X7.out | with_reducible exact X6.out)
              (first
                | (go_at_call 15; (with_reducible refine (HRC.out _ QD.out.j).mono ?_); rintro e w6 ⟨A6, c6, rfl, hc6, hw6, b6⟩; have Q6 := Lib.hid (QD.out.then_ b6); have U6 := Lib.hid (HUS.out.then_ b6); have X6 := Lib.hid (show w6.cell? ⟨gw, 0, none⟩ = some (.pointer (some ⟨gd, 0, none⟩)) ∧ w6.cell? ⟨gw, 1, none⟩ = some (.pointer (some ⟨gj, 0, none⟩)) ∧ w6.cell? ⟨gw, 2, none⟩ = some (.pointer (some ⟨h, 0, none⟩)) ∧ w6.cell? ⟨gw, 3, none⟩ = some (.pointer (some ⟨gk, 0, none⟩)) ∧ w6.cell? ⟨gk, 1, none⟩ = some (.slice Au N cu) from ⟨cell_then b6 X0.out.1, cell_then b6 X0.out.2.1, cell_then b6 X0.out.2.2.1, cell_then b6 X0.out.2.2.2.1, cell_then b6 X0.out.2.2.2.2⟩); have V6 := Lib.hid hw6.strs; clear b6 hw6)
                | (go_at_call 16; (with_reducible refine (HSA.out _ _ _ V6.out U6.out).mono ?_); rintro e w7 ⟨rfl, b7⟩; have Q7 := Lib.hid (Q6.out.then_ b7); have X7 := Lib.hid (show w7.cell? ⟨gw, 0, none⟩ = some (.pointer (some ⟨gd, 0, none⟩)) ∧ w7.cell? ⟨gw, 1, none⟩ = some (.pointer (some ⟨gj, 0, none⟩)) ∧ w7.cell? ⟨gw, 2, none⟩ = some (.pointer (some ⟨h, 0, none⟩)) ∧ w7.cell? ⟨gw, 3, none⟩ = some (.pointer (some ⟨gk, 0, none⟩)) ∧ w7.cell? ⟨gk, 1, none⟩ = some (.slice Au N cu) from ⟨cell_then b7 X6.out.1, cell_then b7 X6.out.2.1, cell_then b7 X6.out.2.2.1, cell_then b7 X6.out.2.2.2.1, cell_then b7 X6.out.2.2.2.2⟩); clear b7)
                | (go_at_call 24; (with_reducible refine (HRM.out _ Q7.out.j).mono ?_); rintro e w8 ⟨rfl, hw8⟩; have b8 : Below w7.heap.size w7 w8 := (by rw [← hw8]; exact (Below.refl _ _).drew); have Q8 := Lib.hid (Q7.out.then_ b8); have X8 := Lib.hid (show w8.cell? ⟨gw, 0, none⟩ = some (.pointer (some ⟨gd, 0, none⟩)) ∧ w8.cell? ⟨gw, 1, none⟩ = some (.pointer (some ⟨gj, 0, none⟩)) ∧ w8.cell? ⟨gw, 2, none⟩ = some (.pointer (some ⟨h, 0, none⟩)) ∧ w8.cell? ⟨gw, 3, none⟩ = some (.pointer (some ⟨gk, 0, none⟩)) ∧ w8.cell? ⟨gk, 1, none⟩ = some (.slice Au N cu) from ⟨cell_then b8 X7.out.1, cell_then b8 X7.out.2.1, cell_then b8 X7.out.2.2.1, cell_then b8 X7.out.2.2.2.1, cell_then b8 X7.out.2.2.2.2⟩); clear b8 hw8)
                | (go_at_call 25; (with_reducible refine (HRR.out _ Q8.out.p.r Q8.out.k).mono ?_); rintro e w9 ⟨rfl, hw9⟩; have b9 : Below w8.heap.size w8 w9 := (by rw [← hw9]; exact (Below.refl _ _).drew); have Q9 := Lib.hid (Q8.out.then_ b9); have X9 := Lib.hid (show w9.cell? ⟨gw, 0, none⟩ = some (.pointer (some ⟨gd, 0, none⟩)) ∧ w9.cell? ⟨gw, 1, none⟩ = some (.pointer (some ⟨gj, 0, none⟩)) ∧ w9.cell? ⟨gw, 2, none⟩ = some (.pointer (some ⟨h, 0, none⟩)) ∧ w9.cell? ⟨gw, 3, none⟩ = some (.pointer (some ⟨gk, 0, none⟩)) ∧ w9.cell? ⟨gk, 1, none⟩ = some (.slice Au N cu) from ⟨cell_then b9 X8.out.1, cell_then b9 X8.out.2.1, cell_then b9 X8.out.2.2.1, cell_then b9 X8.out.2.2.2.1, cell_then b9 X8.out.2.2.2.2⟩); clear b9 hw9)
                | (go_at_call 22; (with_reducible refine (HCT.out _ Q9.out.p.ds.disk).mono ?_); rintro e w4 ⟨rfl, rfl⟩)
                | (go_at_call 23; (with_reducible refine (HVS.out _ Q9.out.p.r).mono ?_); rintro e w10 ⟨gv, cv, rfl, hcv, b10⟩; have Q10 := Lib.hid (Q9.out.then_ b10); have X10 := Lib.hid (show w10.cell? ⟨gw, 0, none⟩ = some (.pointer (some ⟨gd, 0, none⟩)) ∧ w10.cell? ⟨gw, 1, none⟩ = some (.pointer (some ⟨gj, 0, none⟩)) ∧ w10.cell? ⟨gw, 2, none⟩ = some (.pointer (some ⟨h, 0, none⟩)) ∧ w10.cell? ⟨gw, 3, none⟩ = some (.pointer (some ⟨gk, 0, none⟩)) ∧ w10.cell? ⟨gk, 1, none⟩ = some (.slice Au N cu) from ⟨cell_then b10 X9.out.1, cell_then b10 X9.out.2.1, cell_then b10 X9.out.2.2.1, cell_then b10 X9.out.2.2.2.1, cell_then b10 X9.out.2.2.2.2⟩); clear b10))
            all_goals
              go_wp2_with fail
              go_ret
              exact ⟨rfl, Q10.out.p.ds.below⟩
  · obtain rfl : NL = 0 := by omega
    have g0 : ¬ (0 : Int) < ((0 : Nat) : Int) := by omega
    have P0 := Lib.hid P2.out.p
    obtain ⟨q, hq, hq1, hq2⟩ : ∃ q, min s.size z = q ∧ q ≤ s.size ∧ q ≤ z := ⟨_, rfl, by omega, by omega⟩
    have hm0 : min (s.size : Int) (z : Int) = (q : Int) := by omega
    obtain ⟨Z, hZ⟩ : ∃ Z, s.extract 0 q = Z := ⟨_, rfl⟩
    have hZs : Z.size = q := by rw [← hZ, ByteArray.size_extract]; omega
    have hwr := fun W (hd : DiskAt W gd F (nw z)) => write_in 0 Z gd F (nw z) W hd rfl (by rw [hZs]; simp [nw]; omega) (by simp [nw])
    have hrw := fun W (hr : RefAt W h G (nw z)) => rwrite_in 0 Z h G (nw z) W hr rfl (by rw [hZs]; simp [nw]; omega) (by simp [nw])
    obtain ⟨D3, hD3⟩ : ∃ D3, Dsk.wr (nw z) 0 Z = D3 := ⟨_, rfl⟩
    have hv3 : Vis D3 := by rw [← hD3]; exact vis_wr (vis_nw z) _ _
    have hl3 : D3.sure.length = z := by rw [← hD3]; show (nw z).sure.length = z; simp [nw]
    have hp3 : D3.pend.length ≤ 900000 := by
      rw [← hD3]
      show ((nw z).pend ++ [_]).length ≤ _
      simp [nw]
    have hon := wr_on (D := nw z) rfl rfl 0 Z
    rw [hD3] at hon
    simp only [hD3] at hwr hrw
    rw [show (((0 : Nat)) : Int) = 0 from rfl] at hwr hrw
    have HWR := Lib.hid hwr
    have HRW := Lib.hid hrw
    have HV3 := Lib.hid hv3
    have HL3 := Lib.hid hl3
    have HPE := Lib.hid hp3
    have HON := Lib.hid hon.1
    have HLF := Lib.hid hon.2
    have HZ := Lib.hid hZ
    have HM0 := Lib.hid hm0
    have HS2 := Lib.hid (fun d os => pend_below (HLS.out (Sort.grow (redrawn w2 d) os)))
    have hq0 : (0 : Int) ≤ min (s.size : Int) (z : Int) := by omega
    have hq3 : min (s.size : Int) (z : Int) ≤ (s.size : Int) := by omega
    have e0 := (cells4 P0.out.blk).1
    have el := lt_size e0
    clear hwr hrw hD3 hv3 hl3 hp3 hon hZ hm0 hq P2
    go_wp2_with fail
    have g_1 := fun D os => cell_regrown e0 D os
    refine wp_region_head 11 (by kernel_rfl) (by kernel_rfl) ?_
    simp only [List.take_succ_cons, List.take_zero, List.drop_succ_cons, List.drop_zero]
    repeat (go_big_quiet_step ((with_reducible exact Calls.regrown_of (HS2.out _ _))))
    refine wpQuiet_nil ?_
    intro wq hq
    clear g_1
    have PQ := Lib.hid (P0.out.then_ hq)
    clear hq e0 el
    have hmn : (min (s.size : Int) (z : Int)).toNat = q := by rw [HM0.out]; rfl
    have HMN := Lib.hid hmn
    clear hmn
    go_wp2_with fail
    rw [HMN.out, HZ.out]
    refine (HWR.out _ PQ.out.ds.disk).mono ?_
    rintro e w9 ⟨F9, rfl, d9, k9, n9⟩
    have D9 := Lib.hid d9
    have K9 := Lib.hid k9
    have N9 := Lib.hid n9
    have R9 := Lib.hid (PQ.out.r.kept k9 (fun x hx hx2 => PQ.out.dis x hx2 hx))
    have e2 : w9.cell? ⟨gw, 2, none⟩ = some (.pointer (some ⟨h, 0, none⟩)) := k9.cell (cells4 PQ.out.blk).2.2.1 PQ.out.out.1
    have el2 := lt_size e2
    have HS3 := Lib.hid (fun d os => pend_below (HLS.out (Sort.grow (redrawn w9 d) os)))
    clear d9 k9 n9
    go_wp2_with fail
    have g_1 := fun D os => cell_regrown e2 D os
    refine wp_region_head 11 (by kernel_rfl) (by kernel_rfl) ?_
    simp only [List.take_succ_cons, List.take_zero, List.drop_succ_cons, List.drop_zero]
    repeat (go_big_quiet_step ((with_reducible exact Calls.regrown_of (HS3.out _ _))))
    refine wpQuiet_nil ?_
    intro wq hq
    clear g_1
    have DA := Lib.hid (D9.out.below hq)
    have KA := Lib.hid (K9.out.and_below hq)
    have RA := Lib.hid (R9.out.below hq)
    clear hq e2 el2
    go_wp2_with fail
    rw [HMN.out, HZ.out]
    refine (HRW.out _ RA.out).mono ?_
    rintro e w12 ⟨G12, rfl, r12, k12, n12⟩
    have P12 := Lib.hid (PQ.out.both DA.out KA.out N9.out r12 k12 n12 HV3.out)
    clear r12 k12 n12 hq0 hq3
    have ho := wopen_any w gw gd h F9 G12 D3 _ _ a w12 P12.out ⟨_, rfl⟩ ⟨_, rfl⟩ HK.out HE.out (by rw [HL3.out]; exact hsz.1) HPE.out
    have hoo := opR_on HON.out HLF.out
    have hlo := opn_length P12.out.ds.disk.ok
    rw [HL3.out] at hlo
    have hol : (opR D3).2.2.sure.length = z := hlo
    have hpo : (opR D3).2.2.pend.length ≤ D3.pend.length + 1 := opn_pend D3
    obtain ⟨R, hR⟩ : ∃ R, opR D3 = R := ⟨_, rfl⟩
    rw [hR] at ho hoo hol hpo
    obtain ⟨c0, o, D4⟩ := R
    dsimp only at ho hoo hol hpo
    have HO := Lib.hid ho
    have HOO := Lib.hid hoo
    have HL4 := Lib.hid hol
    have hp4 : D4.pend.length ≤ 1000000 := by have := HPE.out; omega
    have HP4 := Lib.hid hp4
    clear ho hoo hlo hol hpo hR hp4
    go_wp2_with fail
    refine HO.out.mono ?_
    rintro e w13 ⟨rfl, hq⟩
    obtain ⟨gd, h, F4, G4, hq⟩ := hq
    have HST := Lib.hid hq
    clear hq HO
    cases o with
    | none =>
      have P13 := Lib.hid (show Pr0 w w13 gw gd h F4 G4 D4 (.pointer none) (.pointer none) from HST.out)
      have q1 := (cells4 P13.out.blk).2.1
      have ql := lt_size q1
      go_wp2_with fail
      have g_1 := fun D os => cell_regrown q1 D os
      refine wp_region_quiet_below (by kernel_rfl) (by kernel_rfl) ?_
      repeat (go_big_quiet_step (fail))
      refine wpQuiet_nil ?_
      intro wq hq0
      have hq := below_of_class hq0
      clear hq0
      clear g_1 q1 ql
      have HQ := Lib.hid hq
      clear hq
      go_wp2_with fail
      go_ret
      exact ⟨rfl, below_next P13.out.ds.below HQ.out⟩
    | some rs =>
      obtain ⟨gj, v, gk, u, hQ⟩ := HST.out
      have Q := Lib.hid (show Pr1 w w13 gw gd h F4 G4 D4 gj v gk u false rs from hQ)
      have QD := Lib.hid (Q.out.then_ (Below.refl _ _).drew)
      obtain ⟨Au, cu, hue, hcu, how⟩ := own_full Q.out.k.own rfl
      have k1 := (cells4 Q.out.k.blk).2.1
      have q0 := (cells4 Q.out.p.blk).1
      have q1 := (cells4 Q.out.p.blk).2.1
      have q2 := (cells4 Q.out.p.blk).2.2.1
      have q3 := (cells4 Q.out.p.blk).2.2.2
      obtain ⟨N, hN⟩ : ∃ N, rs.length = N := ⟨_, rfl⟩
      have hN5 : N ≤ 50000 := by have h1 := need_count rs; have h2 := Q.out.j.fit; have h3 := HL4.out; omega
      rw [hue, hN] at k1
      have hus := own_strs how rfl
      have hkz : need rs ≤ z := by have h2 := Q.out.j.fit; have h3 := HL4.out; omega
      obtain ⟨RR, hRR⟩ : ∃ RR : Int, (z : Int) - (need rs : Int) = RR := ⟨_, rfl⟩
      have hrm := fun W (hj : Jd w W gj gd v F4 false rs D4) => jd_room w gj gd v F4 false rs D4 W hj
      have hrr := fun W (hr : RefAt W h G4 D4) (ht : RjT W gk h u false rs (need rs)) => rroom_any gk h (need rs) z u G4 false rs D4 W hr ht HL4.out hkz
      simp only [HL4.out, hRR] at hrm
      simp only [hRR] at hrr
      have hrc := fun W (hj : Jd w W gj gd v F4 false rs D4) => jd_recs4 w gj gd N v F4 false rs D4 W hj hN
      have hsa := fun A7 c7 W (h1 : StrsAt W A7 rs) (h2 : StrsAt W Au rs) => same_any A7 Au N N c7 cu rs rs W h1 h2 hN hN (by omega) (by omega)
      simp only [decide_true] at hsa
      have hct := fun W (hd : DiskAt W gd F4 D4) => content_on gd F4 D4 W hd HOO.out
      have hvs := fun W (hr : RefAt W h G4 D4) => vis_str hr Q.out.p.vis HL4.out hsz.1 HP4.out
      obtain ⟨S, hS⟩ : ∃ S, sof D4.vis = S := ⟨_, rfl⟩
      simp only [hS] at hct hvs
      have hSS : (S.toList == S.toList) = true := beq_self_eq_true _
      have HRM := Lib.hid hrm
      have HRR := Lib.hid hrr
      have HRC := Lib.hid hrc
      have HSA := Lib.hid hsa
      have HCT := Lib.hid hct
      have HVS := Lib.hid hvs
      have HUS := Lib.hid (show StrsAt w13.drew Au rs from hus.then_ (Below.refl _ _).drew)
      have X0 := Lib.hid (show w13.drew.cell? ⟨gw, 0, none⟩ = some (.pointer (some ⟨gd, 0, none⟩)) ∧ w13.drew.cell? ⟨gw, 1, none⟩ = some (.pointer (some ⟨gj, 0, none⟩)) ∧ w13.drew.cell? ⟨gw, 2, none⟩ = some (.pointer (some ⟨h, 0, none⟩)) ∧ w13.drew.cell? ⟨gw, 3, none⟩ = some (.pointer (some ⟨gk, 0, none⟩)) ∧ w13.drew.cell? ⟨gk, 1, none⟩ = some (.slice Au N cu) from ⟨q0, q1, q2, q3, k1⟩)
      have ql := lt_size q1
      have kl' := lt_size k1
      clear HST hQ hue hcu how hN hus hRR hrm hrr hrc hsa hkz hct hvs hS
      go_wp2_with fail
      go_region_held_law (fun w' => w'.cell? ⟨gw, 0, none⟩ = some (.pointer (some ⟨gd, 0, none⟩)) ∧ w'.cell? ⟨gw, 1, none⟩ = some (.pointer (some ⟨gj, 0, none⟩)) ∧ w'.cell? ⟨gw, 2, none⟩ = some (.pointer (some ⟨h, 0, none⟩)) ∧ w'.cell? ⟨gw, 3, none⟩ = some (.pointer (some ⟨gk, 0, none⟩)) ∧ w'.cell? ⟨gk, 1, none⟩ = some (.slice Au N cu)) (first | with_reducible exact X0.out | with_reducible exact X10.out | with_reducible exact X9.out | with_reducible exact X8.out | with_reducible exact X7.out | with_reducible exact X6.out)
        (first
          | (go_at_call 15; (with_reducible refine (HRC.out _ QD.out.j).mono ?_); rintro e w6 ⟨A6, c6, rfl, hc6, hw6, b6⟩; have Q6 := Lib.hid (QD.out.then_ b6); have U6 := Lib.hid (HUS.out.then_ b6); have X6 := Lib.hid (show w6.cell? ⟨gw, 0, none⟩ = some (.pointer (some ⟨gd, 0, none⟩)) ∧ w6.cell? ⟨gw, 1, none⟩ = some (.pointer (some ⟨gj, 0, none⟩)) ∧ w6.cell? ⟨gw, 2, none⟩ = some (.pointer (some ⟨h, 0, none⟩)) ∧ w6.cell? ⟨gw, 3, none⟩ = some (.pointer (some ⟨gk, 0, none⟩)) ∧ w6.cell? ⟨gk, 1, none⟩ = some (.slice Au N cu) from ⟨cell_then b6 X0.out.1, cell_then b6 X0.out.2.1, cell_then b6 X0.out.2.2.1, cell_then b6 X0.out.2.2.2.1, cell_then b6 X0.out.2.2.2.2⟩); have V6 := Lib.hid hw6.strs; clear b6 hw6)
          | (go_at_call 16; (with_reducible refine (HSA.out _ _ _ V6.out U6.out).mono ?_); rintro e w7 ⟨rfl, b7⟩; have Q7 := Lib.hid (Q6.out.then_ b7); have X7 := Lib.hid (show w7.cell? ⟨gw, 0, none⟩ = some (.pointer (some ⟨gd, 0, none⟩)) ∧ w7.cell? ⟨gw, 1, none⟩ = some (.pointer (some ⟨gj, 0, none⟩)) ∧ w7.cell? ⟨gw, 2, none⟩ = some (.pointer (some ⟨h, 0, none⟩)) ∧ w7.cell? ⟨gw, 3, none⟩ = some (.pointer (some ⟨gk, 0, none⟩)) ∧ w7.cell? ⟨gk, 1, none⟩ = some (.slice Au N cu) from ⟨cell_then b7 X6.out.1, cell_then b7 X6.out.2.1, cell_then b7 X6.out.2.2.1, cell_then b7 X6.out.2.2.2.1, cell_then b7 X6.out.2.2.2.2⟩); clear b7)
          | (go_at_call 24; (with_reducible refine (HRM.out _ Q7.out.j).mono ?_); rintro e w8 ⟨rfl, hw8⟩; have b8 : Below w7.heap.size w7 w8 := (by rw [← hw8]; exact (Below.refl _ _).drew); have Q8 := Lib.hid (Q7.out.then_ b8); have X8 := Lib.hid (show w8.cell? ⟨gw, 0, none⟩ = some (.pointer (some ⟨gd, 0, none⟩)) ∧ w8.cell? ⟨gw, 1, none⟩ = some (.pointer (some ⟨gj, 0, none⟩)) ∧ w8.cell? ⟨gw, 2, none⟩ = some (.pointer (some ⟨h, 0, none⟩)) ∧ w8.cell? ⟨gw, 3, none⟩ = some (.pointer (some ⟨gk, 0, none⟩)) ∧ w8.cell? ⟨gk, 1, none⟩ = some (.slice Au N cu) from ⟨cell_then b8 X7.out.1, cell_then b8 X7.out.2.1, cell_then b8 X7.out.2.2.1, cell_then b8 X7.out.2.2.2.1, cell_then b8 X7.out.2.2.2.2⟩); clear b8 hw8)
          | (go_at_call 25; (with_reducible refine (HRR.out _ Q8.out.p.r Q8.out.k).mono ?_); rintro e w9 ⟨rfl, hw9⟩; have b9 : Below w8.heap.size w8 w9 := (by rw [← hw9]; exact (Below.refl _ _).drew); have Q9 := Lib.hid (Q8.out.then_ b9); have X9 := Lib.hid (show w9.cell? ⟨gw, 0, none⟩ = some (.pointer (some ⟨gd, 0, none⟩)) ∧ w9.cell? ⟨gw, 1, none⟩ = some (.pointer (some ⟨gj, 0, none⟩)) ∧ w9.cell? ⟨gw, 2, none⟩ = some (.pointer (some ⟨h, 0, none⟩)) ∧ w9.cell? ⟨gw, 3, none⟩ = some (.pointer (some ⟨gk, 0, none⟩)) ∧ w9.cell? ⟨gk, 1, none⟩ = some (.slice Au N cu) from ⟨cell_then b9 X8.out.1, cell_then b9 X8.out.2.1, cell_then b9 X8.out.2.2.1, cell_then b9 X8.out.2.2.2.1, cell_then b9 X8.out.2.2.2.2⟩); clear b9 hw9)
          | (go_at_call 22; (with_reducible refine (HCT.out _ Q9.out.p.ds.disk).mono ?_); rintro e w4 ⟨rfl, rfl⟩)
          | (go_at_call 23; (with_reducible refine (HVS.out _ Q9.out.p.r).mono ?_); rintro e w10 ⟨gv, cv, rfl, hcv, b10⟩; have Q10 := Lib.hid (Q9.out.then_ b10); have X10 := Lib.hid (show w10.cell? ⟨gw, 0, none⟩ = some (.pointer (some ⟨gd, 0, none⟩)) ∧ w10.cell? ⟨gw, 1, none⟩ = some (.pointer (some ⟨gj, 0, none⟩)) ∧ w10.cell? ⟨gw, 2, none⟩ = some (.pointer (some ⟨h, 0, none⟩)) ∧ w10.cell? ⟨gw, 3, none⟩ = some (.pointer (some ⟨gk, 0, none⟩)) ∧ w10.cell? ⟨gk, 1, none⟩ = some (.slice Au N cu) from ⟨cell_then b10 X9.out.1, cell_then b10 X9.out.2.1, cell_then b10 X9.out.2.2.1, cell_then b10 X9.out.2.2.2.1, cell_then b10 X9.out.2.2.2.2⟩); clear b10))
      all_goals
        go_wp2_with fail
        go_ret
        exact ⟨rfl, Q10.out.p.ds.below⟩
end Go.Proofs.YtnjkinljpekohaaGreatDoor.Jo
namespace Go.Proofs.YtnjkinljpekohaaGreatDoor.lawJournalOpensAnything
open Go.ChangeShapes Go.WideShapes Go.ChangeAt Go.RowKit
open Go.ChangeMaps (open_string shut_string)

theorem readable : ∀ t ∈ (#[3, 9, 32, 3, 5] : Array TypeId).toList, Tryz.prog.readableRec t = true ∧ t < Tryz.prog.types.size := by
  intro t ht
  simp only [List.mem_cons, List.not_mem_nil, or_false] at ht
  rcases ht with rfl | rfl | rfl | rfl | rfl
  · exact ⟨by kernel_rfl, of_decide_eq_true (by kernel_rfl)⟩
  · exact ⟨by kernel_rfl, of_decide_eq_true (by kernel_rfl)⟩
  · exact ⟨by kernel_rfl, of_decide_eq_true (by kernel_rfl)⟩
  · exact ⟨by kernel_rfl, of_decide_eq_true (by kernel_rfl)⟩
  · exact ⟨by kernel_rfl, of_decide_eq_true (by kernel_rfl)⟩
set_option maxRecDepth 100000 in
theorem contract (H : Type) (enc : TypeId × Value → H) (W : World) (base : Nat) (args : Array Value) (ds gs : List (DataW H)) (before : List MemPlace)
    (hval : ∀ (j : Nat) t v, Tryz.f5.params[j]? = some t → args[j]? = some v → Value.okWide Tryz.prog W .any base t v)
    (hW : DataW.Whole enc Tryz.prog Tryz.f5.params.toList Rows.journalOpensAnythingSpec.vars false W args.toList ds gs before) (hL : laidMetH Tryz.prog Rows.journalOpensAnythingRow.laid W) :
    Calls Tryz.prog 5 args W fun e W' => ∃ v, e = .returned v ∧ Rows.journalOpensAnythingSpec.post enc Tryz.prog Tryz.f5 false true false false W args v W' := by
  have hW' := hW
  obtain ⟨p, q, hA0, hV, rfl, hfz, hnd⟩ := hW
  have hA : DataW.TrodAll enc Tryz.prog W 0 (fun _ => true) true Tryz.f5.params.toList args.toList ds p := hA0
  rw [Tryz.params5] at hA hval
  obtain ⟨v0, vs0, d0, ds0, p0, q0, hargs, rfl, rfl, h0, r0⟩ := trodAll_cons hA
  obtain ⟨v1, vs1, d1, ds1, p1, q1, rfl, rfl, rfl, h1, r1⟩ := trodAll_cons r0
  obtain ⟨v2, vs2, d2, ds2, p2, q2, rfl, rfl, rfl, h2, r2⟩ := trodAll_cons r1
  obtain ⟨v3, vs3, d3, ds3, p3, q3, rfl, rfl, rfl, h3, r3⟩ := trodAll_cons r2
  obtain ⟨v4, vs4, d4, ds4, p4, q4, rfl, rfl, rfl, h4, r4⟩ := trodAll_cons r3
  obtain ⟨rfl, rfl, rfl⟩ := trodAll_nil r4
  obtain rfl : args = #[v0, v1, v2, v3, v4] := by cases args; simp_all
  obtain ⟨rfl, rfl⟩ := trodVars_none hV
  obtain ⟨x0, rfl, e0, rfl, w0⟩ := open_int Tryz.underlying3 (hval 0 3 v0 rfl rfl) h0
  obtain ⟨x1, rfl, e1, rfl, w1⟩ := open_string Tryz.underlying9 (hval 1 9 v1 rfl rfl) h1
  obtain ⟨x3, rfl, e3, rfl, w3⟩ := open_int Tryz.underlying3 (hval 3 3 v3 rfl rfl) h3
  obtain ⟨x4, rfl, e4, rfl, w4⟩ := open_int Tryz.underlying5 (hval 4 5 v4 rfl rfl) h4
  obtain ⟨la, na, ca, Sa, rfl, hna, hSa⟩ := open_strings_all Tryz.underlying32 Tryz.underlying9 (by kernel_rfl) (hval 2 32 v2 rfl rfl) h2
  obtain ⟨La, rfl, hLa, hza⟩ := strs_open hSa
  obtain ⟨cb, rfl⟩ := Jo.byte_of (u8_lo w4) (u8_hi w4)
  obtain ⟨aE, hE⟩ := sentinel hL
  clear hA0
  refine (Jo.any_law x0 x3 x1 cb aE la ca La W (table hL) hE ⟨i64_lo w0, i64_hi w0⟩ ⟨i64_lo w3, i64_hi w3⟩ (str_max w1) ⟨hLa, hna, hza⟩).mono ?_
  rintro e W' ⟨rfl, hb⟩
  exact ⟨_, rfl, law_post laidOut (by rw [Tryz.params5]; exact readable) hW' rfl rfl rfl Tryz.underlying4 hb⟩
theorem laid_met (os : Os) : laidMet Tryz.prog Rows.journalOpensAnythingRow.laid ((laidWorld os).forCall (fun _ _ => 0) ⟨#[], #[.int .i64 0, .string ⟨#[]⟩, .slice none 0 0, .int .i64 0, .int .u8 0], []⟩).memory :=
  laidMet_of_run' 20 (by kernel_rfl) (by kernel_rfl)
theorem reads (os : Os) {H : Type} (enc : TypeId × Value → H) : ∃ places, DataW.whole enc Tryz.prog ((laidWorld os).forCall (fun _ _ => 0) ⟨#[], #[.int .i64 0, .string ⟨#[]⟩, .slice none 0 0, .int .i64 0, .int .u8 0], []⟩).memory Tryz.f5.params.toList Rows.journalOpensAnythingSpec.vars false (#[.int .i64 0, .string ⟨#[]⟩, .slice none 0 0, .int .i64 0, .int .u8 0] : Array Value).toList 8 = some ([.lit (.int .i64 0), .lit (.string []), .nil, .lit (.int .i64 0), .lit (.int .u8 0)], [], places) :=
  ⟨[], by kernel_rfl⟩
set_option maxRecDepth 100000 in
theorem lifted (os : Os) (started : os.Started) (H : Type) (enc : TypeId × Value → H) (F : Stop.Interp) :
    ReturnsInHanded {} Tryz.checked os 5 .any ((OpenSpec.ofChange Rows.journalOpensAnythingSpec).preRow enc Tryz.prog Tryz.f5 Rows.journalOpensAnythingRow.domain false Rows.journalOpensAnythingRow.laid) (((OpenSpec.ofChange Rows.journalOpensAnythingSpec).at F).post enc Tryz.prog Tryz.f5 false true false false) := by
  obtain ⟨places, hx⟩ := reads os enc
  refine returnsInHanded_of_row (C := Tryz.checked) (s := OpenSpec.ofChange Rows.journalOpensAnythingSpec) own started (by kernel_rfl) Tryz.func5
    (witness_row_at (enc := enc) (C := Tryz.checked) false (laidWorld os) #[.int .i64 0, .string ⟨#[]⟩, .slice none 0 0, .int .i64 0, .int .u8 0] rfl (by kernel_rfl) (by kernel_rfl) (by kernel_rfl)
      (OpenSpec.preRow_of_cond 8 hx (by kernel_rfl) (fun k hk => by cases hk) (by kernel_rfl) (laid_met os))) ?_
  intro W base args ds gs before hval hW _ _ _ hL _ _
  exact contract H enc W base args ds gs before hval hW hL
theorem said : Rows.JournalOpensAnythingSaid :=
  OpenClaim.holds_of_cond 5 Tryz.f5 rfl rfl rfl rfl rfl rfl rfl ⟨rfl, rfl, rfl, rfl, rfl⟩ rfl rfl rfl rfl rfl (by kernel_rfl) Tryz.func5 (by kernel_rfl)
    (of_decide_eq_true (by kernel_rfl)) (by unfold Func.isWrapper; rw [if_neg (of_decide_eq_false (by kernel_rfl))]; exact ⟨rfl, rfl⟩)
    (fun os started H enc _ F => by rw [OpenClaim.pre_eq_preRow]; exact lifted os started H enc F)
theorem plain (f : FuncId) (fn : Func) (hf : Tryz.pinned.checked.prog.funcNamed "slatewall/slatewalllaw34.JournalOpensAnything" = some f) (hfn : Tryz.pinned.checked.prog.funcs[f]? = some fn) :
    true = Tryz.pinned.checked.prog.looks [] ∧ ∀ (j : Nat) t, fn.params[j]? = some t → Tryz.pinned.checked.prog.wantsStandIn t = false := by
  obtain rfl : f = 5 := Option.some.inj ((show Tryz.prog.funcNamed "slatewall/slatewalllaw34.JournalOpensAnything" = some 5 by kernel_rfl).symm.trans hf) |>.symm
  obtain rfl : fn = Tryz.f5 := (Option.some.inj (Tryz.func5.symm.trans hfn)).symm
  refine ⟨by kernel_rfl, fun j t ht => ?_⟩
  rw [Tryz.params5] at ht
  have hm := Array.mem_of_getElem? ht
  simp only [List.mem_toArray, List.mem_cons, List.not_mem_nil, or_false] at hm
  rcases hm with rfl | rfl | rfl | rfl | rfl
  · exact (show Tryz.prog.wantsStandIn 3 = false by kernel_rfl)
  · exact (show Tryz.prog.wantsStandIn 9 = false by kernel_rfl)
  · exact (show Tryz.prog.wantsStandIn 32 = false by kernel_rfl)
  · exact (show Tryz.prog.wantsStandIn 3 = false by kernel_rfl)
  · exact (show Tryz.prog.wantsStandIn 5 = false by kernel_rfl)
/-- the card -/
theorem card : Rows.JournalOpensAnythingCardSaid :=
  Claim7.holds_tied_plain_at .later [] _ _ _ _ said (fun _ h => by cases h) (by kernel_rfl) (fun _ h => by cases h) journalOpensAnything_row_tie rfl ⟨rfl, rfl⟩ (by kernel_rfl) rfl plain (by kernel_rfl)
end Go.Proofs.YtnjkinljpekohaaGreatDoor.lawJournalOpensAnything
