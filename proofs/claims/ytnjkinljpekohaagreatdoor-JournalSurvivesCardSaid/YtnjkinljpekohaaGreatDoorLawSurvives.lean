/- JournalSurvives: the law. JournalSurvives: wherever the power fails while a group is appended, and whatever survives, the journal then has the records before it, or the whole group in addition; no condition beyond the row of the statement. -/
import Derived.Test.YtnjkinljpekohaaGreatDoorBo
import Derived.Test.YtnjkinljpekohaaGreatDoorBm
import Derived.Deep.RegionHeldLaw
import Derived.Deep.RegionHeld3
import Derived.Deep.RegionLaw
import Derived.Test.YtnjkinljpekohaaGreatDoorBl
import Derived.Test.YtnjkinljpekohaaGreatDoorBp
namespace Go.Proofs.YtnjkinljpekohaaGreatDoor.Jo
open Go.RowKit Sha Dsk Jr
attribute [local go_sem] Oper.semAt_some
/-- what the loop of JournalSurvives holds -/
def SurI (w : World) (gj gd N z k : Nat) (sw sn : Value) (wr : World) : Prop :=
  ∃ (v : Value) (F : List Nat) (b : Bool) (rs : List ByteArray) (D : Dk) (Aw An : Option Addr) (cw cn : Nat) (lw ln : List ByteArray),
    Jd w wr gj gd v F b rs D ∧ sw = .slice Aw lw.length cw ∧ sn = .slice An ln.length cn ∧ Was wr (gj :: F) Aw lw ∧ Was wr (gj :: F) An ln ∧ lw.length ≤ 1000000 ∧ ln.length ≤ 1000000 ∧ CrashTo D lw ln ∧ D.pend.length ≤ 10 ∧ (k < N ∧ k < 8 → b = false ∧ Good0 D rs z)
set_option maxRecDepth 100000 in
set_option maxHeartbeats 8000000 in
theorem sur_law (n cut torn : Int) (a : Addr) (A K : Option Addr) (N c ck : Nat) (G : List Grp) (keep : List Int) (w : World) (hK : RoundIn w) (hE : ErrIn w 222 (.pointer (some a))) (hn : I64 n) (hc : I64 cut) (ht : I64 torn) (hG : GrpsAt w A G) (hN : G.length = N) (_hNm : (N : Int) ≤ 9223372036854775807)
    (hKe : IntsAt w K keep) (hkc : keep.length ≤ ck) (_hkl : (ck : Int) ≤ 9223372036854775807) :
    Calls Tryz.prog 7 #[.int .i64 n, .slice A N c, .int .i64 cut, .slice K keep.length ck, .int .i64 torn] w fun e w' => e = .returned (.bool true) ∧ Below w.heap.size w w' := by
  have hsz := szI_le n
  have hls := fun W => lsize_any n W hn
  obtain ⟨z, hz⟩ : ∃ z, szI n = z := ⟨_, rfl⟩
  rw [hz] at hsz
  simp only [hz] at hls
  have HLS := Lib.hid hls
  have HK := Lib.hid hK
  have HE := Lib.hid hE
  have HG := Lib.hid hG
  have HN := Lib.hid hN
  have HC := Lib.hid hc
  have HT := Lib.hid ht
  have HKe := Lib.hid hKe
  clear hK hE hG hN hn hls hz hc ht hKe
  go_enter Tryz.func7, Tryz.ntmps7
  go_wp2_with fail
  refine (sane_any a w HK.out HE.out).mono ?_
  rintro e w1 ⟨rfl, b1⟩
  have B1 := Lib.hid b1
  clear b1
  go_wp2_with fail
  refine (HLS.out _).mono ?_
  rintro e w2 ⟨rfl, rfl⟩
  go_wp2_with fail
  refine (new_any z w1 hsz.1 (by omega)).mono ?_
  rintro e w3 ⟨gd, F3, rfl, d3, n3, b3⟩
  have S3 : Hid (Ds w w3 gd F3 (nw z)) := (show Ds w w3 gd F3 (nw z) from ⟨d3, fun x hx => by have := n3 x hx; have := B1.out.size; omega, below_next B1.out b3⟩)
  clear d3 n3 b3
  go_wp2_with fail
  refine (jd_open w gd F3 (nw z) a w3 S3.out HK.out HE.out (by simp [nw])).mono ?_
  rw [opR_good (Good0.new z).good (by simp)]
  rintro e w4 ⟨F4, s4, -, -, gj, v4, rfl, j4, -⟩
  have J4 := Lib.hid j4
  clear s4 j4
  go_wp2_with fail
  go_loopw [16, 17, 18] (fun sw sn i wr => ∃ k : Nat, k ≤ N ∧ k ≤ 8 ∧ i = .int .i64 (k : Int) ∧ SurI w gj gd N z k sw sn wr) (fun _ _ i _ => 8 - (intOf i).toNat)
  case atStart => exact ⟨0, Nat.zero_le _, Nat.zero_le _, rfl, v4, F4, false, [], nw z, none, none, 0, 0, [], [], J4.out, rfl, rfl, was_nil _ _ _, was_nil _ _ _, by simp, by simp, CrashTo.good (Good0.new z).good (by simp), by simp [nw], fun _ => ⟨rfl, Good0.new z⟩⟩
  case round =>
    obtain ⟨k, hkN, hk8, rfl, v, F, b, rs, D, Aw, An, cw, cn, lw, ln, hj, rfl, rfl, hw, hwn, hlw, hln, hcr, hpd, hgo⟩ := hrel
    have J := Lib.hid hj
    have VW := Lib.hid hw
    have VN := Lib.hid hwn
    have HCr := Lib.hid hcr
    have HGo := Lib.hid hgo
    clear hj hw hwn hcr hgo
    by_cases h1 : k < N ∧ k < 8
    · obtain ⟨rfl, hg0⟩ := HGo.out h1
      obtain ⟨h1, h2⟩ := h1
      have HG0 := Lib.hid hg0
      obtain ⟨bb, o, rfl, hcl, hgr⟩ := HG.out k (by rw [HN.out]; exact h1)
      obtain ⟨g, hgd⟩ : ∃ g, G.getD k default = g := ⟨_, rfl⟩
      rw [hgd] at hcl hgr
      obtain ⟨gA, gc, gl⟩ := g
      obtain ⟨l, hl⟩ : ∃ l, fewS gl 6 = l := ⟨_, rfl⟩
      have hls := fewS_small gl
      have hl6 := few_len gl
      dsimp only at hcl hgr
      rw [hl] at hls hl6
      have HLs := Lib.hid hls
      have g1 : (k : Int) < (N : Int) := by omega
      have g2 : (k : Int) < 8 := by omega
      have g0 : (0 : Int) ≤ (k : Int) := by omega
      have HL := Lib.hid hl
      have HGr := Lib.hid hgr
      have HCl := Lib.hid hcl
      clear hgd hls hl hgr hcl hg0
      go_wp2_with fail
      refine (jd_recs w gj gd v F false rs D wr J.out).mono ?_
      rintro e w5 ⟨A5, c5, rfl, -, ow5, b5⟩
      have J5 : Hid (Jd w w5 gj gd v F false rs D) := (show Jd w w5 gj gd v F false rs D from J.out.then_ b5)
      have V5 : Hid (Was w5 (gj :: F) A5 rs) := (show Was w5 (gj :: F) A5 rs from was_of_own ow5 rfl J.out.lt)
      clear ow5 b5
      go_wp2_with fail
      obtain ⟨i0, hi0, hz0, hz1, hz2⟩ := info_parts str_info1
      have I1 := Lib.hid hi0
      have I2 := Lib.hid hz0
      have I3 := Lib.hid hz1
      have I4 := Lib.hid hz2
      have e5 := cell_then J5.out.ds.below HCl.out
      have hq : rs.length ≤ 50000 := by have := need_count rs; have := J5.out.fit; have := HG0.out.len; omega
      have hx5 := lt_size e5
      have HZ : Hid (Below w5.heap.size w5 w5) := (show Below w5.heap.size w5 w5 from Below.refl _ _)
      clear hi0 hz0 hz1 hz2
      have hfw := fun W (hb : Below w.heap.size w W) => few_own ⟨gA, gc, gl⟩ W (HGr.out.then_ hb)
      dsimp only at hfw
      rw [HL.out] at hfw
      have HFW := Lib.hid hfw
      clear hfw
      go_region_held3 (fun w' => Below w5.heap.size w5 w' ∧ w'.cell? ⟨bb, o + k, none⟩ = some (.slice gA gl.length gc)) ((suffices hB : Below w5.heap.size w5 _ from ⟨hB, cell_then hB e5⟩; first | with_reducible exact (Below.refl _ _).drew | with_reducible exact (below_alloc (Below.refl _ _) _).drew | with_reducible exact B9.out | with_reducible exact B8.out | with_reducible exact B7.out))
        (first
          | (go_at_call 18; (with_reducible refine (HFW.out _ (below_next J5.out.ds.below B7.out)).mono ?_); rintro e w8 ⟨A8, c8, rfl, o8, hc8, b8⟩; have B8 := Lib.hid (below_next B7.out b8); have O8 := Lib.hid o8; have BB8 := Lib.hid b8; clear o8 b8)
          | (refine step_append_strs (by rfl) (.tmp 49) (.tmp 50) 32 (by rfl) w5.heap.size 9 i0 _ Tryz.underlying32 I1.out I2.out I3.out I4.out rfl (.slice (some ⟨w5.heap.size, 0, none⟩) 0 0) 0 [] (by rfl) (own_lit (xs := []) (show (w5.alloc (.cells #[] 9)).heap[w5.heap.size]? = _ from heap_alloc_new w5 _) (Nat.le_refl _) (by simp)) A5 rs.length c5 rs rfl (by rfl) (V5.out.strs.then_ (below_alloc (Below.refl _ _) _).drew) (by omega) (by simp) ?_; intro v7 w7 o7 k7; have B7 := Lib.hid (k7.below_next (B := w5.heap.size) (below_alloc (Below.refl _ _) _).drew (by simp) (fun x hx => by have hx : x = w5.heap.size := (by simpa [Value.ownBlock] using hx); omega)); have O7 := Lib.hid o7; clear o7 k7)
          | (refine step_append_strs (by rfl) (.tmp 51) (.tmp 56) 32 (by rfl) w5.heap.size 9 i0 _ Tryz.underlying32 I1.out I2.out I3.out I4.out rfl v7 (0 + rs.length) ([] ++ rs) (by rfl) (own_then O7.out BB8.out) A8 l.length c8 l rfl (by rfl) (own_strs O8.out rfl) (by omega) (by have := B8.out.size; omega) ?_; intro v9 w9 o9 k9; have B9 := Lib.hid (k9.below_next (B := w5.heap.size) B8.out B8.out.size (fun x hx => (O7.out.lt x (Option.mem_toList.1 hx)).1)); have O9 := Lib.hid o9; clear o9 k9))
      obtain ⟨A9, c9, rfl, hc9, p9⟩ := own_full O9.out (by simp)
      have J9 : Hid (Jd w w9 gj gd v F false rs D) := (show Jd w w9 gj gd v F false rs D from J5.out.then_ B9.out)
      have V9 : Hid (Was w9 (gj :: F) A5 rs) := (show Was w9 (gj :: F) A5 rs from V5.out.then_ B9.out)
      have N9 : Hid (Was w9 (gj :: F) A9 (rs ++ l)) := (show Was w9 (gj :: F) A9 (rs ++ l) by rw [List.nil_append] at p9; exact was_of_own p9 rfl J5.out.lt)
      obtain ⟨q, hqn⟩ : ∃ q, ([] ++ rs ++ l).length = q := ⟨_, rfl⟩
      have hqq : (rs ++ l).length = q := by rw [← hqn, List.nil_append]
      have hq6 : q ≤ 60000 := by rw [← hqq, List.length_append]; omega
      rw [hqn]
      have HQ := Lib.hid hqq
      clear B7 O7 hc8 B8 O8 BB8 B9 O9 p9 hc9 hqn hqq I1 I2 I3 I4 HZ HCr VW VN HGo J hx5 e5
      have e9 := cell_then J9.out.ds.below HCl.out
      obtain ⟨p, hp, hp3⟩ : ∃ p, pk cut 3 = p ∧ p < 3 := ⟨_, rfl, pk_lt cut (by omega)⟩
      have hpk := fun W => pick_any cut 3 W HC.out (by omega) (by omega)
      simp only [hp] at hpk
      have HPK := Lib.hid hpk
      clear hpk hp
      have hk3 : ((k : Int) == (N : Int) - 1) = true ∨ (((k : Int) == (N : Int) - 1) = false ∧ ((k : Int) == 7) = true) ∨ (((k : Int) == (N : Int) - 1) = false ∧ ((k : Int) == 7) = false) := by
        rcases Bool.eq_false_or_eq_true ((k : Int) == (N : Int) - 1) with h | h
        · exact .inl h
        · rcases Bool.eq_false_or_eq_true ((k : Int) == 7) with h' | h'
          · exact .inr (.inl ⟨h, h'⟩)
          · exact .inr (.inr ⟨h, h'⟩)
      rcases hk3 with x1 | ⟨x1, x2⟩ | ⟨x1, x2⟩
      rotate_left 2
      · have hn7 : (k + 1 < N ∧ k + 1 < 8) := by
          rw [beq_eq_false_iff_ne] at x1 x2
          omega
        obtain ⟨cc, b3, rs3, D3, hap, hp10, hnx, hw3⟩ : ∃ cc b3 rs3 D3, apR false rs D l = (cc, b3, rs3, D3) ∧ D3.pend.length ≤ 10 ∧ (k + 1 < N ∧ k + 1 < 8 → b3 = false ∧ Good0 D3 rs3 z) ∧ ((cc = 0 ∧ CrashTo D3 (rs ++ l) (rs ++ l)) ∨ (cc = 341 ∧ CrashTo D3 rs rs) ∨ (False ∧ CrashTo D3 rs rs)) := by
          obtain ⟨cc, rs3, D3, h1, h2, h3, h4⟩ := sur_ways0 HG0.out HLs.out
          exact ⟨cc, false, rs3, D3, h1, h2, fun _ => ⟨rfl, h3⟩, h4.elim .inl (fun h => .inr (.inl h))⟩
        have HAp := Lib.hid hap
        have HP10 := Lib.hid hp10
        have HNX := Lib.hid hnx
        have HW3 := Lib.hid hw3
        have HPD : Hid (D.pend.length ≤ 800000) := (show D.pend.length ≤ 800000 by omega)
        clear hap hp10 hnx hw3 HPK
        go_wp2_with fail
        refine (HFW.out _ J9.out.ds.below).mono ?_
        rintro e w12 ⟨A12, c12, rfl, o12, hc12, b12⟩
        have J12 : Hid (Jd w w12 gj gd v F false rs D) := (show Jd w w12 gj gd v F false rs D from J9.out.then_ b12)
        have V12 : Hid (Was w12 (gj :: F) A5 rs) := (show Was w12 (gj :: F) A5 rs from V9.out.then_ b12)
        have N12 : Hid (Was w12 (gj :: F) A9 (rs ++ l)) := (show Was w12 (gj :: F) A9 (rs ++ l) from N9.out.then_ b12)
        have ha := jd_append w gj gd l.length v F false rs D l A12 c12 w12 J12.out HK.out (own_strs o12 rfl) rfl (by omega) hc12 (fun s hs => by have := HLs.out s hs; omega) HPD.out
        rw [HAp.out] at ha
        have HA := Lib.hid ha
        clear ha o12 b12 hc12
        go_wp2_with fail
        refine HA.out.mono ?_
        rintro e w13 ⟨F13, v13, rfl, j13, k13, n13⟩
        have J13 : Hid (Jd w w13 gj gd v13 F13 b3 rs3 D3) := (show Jd w w13 gj gd v13 F13 b3 rs3 D3 from j13)
        have V13 : Hid (Was w13 (gj :: F13) A5 rs) := (show Was w13 (gj :: F13) A5 rs from V12.out.turn k13 (New.cons n13 gj))
        have N13 : Hid (Was w13 (gj :: F13) A9 (rs ++ l)) := (show Was w13 (gj :: F13) A9 (rs ++ l) from N12.out.turn k13 (New.cons n13 gj))
        clear j13 k13 n13
        dsimp only
        rcases HW3.out with ⟨hcc, hto⟩ | ⟨hcc, hto⟩ | ⟨hcc, hto⟩
        · subst hcc
          go_wp2_with fail
          exact ⟨⟨k + 1, by omega, by omega, by go_num, v13, F13, b3, rs3, D3, A9, A9, c9, c9, rs ++ l, rs ++ l, J13.out, by rw [HQ.out], by rw [HQ.out], N13.out, N13.out, by rw [HQ.out]; omega, by rw [HQ.out]; omega, hto, HP10.out, HNX.out⟩, by simp [intOf]; omega⟩
        · subst hcc
          go_wp2_with fail
          exact ⟨⟨k + 1, by omega, by omega, by go_num, v13, F13, b3, rs3, D3, A5, A5, c5, c5, rs, rs, J13.out, rfl, rfl, V13.out, V13.out, by omega, by omega, hto, HP10.out, HNX.out⟩, by simp [intOf]; omega⟩
        · exact hcc.elim
      all_goals
        have hcut := cut_yes (1 + (p : Int)) gd F D w9 J9.out.ds.disk HG0.out.good.on (by omega) (by omega)
        obtain ⟨D2, hD2⟩ : ∃ D2, cu D (1 + (p : Int)) = D2 := ⟨_, rfl⟩
        have hg2 : Jr.Good chainS zed D2 rs := by rw [← hD2]; exact HG0.out.good.cut chainS zed (by omega)
        have hl2 : D2.sure.length = D.sure.length := by rw [← hD2]; rfl
        rw [hD2] at hcut
        have hn7 : ¬ (k + 1 < N ∧ k + 1 < 8) := by
          first
            | (rw [beq_iff_eq] at x1; omega)
            | (rw [beq_iff_eq] at x2; omega)
        obtain ⟨cc, b3, rs3, D3, hap, hp10, hnx, hw3⟩ : ∃ cc b3 rs3 D3, apR false rs D2 l = (cc, b3, rs3, D3) ∧ D3.pend.length ≤ 10 ∧ (k + 1 < N ∧ k + 1 < 8 → b3 = false ∧ Good0 D3 rs3 z) ∧ ((cc = 0 ∧ CrashTo D3 (rs ++ l) (rs ++ l)) ∨ (cc = 341 ∧ CrashTo D3 rs rs) ∨ (cc = 331 ∧ CrashTo D3 rs (rs ++ l))) := by
          obtain ⟨cc, b3, rs3, D3, h1, h2, h4⟩ := sur_ways hg2 HG0.out.small HLs.out
          exact ⟨cc, b3, rs3, D3, h1, h2, fun h => absurd h hn7, h4⟩
        have HAp := Lib.hid hap
        have HP10 := Lib.hid hp10
        have HNX := Lib.hid hnx
        have HW3 := Lib.hid hw3
        have HPD : Hid (D2.pend.length ≤ 800000) := (show D2.pend.length ≤ 800000 by rw [hg2.none]; decide)
        have HCut := Lib.hid hcut
        have HL2 := Lib.hid hl2
        clear hap hp10 hnx hw3 hcut hg2 hl2 hD2
        go_wp2_with fail
        refine (HPK.out _).mono ?_
        rintro e w10 ⟨rfl, rfl⟩
        go_wp2_with fail
        refine HCut.out.mono ?_
        rintro e w11 ⟨F11, rfl, d11, k11, n11⟩
        have S11 := J9.out.ds.turn d11 k11 n11
        have J11 : Hid (Jd w w11 gj gd v F11 false rs D2) := (show Jd w w11 gj gd v F11 false rs D2 from J9.out.turn S11 k11 n11 HL2.out)
        have V11 : Hid (Was w11 (gj :: F11) A5 rs) := (show Was w11 (gj :: F11) A5 rs from V9.out.turn (k11.mono (fun x hx => List.mem_cons_of_mem _ hx)) (New.cons n11 gj))
        have N11 : Hid (Was w11 (gj :: F11) A9 (rs ++ l)) := (show Was w11 (gj :: F11) A9 (rs ++ l) from N9.out.turn (k11.mono (fun x hx => List.mem_cons_of_mem _ hx)) (New.cons n11 gj))
        have e11 := cell_then J11.out.ds.below HCl.out
        clear S11 d11 k11 n11 HPK
        go_wp2_with fail
        refine (HFW.out _ J11.out.ds.below).mono ?_
        rintro e w12 ⟨A12, c12, rfl, o12, hc12, b12⟩
        have J12 : Hid (Jd w w12 gj gd v F11 false rs D2) := (show Jd w w12 gj gd v F11 false rs D2 from J11.out.then_ b12)
        have V12 : Hid (Was w12 (gj :: F11) A5 rs) := (show Was w12 (gj :: F11) A5 rs from V11.out.then_ b12)
        have N12 : Hid (Was w12 (gj :: F11) A9 (rs ++ l)) := (show Was w12 (gj :: F11) A9 (rs ++ l) from N11.out.then_ b12)
        have ha := jd_append w gj gd l.length v F11 false rs D2 l A12 c12 w12 J12.out HK.out (own_strs o12 rfl) rfl (by omega) hc12 (fun s hs => by have := HLs.out s hs; omega) HPD.out
        rw [HAp.out] at ha
        have HA := Lib.hid ha
        clear ha o12 b12 hc12
        go_wp2_with fail
        refine HA.out.mono ?_
        rintro e w13 ⟨F13, v13, rfl, j13, k13, n13⟩
        have J13 : Hid (Jd w w13 gj gd v13 F13 b3 rs3 D3) := (show Jd w w13 gj gd v13 F13 b3 rs3 D3 from j13)
        have V13 : Hid (Was w13 (gj :: F13) A5 rs) := (show Was w13 (gj :: F13) A5 rs from V12.out.turn k13 (New.cons n13 gj))
        have N13 : Hid (Was w13 (gj :: F13) A9 (rs ++ l)) := (show Was w13 (gj :: F13) A9 (rs ++ l) from N12.out.turn k13 (New.cons n13 gj))
        clear j13 k13 n13
        dsimp only
        rcases HW3.out with ⟨hcc, hto⟩ | ⟨hcc, hto⟩ | ⟨hcc, hto⟩
        · subst hcc
          go_wp2_with fail
          exact ⟨⟨k + 1, by omega, by omega, by go_num, v13, F13, b3, rs3, D3, A9, A9, c9, c9, rs ++ l, rs ++ l, J13.out, by rw [HQ.out], by rw [HQ.out], N13.out, N13.out, by rw [HQ.out]; omega, by rw [HQ.out]; omega, hto, HP10.out, HNX.out⟩, by simp [intOf]; omega⟩
        · subst hcc
          go_wp2_with fail
          exact ⟨⟨k + 1, by omega, by omega, by go_num, v13, F13, b3, rs3, D3, A5, A5, c5, c5, rs, rs, J13.out, rfl, rfl, V13.out, V13.out, by omega, by omega, hto, HP10.out, HNX.out⟩, by simp [intOf]; omega⟩
        · subst hcc
          go_wp2_with fail
          exact ⟨⟨k + 1, by omega, by omega, by go_num, v13, F13, b3, rs3, D3, A5, A9, c5, c9, rs, rs ++ l, J13.out, rfl, by rw [HQ.out], V13.out, N13.out, by omega, by rw [HQ.out]; omega, hto, HP10.out, HNX.out⟩, by simp [intOf]; omega⟩
    · obtain ⟨kp, hkp⟩ : ∃ kp, keep.take 20 = kp := ⟨_, rfl⟩
      have hkl : kp.length = min keep.length 20 := by rw [← hkp, List.length_take]; omega
      have hmin : (min (keep.length : Int) 20).toNat = kp.length := by omega
      have hik : IntsAt wr K kp := fun i hi => by
        obtain ⟨b', o', h1, h2⟩ := HKe.out i (by omega)
        refine ⟨b', o', h1, ?_⟩
        rw [cell_then J.out.ds.below h2, ← hkp, List.getD, List.getD, List.getElem?_take, if_pos (by omega)]
      have hcr := crash_any gd F D K ck kp torn wr J.out.ds.disk hik (by omega) HT.out.2 (by omega)
      obtain ⟨rs2, D2, ho2, hor⟩ := HCr.out kp torn
      obtain ⟨D1, hD1⟩ : ∃ D1, cr D kp torn = D1 := ⟨_, rfl⟩
      have hp1 : D1.pend.length ≤ 900000 := by rw [← hD1]; simp [cr]
      rw [hD1] at hcr ho2
      have HCR := Lib.hid hcr
      have HO2 := Lib.hid ho2
      have HOR := Lib.hid hor
      have HMN := Lib.hid hmin
      have hm1 : (keep.length : Int) ≤ (ck : Int) := by omega
      have hm2 : (0 : Int) ≤ min (keep.length : Int) 20 := by omega
      have hm3 : min (keep.length : Int) 20 ≤ (ck : Int) := by omega
      clear hcr ho2 hor hik hkp hkl hD1 hmin HCr HGo
      have hend : ¬ (k : Int) < (N : Int) ∨ ((k : Int) < (N : Int) ∧ ¬ (k : Int) < 8) := by omega
      clear h1
      rcases hend with g1 | ⟨g1, g2⟩
      all_goals
        go_wp2_with fail
        rw [HMN.out]
        refine HCR.out.mono ?_
        rintro e w5 ⟨F5, rfl, d5, k5, n5⟩
        have S5 : Hid (Ds w w5 gd F5 D1) := (show Ds w w5 gd F5 D1 from J.out.ds.turn d5 k5 n5)
        have W5 : Hid (Was w5 (gj :: F5) Aw lw) := (show Was w5 (gj :: F5) Aw lw from VW.out.turn (k5.mono (fun x hx => List.mem_cons_of_mem _ hx)) (New.cons n5 gj))
        have X5 : Hid (Was w5 (gj :: F5) An ln) := (show Was w5 (gj :: F5) An ln from VN.out.turn (k5.mono (fun x hx => List.mem_cons_of_mem _ hx)) (New.cons n5 gj))
        have ho := jd_open w gd F5 D1 a w5 S5.out HK.out HE.out hp1
        rw [HO2.out] at ho
        have HO := Lib.hid ho
        clear ho d5 k5 n5 hm1 hm2 hm3
        go_wp2_with fail
        refine HO.out.mono ?_
        rintro e w6 ⟨F6, -, k6, n6, gk, vk, rfl, jk6, -⟩
        have JK6 : Hid (Jd w w6 gk gd vk F6 false rs2 D2) := (show Jd w w6 gk gd vk F6 false rs2 D2 from jk6)
        have W6 : Hid (Was w6 (gj :: F6) Aw lw) := (show Was w6 (gj :: F6) Aw lw from W5.out.turn (k6.mono (fun x hx => List.mem_cons_of_mem _ hx)) (New.cons n6 gj))
        have X6 : Hid (Was w6 (gj :: F6) An ln) := (show Was w6 (gj :: F6) An ln from X5.out.turn (k6.mono (fun x hx => List.mem_cons_of_mem _ hx)) (New.cons n6 gj))
        clear k6 n6 jk6 HO
        go_wp2_with fail
        have hn6 : rs2.length ≤ 1000000 := by have := need_count rs2; have := JK6.out.fit; have := JK6.out.ds.disk.ok.max; omega
        refine (jd_recs w gk gd vk F6 false rs2 D2 w6 JK6.out).mono ?_
        rintro e w7 ⟨A7, c7, rfl, st7, -, b7⟩
        have JK7 : Hid (Jd w w7 gk gd vk F6 false rs2 D2) := (show Jd w w7 gk gd vk F6 false rs2 D2 from JK6.out.then_ b7)
        have X7 : Hid (Was w7 (gj :: F6) An ln) := (show Was w7 (gj :: F6) An ln from X6.out.then_ b7)
        have hs7 := same_any A7 Aw rs2.length lw.length c7 cw rs2 lw w7 st7 (W6.out.strs.then_ b7) rfl rfl hn6 hlw
        clear st7 b7
        by_cases heq : rs2 = lw
        · rw [decide_eq_true heq] at hs7
          have HS7 := Lib.hid hs7
          clear hs7 heq
          go_wp2_with fail
          refine HS7.out.mono ?_
          rintro e w8 ⟨rfl, b8⟩
          have B8 := Lib.hid (below_next JK7.out.ds.below b8)
          clear b8
          go_wp2_with fail
          go_ret
          exact ⟨rfl, B8.out⟩
        · obtain rfl : rs2 = ln := by
            rcases HOR.out with h | h
            · exact absurd h heq
            · exact h
          rw [decide_eq_false heq] at hs7
          have HS7 := Lib.hid hs7
          clear hs7 heq
          go_wp2_with fail
          refine HS7.out.mono ?_
          rintro e w8 ⟨rfl, b8⟩
          have JK8 : Hid (Jd w w8 gk gd vk F6 false rs2 D2) := (show Jd w w8 gk gd vk F6 false rs2 D2 from JK7.out.then_ b8)
          have X8 : Hid (Was w8 (gj :: F6) An rs2) := (show Was w8 (gj :: F6) An rs2 from X7.out.then_ b8)
          clear b8
          go_wp2_with fail
          refine (jd_recs w gk gd vk F6 false rs2 D2 w8 JK8.out).mono ?_
          rintro e w9 ⟨A9, c9, rfl, st9, -, b9⟩
          have hs9 := same_any A9 An rs2.length rs2.length c9 cn rs2 rs2 w9 st9 (X8.out.strs.then_ b9) rfl rfl hn6 hn6
          rw [decide_eq_true rfl] at hs9
          have HS9 := Lib.hid hs9
          have B9 := Lib.hid (below_next JK8.out.ds.below b9)
          clear hs9 st9 b9
          go_wp2_with fail
          refine HS9.out.mono ?_
          rintro e w10 ⟨rfl, b10⟩
          have B10 := Lib.hid (below_next B9.out b10)
          clear b10
          go_wp2_with fail
          go_ret
          exact ⟨rfl, B10.out⟩
end Go.Proofs.YtnjkinljpekohaaGreatDoor.Jo
namespace Go.Proofs.YtnjkinljpekohaaGreatDoor.lawJournalSurvives
open Go.ChangeShapes Go.WideShapes Go.ChangeAt Go.RowKit
open Go.ChangeMaps (open_string shut_string)

theorem readable : ∀ t ∈ (#[3, 63, 3, 34, 3] : Array TypeId).toList, Tryz.prog.readableRec t = true ∧ t < Tryz.prog.types.size := by
  intro t ht
  simp only [List.mem_cons, List.not_mem_nil, or_false] at ht
  rcases ht with rfl | rfl | rfl | rfl | rfl
  · exact ⟨by kernel_rfl, of_decide_eq_true (by kernel_rfl)⟩
  · exact ⟨by kernel_rfl, of_decide_eq_true (by kernel_rfl)⟩
  · exact ⟨by kernel_rfl, of_decide_eq_true (by kernel_rfl)⟩
  · exact ⟨by kernel_rfl, of_decide_eq_true (by kernel_rfl)⟩
  · exact ⟨by kernel_rfl, of_decide_eq_true (by kernel_rfl)⟩
set_option maxRecDepth 100000 in
theorem contract (H : Type) (enc : TypeId × Value → H) (W : World) (base : Nat) (args : Array Value) (ds gs : List (DataW H)) (before : List MemPlace)
    (hval : ∀ (j : Nat) t v, Tryz.f7.params[j]? = some t → args[j]? = some v → Value.okWide Tryz.prog W .any base t v)
    (hW : DataW.Whole enc Tryz.prog Tryz.f7.params.toList Rows.journalSurvivesSpec.vars false W args.toList ds gs before) (hL : laidMetH Tryz.prog Rows.journalSurvivesRow.laid W) :
    Calls Tryz.prog 7 args W fun e W' => ∃ v, e = .returned v ∧ Rows.journalSurvivesSpec.post enc Tryz.prog Tryz.f7 false true false false W args v W' := by
  have hW' := hW
  obtain ⟨p, q, hA0, hV, rfl, hfz, hnd⟩ := hW
  have hA : DataW.TrodAll enc Tryz.prog W 0 (fun _ => true) true Tryz.f7.params.toList args.toList ds p := hA0
  rw [Tryz.params7] at hA hval
  obtain ⟨v0, vs0, d0, ds0, p0, q0, hargs, rfl, rfl, h0, r0⟩ := trodAll_cons hA
  obtain ⟨v1, vs1, d1, ds1, p1, q1, rfl, rfl, rfl, h1, r1⟩ := trodAll_cons r0
  obtain ⟨v2, vs2, d2, ds2, p2, q2, rfl, rfl, rfl, h2, r2⟩ := trodAll_cons r1
  obtain ⟨v3, vs3, d3, ds3, p3, q3, rfl, rfl, rfl, h3, r3⟩ := trodAll_cons r2
  obtain ⟨v4, vs4, d4, ds4, p4, q4, rfl, rfl, rfl, h4, r4⟩ := trodAll_cons r3
  obtain ⟨rfl, rfl, rfl⟩ := trodAll_nil r4
  obtain rfl : args = #[v0, v1, v2, v3, v4] := by cases args; simp_all
  obtain ⟨rfl, rfl⟩ := trodVars_none hV
  obtain ⟨x0, rfl, e0, rfl, w0⟩ := open_int Tryz.underlying3 (hval 0 3 v0 rfl rfl) h0
  obtain ⟨x2, rfl, e2, rfl, w2⟩ := open_int Tryz.underlying3 (hval 2 3 v2 rfl rfl) h2
  obtain ⟨x4, rfl, e4, rfl, w4⟩ := open_int Tryz.underlying3 (hval 4 3 v4 rfl rfl) h4
  obtain ⟨Aa, ca, Ga, rfl, hna, hGa⟩ := open_grps Tryz.underlying63 Tryz.underlying32 Tryz.underlying9 (by kernel_rfl) (by kernel_rfl) rfl (hval 1 63 v1 rfl rfl) h1
  obtain ⟨Ab, cb, Lb, rfl, hcb, hmb, hIb, _⟩ := open_intl Tryz.underlying34 Tryz.underlying3 (by kernel_rfl) (hval 3 34 v3 rfl rfl) h3
  obtain ⟨aE, hE⟩ := sentinel hL
  clear hA0
  refine (Jo.sur_law x0 x2 x4 aE Aa Ab _ ca cb Ga Lb W (table hL) hE ⟨i64_lo w0, i64_hi w0⟩ ⟨i64_lo w2, i64_hi w2⟩ ⟨i64_lo w4, i64_hi w4⟩ hGa rfl hna hIb hcb hmb).mono ?_
  rintro e W' ⟨rfl, hb⟩
  exact ⟨_, rfl, law_post laidOut (by rw [Tryz.params7]; exact readable) hW' rfl rfl rfl Tryz.underlying4 hb⟩
theorem laid_met (os : Os) : laidMet Tryz.prog Rows.journalSurvivesRow.laid ((laidWorld os).forCall (fun _ _ => 0) ⟨#[], #[.int .i64 0, .slice none 0 0, .int .i64 0, .slice none 0 0, .int .i64 0], []⟩).memory :=
  laidMet_of_run' 20 (by kernel_rfl) (by kernel_rfl)
theorem reads (os : Os) {H : Type} (enc : TypeId × Value → H) : ∃ places, DataW.whole enc Tryz.prog ((laidWorld os).forCall (fun _ _ => 0) ⟨#[], #[.int .i64 0, .slice none 0 0, .int .i64 0, .slice none 0 0, .int .i64 0], []⟩).memory Tryz.f7.params.toList Rows.journalSurvivesSpec.vars false (#[.int .i64 0, .slice none 0 0, .int .i64 0, .slice none 0 0, .int .i64 0] : Array Value).toList 8 = some ([.lit (.int .i64 0), .nil, .lit (.int .i64 0), .nil, .lit (.int .i64 0)], [], places) :=
  ⟨[], by kernel_rfl⟩
set_option maxRecDepth 100000 in
theorem lifted (os : Os) (started : os.Started) (H : Type) (enc : TypeId × Value → H) (F : Stop.Interp) :
    ReturnsInHanded {} Tryz.checked os 7 .any ((OpenSpec.ofChange Rows.journalSurvivesSpec).preRow enc Tryz.prog Tryz.f7 Rows.journalSurvivesRow.domain false Rows.journalSurvivesRow.laid) (((OpenSpec.ofChange Rows.journalSurvivesSpec).at F).post enc Tryz.prog Tryz.f7 false true false false) := by
  obtain ⟨places, hx⟩ := reads os enc
  refine returnsInHanded_of_row (C := Tryz.checked) (s := OpenSpec.ofChange Rows.journalSurvivesSpec) own started (by kernel_rfl) Tryz.func7
    (witness_row_at (enc := enc) (C := Tryz.checked) false (laidWorld os) #[.int .i64 0, .slice none 0 0, .int .i64 0, .slice none 0 0, .int .i64 0] rfl (by kernel_rfl) (by kernel_rfl) (by kernel_rfl)
      (OpenSpec.preRow_of_cond 8 hx (by kernel_rfl) (fun k hk => by cases hk) (by kernel_rfl) (laid_met os))) ?_
  intro W base args ds gs before hval hW _ _ _ hL _ _
  exact contract H enc W base args ds gs before hval hW hL
theorem said : Rows.JournalSurvivesSaid :=
  OpenClaim.holds_of_cond 7 Tryz.f7 rfl rfl rfl rfl rfl rfl rfl ⟨rfl, rfl, rfl, rfl, rfl⟩ rfl rfl rfl rfl rfl (by kernel_rfl) Tryz.func7 (by kernel_rfl)
    (of_decide_eq_true (by kernel_rfl)) (by unfold Func.isWrapper; rw [if_neg (of_decide_eq_false (by kernel_rfl))]; exact ⟨rfl, rfl⟩)
    (fun os started H enc _ F => by rw [OpenClaim.pre_eq_preRow]; exact lifted os started H enc F)
theorem plain (f : FuncId) (fn : Func) (hf : Tryz.pinned.checked.prog.funcNamed "slatewall/slatewalllaw34.JournalSurvives" = some f) (hfn : Tryz.pinned.checked.prog.funcs[f]? = some fn) :
    true = Tryz.pinned.checked.prog.looks [] ∧ ∀ (j : Nat) t, fn.params[j]? = some t → Tryz.pinned.checked.prog.wantsStandIn t = false := by
  obtain rfl : f = 7 := Option.some.inj ((show Tryz.prog.funcNamed "slatewall/slatewalllaw34.JournalSurvives" = some 7 by kernel_rfl).symm.trans hf) |>.symm
  obtain rfl : fn = Tryz.f7 := (Option.some.inj (Tryz.func7.symm.trans hfn)).symm
  refine ⟨by kernel_rfl, fun j t ht => ?_⟩
  rw [Tryz.params7] at ht
  have hm := Array.mem_of_getElem? ht
  simp only [List.mem_toArray, List.mem_cons, List.not_mem_nil, or_false] at hm
  rcases hm with rfl | rfl | rfl | rfl | rfl
  · exact (show Tryz.prog.wantsStandIn 3 = false by kernel_rfl)
  · exact (show Tryz.prog.wantsStandIn 63 = false by kernel_rfl)
  · exact (show Tryz.prog.wantsStandIn 3 = false by kernel_rfl)
  · exact (show Tryz.prog.wantsStandIn 34 = false by kernel_rfl)
  · exact (show Tryz.prog.wantsStandIn 3 = false by kernel_rfl)
/-- the card -/
theorem card : Rows.JournalSurvivesCardSaid :=
  Claim7.holds_tied_plain_at .later [] _ _ _ _ said (fun _ h => by cases h) (by kernel_rfl) (fun _ h => by cases h) journalSurvives_row_tie rfl ⟨rfl, rfl⟩ (by kernel_rfl) rfl plain (by kernel_rfl)
end Go.Proofs.YtnjkinljpekohaaGreatDoor.lawJournalSurvives
