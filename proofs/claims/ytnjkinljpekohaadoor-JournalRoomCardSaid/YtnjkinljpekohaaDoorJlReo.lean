/- JournalReopens: the law. -/
import Derived.Test.YtnjkinljpekohaaDoorJlSane
namespace Go.Proofs.YtnjkinljpekohaaDoor.Jo
open Go.RowKit Sha Dsk Jr
attribute [local go_sem] Oper.semAt_some
/-- a list of strings in memory: where, its capacity, what it holds -/
structure Grp where
  A : Option Addr
  c : Nat
  l : List ByteArray
instance : Inhabited Grp := ⟨⟨none, 0, []⟩⟩
structure GrpAt (w : World) (g : Grp) : Prop where
  strs : StrsAt w g.A g.l
  len : (g.l.length : Int) ≤ 9223372036854775807
  size : ∀ s ∈ g.l, (s.size : Int) ≤ 9223372036854775807
theorem GrpAt.then_ {w w' : World} {g : Grp} (h : GrpAt w g) (hb : Below w.heap.size w w') : GrpAt w' g := ⟨h.strs.then_ hb, h.len, h.size⟩
/-- lists of strings in memory -/
def GrpsAt (w : World) (A : Option Addr) (G : List Grp) : Prop := ∀ i, i < G.length → ∃ b o, A = some ⟨b, o, none⟩ ∧ w.cell? ⟨b, o + i, none⟩ = some (.slice (G.getD i default).A (G.getD i default).l.length (G.getD i default).c) ∧ GrpAt w (G.getD i default)
theorem fewS_small (l : List ByteArray) : ∀ s ∈ fewS l 6, s.size ≤ 65536 := fun s hs => by have := fewS_sizes l 6 s hs; omega
theorem few_len (l : List ByteArray) : (fewS l 6).length ≤ 6 := by rw [fewS_length]; omega
/-- few, in the shape that Append takes -/
theorem few_grp (g : Grp) (w : World) (h : GrpAt w g) : Calls Tryd.prog 9 #[.slice g.A g.l.length g.c] w fun e w' => ∃ A c, e = .returned (.slice A (fewS g.l 6).length c) ∧ StrsAt w' A (fewS g.l 6) ∧ (fewS g.l 6).length ≤ c ∧ Below w.heap.size w w' := by
  refine (few_any g.A g.c _ g.l w rfl h.strs h.len h.size).mono ?_
  rintro e w' ⟨v, rfl, h1, h2⟩
  rcases h1.2 with ⟨hv, h0⟩ | ⟨a, cap, cur, hv, _, _, hcap, _⟩
  · refine ⟨none, 0, by rw [hv, h0], fun i hi => by omega, by omega, h2⟩
  · exact ⟨some ⟨a, 0, none⟩, cap, by rw [hv], by rw [hv] at h1; exact strs_of_own h1, hcap, h2⟩
/-- what Append does on a disk that loses no power -/
theorem apR_any {D : Dk} {rs l : List ByteArray} {n : Nat} (h : Good0 D rs n) (hs : ∀ r ∈ l, r.size ≤ 65536) : ∃ c rs2 D2, apR false rs D l = (c, false, rs2, D2) ∧ Good0 D2 rs2 n := by
  by_cases hf : need rs + need l ≤ n
  · obtain ⟨D2, h1, h2⟩ := apR_good h hs hf
    exact ⟨_, _, _, h1, h2⟩
  · exact ⟨_, _, _, apR_full false rfl hs (by rw [h.len]; omega), h⟩
set_option maxRecDepth 100000 in
set_option maxHeartbeats 4000000 in
theorem reo_law (n : Int) (a : Addr) (A : Option Addr) (N c : Nat) (G : List Grp) (w : World) (hK : RoundIn w) (hE : ErrIn w 155 (.pointer (some a))) (hn : I64 n) (hG : GrpsAt w A G) (hN : G.length = N) (_hNm : (N : Int) ≤ 9223372036854775807) :
    Calls Tryd.prog 4 #[.int .i64 n, .slice A N c] w fun e w' => e = .returned (.bool true) ∧ Below w.heap.size w w' := by
  have hsz := szI_le n
  have hls := fun W => lsize_any n W hn
  obtain ⟨z, hz⟩ : ∃ z, szI n = z := ⟨_, rfl⟩
  rw [hz] at hsz
  simp only [hz] at hls
  have HLS := Lib.hid hls
  have HK := Lib.hid hK
  have HE := Lib.hid hE
  have HG := Lib.hid hG
  have HN := Lib.hid hN
  clear hK hE hG hN hn hls hz
  go_enter Tryd.func4, Tryd.ntmps4
  go_wp2_with fail
  refine (sane_any a w HK.out HE.out).mono ?_
  rintro e w1 ⟨rfl, b1⟩
  have B1 := Lib.hid b1
  clear b1
  go_wp2_with fail
  refine (HLS.out _).mono ?_
  rintro e w2 ⟨rfl, rfl⟩
  go_wp2_with fail
  refine (new_any z w1 hsz.1 (by omega)).mono ?_
  rintro e w3 ⟨gd, F3, rfl, d3, n3, b3⟩
  have S3 : Hid (Ds w w3 gd F3 (nw z)) := (show Ds w w3 gd F3 (nw z) from ⟨d3, fun x hx => by have := n3 x hx; have := B1.out.size; omega, below_next B1.out b3⟩)
  clear d3 n3 b3
  go_wp2_with fail
  refine (jd_open w gd F3 (nw z) a w3 S3.out HK.out HE.out (by simp [nw])).mono ?_
  rw [opR_good (Good0.new z).good (by simp)]
  rintro e w4 ⟨F4, s4, -, -, gj, v4, rfl, j4, -⟩
  have J4 := Lib.hid j4
  clear s4 j4
  go_wp2_with fail
  go_loopw [10] (fun i wr => ∃ (k : Nat) (v : Value) (F : List Nat) (rs : List ByteArray) (D : Dk), k ≤ N ∧ k ≤ 8 ∧ i = .int .i64 (k : Int) ∧ Jd w wr gj gd v F false rs D ∧ Good0 D rs z) (fun i _ => 8 - (intOf i).toNat)
  case atStart => exact ⟨0, v4, F4, [], nw z, Nat.zero_le _, Nat.zero_le _, rfl, J4.out, Good0.new z⟩
  case round =>
    obtain ⟨k, v, F, rs, D, hkN, hk8, rfl, hj, hg⟩ := hrel
    have J := Lib.hid hj
    have HGd := Lib.hid hg
    clear hj hg
    by_cases h1 : k < N ∧ k < 8
    · obtain ⟨h1, h2⟩ := h1
      obtain ⟨b, o, rfl, hc, hgr⟩ := HG.out k (by rw [HN.out]; exact h1)
      obtain ⟨g, hgd⟩ : ∃ g, G.getD k default = g := ⟨_, rfl⟩
      rw [hgd] at hc hgr
      obtain ⟨gA, gc, gl⟩ := g
      have hcr := cell_then J.out.ds.below hc
      have hfew := few_grp ⟨gA, gc, gl⟩ wr (hgr.then_ J.out.ds.below)
      obtain ⟨l, hl⟩ : ∃ l, fewS gl 6 = l := ⟨_, rfl⟩
      have hls := fewS_small gl
      have hl6 := few_len gl
      dsimp only at hfew hcr
      rw [hl] at hls hl6 hfew
      obtain ⟨cc, rs2, D2, hap, hg2⟩ := apR_any (l := l) HGd.out hls
      have HFW := Lib.hid hfew
      have HLs := Lib.hid hls
      have HAp := Lib.hid hap
      have HG2 := Lib.hid hg2
      have hp : D.pend.length ≤ 800000 := by rw [HGd.out.good.none]; decide
      have g1 : (k : Int) < (N : Int) := by omega
      have g2 : (k : Int) < 8 := by omega
      have g0 : (0 : Int) ≤ (k : Int) := by omega
      clear hc hgr hgd hls hap hg2 hfew hl
      go_wp2_with fail
      refine HFW.out.mono ?_
      rintro e w5 ⟨A5, c5, rfl, st5, hc5, b5⟩
      have ha := jd_append w gj gd l.length v F false rs D l A5 c5 w5 (J.out.then_ b5) HK.out st5 rfl (by omega) hc5 (fun s hs => by have := HLs.out s hs; omega) hp
      rw [HAp.out] at ha
      have HA := Lib.hid ha
      clear ha st5 b5 hc5
      go_wp2_with fail
      refine HA.out.mono ?_
      rintro e w6 ⟨F6, v6, rfl, j6, -, -⟩
      have J6 : Hid (Jd w w6 gj gd v6 F6 false rs2 D2) := (show Jd w w6 gj gd v6 F6 false rs2 D2 from j6)
      clear j6
      dsimp only
      go_wp2_with fail
      exact ⟨⟨k + 1, v6, F6, rs2, D2, by omega, by omega, by go_num, J6.out, HG2.out⟩, by simp [intOf]; omega⟩
    · have hcut := cut_yes 1 gd F D wr J.out.ds.disk HGd.out.good.on (by omega) (by omega)
      have HC := Lib.hid hcut
      clear hcut
      obtain ⟨D5, hD5⟩ : ∃ D5, cu D 1 = D5 := ⟨_, rfl⟩
      have hg5 : Jr.Good chainS zed D5 rs := by rw [← hD5]; exact HGd.out.good.cut chainS zed (by decide)
      have hl5 : D5.sure.length = D.sure.length := by rw [← hD5]; rfl
      rw [hD5] at HC
      have HG5 := Lib.hid hg5
      have HL5 := Lib.hid hl5
      clear hg5 hl5 hD5
      have hend : ¬ (k : Int) < (N : Int) ∨ ((k : Int) < (N : Int) ∧ ¬ (k : Int) < 8) := by omega
      clear h1
      rcases hend with g1 | ⟨g1, g2⟩
      all_goals
        go_wp2_with fail
        refine HC.out.mono ?_
        rintro e w5 ⟨F5, rfl, d5, k5, n5⟩
        have S5 := J.out.ds.turn d5 k5 n5
        have J5 := J.out.turn S5 k5 n5 HL5.out
        have ho := jd_open w gd F5 D5 a w5 S5 HK.out HE.out (by rw [HG5.out.none]; decide)
        rw [opR_good HG5.out HGd.out.small] at ho
        have HO := Lib.hid ho
        have JJ5 := Lib.hid J5
        clear ho J5 S5 d5 k5 n5
        go_wp2_with fail
        refine HO.out.mono ?_
        rintro e w6 ⟨F6, s6, k6, n6, gk, vk, rfl, jk6, -⟩
        have JK6 : Hid (Jd w w6 gk gd vk F6 false rs D5) := (show Jd w w6 gk gd vk F6 false rs D5 from jk6)
        have J6 : Hid (Jd w w6 gj gd v F6 false rs D5) := (show Jd w w6 gj gd v F6 false rs D5 from JJ5.out.turn s6 k6 n6 rfl)
        clear s6 k6 n6 jk6
        go_wp2_with fail
        have hn6 : rs.length ≤ 1000000 := by have := need_count rs; have := JK6.out.fit; have := JK6.out.ds.disk.ok.max; omega
        refine (jd_recs w gj gd v F6 false rs D5 w6 J6.out).mono ?_
        rintro e w7 ⟨A7, c7, rfl, st7, -, b7⟩
        have JK7 : Hid (Jd w w7 gk gd vk F6 false rs D5) := (show Jd w w7 gk gd vk F6 false rs D5 from JK6.out.then_ b7)
        have J7 : Hid (Jd w w7 gj gd v F6 false rs D5) := (show Jd w w7 gj gd v F6 false rs D5 from J6.out.then_ b7)
        have ST7 := Lib.hid st7
        clear st7 b7
        go_wp2_with fail
        refine (jd_recs w gk gd vk F6 false rs D5 w7 JK7.out).mono ?_
        rintro e w8 ⟨A8, c8, rfl, st8, -, b8⟩
        have JK8 : Hid (Jd w w8 gk gd vk F6 false rs D5) := (show Jd w w8 gk gd vk F6 false rs D5 from JK7.out.then_ b8)
        have J8 : Hid (Jd w w8 gj gd v F6 false rs D5) := (show Jd w w8 gj gd v F6 false rs D5 from J7.out.then_ b8)
        have hsm := same_any A7 A8 rs.length rs.length c7 c8 rs rs w8 (ST7.out.then_ b8) st8 rfl rfl hn6 hn6
        rw [decide_eq_true rfl] at hsm
        have HSM := Lib.hid hsm
        clear hsm st8 b8
        go_wp2_with fail
        refine HSM.out.mono ?_
        rintro e w9 ⟨rfl, b9⟩
        have JK9 : Hid (Jd w w9 gk gd vk F6 false rs D5) := (show Jd w w9 gk gd vk F6 false rs D5 from JK8.out.then_ b9)
        have J9 : Hid (Jd w w9 gj gd v F6 false rs D5) := (show Jd w w9 gj gd v F6 false rs D5 from J8.out.then_ b9)
        obtain ⟨R, hR⟩ : ∃ R : Int, (D5.sure.length : Int) - (need rs : Int) = R := ⟨_, rfl⟩
        have hr9 := jd_room w gj gd v F6 false rs D5 w9 J9.out
        rw [hR] at hr9
        have HR9 := Lib.hid hr9
        have HR := Lib.hid hR
        clear b9 hr9 hR
        go_wp2_with fail
        refine HR9.out.mono ?_
        rintro e w10 ⟨rfl, hw10⟩
        have JK10 : Hid (Jd w w10 gk gd vk F6 false rs D5) := (show Jd w w10 gk gd vk F6 false rs D5 by rw [← hw10]; exact JK9.out.drew)
        clear hw10
        have hr10 := jd_room w gk gd vk F6 false rs D5 w10 JK10.out
        rw [HR.out] at hr10
        have HR10 := Lib.hid hr10
        clear hr10
        go_wp2_with fail
        refine HR10.out.mono ?_
        rintro e w11 ⟨rfl, hw11⟩
        have JK11 : Hid (Jd w w11 gk gd vk F6 false rs D5) := (show Jd w w11 gk gd vk F6 false rs D5 by rw [← hw11]; exact JK10.out.drew)
        clear hw11
        have hpn := pending_any gd F6 D5 w11 JK11.out.ds.disk
        rw [HG5.out.none, show ((([] : List (Nat × ByteArray)).length : Nat) : Int) = 0 from rfl] at hpn
        have hct := content_on gd F6 D5 w11 JK11.out.ds.disk HG5.out.on
        obtain ⟨S, hS⟩ : ∃ S, sof D5.vis = S := ⟨_, rfl⟩
        have hSs : (S.size : Int) = (z : Int) := by
          rw [← hS, ← bts_length, bts_sof, HG5.out.vis, HL5.out, HGd.out.len]
        rw [hS] at hct
        have HPN := Lib.hid hpn
        have HCT := Lib.hid hct
        have HSS := Lib.hid hSs
        have hb11 := JK11.out.ds.below
        have HB11 := Lib.hid hb11
        clear hpn hct hSs hS hb11
        go_wp2_with fail
        refine HPN.out.mono ?_
        rintro e w12 ⟨rfl, rfl⟩
        go_wp2_with fail
        refine HCT.out.mono ?_
        rintro e w12 ⟨rfl, rfl⟩
        go_wp2_with fail
        refine (HLS.out _).mono ?_
        rintro e w12 ⟨rfl, rfl⟩
        have hq := HSS.out
        go_wp2_with fail
        go_ret
        exact ⟨rfl, HB11.out⟩
end Go.Proofs.YtnjkinljpekohaaDoor.Jo
