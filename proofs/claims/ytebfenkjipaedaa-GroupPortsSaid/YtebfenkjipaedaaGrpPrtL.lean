/- GroupPorts: the law. -/
import Derived.Test.YtebfenkjipaedaaGrpLawS
namespace Go.Proofs.Ytebfenkjipaedaa.Gr
open Go.RowKit Gp Go.Sort
attribute [local go_sem] Oper.semAt_some
set_option maxRecDepth 100000 in
set_option maxHeartbeats 8000000 in
theorem ports_law (A : Option Addr) (c : Nat) (rows : List (Int × Int)) (B : Option Addr) (cb : Nat) (codes : List Int) (dv : Int) (Y : Option Addr) (cy : Nat) (ys : List (Int × Int)) (one two : Int) (w : World) (hA : P2At w A rows) (hAO : P2Ok rows) (hAl : rows.length ≤ 9223372036854775807) (hB : IntsAt w B codes) (hBO : IsOk codes) (hBl : codes.length ≤ 9223372036854775807)
    (hdv : I64 dv) (hY : P2At w Y ys) (hYO : P2Ok ys) (hYl : ys.length ≤ 9223372036854775807) (h1 : I64 one) (h2 : I64 two) :
    Calls Try.prog 9 #[.slice A rows.length c, .slice B codes.length cb, .int .i64 dv, .slice Y ys.length cy, .int .i64 one, .int .i64 two] w fun e w' => e = .returned (.bool true) ∧ Below w.heap.size w w' := by
  have HS := Lib.hid (sane_any w)
  have HM := Lib.hid (fun W (hW : Below w.heap.size w W) => made_any A c rows B cb codes W (hA.then_ hW) hAO hAl (hB.then_ hW) hBO hBl)
  have HN := Lib.hid (fun W (hW : Below w.heap.size w W) => net_any dv Y cy ys W hdv (hY.then_ hW) hYO hYl)
  have HP1 := Lib.hid (fun (n : Nat) W (hn : 0 < (n : Int)) (hn2 : (n : Int) ≤ 9223372036854775807) => pickL_any one (n : Int) W h1 hn hn2)
  have HP2 := Lib.hid (fun (n : Nat) W (hn : 0 < (n : Int)) (hn2 : (n : Int) ≤ 9223372036854775807) => pickL_any two (n : Int) W h2 hn hn2)
  clear hA hAO hB hBO h1 h2 hdv hY hYO hYl
  go_enter Try.func9, Try.ntmps9
  go_wp2_with fail
  refine HS.out.mono ?_
  rintro e w1 ⟨rfl, b1⟩
  have B1 := Lib.hid b1
  clear b1 HS
  go_wp2_with fail
  refine (HM.out _ B1.out).mono ?_
  rintro e w2 ⟨l, g, cg, rfl, hl1, hl2, hl3, hb⟩
  obtain ⟨_, _, e, _, hG⟩ := hl3.at rfl
  injection e with e1 _ e3
  subst e1 e3
  have B2 := Lib.hid (below_next B1.out hb)
  have V := Lib.hid hl2.valid
  have S := Lib.hid (hl2.sized (Nat.le_refl _))
  have G := Lib.hid hG
  have hll14 := hl2.le
  have hll1 := hl1
  clear hl1 hl2 hl3 hb hG B1 HM
  go_wp2_with fail
  refine (HN.out _ B2.out).mono ?_
  rintro e w3 ⟨d, x, ds, ws, rfl, hn, _, hwo, _, hwr, _, hwl, hb⟩
  obtain ⟨⟨D, cd, rfl, _⟩, ⟨E, cw, rfl, hW⟩⟩ := hn
  have G := Lib.hid (G.out.then_ hb)
  have B3 := Lib.hid (below_next B2.out hb)
  have WA := Lib.hid hW
  have WO := Lib.hid hwo
  have WR := Lib.hid hwr
  clear hb hW hwo hwr B2 HN
  unfold nv
  go_upto_region 5 with fail
  obtain ⟨W3, hW3⟩ : ∃ W3, w3.alloc (.cells #[.slice D ds.length cd, .slice E ws.length cw] 36) = W3 := ⟨_, rfl⟩
  have hb3 : Below w3.heap.size w3 W3 := by rw [← hW3]; exact below_alloc (Below.refl _ _) _
  have z1 : W3.cell? ⟨w3.heap.size, 1, none⟩ = some (.slice E ws.length cw) := by rw [← hW3]; exact new_cell rfl
  have G := Lib.hid (G.out.then_ hb3)
  have B3 := Lib.hid (below_next B3.out hb3)
  have WA := Lib.hid (WA.out.then_ hb3)
  rw [hW3]
  obtain ⟨g4, hg4⟩ : ∃ g4, w3.heap.size = g4 := ⟨_, rfl⟩
  rw [hg4] at z1 ⊢
  clear hW3 hb3 hg4
  have hpb := pickI_bd one (n := (l.length : Int)) (by omega)
  have hqb := pickI_bd two (n := (l.length : Int)) (by omega)
  have HPP := Lib.hid (HP1.out l.length W3 (by omega) (by omega))
  have HQQ := Lib.hid (HP2.out l.length W3 (by omega) (by omega))
  obtain ⟨P, hP⟩ : ∃ P, pickI one (l.length : Int) = P := ⟨_, rfl⟩
  obtain ⟨Q, hQ⟩ : ∃ Q, pickI two (l.length : Int) = Q := ⟨_, rfl⟩
  rw [hP] at hpb HPP
  rw [hQ] at hqb HQQ
  obtain ⟨hp0, hp1⟩ := hpb
  obtain ⟨hq0, hq1⟩ := hqb
  obtain ⟨k, rfl⟩ : ∃ k : Nat, P = (k : Int) := ⟨P.toNat, by omega⟩
  obtain ⟨m, rfl⟩ : ∃ m : Nat, Q = (m : Int) := ⟨Q.toNat, by omega⟩
  have hkl : k < l.length := by omega
  have hml : m < l.length := by omega
  obtain ⟨⟨bg, og, hA3, hgc⟩, _⟩ := G.out k hkl
  obtain ⟨⟨bh, oh, hA4, hgd⟩, _⟩ := G.out m hml
  injection hA3 with hA3
  injection hA3 with hA3 hA5
  injection hA4 with hA4
  injection hA4 with hA4 hA6
  subst hA3 hA5 hA4 hA6
  have g1 := hgc.id
  have g2 := hgd.id
  rw [Nat.zero_add] at g1 g2
  obtain ⟨ga, hga⟩ : ∃ ga, l.getD k g0 = ga := ⟨_, rfl⟩
  obtain ⟨gb, hgb⟩ : ∃ gb, l.getD m g0 = gb := ⟨_, rfl⟩
  have MA := Lib.hid (show ga ∈ l by rw [← hga]; exact mem_getD hkl)
  have MB := Lib.hid (show gb ∈ l by rw [← hgb]; exact mem_getD hml)
  have IA := S.out.id k hkl
  have IB := S.out.id m hml
  rw [hga] at g1 IA
  rw [hgb] at g2 IB
  have HPA := Lib.hid (fun W (hW : Below W3.heap.size W3 W) => ports_yes _ cg l ga.id E cw ws W (G.out.then_ hW) S.out V.out IA (by rw [V.out.find MA.out]; rfl) (WA.out.then_ hW) WO.out (by omega) WR.out)
  have HPB := Lib.hid (fun W (hW : Below W3.heap.size W3 W) => ports_yes _ cg l gb.id E cw ws W (G.out.then_ hW) S.out V.out IB (by rw [V.out.find MB.out]; rfl) (WA.out.then_ hW) WO.out (by omega) WR.out)
  have WKA := Lib.hid (fun y n0 => Walk.start V.out MA.out y n0)
  have WKB := Lib.hid (fun y n0 => Walk.start V.out MB.out y n0)
  obtain ⟨a, ha⟩ : ∃ a, ga.id = a := ⟨_, rfl⟩
  obtain ⟨b, hb⟩ : ∃ b, gb.id = b := ⟨_, rfl⟩
  rw [ha] at HPA g1 WKA
  rw [hb] at HPB g2 WKB
  have HPL := Lib.hid (portsL_len l a ws)
  have HQL := Lib.hid (portsL_len l b ws)
  have HMP := Lib.hid (fun (x y : Prt) (hx : x ∈ portsL l a ws) (hy : y ∈ portsL l b ws) (e : x.wire = y.wire) => meet_ports V.out WR.out hx hy e)
  clear hgc hgd hP hQ hga hgb ha hb IA IB HP1 HP2 MA MB
  go_wp2_with fail
  refine HPP.out.mono ?_
  rintro e w4 ⟨rfl, rfl⟩
  clear HPP
  go_wp2_with fail
  refine HQQ.out.mono ?_
  rintro e w4 ⟨rfl, rfl⟩
  clear HQQ
  go_wp2_with fail
  clear g1 g2 hp0 hp1 hq0 hq1 hkl hml
  refine (HPA.out _ (Below.refl _ _)).mono ?_
  rintro e w4 ⟨Ap, cp, rfl, hp, hb4⟩
  have HP := Lib.hid hp
  have B4 := Lib.hid hb4
  have z1 := cell_then hb4 z1
  clear hp hb4 HPA
  go_wp2_with fail
  refine (HPB.out _ B4.out).mono ?_
  rintro e w5 ⟨Aq, cq, rfl, hq, hb5⟩
  have HQ := Lib.hid hq
  have HP := Lib.hid (HP.out.then_ hb5)
  have B5 := Lib.hid (below_next B4.out hb5)
  clear hq hb5 HPB B4 z1
  obtain ⟨p, hp⟩ : ∃ p, portsL l a ws = p := ⟨_, rfl⟩
  obtain ⟨q, hq⟩ : ∃ q, portsL l b ws = q := ⟨_, rfl⟩
  rw [hp] at HP HPL HMP ⊢
  rw [hq] at HQ HQL HMP ⊢
  clear hp hq
  have G5 := Lib.hid (G.out.then_ B5.out)
  have B6 := Lib.hid (below_next B3.out B5.out)
  clear B3 B5 G
  go_upto_region 13 with fail
  obtain ⟨W6, hW6⟩ : ∃ W6, w5.alloc (.cells #[.int .i64 a, .int .i64 b, .int .i64 b, .int .i64 a] 67) = W6 := ⟨_, rfl⟩
  have hb6 : Below w5.heap.size w5 W6 := by rw [← hW6]; exact below_alloc (Below.refl _ _) _
  have q0 : W6.cell? ⟨w5.heap.size, 0, none⟩ = some (.int .i64 a) := by rw [← hW6]; exact new_cell rfl
  have q1 : W6.cell? ⟨w5.heap.size, 1, none⟩ = some (.int .i64 b) := by rw [← hW6]; exact new_cell rfl
  have q2 : W6.cell? ⟨w5.heap.size, 2, none⟩ = some (.int .i64 b) := by rw [← hW6]; exact new_cell rfl
  have q3 : W6.cell? ⟨w5.heap.size, 3, none⟩ = some (.int .i64 a) := by rw [← hW6]; exact new_cell rfl
  have G6 := Lib.hid (G5.out.then_ hb6)
  have P6 := Lib.hid (HP.out.then_ hb6)
  have Q6 := Lib.hid (HQ.out.then_ hb6)
  have B7 := Lib.hid (below_next B6.out hb6)
  rw [hW6]
  obtain ⟨h6, hh6⟩ : ∃ h6, w5.heap.size = h6 := ⟨_, rfl⟩
  rw [hh6] at q0 q1 q2 q3 ⊢
  have HC6 := Lib.hid (fun (i : Nat) (hi : i < 2) => (show ∃ x y : Int, W6.cell? ⟨h6, i * 2, none⟩ = some (.int .i64 x) ∧ W6.cell? ⟨h6, i * 2 + 1, none⟩ = some (.int .i64 y) ∧ (∀ n0, Walk l x y n0 0 x n0) ∧ nestB l a b (i + 1) = (nestB l a b i || meetB l x y) from by
    rcases (show i = 0 ∨ i = 1 by omega) with rfl | rfl
    · exact ⟨a, b, q0, q1, WKA.out b, rfl⟩
    · exact ⟨b, a, q2, q3, WKB.out a, rfl⟩))
  clear hW6 hh6 hb6 q0 q1 q2 q3 HP HQ G5 B6
  go_loopw [21, 23, 24, 25, 82] (fun nb _ _ _ i wr => ∃ i' : Nat, i' ≤ 2 ∧ i = .int .i64 (i' : Int) ∧ nb = .bool (nestB l a b i') ∧ Below W6.heap.size W6 wr) (fun _ _ _ _ i _ => 3 - (intOf i).toNat)
  case atStart => exact ⟨0, by omega, rfl, rfl, Below.refl _ _⟩
  case round =>
    obtain ⟨i, hi2, rfl, rfl, hB⟩ := hrel
    have HB := Lib.hid hB
    clear hB
    by_cases hi : i < 2
    · have hiI : (i : Int) < 2 := by omega
      have hi0 : (0 : Int) ≤ (i : Int) := by omega
      obtain ⟨x, y, r0, r1, hwk, hns⟩ := HC6.out i hi
      have r0 := cell_then HB.out r0
      have r1 := cell_then HB.out r1
      have HNS := Lib.hid hns
      obtain ⟨n0, hn0⟩ : ∃ n0, nestB l a b i = n0 := ⟨_, rfl⟩
      rw [hn0] at HNS ⊢
      have HWK := Lib.hid (hwk n0)
      clear hwk hns hn0
      go_upto_region 15 with fail
      obtain ⟨W7, hW7⟩ : ∃ W7, wr.alloc (.cells #[.int .i64 x, .int .i64 y] 67) = W7 := ⟨_, rfl⟩
      have hb7 : Below wr.heap.size wr W7 := by rw [← hW7]; exact below_alloc (Below.refl _ _) _
      have s0 : W7.cell? ⟨wr.heap.size, 0, none⟩ = some (.int .i64 x) := by rw [← hW7]; exact new_cell rfl
      have s1 : W7.cell? ⟨wr.heap.size, 1, none⟩ = some (.int .i64 y) := by rw [← hW7]; exact new_cell rfl
      have HB7 := Lib.hid (below_next HB.out hb7)
      have G7 := Lib.hid (G6.out.then_ HB7.out)
      rw [hW7]
      obtain ⟨h7, hh7⟩ : ∃ h7, wr.heap.size = h7 := ⟨_, rfl⟩
      rw [hh7] at s0 s1 ⊢
      have HS1 := Lib.hid s1
      clear hW7 hh7 hb7 r0 r1 s1
      have HF := Lib.hid (fun z W (hW : Below W7.heap.size W7 W) => find_any _ cg l z W (G7.out.then_ hW) (by omega))
      go_wp2_with fail
      refine (HF.out _ _ (Below.refl _ _)).mono ?_
      rintro e w8 ⟨rfl, rfl⟩
      clear s0
      go_wp2_with fail
      go_loopw [21, 24, 25] (fun nb at_ st wx => ∃ (s : Nat) (z : Int) (b : Bool), nb = .bool b ∧ at_ = .int .i64 (idxI l z) ∧ st = .int .i64 (s : Int) ∧ Walk l x y n0 s z b ∧ Below W7.heap.size W7 wx) (fun _ _ st _ => 25 - (intOf st).toNat)
      case atStart => exact ⟨0, x, n0, rfl, rfl, rfl, HWK.out, Below.refl _ _⟩
      case round =>
        obtain ⟨s, z, nb, rfl, rfl, rfl, hwk, hB8⟩ := hrel
        have HB8 := Lib.hid hB8
        clear hB8
        rcases hwk.cases V.out with ⟨hix, hnb⟩ | ⟨k2, hk2, hix, hid, hs, hwk2⟩
        · rw [hix]
          have HNB := Lib.hid (show nestB l a b (i + 1) = nb from HNS.out.trans hnb.symm)
          have HB9 := Lib.hid (below_next HB7.out HB8.out)
          clear hwk hix hnb HF HB8
          go_wp2_with fail
          exact ⟨⟨i + 1, by omega, by go_num, by rw [HNB.out], HB9.out⟩, by simp [intOf]; omega⟩
        · rw [hix]
          have hk0 : (0 : Int) ≤ (k2 : Int) := by omega
          have hkI : (k2 : Int) < (l.length : Int) := by omega
          have hsI : (s : Int) < 24 := by omega
          have hs0 : (0 : Int) ≤ (s : Int) := by omega
          have G8 := Lib.hid (G7.out.then_ HB8.out)
          have t1 := cell_then HB8.out HS1.out
          obtain ⟨⟨bg, og, hA3, hgc⟩, _⟩ := G8.out k2 hk2
          injection hA3 with hA3
          injection hA3 with hA3 hA4
          subst hA3 hA4
          have c0 := hgc.id
          have c1 := hgc.of
          rw [hid, Nat.zero_add] at c0
          rw [Nat.zero_add] at c1
          obtain ⟨f, hf⟩ : ∃ f, (l.getD k2 g0).of = f := ⟨_, rfl⟩
          rw [hf] at c1 hwk2
          have g_1 := fun D os => cell_regrown c0 D os
          have g_2 := fun D os => cell_regrown t1 D os
          have HW2 := Lib.hid hwk2
          clear hwk hix hid hwk2 hf hgc c0 t1
          cases nb with
          | true =>
            go_wp2_with fail
            refine wp_region_quiet_below (by kernel_rfl) (by kernel_rfl) ?_
            repeat (go_big_quiet_step (fail))
            refine wpQuiet_nil ?_
            intro wq hq0
            have hq := below_of_class hq0
            clear hq0
            have HB9 := Lib.hid (below_next HB8.out hq)
            have c1 := cell_then hq c1
            clear g_1 g_2 hq
            go_wp2_with fail
            refine (HF.out _ _ HB9.out).mono ?_
            rintro e w8 ⟨rfl, rfl⟩
            go_wp2_with fail
            exact ⟨⟨s + 1, f, true, rfl, rfl, by go_num, HW2.out, HB9.out⟩, by simp [intOf]; omega⟩
          | false =>
            go_wp2_with fail
            refine wp_region_quiet_below (by kernel_rfl) (by kernel_rfl) ?_
            repeat (go_big_quiet_step (fail))
            refine wpQuiet_nil ?_
            intro wq hq0
            have hq := below_of_class hq0
            clear hq0
            have HB9 := Lib.hid (below_next HB8.out hq)
            have c1 := cell_then hq c1
            clear g_1 g_2 hq
            go_wp2_with fail
            refine (HF.out _ _ HB9.out).mono ?_
            rintro e w8 ⟨rfl, rfl⟩
            go_wp2_with fail
            exact ⟨⟨s + 1, f, z == y, rfl, rfl, by go_num, HW2.out, HB9.out⟩, by simp [intOf]; omega⟩
    · have hi2e : i = 2 := by omega
      subst hi2e
      have B8 := Lib.hid (below_next B7.out HB.out)
      have P8 := Lib.hid (P6.out.then_ HB.out)
      have Q8 := Lib.hid (Q6.out.then_ HB.out)
      rw [nestB_two]
      obtain ⟨nst, hnst⟩ : ∃ nst, (meetB l a b || meetB l b a) = nst := ⟨_, rfl⟩
      rw [hnst] at HMP ⊢
      clear hnst hi HB P6 Q6 B7 HC6
      rename World => W8
      have hpl := HPL.out
      have hql := HQL.out
      go_wp2_with fail
      go_loopw [26, 27] (fun i _ wx => ∃ i' : Nat, i' ≤ p.length ∧ i = .int .i64 (i' : Int) ∧ Below W8.heap.size W8 wx) (fun i _ _ => p.length - (intOf i).toNat)
      case atStart => exact ⟨0, by omega, rfl, Below.refl _ _⟩
      case round =>
        obtain ⟨i, hi, rfl, hB⟩ := hrel
        have HB := Lib.hid hB
        clear hB
        by_cases hip : i < p.length
        · have hiI : (i : Int) < (p.length : Int) := by omega
          have hi0 : (0 : Int) ≤ (i : Int) := by omega
          go_wp2_with fail
          go_loopw [27] (fun k wx => ∃ k' : Nat, k' ≤ q.length ∧ k = .int .i64 (k' : Int) ∧ Below W8.heap.size W8 wx) (fun k _ => q.length - (intOf k).toNat)
          case atStart => exact ⟨0, by omega, rfl, HB.out⟩
          case round =>
            obtain ⟨k, hk, rfl, hB⟩ := hrel
            have HB := Lib.hid hB
            clear hB
            by_cases hkq : k < q.length
            · have hkI : (k : Int) < (q.length : Int) := by omega
              have hk0 : (0 : Int) ≤ (k : Int) := by omega
              obtain ⟨b1, o1, rfl, c0, c1, c2⟩ := (P8.out.then_ HB.out) i hip
              obtain ⟨b2, o2, rfl, e0, e1, e2⟩ := (Q8.out.then_ HB.out) k hkq
              have hmp := HMP.out _ _ (mem_getD (d := p0) hip) (mem_getD (d := p0) hkq)
              obtain ⟨⟨pw, pi, pd⟩, hpe⟩ : ∃ u, p.getD i p0 = u := ⟨_, rfl⟩
              obtain ⟨⟨qw, qi, qd⟩, hqe⟩ : ∃ u, q.getD k p0 = u := ⟨_, rfl⟩
              rw [hpe] at c0 c1 hmp
              rw [hqe] at e0 e1 hmp
              dsimp only at c0 c1 e0 e1 hmp
              have g_1 := fun D os => cell_regrown c0 D os
              have g_2 := fun D os => cell_regrown c1 D os
              have g_3 := fun D os => cell_regrown e0 D os
              have g_4 := fun D os => cell_regrown e1 D os
              clear c0 c1 c2 e0 e1 e2 hpe hqe
              by_cases hwq : pw = qw
              · have hwb : (pw == qw) = true := by rw [hwq]; simp
                have hm := hmp hwq
                have hmm : (!((pi == qi) == nst)) = false := by rw [hm]; simp
                clear hmp hwq hm
                go_wp2_with fail
                refine wp_region_quiet_below (by kernel_rfl) (by kernel_rfl) ?_
                repeat (go_big_quiet_step (fail))
                refine wpQuiet_nil ?_
                intro wq hq0
                have hq := below_of_class hq0
                clear hq0
                have HB2 := Lib.hid (below_next HB.out hq)
                clear g_1 g_2 g_3 g_4 hq
                go_wp2_with fail
                exact ⟨⟨k + 1, by omega, by go_num, HB2.out⟩, by simp [intOf]; omega⟩
              · have hwb : (pw == qw) = false := by rw [beq_eq_false_iff_ne]; exact hwq
                clear hmp hwq
                go_wp2_with fail
                refine wp_region_quiet_below (by kernel_rfl) (by kernel_rfl) ?_
                repeat (go_big_quiet_step (fail))
                refine wpQuiet_nil ?_
                intro wq hq0
                have hq := below_of_class hq0
                clear hq0
                have HB2 := Lib.hid (below_next HB.out hq)
                clear g_1 g_2 g_3 g_4 hq
                go_wp2_with fail
                exact ⟨⟨k + 1, by omega, by go_num, HB2.out⟩, by simp [intOf]; omega⟩
            · have hkI : ¬ (k : Int) < (q.length : Int) := by omega
              go_wp2_with fail
              exact ⟨⟨i + 1, by omega, by go_num, HB.out⟩, by simp [intOf]; omega⟩
        · have hiI : ¬ (i : Int) < (p.length : Int) := by omega
          go_wp2_with fail
          go_ret
          exact ⟨rfl, below_next B8.out HB.out⟩
end Go.Proofs.Ytebfenkjipaedaa.Gr
