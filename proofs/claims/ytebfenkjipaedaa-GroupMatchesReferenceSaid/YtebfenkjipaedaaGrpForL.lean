/- GroupForest: the law. -/
import Derived.Test.YtebfenkjipaedaaGrpComL
import Derived.Test.YtebfenkjipaedaaGrpDisP
namespace Go.Proofs.Ytebfenkjipaedaa.Gr
open Go.RowKit Gp Go.Sort
attribute [local go_sem] Oper.semAt_some
theorem idxI_valid {l : List Grp} (h : Valid l) {k : Nat} (hk : k < l.length) {x : Int} (hx : (l.getD k g0).id = x) : idxI l x = (k : Int) :=
  idxI_some hk hx (fun j hj e => by have := h.inj (j := j) (k := k) (by omega) hk (by rw [e, hx]); omega)
theorem find_there {A : Option Addr} (c : Nat) {l : List Grp} {k : Nat} {w : World} (hG : GrpsAt w A l) (hv : Valid l) (hk : k < l.length) {x : Int} (hx : (l.getD k g0).id = x) :
    Calls Try.prog 33 #[.slice A l.length c, .int .i64 x] w fun e w' => e = .returned (.int .i64 (k : Int)) ∧ w = w' := by
  have h := find_any A c l x w hG (by have := hv.len; omega)
  rw [idxI_valid hv hk hx] at h
  exact h
/-- as a call that turns nothing -/
theorem has_below (A : Option Addr) (c : Nat) (l : List Int) (x : Int) (w : World) (b : Bool) (hb : l.contains x = b) (hl : l.length ≤ 100000) (h : IntsAt w A l) :
    Calls Try.prog 34 #[.slice A l.length c, .int .i64 x] w fun e w' => e = .returned (.bool b) ∧ Below w.heap.size w w' :=
  (has_any A c l x w hl h).mono (fun _ _ ⟨h1, h2⟩ => ⟨by rw [← hb]; exact h1, by rw [← h2]; exact Below.refl _ _⟩)
theorem below_len {l : List Grp} (hS : Sized l) (hv : Valid l) (id : Int) : (below l id).length ≤ 100000 := by
  unfold below
  rw [sortI_length]
  have := bel_len (id := id) hS l.length (Nat.le_refl _)
  have := hv.len
  omega
set_option maxRecDepth 100000 in
set_option maxHeartbeats 4000000 in
theorem forest_law (A : Option Addr) (c : Nat) (rows : List (Int × Int)) (B : Option Addr) (cb : Nat) (codes : List Int) (one : Int) (w : World) (hA : P2At w A rows) (hAO : P2Ok rows) (hAl : rows.length ≤ 9223372036854775807) (hB : IntsAt w B codes) (hBO : IsOk codes) (hBl : codes.length ≤ 9223372036854775807)
    (h1 : I64 one) :
    Calls Try.prog 4 #[.slice A rows.length c, .slice B codes.length cb, .int .i64 one] w fun e w' => e = .returned (.bool true) ∧ Below w.heap.size w w' := by
  have HS := Lib.hid (sane_any w)
  have HM := Lib.hid (fun W (hW : Below w.heap.size w W) => made_any A c rows B cb codes W (hA.then_ hW) hAO hAl (hB.then_ hW) hBO hBl)
  have HP1 := Lib.hid (fun W => pickL_any one 17 W h1 (by omega) (by omega))
  obtain ⟨P, hP⟩ : ∃ P, pickI one 17 = P := ⟨_, rfl⟩
  obtain ⟨p0, p1⟩ := pickI_bd one (n := 17) (by omega)
  rw [hP] at HP1 p0 p1
  clear hA hAO hB hBO hP h1
  go_enter Try.func4, Try.ntmps4
  go_wp2_with fail
  refine HS.out.mono ?_
  rintro e w1 ⟨rfl, b1⟩
  have B1 := Lib.hid b1
  clear b1 HS
  go_wp2_with fail
  refine (HM.out _ B1.out).mono ?_
  rintro e w2 ⟨l, g, cg, rfl, hl1, hl2, hl3, hb⟩
  obtain ⟨_, _, e, _, hG⟩ := hl3.at rfl
  injection e with e1 _ e3
  subst e1 e3
  have B2 := Lib.hid (below_next B1.out hb)
  have V := Lib.hid hl2.valid
  have S := Lib.hid (hl2.sized (Nat.le_refl _))
  have G := Lib.hid hG
  clear hl1 hl2 hl3 hb hG B1 HM
  have hwp := wrapP p0 p1
  have IP := Lib.hid (i64P p0 p1)
  go_wp2_with fail
  refine (HP1.out _).mono ?_
  rintro e w3 ⟨rfl, rfl⟩
  go_wp2_with fail
  obtain ⟨a, ha⟩ : ∃ a, 10 * (1 + P) = a := ⟨_, rfl⟩
  rw [ha] at IP
  rw [ha]
  clear hwp ha
  refine (gpath_yes _ cg l a _ G.out S.out V.out IP.out).mono ?_
  rintro e w3 ⟨_, rfl, ⟨Ap, cp, rfl, _, hip, _⟩, hb⟩
  have G := Lib.hid (G.out.then_ hb)
  have B3 := Lib.hid (below_next B2.out hb)
  have HIP := Lib.hid hip
  have HST := Lib.hid (fun i (hi : i < (path l a).length) => path_step V.out hi)
  have HMB := Lib.hid (fun id => mem_below V.out id a)
  have HPS := Lib.hid (fun k (hk : k < l.length) (hc : (l.getD k g0).ms.contains a = true) => path_some V.out hk hc)
  clear hip hb B2
  have hp12 := path_len l a
  obtain ⟨p, hp⟩ : ∃ p, path l a = p := ⟨_, rfl⟩
  rw [hp] at HIP hp12 HST HMB HPS ⊢
  have hp12I : ¬ (12 : Int) < (p.length : Int) := by omega
  have hll := V.out.len
  clear hp
  go_wp2_with fail
  clear hp12I
  go_loopw [11, 12, 13] (fun o i _ wr => ∃ (k : Nat), k ≤ p.length ∧ i = .int .i64 (k : Int) ∧ o = .int .i64 (if k = 0 then -1 else p.getD (k - 1) 0) ∧ Below w3.heap.size w3 wr) (fun _ i _ _ => 13 - (intOf i).toNat)
  case atStart => exact ⟨0, by omega, rfl, rfl, Below.refl _ _⟩
  case round =>
    obtain ⟨k, hk1, rfl, rfl, hB4⟩ := hrel
    have HB4 := Lib.hid hB4
    clear hB4
    by_cases hkp : k < p.length
    · have hkpI : (k : Int) < (p.length : Int) := by omega
      have hk0 : (0 : Int) ≤ (k : Int) := by omega
      obtain ⟨bp, op, hAp, hcp⟩ := (HIP.out.then_ HB4.out) k hkp
      subst hAp
      obtain ⟨m, hm, hmi, hmo, hmc⟩ := HST.out k hkp
      obtain ⟨z, hz⟩ : ∃ z : Int, (if k = 0 then -1 else p.getD (k - 1) 0) = z := ⟨_, rfl⟩
      obtain ⟨x, hx⟩ : ∃ x, p.getD k 0 = x := ⟨_, rfl⟩
      rw [hz] at hmo ⊢
      rw [hx] at hcp hmi
      have HXX := Lib.hid hx
      have G4 := Lib.hid (G.out.then_ HB4.out)
      have HF := Lib.hid (find_there cg G4.out V.out hm hmi)
      obtain ⟨⟨bg, og, hA3, hgc⟩, Am, cm, hv, _, him, _⟩ := G4.out m hm
      injection hA3 with hA3
      injection hA3 with hA3 hA4
      subst hA3 hA4
      have g1 := hgc.of
      have g2 := hgc.v
      rw [hmo, Nat.zero_add] at g1
      rw [hv, Nat.zero_add] at g2
      have hml := S.out.mlen m hm
      have HHM := Lib.hid (fun b hb => has_below Am cm (l.getD m g0).ms a wr b hb (by omega) him)
      obtain ⟨mn, hmn⟩ : ∃ mn, (l.getD m g0).ms.length = mn := ⟨_, rfl⟩
      have hmm : ¬ (m : Int) < 0 := by omega
      have hm0 : (0 : Int) ≤ (m : Int) := by omega
      have hmI : (m : Int) < (l.length : Int) := by omega
      have hzz : (z != z) = false := by simp
      rw [hmn] at HHM g2
      have HMC := Lib.hid hmc
      clear hz hx hmi hmo hmc hgc hv him hml hmn
      by_cases he : k + 1 = p.length
      · have hlast : ((k : Int) == (p.length : Int) - 1) = true := by rw [beq_iff_eq]; omega
        have HHT := Lib.hid (HHM.out true (by rw [HMC.out]; exact decide_eq_true he))
        clear HHM
        go_wp2_with fail
        refine HF.out.mono ?_
        rintro e w4 ⟨rfl, rfl⟩
        go_wp2_with fail
        refine HHT.out.mono ?_
        rintro e w5 ⟨rfl, hb⟩
        have B5 := Lib.hid (below_next HB4.out hb)
        have hcp := cell_then hb hcp
        clear g1 g2 hb
        go_wp2_with fail
        refine ⟨⟨k + 1, by omega, by go_num, by rw [if_neg (by omega)]; simp only [Nat.add_sub_cancel]; rw [HXX.out], B5.out⟩, ?_⟩
        simp [intOf]; omega
      · have hlast : ((k : Int) == (p.length : Int) - 1) = false := by rw [beq_eq_false_iff_ne]; omega
        have HHT := Lib.hid (HHM.out false (by rw [HMC.out]; exact decide_eq_false he))
        clear HHM
        go_wp2_with fail
        refine HF.out.mono ?_
        rintro e w4 ⟨rfl, rfl⟩
        go_wp2_with fail
        refine HHT.out.mono ?_
        rintro e w5 ⟨rfl, hb⟩
        have B5 := Lib.hid (below_next HB4.out hb)
        have hcp := cell_then hb hcp
        clear g1 g2 hb
        go_wp2_with fail
        refine ⟨⟨k + 1, by omega, by go_num, by rw [if_neg (by omega)]; simp only [Nat.add_sub_cancel]; rw [HXX.out], B5.out⟩, ?_⟩
        simp [intOf]; omega
    · have hkpI : ¬ (k : Int) < (p.length : Int) := by omega
      have B4 := Lib.hid (below_next B3.out HB4.out)
      have G4 := Lib.hid (G.out.then_ HB4.out)
      have HIP4 := Lib.hid (HIP.out.then_ HB4.out)
      clear HST HB4
      rename World => W4
      generalize (if k = 0 then (-1 : Int) else p.getD (k - 1) 0) = z0
      go_wp2_with fail
      go_loopw [14, 15, 16, 17] (fun i _ _ _ wx => ∃ (q : Nat), q ≤ l.length ∧ i = .int .i64 (q : Int) ∧ Below W4.heap.size W4 wx) (fun i _ _ _ _ => 25 - (intOf i).toNat)
      case atStart => exact ⟨0, by omega, rfl, Below.refl _ _⟩
      case round =>
        obtain ⟨q, hq1, rfl, hB5⟩ := hrel
        have HB5 := Lib.hid hB5
        clear hB5
        by_cases hql : q < l.length
        · have hqI : (q : Int) < (l.length : Int) := by omega
          have hq0 : (0 : Int) ≤ (q : Int) := by omega
          have G5 := Lib.hid (G4.out.then_ HB5.out)
          obtain ⟨⟨bg, og, hA3, hgc⟩, Am, cm, hv, _, him, _⟩ := G5.out q hql
          injection hA3 with hA3
          injection hA3 with hA3 hA4
          subst hA3 hA4
          have g1 := hgc.id
          rw [Nat.zero_add] at g1
          obtain ⟨x, hx⟩ : ∃ x, (l.getD q g0).id = x := ⟨_, rfl⟩
          rw [hx] at g1
          have hfx : (find l x).isSome = true := by rw [← hx, V.out.find (mem_getD hql)]; rfl
          have HBL := Lib.hid (below_yes _ cg l x _ G5.out S.out V.out (by rw [← hx]; exact S.out.id q hql) hfx)
          have HX := Lib.hid hx
          clear hgc hv him hfx hx
          go_wp2_with fail
          refine HBL.out.mono ?_
          rintro e w6 ⟨v, rfl, hown, hb⟩
          obtain ⟨Ab, cb2, rfl, hcb⟩ := own_slice hown
          obtain ⟨bl, hbl⟩ : ∃ bl, below l x = bl := ⟨_, rfl⟩
          have HMX := Lib.hid (HMB.out x)
          have HBP := Lib.hid (fun j => below_asc V.out x (k := j))
          have hbll := below_len S.out V.out x
          obtain ⟨_, _, e, _, hib, _⟩ := ms_of_own hown
          injection e with e1 _ e3
          subst e1 e3
          rw [hbl] at hib hbll HMX HBP ⊢
          have HIB := Lib.hid hib
          have B6 := Lib.hid (below_next HB5.out hb)
          have hb6 := hb
          clear hown hib hcb g1 HBL hb hbl
          have GX := G5.out.then_ hb6
          obtain ⟨⟨bg, og, hA3, hgc⟩, Am, cm, hv, _, him, _⟩ := GX q hql
          injection hA3 with hA3
          injection hA3 with hA3 hA4
          subst hA3 hA4
          have g1 := hgc.id
          have g2 := hgc.v
          rw [HX.out, Nat.zero_add] at g1
          rw [hv, Nat.zero_add] at g2
          have hml := S.out.mlen q hql
          obtain ⟨mn, hmn⟩ : ∃ mn, (l.getD q g0).ms.length = mn := ⟨_, rfl⟩
          rw [hmn] at g2
          obtain ⟨s, hs⟩ : ∃ s, p.contains x = s := ⟨_, rfl⟩
          have hs2 := HMX.out.trans hs
          have HIP6 := Lib.hid ((HIP4.out.then_ HB5.out).then_ hb6)
          have C1 := Lib.hid (fun D os => has_below Ab cb2 bl a (grow (redrawn w6 D) os) s hs2 hbll (HIB.out.then_ (below_regrown w6 D os)))
          have C2 := Lib.hid (fun D os => has_below Ap cp p x (grow (redrawn w6 D) os) s hs (by omega) (HIP6.out.then_ (below_regrown w6 D os)))
          have hss : (s != s) = false := by simp
          have g_1 := fun D os => cell_regrown g1 D os
          have g_2 := fun D os => cell_regrown g2 D os
          clear hb6 GX hgc hv hs hs2
          cases hy : (l.getD q g0).ms.contains a with
          | true =>
            have hpz : ((p.length : Int) == 0) = false := by
              rw [beq_eq_false_iff_ne]
              have := HPS.out q hql hy
              omega
            have C3 := Lib.hid (fun D os => has_below Am cm (l.getD q g0).ms a (grow (redrawn w6 D) os) true hy (by omega) (him.then_ (below_regrown w6 D os)))
            rw [hmn] at C3
            clear hy him hmn hml
            go_wp2_with fail
            refine wp_region_quiet_below (by kernel_rfl) (by kernel_rfl) ?_
            repeat (go_big_quiet_step (first | (with_reducible exact Calls.regrown_of (C1.out _ _)) | (with_reducible exact Calls.regrown_of (C2.out _ _)) | (with_reducible exact Calls.regrown_of (C3.out _ _))))
            refine wpQuiet_nil ?_
            intro wq hq0
            have hq := below_of_class hq0
            clear hq0
            clear g_1 g_2 g1 g2 hss C1 C2 C3
            have B7 := Lib.hid (below_next B6.out hq)
            have HIB7 := Lib.hid (HIB.out.then_ hq)
            clear hq
            have W7e : ∃ W7, W7 = wq := ⟨_, rfl⟩
            clear W7e
            go_wp2_with fail
            go_loopw [17] (fun i wx => ∃ (j : Nat), (j + 1 ≤ bl.length ∨ j = 0) ∧ i = .int .i64 ((j : Int) + 1) ∧ Below wq.heap.size wq wx) (fun i _ => 100002 - (intOf i).toNat)
            case atStart => exact ⟨0, .inr rfl, rfl, Below.refl _ _⟩
            case round =>
              obtain ⟨j, hj, rfl, hB8⟩ := hrel
              have HB8 := Lib.hid hB8
              clear hB8
              by_cases hjl : j + 1 < bl.length
              · have hjI : (j : Int) + 1 < (bl.length : Int) := by omega
                have hj0 : (0 : Int) ≤ (j : Int) := by omega
                have hj1 : (0 : Int) ≤ (j : Int) + 1 := by omega
                have hjJ : (j : Int) < (bl.length : Int) := by omega
                obtain ⟨bb, ob, hAb, d1⟩ := (HIB7.out.then_ HB8.out) (j + 1) hjl
                obtain ⟨b2, o2, hA2, d0⟩ := (HIB7.out.then_ HB8.out) j (by omega)
                subst hAb
                injection hA2 with hA2
                injection hA2 with hA2 hA3
                subst hA2 hA3
                have hlt := HBP.out j hjl
                obtain ⟨u, hu⟩ : ∃ u, bl.getD j 0 = u := ⟨_, rfl⟩
                obtain ⟨v, hv⟩ : ∃ v, bl.getD (j + 1) 0 = v := ⟨_, rfl⟩
                rw [hu] at d0 hlt
                rw [hv] at d1 hlt
                have hdec : decide (v ≤ u) = false := decide_eq_false (by omega)
                have hw1 : IntKind.i64.wrap ((j : Int) + 1 - 1) = (j : Int) := by rw [Int.add_sub_cancel]; exact IntWalk.i64_in _ (by omega)
                have g_1 := fun D os => cell_regrown d0 D os
                have g_2 := fun D os => cell_regrown d1 D os
                clear hu hv hlt
                go_wp2_with fail
                refine wp_region_quiet_below (by kernel_rfl) (by kernel_rfl) ?_
                repeat (go_big_quiet_step (fail))
                refine wpQuiet_nil ?_
                intro wq hq0
                have hq := below_of_class hq0
                clear hq0
                have B9 := Lib.hid (below_next HB8.out hq)
                clear g_1 g_2 hq
                go_wp2_with fail
                exact ⟨⟨j + 1, .inl (by omega), by go_num, B9.out⟩, by simp [intOf]; omega⟩
              · have hjI : ¬ (j : Int) + 1 < (bl.length : Int) := by omega
                have B9 := Lib.hid (below_next B7.out HB8.out)
                go_wp2_with fail
                exact ⟨⟨q + 1, by omega, by go_num, B9.out⟩, by simp [intOf]; omega⟩
          | false =>
            have C3 := Lib.hid (fun D os => has_below Am cm (l.getD q g0).ms a (grow (redrawn w6 D) os) false hy (by omega) (him.then_ (below_regrown w6 D os)))
            rw [hmn] at C3
            clear hy him hmn hml
            go_wp2_with fail
            refine wp_region_quiet_below (by kernel_rfl) (by kernel_rfl) ?_
            repeat (go_big_quiet_step (first | (with_reducible exact Calls.regrown_of (C1.out _ _)) | (with_reducible exact Calls.regrown_of (C2.out _ _)) | (with_reducible exact Calls.regrown_of (C3.out _ _))))
            refine wpQuiet_nil ?_
            intro wq hq0
            have hq := below_of_class hq0
            clear hq0
            clear g_1 g_2 g1 g2 hss C1 C2 C3
            have B7 := Lib.hid (below_next B6.out hq)
            have HIB7 := Lib.hid (HIB.out.then_ hq)
            clear hq
            have W7e : ∃ W7, W7 = wq := ⟨_, rfl⟩
            clear W7e
            go_wp2_with fail
            go_loopw [17] (fun i wx => ∃ (j : Nat), (j + 1 ≤ bl.length ∨ j = 0) ∧ i = .int .i64 ((j : Int) + 1) ∧ Below wq.heap.size wq wx) (fun i _ => 100002 - (intOf i).toNat)
            case atStart => exact ⟨0, .inr rfl, rfl, Below.refl _ _⟩
            case round =>
              obtain ⟨j, hj, rfl, hB8⟩ := hrel
              have HB8 := Lib.hid hB8
              clear hB8
              by_cases hjl : j + 1 < bl.length
              · have hjI : (j : Int) + 1 < (bl.length : Int) := by omega
                have hj0 : (0 : Int) ≤ (j : Int) := by omega
                have hj1 : (0 : Int) ≤ (j : Int) + 1 := by omega
                have hjJ : (j : Int) < (bl.length : Int) := by omega
                obtain ⟨bb, ob, hAb, d1⟩ := (HIB7.out.then_ HB8.out) (j + 1) hjl
                obtain ⟨b2, o2, hA2, d0⟩ := (HIB7.out.then_ HB8.out) j (by omega)
                subst hAb
                injection hA2 with hA2
                injection hA2 with hA2 hA3
                subst hA2 hA3
                have hlt := HBP.out j hjl
                obtain ⟨u, hu⟩ : ∃ u, bl.getD j 0 = u := ⟨_, rfl⟩
                obtain ⟨v, hv⟩ : ∃ v, bl.getD (j + 1) 0 = v := ⟨_, rfl⟩
                rw [hu] at d0 hlt
                rw [hv] at d1 hlt
                have hdec : decide (v ≤ u) = false := decide_eq_false (by omega)
                have hw1 : IntKind.i64.wrap ((j : Int) + 1 - 1) = (j : Int) := by rw [Int.add_sub_cancel]; exact IntWalk.i64_in _ (by omega)
                have g_1 := fun D os => cell_regrown d0 D os
                have g_2 := fun D os => cell_regrown d1 D os
                clear hu hv hlt
                go_wp2_with fail
                refine wp_region_quiet_below (by kernel_rfl) (by kernel_rfl) ?_
                repeat (go_big_quiet_step (fail))
                refine wpQuiet_nil ?_
                intro wq hq0
                have hq := below_of_class hq0
                clear hq0
                have B9 := Lib.hid (below_next HB8.out hq)
                clear g_1 g_2 hq
                go_wp2_with fail
                exact ⟨⟨j + 1, .inl (by omega), by go_num, B9.out⟩, by simp [intOf]; omega⟩
              · have hjI : ¬ (j : Int) + 1 < (bl.length : Int) := by omega
                have B9 := Lib.hid (below_next B7.out HB8.out)
                go_wp2_with fail
                exact ⟨⟨q + 1, by omega, by go_num, B9.out⟩, by simp [intOf]; omega⟩
        · have hqI : ¬ (q : Int) < (l.length : Int) := by omega
          go_wp2_with fail
          go_ret
          exact ⟨rfl, below_next B4.out HB5.out⟩
end Go.Proofs.Ytebfenkjipaedaa.Gr
