/- GroupDissolves: the law. -/
import Derived.Test.YtebfenkjipaedaaGrpForL
namespace Go.Proofs.Ytebfenkjipaedaa.Gr
open Go.RowKit Gp Go.Sort
attribute [local go_sem] Oper.semAt_some
theorem disM_len (gone g : Grp) : (disM gone g).length ≤ g.ms.length + gone.ms.length := by
  unfold disM
  split
  · rw [sortI_length, List.length_append]; omega
  · omega
theorem Dis.sized {l m : List Grp} {gone : Grp} (h : Dis l m gone) (hl : ∀ j, j < l.length → (l.getD j g0).ms.length ≤ 16) : Sized m := h.valid.sized (fun j hj => by
  obtain ⟨g, h1, _, h3⟩ := h.of (mem_getD (d := g0) hj)
  rw [(key_id h3).2.2]
  have := disM_len gone g
  obtain ⟨i, hi, e⟩ := ex_getD g0 h1
  obtain ⟨k, hk, e2⟩ := ex_getD g0 h.g
  have h4 := hl i hi
  have h5 := hl k hk
  rw [e] at h4
  rw [e2] at h5
  omega)
set_option maxRecDepth 100000 in
set_option maxHeartbeats 8000000 in
theorem dissolves_law (A : Option Addr) (c : Nat) (rows : List (Int × Int)) (B : Option Addr) (cb : Nat) (codes : List Int) (one two : Int) (w : World) (hA : P2At w A rows) (hAO : P2Ok rows) (hAl : rows.length ≤ 9223372036854775807) (hB : IntsAt w B codes) (hBO : IsOk codes) (hBl : codes.length ≤ 9223372036854775807)
    (h1 : I64 one) (h2 : I64 two) :
    Calls Try.prog 7 #[.slice A rows.length c, .slice B codes.length cb, .int .i64 one, .int .i64 two] w fun e w' => e = .returned (.bool true) ∧ Below w.heap.size w w' := by
  obtain ⟨j0, hj0, e0, e1, e2⟩ := info_parts int_info1
  have HS := Lib.hid (sane_any w)
  have HM := Lib.hid (fun W (hW : Below w.heap.size w W) => made_any A c rows B cb codes W (hA.then_ hW) hAO hAl (hB.then_ hW) hBO hBl)
  have HP1 := Lib.hid (fun (n : Nat) W (hn : 0 < (n : Int)) (hn2 : (n : Int) ≤ 9223372036854775807) => pickL_any one (n : Int) W h1 hn hn2)
  have HP2 := Lib.hid (fun W => pickL_any two 17 W h2 (by omega) (by omega))
  obtain ⟨Q, hQ⟩ : ∃ Q, pickI two 17 = Q := ⟨_, rfl⟩
  obtain ⟨q0, q1⟩ := pickI_bd two (n := 17) (by omega)
  rw [hQ] at HP2 q0 q1
  clear hA hAO hB hBO hQ h1 h2
  go_enter Try.func7, Try.ntmps7
  go_wp2_with fail
  refine HS.out.mono ?_
  rintro e w1 ⟨rfl, b1⟩
  have B1 := Lib.hid b1
  clear b1 HS
  go_wp2_with fail
  refine (HM.out _ B1.out).mono ?_
  rintro e w2 ⟨l, g, cg, rfl, hl1, hl2, hl3, hb⟩
  obtain ⟨_, _, e, _, hG⟩ := hl3.at rfl
  injection e with e1 _ e3
  subst e1 e3
  have B2 := Lib.hid (below_next B1.out hb)
  have V := Lib.hid hl2.valid
  have S := Lib.hid (hl2.sized (Nat.le_refl _))
  have G := Lib.hid hG
  have HML := Lib.hid hl2.len
  have hll14 := hl2.le
  have hll1 := hl1
  clear hl1 hl2 hl3 hb hG B1 HM
  have hwq := wrapP q0 q1
  have IQ := Lib.hid (i64P q0 q1)
  have hpb := pickI_bd one (n := (l.length : Int)) (by omega)
  have HPP := Lib.hid (HP1.out l.length w2 (by omega) (by omega))
  obtain ⟨P, hP⟩ : ∃ P, pickI one (l.length : Int) = P := ⟨_, rfl⟩
  rw [hP] at hpb HPP
  obtain ⟨hp0, hp1⟩ := hpb
  obtain ⟨k, rfl⟩ : ∃ k : Nat, P = (k : Int) := ⟨P.toNat, by omega⟩
  have hkl : k < l.length := by omega
  obtain ⟨⟨bg, og, hA3, hgc⟩, _⟩ := G.out k hkl
  injection hA3 with hA3
  injection hA3 with hA3 hA4
  subst hA3 hA4
  have g1 := hgc.id
  rw [Nat.zero_add] at g1
  obtain ⟨gone, hgone⟩ : ∃ gone, l.getD k g0 = gone := ⟨_, rfl⟩
  have hgm : gone ∈ l := by rw [← hgone]; exact mem_getD hkl
  rw [hgone] at g1
  have hI := S.out.id k hkl
  rw [hgone] at hI
  have HDI := Lib.hid (dissolve_yes _ cg l gone.id gone w2 G.out S.out V.out hI (V.out.find hgm))
  have HGM := Lib.hid hgm
  obtain ⟨id, hid⟩ : ∃ id, gone.id = id := ⟨_, rfl⟩
  rw [hid] at HDI g1 hI
  have HID := Lib.hid hid
  clear hgc hP hgone hgm hid HP1
  go_wp2_with fail
  refine HPP.out.mono ?_
  rintro e w3 ⟨rfl, rfl⟩
  clear HPP
  go_wp2_with fail
  clear g1 hp0 hp1
  refine HDI.out.mono ?_
  rintro e w3 ⟨Am, m, cm, rfl, _, hGm, hkm, hb⟩
  have D := Lib.hid (show Dis l m gone from ⟨V.out, HGM.out, by rw [hkm, HID.out]; unfold disN; rw [List.take_length]; exact dis_eq gone id l⟩)
  have Vm := Lib.hid D.out.valid
  have Sm := Lib.hid (D.out.sized HML.out)
  have G := Lib.hid (G.out.then_ hb)
  have Gm := Lib.hid hGm
  have B3 := Lib.hid (below_next B2.out hb)
  have hlen := D.out.len
  have hleq : ((m.length : Int) != (l.length : Int) - 1) = false := by
    have : (m.length : Int) = (l.length : Int) - 1 := by omega
    rw [this]; simp
  have HVA := Lib.hid (valid_any Am cm m w3 true Gm.out Sm.out ⟨fun _ => Vm.out, fun _ => rfl⟩)
  clear hGm hkm hb HDI B2
  go_wp2_with fail
  refine HVA.out.mono ?_
  rintro e w4 ⟨rfl, hb⟩
  have G := Lib.hid (G.out.then_ hb)
  have Gm := Lib.hid (Gm.out.then_ hb)
  have B4 := Lib.hid (below_next B3.out hb)
  clear hb B3 HVA
  go_wp2_with fail
  refine (HP2.out _).mono ?_
  rintro e w5 ⟨rfl, rfl⟩
  go_wp2_with fail
  obtain ⟨a, ha⟩ : ∃ a, 10 * (1 + Q) = a := ⟨_, rfl⟩
  rw [ha] at IQ
  rw [ha]
  clear hwq ha hleq
  refine (gpath_yes _ cg l a _ G.out S.out V.out IQ.out).mono ?_
  rintro e w5 ⟨_, rfl, ⟨Ap, cp, rfl, _, hip, _⟩, hb⟩
  have G := Lib.hid (G.out.then_ hb)
  have Gm := Lib.hid (Gm.out.then_ hb)
  have B5 := Lib.hid (below_next B4.out hb)
  have HIP := Lib.hid hip
  clear hip hb B4
  go_wp2_with fail
  refine (gpath_yes _ cm m a _ Gm.out Sm.out Vm.out IQ.out).mono ?_
  rintro e w6 ⟨_, rfl, ⟨Aq, cq, rfl, _, hiq, _⟩, hb⟩
  have G := Lib.hid (G.out.then_ hb)
  have Gm := Lib.hid (Gm.out.then_ hb)
  have B6 := Lib.hid (below_next B5.out hb)
  have HIP := Lib.hid (HIP.out.then_ hb)
  have hp12 := path_len l a
  have hpq := D.out.path a
  rw [HID.out] at hpq
  rw [hpq] at hiq ⊢
  have HIQ := Lib.hid hiq
  obtain ⟨p, hp⟩ : ∃ p, path l a = p := ⟨_, rfl⟩
  rw [hp] at HIP hp12 HIQ ⊢
  clear hiq hb B5 hp hpq
  go_wp2_with fail
  have hw6 : w.heap.size ≤ w6.heap.size := B6.out.size
  go_loopw [18, 19] (fun u i wr => ∃ (k n : Nat), k ≤ p.length ∧ n = ((p.take k).filter (fun y => y != id)).length ∧ n ≤ k ∧ i = .int .i64 (k : Int) ∧ wr.ownsRow w6.heap.size 3 1 u n (ivs ((p.take k).filter (fun y => y != id))) ∧ Below w6.heap.size w6 wr) (fun _ i _ => 13 - (intOf i).toNat)
  case atStart => exact ⟨0, 0, by omega, rfl, by omega, rfl, World.ownsRow_nil _ _ _ _, Below.refl _ _⟩
  case round =>
    obtain ⟨k, n, hk, hn, hnk, rfl, hO, hB⟩ := hrel
    have HO := Lib.hid hO
    have HN := Lib.hid hn
    have HB := Lib.hid hB
    clear hO hB hn
    by_cases hkp : k < p.length
    · have hkI : (k : Int) < (p.length : Int) := by omega
      have hk0 : (0 : Int) ≤ (k : Int) := by omega
      obtain ⟨bp, op, hAp, hcp⟩ := (HIP.out.then_ HB.out) k hkp
      subst hAp
      obtain ⟨x, hx⟩ : ∃ x, p.getD k 0 = x := ⟨_, rfl⟩
      rw [hx] at hcp
      have hts := take_succ (d := (0 : Int)) hkp
      rw [hx] at hts
      have HX := Lib.hid hx
      clear hx
      by_cases he : x = id
      · have hne : (x != id) = false := by rw [he]; simp
        have HT := Lib.hid (show (p.take (k + 1)).filter (fun y => y != id) = (p.take k).filter (fun y => y != id) by rw [hts, List.filter_append, List.filter_cons, if_neg (by rw [hne]; simp)]; simp)
        clear hts he
        go_wp2_with fail
        refine ⟨⟨k + 1, n, by omega, by rw [HT.out]; exact HN.out, by omega, by go_num, by rw [HT.out]; exact HO.out, HB.out⟩, ?_⟩
        simp [intOf]; omega
      · have hne : (x != id) = true := by simpa using he
        have HT := Lib.hid (show (p.take (k + 1)).filter (fun y => y != id) = (p.take k).filter (fun y => y != id) ++ [x] by rw [hts, List.filter_append, List.filter_cons, if_pos hne]; rfl)
        clear hts he
        have hbs := HB.out.size
        obtain ⟨Au, cu, rfl, hcu⟩ := own_slice HO.out
        go_wp2_with (at_builtin; refine wpList_append1 rfl _ _ 23 rfl w6.heap.size 3 j0 _ 1 8 Try.underlying23 hj0 e0 e1 e2 rfl (by omega) (by omega) (.slice Au n cu) n _ rfl HO.out #[.int .i64 x] rfl rfl (by simp [Value.oneCell']) (by omega) hbs ?_; intro g' c' w8 own' k' n'; have OW := Lib.hid own'; have KW := Lib.hid k'; clear own' k' n')
        refine ⟨⟨k + 1, n + 1, by omega, by rw [HT.out, List.length_append, ← HN.out]; rfl, by omega, by go_num, ?_, KW.out.below_next HB.out hbs (fun q hq => (HO.out.lt q (own_mem hq)).1)⟩, ?_⟩
        · rw [HT.out]
          have h9 := OW.out
          simpa [ivs] using h9
        · simp [intOf]; omega
    · have hkI : ¬ (k : Int) < (p.length : Int) := by omega
      have hke : k = p.length := by omega
      subst hke
      have G7 := Lib.hid (G.out.then_ HB.out)
      have Gm7 := Lib.hid (Gm.out.then_ HB.out)
      have B7 := Lib.hid (below_next B6.out HB.out)
      have hIQ := HIQ.out.then_ HB.out
      have hO := HO.out
      rw [List.take_length] at hO HN
      rw [HN.out] at hO
      obtain ⟨Aw, cw, e, _, hiw, _⟩ := ms_of_own hO
      have hzl : (p.filter (fun y => y != id)).length ≤ 100000 := by
        have := List.length_filter_le (fun y => y != id) p; omega
      subst e
      rename World => W7
      have HIY := Lib.hid (ints_yes Aq Aw cq cw (p.filter (fun y => y != id)) W7 hzl hIQ hiw)
      clear hIQ hO hiw hzl hnk HO HB HN
      go_wp2_with fail
      refine HIY.out.mono ?_
      rintro e w8 ⟨rfl, hb⟩
      have G8 := Lib.hid (G7.out.then_ hb)
      have Gm8 := Lib.hid (Gm7.out.then_ hb)
      have B8 := Lib.hid (below_next B7.out hb)
      clear hb HIY
      go_wp2_with fail
      go_loopw [20, 21, 22, 23, 24] (fun i _ _ _ _ wx => ∃ (q : Nat), q ≤ l.length ∧ i = .int .i64 (q : Int) ∧ Below w8.heap.size w8 wx) (fun i _ _ _ _ _ => 25 - (intOf i).toNat)
      case atStart => exact ⟨0, by omega, rfl, Below.refl _ _⟩
      case round =>
        obtain ⟨q, hq1, rfl, hB9⟩ := hrel
        have HB9 := Lib.hid hB9
        clear hB9
        by_cases hql : q < l.length
        · have hqI : (q : Int) < (l.length : Int) := by omega
          have hq0 : (0 : Int) ≤ (q : Int) := by omega
          have G9 := Lib.hid (G8.out.then_ HB9.out)
          have Gm9 := Lib.hid (Gm8.out.then_ HB9.out)
          obtain ⟨⟨bg, og, hA3, hgc⟩, _⟩ := G9.out q hql
          injection hA3 with hA3
          injection hA3 with hA3 hA4
          subst hA3 hA4
          have g1 := hgc.id
          rw [Nat.zero_add] at g1
          have hgm : l.getD q g0 ∈ l := mem_getD hql
          have hfx := V.out.find hgm
          have hix := S.out.id q hql
          have hdf := fun hne => D.out.find hgm hne
          obtain ⟨x, hx⟩ : ∃ x, (l.getD q g0).id = x := ⟨_, rfl⟩
          rw [hx] at g1 hfx hix hdf
          rw [HID.out] at hdf
          clear hgc hx hgm
          by_cases he : x = id
          · have heq : (x == id) = true := by rw [he]; simp
            clear hdf hfx hix he
            go_wp2_with fail
            exact ⟨⟨q + 1, by omega, by go_num, HB9.out⟩, by simp [intOf]; omega⟩
          · have heq : (x == id) = false := by rw [beq_eq_false_iff_ne]; exact he
            obtain ⟨g', hf', _⟩ := hdf he
            have HEB := Lib.hid (show below m x = below l x from D.out.below (by rw [HID.out]; exact he))
            have HBL := Lib.hid (below_yes _ cg l x _ G9.out S.out V.out hix (by rw [hfx]; rfl))
            have HBM := Lib.hid (fun W (hW : Below _ _ W) => below_yes _ cm m x W (Gm9.out.then_ hW) Sm.out Vm.out hix (by rw [hf']; rfl))
            have hbll := below_len S.out V.out x
            clear hdf hfx hix hf' he
            go_wp2_with fail
            refine HBL.out.mono ?_
            rintro e w10 ⟨v, rfl, hown, hb⟩
            have G10 := G9.out.then_ hb
            obtain ⟨⟨bg, og, hA3, hgc⟩, _⟩ := G10 q hql
            injection hA3 with hA3
            injection hA3 with hA3 hA4
            subst hA3 hA4
            have g2 := cell_then hb g1
            have B10 := Lib.hid (below_next HB9.out hb)
            have HBM2 := Lib.hid (HBM.out _ hb)
            obtain ⟨Ax, cx, e, _, hix, _⟩ := ms_of_own hown
            subst e
            have HIX := Lib.hid hix
            clear g1 hown hb HBM HBL hix hgc G10
            go_wp2_with fail
            refine HBM2.out.mono ?_
            rintro e w11 ⟨v, rfl, hown, hb⟩
            have B11 := Lib.hid (below_next B10.out hb)
            rw [HEB.out] at hown
            obtain ⟨Ay, cy, e, _, hiy, _⟩ := ms_of_own hown
            subst e
            have HIXY := Lib.hid (ints_yes Ax Ay cx cy (below l x) w11 hbll (HIX.out.then_ hb) hiy)
            clear g2 hown hb HBM2 hiy hbll HIX
            go_wp2_with fail
            refine HIXY.out.mono ?_
            rintro e w12 ⟨rfl, hb⟩
            have B12 := Lib.hid (below_next B11.out hb)
            clear hb HIXY
            go_wp2_with fail
            exact ⟨⟨q + 1, by omega, by go_num, B12.out⟩, by simp [intOf]; omega⟩
        · have hqI : ¬ (q : Int) < (l.length : Int) := by omega
          go_wp2_with fail
          go_ret
          exact ⟨rfl, below_next B8.out HB9.out⟩
end Go.Proofs.Ytebfenkjipaedaa.Gr
