/- GroupCommon: the law. -/
import Derived.Test.YtebfenkjipaedaaGrpSane
namespace Go.Proofs.Ytebfenkjipaedaa.Gr
open Go.RowKit Gp Go.Sort
attribute [local go_sem] Oper.semAt_some
theorem lastC_comm : ∀ (p q : List Int) (d : Int), lastC p q d = lastC q p d
  | [], [], _ => rfl
  | [], _ :: _, _ => rfl
  | _ :: _, [], _ => rfl
  | a :: p, b :: q, d => by
    unfold lastC
    by_cases h : a = b
    · rw [if_pos h, if_pos h.symm, lastC_comm p q, h]
    · rw [if_neg h, if_neg (Ne.symm h)]
theorem common_comm (l : List Grp) (a b : Int) : common l b a = common l a b := lastC_comm _ _ _
theorem wrapP {P : Int} (h0 : 0 ≤ P) (h1 : P < 17) : wrap64 (10 * (1 + P)) = 10 * (1 + P) := by unfold wrap64; omega
theorem i64P {P : Int} (h0 : 0 ≤ P) (h1 : P < 17) : I64 (10 * (1 + P)) := ⟨by omega, by omega⟩
set_option maxRecDepth 100000 in
set_option maxHeartbeats 4000000 in
theorem common_law (A : Option Addr) (c : Nat) (rows : List (Int × Int)) (B : Option Addr) (cb : Nat) (codes : List Int) (one two : Int) (w : World) (hA : P2At w A rows) (hAO : P2Ok rows) (hAl : rows.length ≤ 9223372036854775807) (hB : IntsAt w B codes) (hBO : IsOk codes) (hBl : codes.length ≤ 9223372036854775807)
    (h1 : I64 one) (h2 : I64 two) :
    Calls Try.prog 5 #[.slice A rows.length c, .slice B codes.length cb, .int .i64 one, .int .i64 two] w fun e w' => e = .returned (.bool true) ∧ Below w.heap.size w w' := by
  have HS := Lib.hid (sane_any w)
  have HM := Lib.hid (fun W (hW : Below w.heap.size w W) => made_any A c rows B cb codes W (hA.then_ hW) hAO hAl (hB.then_ hW) hBO hBl)
  have HP1 := Lib.hid (fun W => pickL_any one 17 W h1 (by omega) (by omega))
  have HP2 := Lib.hid (fun W => pickL_any two 17 W h2 (by omega) (by omega))
  obtain ⟨P, hP⟩ : ∃ P, pickI one 17 = P := ⟨_, rfl⟩
  obtain ⟨Q, hQ⟩ : ∃ Q, pickI two 17 = Q := ⟨_, rfl⟩
  obtain ⟨p0, p1⟩ := pickI_bd one (n := 17) (by omega)
  obtain ⟨q0, q1⟩ := pickI_bd two (n := 17) (by omega)
  rw [hP] at HP1 p0 p1
  rw [hQ] at HP2 q0 q1
  clear hA hAO hB hBO hP hQ h1 h2
  go_enter Try.func5, Try.ntmps5
  go_wp2_with fail
  refine HS.out.mono ?_
  rintro e w1 ⟨rfl, b1⟩
  have B1 := Lib.hid b1
  clear b1 HS
  go_wp2_with fail
  refine (HM.out _ B1.out).mono ?_
  rintro e w2 ⟨l, g, cg, rfl, hl1, hl2, hl3, hb⟩
  obtain ⟨_, _, e, _, hG⟩ := hl3.at rfl
  injection e with e1 _ e3
  subst e1 e3
  have B2 := Lib.hid (below_next B1.out hb)
  have V := Lib.hid hl2.valid
  have S := Lib.hid (hl2.sized (Nat.le_refl _))
  have G := Lib.hid hG
  clear hl1 hl2 hl3 hb hG B1 HM
  have hwp := wrapP p0 p1
  have hwq := wrapP q0 q1
  have IP := Lib.hid (i64P p0 p1)
  have IQ := Lib.hid (i64P q0 q1)
  go_wp2_with fail
  refine (HP1.out _).mono ?_
  rintro e w3 ⟨rfl, rfl⟩
  go_wp2_with fail
  refine (HP2.out _).mono ?_
  rintro e w3 ⟨rfl, rfl⟩
  go_wp2_with fail
  obtain ⟨a, ha⟩ : ∃ a, 10 * (1 + P) = a := ⟨_, rfl⟩
  obtain ⟨b, hb⟩ : ∃ b, 10 * (1 + Q) = b := ⟨_, rfl⟩
  rw [ha] at IP
  rw [hb] at IQ
  rw [ha]
  rw [hb]
  clear hwp hwq ha hb
  refine (gpath_yes _ cg l a _ G.out S.out V.out IP.out).mono ?_
  rintro e w3 ⟨_, rfl, ⟨Ap, cp, rfl, _, hip, _⟩, hb⟩
  have G := Lib.hid (G.out.then_ hb)
  have B3 := Lib.hid (below_next B2.out hb)
  have HIP := Lib.hid hip
  clear hip hb B2
  go_wp2_with fail
  refine (gpath_yes _ cg l b _ G.out S.out V.out IQ.out).mono ?_
  rintro e w4 ⟨_, rfl, ⟨Aq, cq, rfl, _, hiq, _⟩, hb⟩
  have G := Lib.hid (G.out.then_ hb)
  have B4 := Lib.hid (below_next B3.out hb)
  have HIP := Lib.hid (HIP.out.then_ hb)
  have HIQ := Lib.hid hiq
  clear hiq hb B3
  go_wp2_with fail
  refine (common_yes _ cg l a b _ G.out S.out V.out IP.out IQ.out).mono ?_
  rintro e w5 ⟨rfl, hb⟩
  have G := Lib.hid (G.out.then_ hb)
  have B5 := Lib.hid (below_next B4.out hb)
  have HIP := Lib.hid (HIP.out.then_ hb)
  have HIQ := Lib.hid (HIQ.out.then_ hb)
  clear hb B4
  go_wp2_with fail
  refine (common_yes _ cg l b a _ G.out S.out V.out IQ.out IP.out).mono ?_
  rintro e w6 ⟨rfl, hb⟩
  have B6 := Lib.hid (below_next B5.out hb)
  have HIP := Lib.hid (HIP.out.then_ hb)
  have HIQ := Lib.hid (HIQ.out.then_ hb)
  clear hb B5
  rw [common_comm]
  obtain ⟨v, hv⟩ : ∃ v, common l a b = v := ⟨_, rfl⟩
  rw [hv]
  have HC := Lib.hid (show lastC (path l a) (path l b) (-1) = v from hv)
  have hne : (v != v) = false := by simp
  have hp12 := path_len l a
  have hq12 := path_len l b
  obtain ⟨p, hp⟩ : ∃ p, path l a = p := ⟨_, rfl⟩
  obtain ⟨q, hq⟩ : ∃ q, path l b = q := ⟨_, rfl⟩
  rw [hp] at HIP hp12 HC ⊢
  rw [hq] at HIQ hq12 HC ⊢
  clear hp hq hv
  go_wp2_with fail
  go_loopw [20, 21] (fun d i wr => ∃ (k : Nat) (z : Int), k ≤ p.length ∧ k ≤ q.length ∧ i = .int .i64 (k : Int) ∧ d = .int .i64 z ∧ Below w6.heap.size w6 wr ∧ lastC p q (-1) = lastC (p.drop k) (q.drop k) z) (fun _ i _ => 13 - (intOf i).toNat)
  case atStart => exact ⟨0, -1, by omega, by omega, rfl, rfl, Below.refl _ _, rfl⟩
  case round =>
    obtain ⟨k, z, hk1, hk2, rfl, rfl, hB4, hl⟩ := hrel
    have HB4 := Lib.hid hB4
    clear hB4
    have HL := Lib.hid hl
    clear hl
    by_cases hkp : k < p.length
    · have hkpI : (k : Int) < (p.length : Int) := by omega
      by_cases hkq : k < q.length
      · have hkqI : (k : Int) < (q.length : Int) := by omega
        obtain ⟨bp, op, hAp, hcp⟩ := (HIP.out.then_ HB4.out) k hkp
        obtain ⟨bq, oq, hAq, hcq⟩ := (HIQ.out.then_ HB4.out) k hkq
        subst hAp
        subst hAq
        obtain ⟨x, hx⟩ : ∃ x, p.getD k 0 = x := ⟨_, rfl⟩
        obtain ⟨y, hy⟩ : ∃ y, q.getD k 0 = y := ⟨_, rfl⟩
        rw [hx] at hcp
        rw [hy] at hcq
        have HX2 := Lib.hid hx
        have HY2 := Lib.hid hy
        have hk0 : (0 : Int) ≤ (k : Int) := by omega
        clear hx hy
        have g_1 := fun D os => cell_regrown hcp D os
        have g_2 := fun D os => cell_regrown hcq D os
        by_cases he : x = y
        · have hb : (x != y) = false := by rw [he]; simp
          have HE := Lib.hid he
          clear he
          go_wp2_with fail
          refine wp_region_quiet_below (by kernel_rfl) (by kernel_rfl) ?_
          repeat (go_big_quiet_step (fail))
          refine wpQuiet_nil ?_
          intro wq hq0
          have hq := below_of_class hq0
          clear hq0
          have c1 := cell_then hq hcp
          have B5 := Lib.hid (below_next HB4.out hq)
          have HL2 := Lib.hid (HL.out.trans (lastC_eq hkp hkq (by rw [HX2.out, HY2.out, HE.out]) z))
          clear g_1 g_2 hq
          go_wp2_with fail
          refine ⟨⟨k + 1, x, by omega, by omega, by go_num, rfl, B5.out, by rw [HL2.out, HX2.out]⟩, ?_⟩
          simp [intOf]; omega
        · have hb : (x != y) = true := by simpa using he
          have HE := Lib.hid he
          clear he
          go_wp2_with fail
          refine wp_region_quiet_below (by kernel_rfl) (by kernel_rfl) ?_
          repeat (go_big_quiet_step (fail))
          refine wpQuiet_nil ?_
          intro wq hq0
          have hq := below_of_class hq0
          clear hq0
          have B5 := Lib.hid (below_next HB4.out hq)
          have HL2 := HL.out.trans (lastC_ne hkp hkq (by rw [HX2.out, HY2.out]; exact HE.out) z)
          have hvz : (v == z) = true := by rw [beq_iff_eq, ← HC.out]; exact HL2
          clear g_1 g_2 hq HL2
          go_wp2_with fail
          go_ret
          exact ⟨rfl, below_next B6.out B5.out⟩
      · have hkqI : ¬ (k : Int) < (q.length : Int) := by omega
        have HL2 := HL.out.trans (lastC_nil (by omega) z)
        have hvz : (v == z) = true := by rw [beq_iff_eq, ← HC.out]; exact HL2
        clear HL2
        go_wp2_with fail
        go_ret
        exact ⟨rfl, below_next B6.out HB4.out⟩
    · have hkpI : ¬ (k : Int) < (p.length : Int) := by omega
      have HL2 := HL.out.trans (lastC_nil (by omega) z)
      have hvz : (v == z) = true := by rw [beq_iff_eq, ← HC.out]; exact HL2
      clear HL2
      go_wp2_with fail
      go_ret
      exact ⟨rfl, below_next B6.out HB4.out⟩
end Go.Proofs.Ytebfenkjipaedaa.Gr
