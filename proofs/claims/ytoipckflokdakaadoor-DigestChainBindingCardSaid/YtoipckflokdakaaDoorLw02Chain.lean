/- The walk of the law DigestChainBinding. -/
import Derived.Test.YtoipckflokdakaaDoorLw02Bind
import Derived.Test.YtoipckflokdakaaDoorLw02CollN
import Derived.Test.YtoipckflokdakaaDoorLw02Heads
import Derived.Deep.RegionHeldLaw
namespace Go.Proofs.YtoipckflokdakaaDoor
open Go.RowKit Sha Mk
attribute [local go_sem] Oper.semAt_some
theorem conv32_then (w w' : World) (hb : Below (w.alloc (.cells z32c 5)).heap.size (w.alloc (.cells z32c 5)) w') : (convert 46 9 (.slice (some ⟨w.heap.size, 0, none⟩) 32 32)).run Tryd.prog w' = .ok (.string z32) w' := by
  have h := run_convert_bytes_back (P := Tryd.prog) w' 46 9 5 ⟨w.heap.size, 0, none⟩ 32 (List.replicate 32 0) Tryd.underlying46 Tryd.underlying5 Tryd.underlying9 (fun j hj => ?_)
  · simpa [z32] using h
  · have hj' : j < 32 := by rwa [List.length_replicate] at hj
    have e1 : z32c[j]? = some (.int .u8 0) := by rw [z32c, List.getElem?_toArray, List.getElem?_replicate, if_pos hj']
    rw [add0, cell_then hb (new_cell e1), List.getElem_replicate]
    rfl
theorem ite_skip {c : Bool} {A B : Prop} (h : c = false) (hb : B) : if c = true then A else B := by rw [if_neg (by rw [h]; exact Bool.false_ne_true)]; exact hb
theorem heads_sizes : ∀ r : List ByteArray, (∀ s ∈ r, s.size ≤ 60) → ∀ y ∈ headsF r, y.size ≤ 1000000
  | [], _ => fun y hy => by cases hy
  | s :: r, h => fun y hy => by
    rw [headsF] at hy
    rcases List.mem_cons.1 hy with rfl | hy
    · have := headN_size r.reverse
      have := h s (List.mem_cons_self ..)
      simp [preS, size_mk]; have := len_data (headN r.reverse); have := len_data s; omega
    · exact heads_sizes r (fun z hz => h z (List.mem_cons_of_mem _ hz)) y hy
theorem heads_in (A : Option Addr) (c n : Nat) (l : List ByteArray) (w : World) (hn : l.length = n) (hA : StrsAt w A l) (hl : n ≤ 1000) (hs : ∀ s ∈ l, s.size ≤ 60) (hK : RoundIn w) :
    Calls Tryd.prog 38 #[.slice A n c] w fun e w' => ∃ Ar cr, e = .returned (.tuple #[.slice Ar n cr, .string (headN l)]) ∧ StrsAt w' Ar (headsF l.reverse) ∧ Below w.heap.size w w' := by
  subst hn
  refine (heads_any A c l w hA hl (fun s h => by have := hs s h; omega) hK).mono ?_
  rintro e w' ⟨Ar, cr, rfl, h1, _, _, h2⟩
  exact ⟨Ar, cr, rfl, h1, h2⟩
theorem collide_any (A B : Option Addr) (ca cb nx ny : Nat) (x y : List ByteArray) (w : World) (r : Bool) (hr : r = true ↔ Coll x y) (hnx : x.length = nx) (hny : y.length = ny) (hA : StrsAt w A x) (hB : StrsAt w B y) (hx : ∀ s ∈ x, s.size ≤ 1000000) (hy : ∀ s ∈ y, s.size ≤ 1000000) (hlx : nx ≤ 1000) (hly : ny ≤ 1000) (hK : RoundIn w) :
    Calls Tryd.prog 27 #[.slice A nx ca, .slice B ny cb] w fun e w' => e = .returned (.bool r) ∧ Below w.heap.size w w' := by
  subst hnx hny
  cases r with
  | true => exact collide_yes A B ca cb x y w hA hB hx hy hlx hly (hr.1 rfl) hK
  | false => exact collide_no A B ca cb x y w hA hB hx hy hlx hly (fun h => by have := hr.2 h; cases this) hK
set_option maxRecDepth 100000 in
set_option maxHeartbeats 8000000 in
theorem chain_law (A : Option Addr) (ca : Nat) (P : List ByteArray) (B : Option Addr) (cb : Nat) (Q : List ByteArray) (w : World) (hK : RoundIn w)
    (hA : StrsAt w A P) (hl : (P.length : Int) ≤ 9223372036854775807) (hP : ∀ s ∈ P, (s.size : Int) ≤ 9223372036854775807) (hB : StrsAt w B Q) (hlb : (Q.length : Int) ≤ 9223372036854775807) (hQ : ∀ s ∈ Q, (s.size : Int) ≤ 9223372036854775807) :
    Calls Tryd.prog 11 #[.slice A P.length ca, .slice B Q.length cb] w fun e w' => e = .returned (.bool true) ∧ Below w.heap.size w w' := by
  have HK := Lib.hid hK
  obtain ⟨np, hnp⟩ : ∃ k, P.length = k := ⟨_, rfl⟩
  obtain ⟨nq, hnq⟩ : ∃ k, Q.length = k := ⟨_, rfl⟩
  have HF := Lib.hid (fun W h => few_in A ca np 20 P hnp W h (by omega) (by decide) hP)
  have HG := Lib.hid (fun W h => few_in B cb nq 20 Q hnq W h (by omega) (by decide) hQ)
  have hpz := fewS_sizes P 20
  have hqz := fewS_sizes Q 20
  have hpl : (fewS P 20).length ≤ 20 := by rw [fewS_length]; omega
  have hql : (fewS Q 20).length ≤ 20 := by rw [fewS_length]; omega
  have HA := Lib.hid hA
  have HB := Lib.hid hB
  rw [hnp, hnq]
  obtain ⟨X, hX⟩ : ∃ X, fewS P 20 = X := ⟨_, rfl⟩
  obtain ⟨Y, hY⟩ : ∃ Y, fewS Q 20 = Y := ⟨_, rfl⟩
  rw [hX] at HF hpz hpl
  rw [hY] at HG hqz hql
  obtain ⟨x, hx⟩ : ∃ x, X.length = x := ⟨_, rfl⟩
  obtain ⟨y, hy⟩ : ∃ y, Y.length = y := ⟨_, rfl⟩
  have HXL := Lib.hid hx
  have HYL := Lib.hid hy
  rw [hx] at HF hpl
  rw [hy] at HG hql
  have HPZ := Lib.hid hpz
  have HQZ := Lib.hid hqz
  clear hK hA hl hP hB hlb hQ hnp hnq hX hY hpz hqz hx hy
  go_enter Tryd.func11, Tryd.ntmps11
  go_wp2_with fail
  refine (sane_any w HK.out).mono ?_
  rintro e w1 ⟨rfl, b1⟩
  go_wp2_with fail
  refine (HF.out w1 (HA.out.then_ b1)).mono ?_
  rintro e w2 ⟨Ax, cx, rfl, sx, lx, mx, b2⟩
  have SX := Lib.hid sx
  have B2 := Lib.hid (below_next b1 b2)
  clear sx b1 b2
  go_wp2_with fail
  refine (HG.out w2 (HB.out.then_ B2.out)).mono ?_
  rintro e w3 ⟨Ay, cy, rfl, sy, ly, my, b3⟩
  have SY := Lib.hid sy
  have SX3 := Lib.hid (SX.out.then_ b3)
  have B3 := Lib.hid (below_next B2.out b3)
  have HH1 := Lib.hid (heads_in Ax cx x X w3 HXL.out SX3.out (by omega) HPZ.out (HK.out.then_ B3.out))
  have HH2 := Lib.hid (fun (W : World) h1 h2 => heads_in Ay cy y Y W HYL.out h1 (by omega) HQZ.out h2)
  have hs1 := heads_sizes X.reverse (fun z hz => HPZ.out z (List.mem_reverse.1 hz))
  have hs2 := heads_sizes Y.reverse (fun z hz => HQZ.out z (List.mem_reverse.1 hz))
  have hl1 := heads_length X.reverse
  have hl2 := heads_length Y.reverse
  have hz1 := headN_size X
  have hz2 := headN_size Y
  have hbind : X ≠ Y → headN X = headN Y → _ := fun h1 h2 => bind_heads X.reverse Y.reverse (fun e => h1 (List.reverse_inj.1 e)) (by rw [List.reverse_reverse, List.reverse_reverse]; exact h2)
  have hsame : X = Y → headN X = headN Y := fun e => by rw [e]
  rw [List.length_reverse, HXL.out] at hl1
  rw [List.length_reverse, HYL.out] at hl2
  obtain ⟨L1, hL1⟩ : ∃ L, headsF X.reverse = L := ⟨_, rfl⟩
  obtain ⟨L2, hL2⟩ : ∃ L, headsF Y.reverse = L := ⟨_, rfl⟩
  obtain ⟨H1, hH1⟩ : ∃ L, headN X = L := ⟨_, rfl⟩
  obtain ⟨H2, hH2⟩ : ∃ L, headN Y = L := ⟨_, rfl⟩
  rw [hL1, hL2, hH1, hH2] at hbind
  rw [hH1, hH2] at hsame
  rw [hL1, hH1] at HH1
  rw [hL2, hH2] at HH2
  rw [hL1] at hs1 hl1
  rw [hL2] at hs2 hl2
  rw [hH1] at hz1
  rw [hH2] at hz2
  have HBD := Lib.hid hbind
  have HSM := Lib.hid hsame
  have HL1 := Lib.hid hl1
  have HL2 := Lib.hid hl2
  obtain ⟨cc, hcc⟩ : ∃ r : Bool, r = true ↔ Coll L1 L2 := by
    rcases Classical.em (Coll L1 L2) with h | h
    · exact ⟨true, by simp [h]⟩
    · exact ⟨false, by simp [h]⟩
  have HC := Lib.hid (fun (W : World) (A1 A2 : Option Addr) (c1 c2 : Nat) h1 h2 h3 => collide_any A1 A2 c1 c2 x y L1 L2 W cc hcc HL1.out HL2.out h1 h2 hs1 hs2 (by omega) (by omega) h3)
  have HS1 := Lib.hid hs1
  have HS2 := Lib.hid hs2
  have HCC := Lib.hid hcc
  clear hL1 hL2 hH1 hH2 hbind hsame hl1 hl2 hs1 hs2 hcc
  clear sy b3 SX B2
  go_wp2_with fail
  refine HH1.out.mono ?_
  rintro e w4 ⟨A1, c1, rfl, s1, b4⟩
  have S1 := Lib.hid s1
  have B4 := Lib.hid (below_next B3.out b4)
  have SX4 := Lib.hid (SX3.out.then_ b4)
  have SY4 := Lib.hid (SY.out.then_ b4)
  clear s1 b4 B3 SX3 SY
  go_wp2_with fail
  refine (HH2.out w4 SY4.out (HK.out.then_ B4.out)).mono ?_
  rintro e w5 ⟨A2, c2, rfl, s2, b5⟩
  have S2 := Lib.hid s2
  have S15 := Lib.hid (S1.out.then_ b5)
  have B5 := Lib.hid (below_next B4.out b5)
  have SX5 := Lib.hid (SX4.out.then_ b5)
  have SY5 := Lib.hid (SY4.out.then_ b5)
  clear s2 b5 B4 SX4 SY4 S1
  have HSA := Lib.hid (rsame_any Ax Ay cx cy X Y w5 SX5.out SY5.out (by rw [HXL.out]; omega) (by rw [HYL.out]; omega))
  rw [HXL.out, HYL.out] at HSA
  obtain ⟨sm, hsm⟩ : ∃ r, decide (X = Y) = r := ⟨_, rfl⟩
  rw [hsm] at HSA
  have HSMB := Lib.hid hsm
  clear hsm
  go_wp2_with fail
  refine HSA.out.mono ?_
  rintro e w6 ⟨rfl, b6⟩
  have S16 := Lib.hid (S15.out.then_ b6)
  have S26 := Lib.hid (S2.out.then_ b6)
  have B6 := Lib.hid (below_next B5.out b6)
  clear b6 B5 S15 S2 SX5 SY5
  have hz1' : (H1.size : Int) = 32 := by omega
  have hd1 : ((H1.size : Int) == 32) = true := by simp; omega
  cases sm with
  | true =>
    have hXY : X = Y := by simpa using HSMB.out
    have hd : (H1.toList == H2.toList) = true := eq_of (HSM.out hXY)
    have B6' := B6.out
    clear hXY
    go_wp2_with fail
    go_ret
    exact ⟨rfl, B6'⟩
  | false =>
    have hXY : X ≠ Y := by simpa using HSMB.out
    by_cases hH : H1 = H2
    · have hd : (H1.toList == H2.toList) = true := eq_of hH
      have HX := Lib.hid (HBD.out hXY hH)
      clear hXY hH
      by_cases hxy : x = y
      · subst hxy
        have hct : cc = true := by
          refine HCC.out.2 ?_
          rcases HX.out with h | h | h
          · exact h
          · have := h.1; have := HL1.out; have := HL2.out; omega
          · have := h.1; have := HL1.out; have := HL2.out; omega
        subst hct
        have g1 : ¬ (x : Int) < (x : Int) := by omega
        have gd : ((x : Int) == (x : Int)) = true := by simp
        go_wp2_with fail
        refine wp_region_quiet_below (by kernel_rfl) (by kernel_rfl) ?_
        repeat (go_big_quiet_step (fail))
        refine wpQuiet_nil ?_
        intro wq hq0
        have hq := below_of_class hq0
        clear hq0
        go_wp2_with fail
        refine (HC.out _ _ _ c1 c2 (S16.out.then_ hq) (S26.out.then_ hq) (HK.out.then_ (below_next B6.out hq))).mono ?_
        rintro e w9 ⟨rfl, b9⟩
        have B9 := below_next (below_next B6.out hq) b9
        clear b9
        go_wp2_with fail
        go_ret
        exact ⟨rfl, B9⟩
      · by_cases hlt : x < y
        · have hil : x < L2.length := by have := HL2.out; omega
          obtain ⟨bb, oo, rfl, cu⟩ := strs_at S26.out hil
          have zu := HS2.out _ (List.getElem_mem hil)
          have hfin : cc = true ∨ sumS L2[x] = z32 := by
            rcases HX.out with h | h | h
            · exact .inl (HCC.out.2 h)
            · obtain ⟨h1, h2, h3⟩ := h
              simp only [HL1.out] at h3; exact .inr h3
            · obtain ⟨h1, h2, h3⟩ := h
              have := HL1.out; have := HL2.out; omega
          obtain ⟨u, hu⟩ : ∃ u, L2[x] = u := ⟨_, rfl⟩
          rw [hu] at cu zu hfin
          have CU := Lib.hid cu
          have HFIN := Lib.hid hfin
          have gne : ¬ (x : Int) = (y : Int) := by omega
          have gd : ((x : Int) == (y : Int)) = false := by simp; omega
          have gd2 : ((x : Int) != (y : Int)) = true := by simp; omega
          have g1 : (x : Int) < (y : Int) := by omega
          have g2 : min (x : Int) (y : Int) = (x : Int) := by omega
          have g3 : (x : Int) < (y : Int) := by omega
          obtain ⟨su, hsu⟩ : ∃ v, sumS u = v := ⟨_, rfl⟩
          obtain ⟨zz, hzz⟩ : ∃ v, z32 = v := ⟨_, rfl⟩
          have HSU := Lib.hid (fun W hk => sum_any u W zu hk)
          rw [hsu] at HSU
          have hmk := make32
          have hcv1 : (convert 46 9 (.slice (some ⟨w6.heap.size, 0, none⟩) 32 32)).run Tryd.prog (w6.drew.alloc (.cells z32c 5)) = .ok (.string z32) (w6.drew.alloc (.cells z32c 5)) := conv32 w6.drew
          have hcv2 := conv32 w6
          have hcv3 := conv32_then w6 (w6.alloc (.cells z32c 5)).drew (Below.drew (Below.refl _ _))
          have HCV := Lib.hid conv32
          have HCT := Lib.hid conv32_then
          rw [hsu, hzz] at HFIN
          rw [hzz] at hcv1 hcv2 hcv3 HCT HCV
          obtain ⟨zb, hzb⟩ : ∃ r, (su.toList == zz.toList) = r := ⟨_, rfl⟩
          have hcz : cc = true ∨ zb = true := by
            rcases HFIN.out with h | h
            · exact .inl h
            · exact .inr (by rw [← hzb]; exact eq_of h)
          clear hu cu hfin hsu hzz hil
          go_wp2_with fail
          go_region_held_law (fun w' => Below w6.heap.size w6 w' ∧ w'.cell? ⟨bb, oo + x, none⟩ = some (.string u)) ((suffices hB : Below w6.heap.size w6 _ from ⟨hB, cell_then hB CU.out⟩; repeat (first | with_reducible exact Below.refl _ _ | with_reducible refine below_alloc ?_ _ | with_reducible refine Below.drew ?_ | with_reducible exact HB7.out))) (first | (go_at_call 30; (with_reducible refine (HSU.out _ (HK.out.then_ (below_next B6.out (by repeat (first | with_reducible exact Below.refl _ _ | with_reducible refine below_alloc ?_ _ | with_reducible refine Below.drew ?_))))).mono ?_); rintro e w7 ⟨rfl, b7⟩; have HB7 := Lib.hid (below_next (show Below w6.heap.size w6 _ by repeat (first | with_reducible exact Below.refl _ _ | with_reducible refine below_alloc ?_ _ | with_reducible refine Below.drew ?_) ) b7); have hcv7 := HCV.out w7; (first | (have hcw : (convert 46 9 (.slice (some ⟨w6.heap.size, 0, none⟩) 32 32)).run Tryd.prog w7 = .ok (.string zz) w7 := HCT.out w6.drew _ b7) | (have hcw : (convert 46 9 (.slice (some ⟨w6.heap.size, 0, none⟩) 32 32)).run Tryd.prog w7 = .ok (.string zz) w7 := HCT.out w6 _ b7) | skip)))
          all_goals
            clear hmk hcv1 hcv2 hcv3 HCT HCV
            (first | clear hcv7 | skip)
            (first | clear hcw | skip)
            go_wp2_with fail
            refine (HC.out _ _ _ c1 c2 (S16.out.then_ (by repeat (first | with_reducible exact Below.refl _ _ | with_reducible refine below_alloc ?_ _ | with_reducible refine Below.drew ?_ | with_reducible exact HB7.out))) (S26.out.then_ (by repeat (first | with_reducible exact Below.refl _ _ | with_reducible refine below_alloc ?_ _ | with_reducible refine Below.drew ?_ | with_reducible exact HB7.out))) (HK.out.then_ (below_next B6.out (by repeat (first | with_reducible exact Below.refl _ _ | with_reducible refine below_alloc ?_ _ | with_reducible refine Below.drew ?_ | with_reducible exact HB7.out))))).mono ?_
            rintro e w9 ⟨rfl, b9⟩
            have B9 := below_next (below_next B6.out (by repeat (first | with_reducible exact Below.refl _ _ | with_reducible refine below_alloc ?_ _ | with_reducible refine Below.drew ?_ | with_reducible exact HB7.out))) b9
            clear b9
            cases cc with
            | true =>
              go_wp2_with fail
              go_ret
              exact ⟨rfl, B9⟩
            | false =>
              have hz : zb = true := by
                rcases hcz with h | h
                · cases h
                · exact h
              subst hz
              go_wp2_with fail
              go_ret
              exact ⟨rfl, B9⟩
        · have hil : y < L1.length := by have := HL1.out; omega
          obtain ⟨bb, oo, rfl, cu⟩ := strs_at S16.out hil
          have zu := HS1.out _ (List.getElem_mem hil)
          have hfin : cc = true ∨ sumS L1[y] = z32 := by
            rcases HX.out with h | h | h
            · exact .inl (HCC.out.2 h)
            · obtain ⟨h1, h2, h3⟩ := h
              have := HL1.out; have := HL2.out; omega
            · obtain ⟨h1, h2, h3⟩ := h
              simp only [HL2.out] at h3; exact .inr h3
          obtain ⟨u, hu⟩ : ∃ u, L1[y] = u := ⟨_, rfl⟩
          rw [hu] at cu zu hfin
          have CU := Lib.hid cu
          have HFIN := Lib.hid hfin
          have gne : ¬ (x : Int) = (y : Int) := by omega
          have gd : ((x : Int) == (y : Int)) = false := by simp; omega
          have gd2 : ((x : Int) != (y : Int)) = true := by simp; omega
          have g1 : ¬ (x : Int) < (y : Int) := by omega
          have g2 : min (x : Int) (y : Int) = (y : Int) := by omega
          have g3 : (y : Int) < (x : Int) := by omega
          obtain ⟨su, hsu⟩ : ∃ v, sumS u = v := ⟨_, rfl⟩
          obtain ⟨zz, hzz⟩ : ∃ v, z32 = v := ⟨_, rfl⟩
          have HSU := Lib.hid (fun W hk => sum_any u W zu hk)
          rw [hsu] at HSU
          have hmk := make32
          have hcv1 : (convert 46 9 (.slice (some ⟨w6.heap.size, 0, none⟩) 32 32)).run Tryd.prog (w6.drew.alloc (.cells z32c 5)) = .ok (.string z32) (w6.drew.alloc (.cells z32c 5)) := conv32 w6.drew
          have hcv2 := conv32 w6
          have hcv3 := conv32_then w6 (w6.alloc (.cells z32c 5)).drew (Below.drew (Below.refl _ _))
          have HCV := Lib.hid conv32
          have HCT := Lib.hid conv32_then
          rw [hsu, hzz] at HFIN
          rw [hzz] at hcv1 hcv2 hcv3 HCT HCV
          obtain ⟨zb, hzb⟩ : ∃ r, (su.toList == zz.toList) = r := ⟨_, rfl⟩
          have hcz : cc = true ∨ zb = true := by
            rcases HFIN.out with h | h
            · exact .inl h
            · exact .inr (by rw [← hzb]; exact eq_of h)
          clear hu cu hfin hsu hzz hil
          go_wp2_with fail
          go_region_held_law (fun w' => Below w6.heap.size w6 w' ∧ w'.cell? ⟨bb, oo + y, none⟩ = some (.string u)) ((suffices hB : Below w6.heap.size w6 _ from ⟨hB, cell_then hB CU.out⟩; repeat (first | with_reducible exact Below.refl _ _ | with_reducible refine below_alloc ?_ _ | with_reducible refine Below.drew ?_ | with_reducible exact HB7.out))) (first | (go_at_call 30; (with_reducible refine (HSU.out _ (HK.out.then_ (below_next B6.out (by repeat (first | with_reducible exact Below.refl _ _ | with_reducible refine below_alloc ?_ _ | with_reducible refine Below.drew ?_))))).mono ?_); rintro e w7 ⟨rfl, b7⟩; have HB7 := Lib.hid (below_next (show Below w6.heap.size w6 _ by repeat (first | with_reducible exact Below.refl _ _ | with_reducible refine below_alloc ?_ _ | with_reducible refine Below.drew ?_) ) b7); have hcv7 := HCV.out w7; (first | (have hcw : (convert 46 9 (.slice (some ⟨w6.heap.size, 0, none⟩) 32 32)).run Tryd.prog w7 = .ok (.string zz) w7 := HCT.out w6.drew _ b7) | (have hcw : (convert 46 9 (.slice (some ⟨w6.heap.size, 0, none⟩) 32 32)).run Tryd.prog w7 = .ok (.string zz) w7 := HCT.out w6 _ b7) | skip)))
          all_goals
            clear hmk hcv1 hcv2 hcv3 HCT HCV
            (first | clear hcv7 | skip)
            (first | clear hcw | skip)
            go_wp2_with fail
            refine (HC.out _ _ _ c1 c2 (S16.out.then_ (by repeat (first | with_reducible exact Below.refl _ _ | with_reducible refine below_alloc ?_ _ | with_reducible refine Below.drew ?_ | with_reducible exact HB7.out))) (S26.out.then_ (by repeat (first | with_reducible exact Below.refl _ _ | with_reducible refine below_alloc ?_ _ | with_reducible refine Below.drew ?_ | with_reducible exact HB7.out))) (HK.out.then_ (below_next B6.out (by repeat (first | with_reducible exact Below.refl _ _ | with_reducible refine below_alloc ?_ _ | with_reducible refine Below.drew ?_ | with_reducible exact HB7.out))))).mono ?_
            rintro e w9 ⟨rfl, b9⟩
            have B9 := below_next (below_next B6.out (by repeat (first | with_reducible exact Below.refl _ _ | with_reducible refine below_alloc ?_ _ | with_reducible refine Below.drew ?_ | with_reducible exact HB7.out))) b9
            clear b9
            cases cc with
            | true =>
              go_wp2_with fail
              go_ret
              exact ⟨rfl, B9⟩
            | false =>
              have hz : zb = true := by
                rcases hcz with h | h
                · cases h
                · exact h
              subst hz
              go_wp2_with fail
              go_ret
              exact ⟨rfl, B9⟩
    · have hd : (H1.toList == H2.toList) = false := neq_of hH
      have B6' := B6.out
      clear hXY hH
      go_wp2_with fail
      go_ret
      exact ⟨rfl, B6'⟩
end Go.Proofs.YtoipckflokdakaaDoor
