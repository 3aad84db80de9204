/- The reference disk: Crash. -/
import Derived.Test.YtndfakbklfidhaaRefWrite
import Derived.Test.YtndfakbklfidhaaDiskCutP0
namespace Go.Proofs.Ytndfakbklfidhaa
open Go.RowKit Dsk
theorem full_str (s : ByteArray) : s.extract 0 s.size = s := by simp
theorem filter_next {p : Nat → Bool} {k : Nat} (h : p k = true) : (List.range (k + 1)).filter p = (List.range k).filter p ++ [k] := by
  rw [List.range_succ, List.filter_append]; simp [h]
theorem filter_not {p : Nat → Bool} {k : Nat} (h : p k = false) : (List.range (k + 1)).filter p = (List.range k).filter p := by
  rw [List.range_succ, List.filter_append]; simp [h]
/-- the first k writes that survive, not yet torn -/
def sel (D : Dk) (keep : List Int) (k : Nat) : List (Nat × ByteArray) := ((List.range k).filter fun i : Nat => keep.contains (i : Int)).map fun i => D.pend.getD i (0, ByteArray.empty)
theorem sel_in {D : Dk} {keep : List Int} {k : Nat} (h : keep.contains (k : Int) = true) : sel D keep (k + 1) = sel D keep k ++ [D.pend.getD k (0, ByteArray.empty)] := by
  rw [sel, filter_next (p := fun i : Nat => keep.contains (i : Int)) h, List.map_append]; rfl
theorem sel_out {D : Dk} {keep : List Int} {k : Nat} (h : keep.contains (k : Int) = false) : sel D keep (k + 1) = sel D keep k := by
  rw [sel, filter_not (p := fun i : Nat => keep.contains (i : Int)) h]; rfl
theorem sel_length (D : Dk) (keep : List Int) (k : Nat) : (sel D keep k).length ≤ k := by
  rw [sel, List.length_map]
  have := List.length_filter_le (fun i : Nat => keep.contains (i : Int)) (List.range k)
  simpa using this
theorem surv_sel (D : Dk) (keep : List Int) (t : Int) : surv D keep t = tear t (sel D keep D.pend.length) := rfl
set_option maxRecDepth 100000 in
set_option maxHeartbeats 2000000 in
theorem rcrash_any (h : Nat) (G : List Nat) (D : Dk) (A : Option Addr) (cap : Nat) (keep : List Int) (t : Int) (w : World) (hR : RefAt w h G D) (hA : IntsAt w A keep) (hn : keep.length ≤ 17592186044416) (ht : t ≤ 9223372036854775807) (hpl : D.pend.length ≤ 1000000) :
    Calls Try.prog 33 #[.pointer (some ⟨h, 0, none⟩), .slice A keep.length cap, .int .i64 t] w (RTurn h G (cr D keep t) (.tuple #[]) w) := by
  obtain ⟨i0, hi0, hz0, hz1, hz2⟩ := info_parts change_info
  have HKA := Lib.hid hA
  have HT := Lib.hid ht
  have HNN := Lib.hid hn
  obtain ⟨gs, cs, pv, rfl, h1, h2, hg, hs, hp, hk, hc⟩ := hR
  have c1 := (cells4 hg).2.1
  have lh := hlt hg
  have lgs := hs.lt
  have hm := hk.max
  have HG := Lib.hid hg
  have HS := Lib.hid hs
  have HP := Lib.hid hp
  have HK := Lib.hid hk
  have H2 := Lib.hid h2
  have HSV := Lib.hid (fit_surv hk keep t)
  clear hg hs hp hk h2 ht hA hn
  go_enter Try.func33, Try.ntmps33
  go_wp2_with fail
  go_loopw [6, 7] (fun v i wr => ∃ (vv : Value) (k : Nat), vv = v ∧ k ≤ D.pend.length ∧ i = .int .i64 (k : Int) ∧ wr.ownsRow w.heap.size 80 2 v (sel D keep k).length (pcs (sel D keep k)) ∧ Below w.heap.size w wr) (fun _ i _ => D.pend.length - (intOf i).toNat)
  case atStart => exact ⟨_, 0, rfl, by omega, rfl, World.ownsRow_nil _ _ _ _, Below.refl _ _⟩
  case round =>
    obtain ⟨v, k, rfl, hk, rfl, hown, hB⟩ := hrel
    have c1w := cell_then hB c1
    have HPW := Lib.hid (own_then HP.out hB)
    have HB := Lib.hid hB
    have hBs := hB.size
    have Hown := Lib.hid hown
    have hsl := sel_length D keep k
    clear hown hB c1
    by_cases hlt : k < D.pend.length
    · obtain ⟨gp, pc, rfl, hp1, hp2⟩ := HPW.out.form (by omega)
      obtain ⟨g1, g2⟩ := pcs_get hlt
      have p0 : wr.cell? ⟨gp, k * 2, none⟩ = _ := (HPW.out.cellAt (k * 2) (by omega)).trans g1
      have p1 : wr.cell? ⟨gp, k * 2 + 1, none⟩ = _ := (HPW.out.cellAt (k * 2 + 1) (by omega)).trans g2
      obtain ⟨x, hx⟩ : ∃ x, D.pend.getD k (0, ByteArray.empty) = x := ⟨_, rfl⟩
      rw [hx] at p0 p1
      obtain ⟨q, s⟩ := x
      simp only at p0 p1
      have HX := Lib.hid hx
      have i1 : (k : Int) < (D.pend.length : Int) := by omega
      have i2 : (0 : Int) ≤ (k : Int) := by omega
      clear g1 g2 hx
      go_wp2_with fail
      refine (has_any A cap keep k _ (HKA.out.then_ HB.out) (by have := HNN.out; omega)).mono ?_
      rintro e w3 ⟨rfl, rfl⟩
      cases hc : keep.contains (k : Int) with
      | true =>
        go_wp2_with (at_builtin; go_must (refine wpList_append_lies _ rfl _ _ _ rfl w.heap.size 80 i0 _ 2 24 Try.underlying41 hi0 hz0 hz1 hz2 rfl (by omega) v (sel D keep k).length _ rfl (Hown.out.alloc _) ⟨wr.heap.size, 0, none⟩ 1 1 [.int .i64 (q : Int), .string s] rfl rfl new_write (by simp [Value.oneCell']) (by omega) (by unfold maxLen; omega) (by omega) (by simp; omega) (wr.heap.size + 1) (by simp) ?_); intro g' cp' wy hown' hgrow hat hlt')
        refine ⟨⟨_, k + 1, rfl, by omega, by go_num, ?_, (below_alloc HB.out _).grown hgrow (by simp; omega) (fun q hq => (Hown.out.lt q hq).1)⟩, by simp [intOf]; omega⟩
        rw [sel_in hc, HX.out, List.length_append, pcs_append]
        exact hown'
      | false =>
        go_wp2_with fail
        exact ⟨⟨_, k + 1, rfl, by omega, by go_num, by rw [sel_out hc]; exact Hown.out, HB.out⟩, by simp [intOf]; omega⟩
    · obtain rfl : k = D.pend.length := by omega
      have i1 : ¬ (D.pend.length : Int) < (D.pend.length : Int) := by omega
      obtain ⟨pa, pc, rfl⟩ := pend_len HP.out
      obtain ⟨wl, rfl⟩ : ∃ x : World, x = wr := ⟨_, rfl⟩
      obtain ⟨S, hS⟩ : ∃ S, sel D keep D.pend.length = S := ⟨_, rfl⟩
      rw [hS] at Hown hsl
      have HSS := Lib.hid hS
      have hT := surv_sel D keep t
      rw [hS] at hT
      have HTT := Lib.hid hT
      have G0 := (Kept.of_below HB.out).heap HG.out (by simp)
      have HG0 := Lib.hid G0
      have R0 := Lib.hid (HS.out.kept (Kept.of_below HB.out) (by simp))
      obtain ⟨va, vc, rfl⟩ : ∃ a c, v = .slice a S.length c := by
        rcases Hown.out.2 with ⟨h', e⟩ | ⟨g, cap, _, h', _⟩
        · exact ⟨none, 0, by rw [h', e]⟩
        · exact ⟨_, _, h'⟩
      have HTL := Lib.hid (show (tear t S).length = S.length from tear_length t S)
      rw [HTT.out] at HSV
      clear hS hT hlt G0
      go_wp2_with fail
      go_loopw [8] (fun i wr => ∃ j : Nat, j ≤ S.length ∧ i = .int .i64 (j : Int) ∧ RowX 5 wr gs (overs D.sure ((tear t S).take j)) ∧ Kept [gs] wl wr) (fun i _ => S.length - (intOf i).toNat)
      case atStart => exact ⟨0, by omega, rfl, by rw [List.take_zero]; exact R0.out, Kept.refl _ _⟩
      case round =>
        clear c1w i1
        obtain ⟨j, hj, rfl, hr, hK⟩ := hrel
        have HKK := Lib.hid hK
        have HRJ := Lib.hid hr
        have G1 := hK.heap HG0.out (by simpa using h1)
        have k0 := (cells4 G1).1
        have k1 := (cells4 G1).2.1
        have HG1 := Lib.hid G1
        have HOJ := Lib.hid (hK.own Hown.out (fun q hq hx => by have h3 := (Hown.out.lt q hq).1; have := List.mem_singleton.1 hx; omega))
        clear hr hK
        by_cases hlt : j < S.length
        · obtain ⟨gq, qc, e, hq1, hq2⟩ := HOJ.out.form (by omega)
          injection e with e1 _ e3
          subst e1 e3
          obtain ⟨g1, g2⟩ := pcs_get hlt
          have p0 : wr.cell? ⟨gq, j * 2, none⟩ = _ := (HOJ.out.cellAt (j * 2) (by omega)).trans g1
          have p1 : wr.cell? ⟨gq, j * 2 + 1, none⟩ = _ := (HOJ.out.cellAt (j * 2 + 1) (by omega)).trans g2
          have htg := tear_get t hlt
          have hfit := HSV.out ((tear t S).getD j (0, ByteArray.empty)) (by rw [List.getD, List.getElem?_eq_getElem (by rw [HTL.out]; exact hlt)]; exact List.getElem_mem _)
          obtain ⟨x, hx⟩ : ∃ x, S.getD j (0, ByteArray.empty) = x := ⟨_, rfl⟩
          rw [hx] at p0 p1 htg
          obtain ⟨q, s⟩ := x
          simp only at p0 p1 htg
          rw [htg] at hfit
          have HTG := Lib.hid htg
          have hln := Lib.hid (show (overs D.sure ((tear t S).take j)).length = D.sure.length from overs_length (fit_take HSV.out j))
          obtain ⟨Lk, hLk⟩ : ∃ Lk, overs D.sure ((tear t S).take j) = Lk := ⟨_, rfl⟩
          have HLk := Lib.hid hLk
          rw [hLk] at HRJ hln
          have i0 : (0 : Int) ≤ (j : Int) := by omega
          have i1 : (j : Int) < (S.length : Int) := by omega
          have hqs : gq ≠ gs := by have := (Hown.out.lt gq rfl).1; omega
          have hm2 : (S.length : Int) ≤ 1000000 := by omega
          clear g1 g2 hx hLk htg
          rcases (show (j + 1 = S.length ∧ 0 ≤ t ∧ t < (s.size : Int)) ∨ (j + 1 = S.length ∧ 0 ≤ t ∧ ¬ t < (s.size : Int)) ∨ (j + 1 = S.length ∧ ¬ 0 ≤ t) ∨ ¬ j + 1 = S.length by omega) with ⟨y1, y2, y3⟩ | ⟨y1, y2, y3⟩ | ⟨y1, y2⟩ | y1
          · have hb1 : ((j : Int) == (S.length : Int) - 1) = true := by rw [beq_iff_eq]; omega
            have Y1 := Lib.hid y1
            have tk : (tear t S).getD j (0, ByteArray.empty) = (q, s.extract 0 t.toNat) := by rw [HTG.out, if_pos Y1.out, torn, if_pos y2, Nat.min_eq_left (by omega)]
            rw [← HTG.out, tk] at hfit
            simp only at hfit
            have HTK := Lib.hid tk
            have HFT := Lib.hid hfit
            clear y1 G1 tk hfit
            go_wp2_with fail
            have hs0 : wr.drew.cell? ⟨h, 0, none⟩ = some (.slice (some ⟨gs, 0, none⟩) D.sure.length cs) := k0
            have hs1 : wr.drew.cell? ⟨gq, j * 2, none⟩ = some (.int .i64 (q : Int)) := p0
            have HRd : Hid (RowX 5 wr.drew gs Lk) := HRJ.out
            go_region_held3 (fun w' => w'.cell? ⟨h, 0, none⟩ = some (.slice (some ⟨gs, 0, none⟩) D.sure.length cs) ∧ w'.cell? ⟨gq, j * 2, none⟩ = some (.int .i64 (q : Int))) ((first | exact ⟨hs0, hs1⟩ | exact ⟨x0, x1⟩)) (first | (go_at_call 44; (with_reducible refine (apply_any gs D.sure.length cs q Lk (s.extract 0 t.toNat) _ HRd.out hln.out HFT.out hm).mono ?_); rintro e w5 ⟨rfl, r5, k5⟩; have x0 := k5.cell hs0 (by simpa using h1); have x1 := k5.cell hs1 (by simpa using hqs)))
            go_wp2_with fail
            refine ⟨⟨j + 1, by omega, by go_num, ?_, HKK.out.drew.trans k5 (New.refl _ _)⟩, by simp [intOf]; omega⟩
            rw [overs_take (by rw [HTL.out]; exact hlt), HTK.out, HLk.out]
            exact r5
          · have hb1 : ((j : Int) == (S.length : Int) - 1) = true := by rw [beq_iff_eq]; omega
            have Y1 := Lib.hid y1
            have tk : (tear t S).getD j (0, ByteArray.empty) = (q, s) := by rw [HTG.out, if_pos Y1.out, torn, if_pos y2, Nat.min_eq_right (by omega), full_str]
            rw [← HTG.out, tk] at hfit
            simp only at hfit
            have HTK := Lib.hid tk
            have HFT := Lib.hid hfit
            clear y1 G1 tk hfit
            go_wp2_with fail
            have hs0 : wr.drew.cell? ⟨h, 0, none⟩ = some (.slice (some ⟨gs, 0, none⟩) D.sure.length cs) := k0
            have hs1 : wr.drew.cell? ⟨gq, j * 2, none⟩ = some (.int .i64 (q : Int)) := p0
            have HRd : Hid (RowX 5 wr.drew gs Lk) := HRJ.out
            go_region_held3 (fun w' => w'.cell? ⟨h, 0, none⟩ = some (.slice (some ⟨gs, 0, none⟩) D.sure.length cs) ∧ w'.cell? ⟨gq, j * 2, none⟩ = some (.int .i64 (q : Int))) ((first | exact ⟨hs0, hs1⟩ | exact ⟨x0, x1⟩)) (first | (go_at_call 44; (with_reducible refine (apply_any gs D.sure.length cs q Lk (s) _ HRd.out hln.out HFT.out hm).mono ?_); rintro e w5 ⟨rfl, r5, k5⟩; have x0 := k5.cell hs0 (by simpa using h1); have x1 := k5.cell hs1 (by simpa using hqs)))
            go_wp2_with fail
            refine ⟨⟨j + 1, by omega, by go_num, ?_, HKK.out.drew.trans k5 (New.refl _ _)⟩, by simp [intOf]; omega⟩
            rw [overs_take (by rw [HTL.out]; exact hlt), HTK.out, HLk.out]
            exact r5
          · have hb1 : ((j : Int) == (S.length : Int) - 1) = true := by rw [beq_iff_eq]; omega
            have Y1 := Lib.hid y1
            have tk : (tear t S).getD j (0, ByteArray.empty) = (q, s) := by rw [HTG.out, if_pos Y1.out, torn, if_neg y2]
            rw [← HTG.out, tk] at hfit
            simp only at hfit
            have HTK := Lib.hid tk
            have HFT := Lib.hid hfit
            clear y1 G1 tk hfit
            go_wp2_with fail
            have hs0 : wr.drew.cell? ⟨h, 0, none⟩ = some (.slice (some ⟨gs, 0, none⟩) D.sure.length cs) := k0
            have hs1 : wr.drew.cell? ⟨gq, j * 2, none⟩ = some (.int .i64 (q : Int)) := p0
            have HRd : Hid (RowX 5 wr.drew gs Lk) := HRJ.out
            go_region_held3 (fun w' => w'.cell? ⟨h, 0, none⟩ = some (.slice (some ⟨gs, 0, none⟩) D.sure.length cs) ∧ w'.cell? ⟨gq, j * 2, none⟩ = some (.int .i64 (q : Int))) ((first | exact ⟨hs0, hs1⟩ | exact ⟨x0, x1⟩)) (first | (go_at_call 44; (with_reducible refine (apply_any gs D.sure.length cs q Lk (s) _ HRd.out hln.out HFT.out hm).mono ?_); rintro e w5 ⟨rfl, r5, k5⟩; have x0 := k5.cell hs0 (by simpa using h1); have x1 := k5.cell hs1 (by simpa using hqs)))
            go_wp2_with fail
            refine ⟨⟨j + 1, by omega, by go_num, ?_, HKK.out.drew.trans k5 (New.refl _ _)⟩, by simp [intOf]; omega⟩
            rw [overs_take (by rw [HTL.out]; exact hlt), HTK.out, HLk.out]
            exact r5
          · have hb1 : ((j : Int) == (S.length : Int) - 1) = false := by rw [beq_eq_false_iff_ne]; omega
            have Y1 := Lib.hid y1
            have tk : (tear t S).getD j (0, ByteArray.empty) = (q, s) := by rw [HTG.out, if_neg Y1.out]
            rw [← HTG.out, tk] at hfit
            simp only at hfit
            have HTK := Lib.hid tk
            have HFT := Lib.hid hfit
            clear y1 G1 tk hfit
            go_wp2_with fail
            have hs0 : wr.drew.cell? ⟨h, 0, none⟩ = some (.slice (some ⟨gs, 0, none⟩) D.sure.length cs) := k0
            have hs1 : wr.drew.cell? ⟨gq, j * 2, none⟩ = some (.int .i64 (q : Int)) := p0
            have HRd : Hid (RowX 5 wr.drew gs Lk) := HRJ.out
            go_region_held3 (fun w' => w'.cell? ⟨h, 0, none⟩ = some (.slice (some ⟨gs, 0, none⟩) D.sure.length cs) ∧ w'.cell? ⟨gq, j * 2, none⟩ = some (.int .i64 (q : Int))) ((first | exact ⟨hs0, hs1⟩ | exact ⟨x0, x1⟩)) (first | (go_at_call 44; (with_reducible refine (apply_any gs D.sure.length cs q Lk (s) _ HRd.out hln.out HFT.out hm).mono ?_); rintro e w5 ⟨rfl, r5, k5⟩; have x0 := k5.cell hs0 (by simpa using h1); have x1 := k5.cell hs1 (by simpa using hqs)))
            go_wp2_with fail
            refine ⟨⟨j + 1, by omega, by go_num, ?_, HKK.out.drew.trans k5 (New.refl _ _)⟩, by simp [intOf]; omega⟩
            rw [overs_take (by rw [HTL.out]; exact hlt), HTK.out, HLk.out]
            exact r5
        · obtain rfl : j = S.length := by omega
          have i1 : ¬ (S.length : Int) < (S.length : Int) := by omega
          have z1 := frozen_of_row wr h 1 _ _ G1
          have z2 := frozen_of_row wr h 2 _ _ G1
          have z3 := frozen_of_row wr h 3 _ _ G1
          have k2 := (cells4 G1).2.2.1
          have k3 := (cells4 G1).2.2.2
          clear G1
          go_wp2_with fail
          go_end0
          have s1 := heap_setCell_same wr h 1 _ _ (.slice none 0 0) HG1.out
          have s2 := heap_setCell_same _ h 2 _ _ (.bool false) s1
          have s3 := heap_setCell_same _ h 3 _ _ (.int .i64 0) s2
          have K0 : Kept [h] wr (((wr.setCell ⟨h, 1, none⟩ (.slice none 0 0)).setCell ⟨h, 2, none⟩ (.bool false)).setCell ⟨h, 3, none⟩ (.int .i64 0)) := (((Kept.refl _ _).setCell (.inl (by simp)) _).setCell (.inl (by simp)) _).setCell (.inl (by simp)) _
          have K1 : Kept [h, gs] w (((wr.setCell ⟨h, 1, none⟩ (.slice none 0 0)).setCell ⟨h, 2, none⟩ (.bool false)).setCell ⟨h, 3, none⟩ (.int .i64 0)) :=
            (((Kept.of_below HB.out).mono (S' := [h, gs]) (fun _ h => by cases h)).trans (HKK.out.mono (S' := [h, gs]) (by simp)) (New.refl _ _)).trans (K0.mono (S' := [h, gs]) (by simp)) (New.refl _ _)
          have hrr := HRJ.out
          rw [List.take_of_length_le (by rw [HTL.out]; exact Nat.le_refl _)] at hrr
          have hcl := cr_length HK.out keep t
          refine ⟨[h, gs], rfl, ⟨gs, cs, .slice none 0 0, rfl, h1, fun k hk => (by cases hk), ?_, ?_, World.ownsRow_nil _ _ _ _, ok_cr HK.out keep t, by rw [hcl]; exact hc⟩, K1.mono (fun k hk => ?_), New.of_lt (fun k hk => ?_)⟩
          · rw [hcl]
            simpa [cr] using s3
          · show RowX _ _ gs (overs D.sure (surv D keep t))
            rw [HTT.out]
            exact hrr.kept K0 (by simpa using fun e => h1 e.symm)
          · simp only [List.mem_cons, List.not_mem_nil, or_false] at hk
            rcases hk with rfl | rfl <;> simp
          · simp only [List.mem_cons, List.not_mem_nil, or_false] at hk
            rcases hk with rfl | rfl <;> simp
end Go.Proofs.Ytndfakbklfidhaa
