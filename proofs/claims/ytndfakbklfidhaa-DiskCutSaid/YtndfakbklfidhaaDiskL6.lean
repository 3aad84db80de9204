/- The law DiskCut. -/
import Derived.Test.YtndfakbklfidhaaDiskCutP0
namespace Go.Proofs.Ytndfakbklfidhaa
open Go.RowKit Dsk
set_option maxRecDepth 100000 in
set_option maxHeartbeats 2000000 in
theorem cut_law (size m : Int) (A : Option Addr) (cap : Nat) (l : List Wp) (w : World) (hs : I64 size) (hm : I64 m) (hA : WsAt w A l) (hl : WsOk l) (_hc : l.length ≤ cap) (hcap : (cap : Int) ≤ 9223372036854775807) :
    Calls Try.prog 10 #[.int .i64 size, .int .i64 m, .slice A l.length cap] w fun e w' => e = .returned (.bool true) ∧ Below w.heap.size w w' := by
  obtain ⟨i0, hi0, hz0, hz1, hz2⟩ := info_parts int_info1
  have HA := Lib.hid hA
  have HL := Lib.hid hl
  have hll : (l.length : Int) ≤ 9223372036854775807 := by omega
  clear hA hl
  have hp := pk_lt size (n := 100) (by omega)
  obtain ⟨p, hpe⟩ : ∃ p, pk size 100 = p := ⟨_, rfl⟩
  rw [hpe] at hp
  have HP := Lib.hid hpe
  obtain ⟨n, hn⟩ : ∃ n, 1 + p = n := ⟨_, rfl⟩
  have e1 := Lib.hid (show (1 + (p : Int)) = ((n : Nat) : Int) by omega)
  have hn1 : 1 ≤ n := by omega
  have hn2 : n ≤ 100 := by omega
  clear hpe hn
  have hmk := make_bytes n (by omega)
  go_enter Try.func10, Try.ntmps10
  go_wp2_with fail
  refine (sane_any _).mono ?_
  rintro e w1 ⟨rfl, hB⟩
  go_wp2_with fail
  refine (pick_any size 100 _ hs (by omega) (by omega)).mono ?_
  rintro e w2 ⟨rfl, rfl⟩
  rw [HP.out]
  go_wp2_with fail
  rw [e1.out]
  have hcl := pk_lt m (n := 20) (by omega)
  obtain ⟨c, hce⟩ : ∃ c, pk m 20 = c := ⟨_, rfl⟩
  rw [hce] at hcl
  refine (pick_any m 20 _ hm (by omega) (by omega)).mono ?_
  rintro e w2 ⟨rfl, rfl⟩
  rw [hce]
  have HCE := Lib.hid hce
  clear hce
  go_wp2_with fail
  refine (new_any n _ hn1 (by omega)).mono ?_
  rintro e w2 ⟨g, F, rfl, h0, hF, hb⟩
  have hB2 := below_next hB hb
  have hF2 : ∀ x ∈ F, w.heap.size ≤ x := fun x hx => Nat.le_trans hB.size (hF x hx)
  have H0 := Lib.hid h0
  clear h0 hF hb hB
  go_wp2_with fail
  refine (cut_yes ((c : Int) + 5) g F (nw n) _ H0.out rfl (by omega) (by omega)).mono ?_
  rintro e w3 ⟨F1, rfl, d1, k1, n1⟩
  obtain ⟨hB3, hF3⟩ := turn_next hB2 hF2 k1 n1
  have H1 := Lib.hid d1
  clear d1 k1 n1 hB2 hF2 H0
  go_wp2_with fail
  refine (cut_yes (c : Int) g F1 (cu (nw n) ((c : Int) + 5)) _ H1.out (by show (((c : Int) + 5) == 0) = false; rw [beq_eq_false_iff_ne]; omega) (by omega) (by omega)).mono ?_
  rintro e w4 ⟨F2, rfl, d1, k1, n1⟩
  obtain ⟨hB4, hF4⟩ := turn_next hB3 hF3 k1 n1
  have hFl := d1.lt
  have H2 := Lib.hid d1
  clear d1 k1 n1 hB3 hF3 H1
  go_wp2_with fail
  obtain ⟨W, hW⟩ : ∃ W, w4.alloc (.cells (bcs (List.replicate n 0)).toArray 5) = W := ⟨_, rfl⟩
  have r0 : RowB 5 W w4.heap.size (List.replicate n 0) := by rw [← hW]; exact heap_alloc_new _ _
  have bW : Below w4.heap.size w4 W := by rw [← hW]; exact below_alloc (Below.refl _ _) _
  have hbw : w.heap.size ≤ w4.heap.size := hB4.size
  have HD := Lib.hid (H2.out.below bW)
  have HR := Lib.hid r0
  have hB5 := Lib.hid (below_next hB4 bW)
  have hnin := Lib.hid (show w4.heap.size ∉ F2 from fun h => by have := hFl _ h; omega)
  obtain ⟨gb, hgb⟩ : ∃ gb, w4.heap.size = gb := ⟨_, rfl⟩
  rw [hgb] at HR hnin hbw ⊢
  rw [hW]
  have hF5 := Lib.hid hF4
  clear hW r0 bW H2 hF4 hB4 hFl hgb hmk
  go_loopw [11, 12] (fun v i wr => ∃ (vv : Value) (k : Nat) (F : List Nat) (D : Dk), vv = v ∧ k ≤ l.length ∧ k ≤ 40 ∧ i = .int .i64 (k : Int) ∧ DiskAt wr g F D ∧ CutP D n c k ∧ RowB 5 wr gb D.vis ∧ (∀ x ∈ F, w.heap.size ≤ x) ∧ gb ∉ F ∧ wr.ownsRow w.heap.size 3 1 v (min k c) (ivs (upI (min k c))) ∧ Beside v F gb ∧ Below w.heap.size w wr) (fun _ i _ => 40 - (intOf i).toNat)
  case atStart => exact ⟨_, 0, F2, _, rfl, by omega, by omega, rfl, HD.out, cutP_start n c _, HR.out, hF5.out, hnin.out, by rw [Nat.zero_min]; exact World.ownsRow_nil _ _ _ _, fun q hq => (by cases hq), hB5.out⟩
  case round =>
    clear HD HR hB5 hnin hF5
    obtain ⟨v, k, F, D, rfl, hk, hk2, rfl, hD, hcp, hr, hF, hn, hown, hbs, hB⟩ := hrel
    have HD := Lib.hid hD
    have HC := Lib.hid hcp
    have HR := Lib.hid hr
    have HF := Lib.hid hF
    have HN := Lib.hid hn
    have HB := Lib.hid hB
    have HW := Lib.hid hown
    have HS1 := Lib.hid hbs
    clear hD hcp hr hF hn hown hbs
    by_cases hlt : k < l.length ∧ k < 40
    · have tt : True := trivial
      obtain ⟨hlt1, hlt2⟩ := hlt
      obtain ⟨b, o, rfl, c0, c1, c2⟩ := HA.out.then_ hB k hlt1
      have hok := HL.out k hlt1
      obtain ⟨x, hx⟩ : ∃ x, l.getD k wp0 = x := ⟨_, rfl⟩
      rw [hx] at c0 c1 c2 hok
      obtain ⟨ho, hs⟩ := hok
      have i1 : (0 : Int) ≤ (k : Int) := by omega
      have i2 : (k : Int) < (l.length : Int) := by omega
      have i3 : (k : Int) < 40 := by omega
      have l1 := lt_size c0
      have hq := pk_lt x.off (n := n + 1) (by omega)
      obtain ⟨q, hqe⟩ : ∃ q, pk x.off (n + 1) = q := ⟨_, rfl⟩
      rw [hqe] at hq
      have hcs := cutS_size x.s (n - q)
      obtain ⟨s, hse⟩ : ∃ s, cutS x.s (n - q) = s := ⟨_, rfl⟩
      rw [hse] at hcs
      have hfit : q + s.size ≤ n := by omega
      have HQ := Lib.hid hqe
      have HS := Lib.hid hse
      have HXX := Lib.hid hx
      clear hx hqe hse hcs hB
      go_wp2_with fail
      refine (fits_any x.off x.s x.sync n _ ho hs hn1 (by omega)).mono ?_
      rintro e w3 ⟨rfl, b3⟩
      rw [HQ.out, HS.out]
      go_wp2_with fail
      obtain ⟨W, hW⟩ : ∃ W, w3.alloc (.cells #[.int .i64 (q : Int), .string s, .bool x.sync] 53) = W := ⟨_, rfl⟩
      have x0 : W.cell? ⟨w3.heap.size, 0, none⟩ = some (.int .i64 (q : Int)) := by rw [← hW]; exact new_cell rfl
      have x1 : W.cell? ⟨w3.heap.size, 1, none⟩ = some (.string s) := by rw [← hW]; exact new_cell rfl
      have x2 : W.cell? ⟨w3.heap.size, 2, none⟩ = some (.bool x.sync) := by rw [← hW]; exact new_cell rfl
      have bW : Below w3.heap.size w3 W := by rw [← hW]; exact below_alloc (Below.refl _ _) _

      have b33 := below_next b3 bW
      obtain ⟨t1, t2, t3⟩ := quiet_row HB.out (below_next b3 bW) HD.out HR.out
      have HDO := Lib.hid HD.out.ok
      have HXV := Lib.hid (fun q' (hq' : v.ownBlock = some q') => (by have h1 := (HW.out.lt q' hq').2; have h2 := b3.size; omega : q' < w3.heap.size))
      have hgx : gb < w3.heap.size := Nat.lt_of_lt_of_le (hlt HR.out) b3.size
      have hxF : w3.heap.size ∉ F := fun h => by have h1 := HD.out.lt _ h; have h2 := b3.size; omega
      obtain ⟨bx, hbx⟩ : ∃ bx, w3.heap.size = bx := ⟨_, rfl⟩
      rw [hbx] at x0 x1 x2 hgx hxF HXV ⊢
      rw [hW]
      replace HB := Lib.hid t1
      replace HD := Lib.hid t2
      replace HR := Lib.hid t3
      replace HW := Lib.hid (own_then HW.out b33)
      replace hxF := Lib.hid hxF
      clear hW bW b3 b33 hbx t1 t2 t3 c0 c1 c2
      have lx := lt_size x0
      by_cases hkc : k < c
      · have k1 : (k : Int) < (c : Int) := by omega
        have hoff := Lib.hid (show D.off = false by rw [HC.out.1, decide_eq_false (by omega)])
        go_wp2_with fail
        refine (write_in q s g F D _ HD.out hoff.out (by rw [HC.out.2.2.1]; exact hfit) (by rw [HC.out.2.2.2.1]; omega)).mono ?_
        rintro e w5 ⟨F1, rfl, d5, k5, n5⟩
        obtain ⟨t1, t2, t3, t4⟩ := turn_row HB.out HF.out k5 n5 HR.out HN.out
        have hxF1 : bx ∉ F1 := nin_new hxF.out n5 lx
        replace x0 := k5.cell x0 hxF.out
        replace x1 := k5.cell x1 hxF.out
        have HS2 := Lib.hid (HS1.out.new HW.out n5)
        have HW2 := Lib.hid (k5.own HW.out (fun q' hq' => (HS1.out q' hq').1))
        replace HB := Lib.hid t1
        replace HF := Lib.hid t2
        replace HR := Lib.hid t3
        replace HN := Lib.hid t4
        replace HD := Lib.hid d5
        have HC2 := Lib.hid (cutP_in HC.out hkc q s)
        have lx2 := lt_size x0
        have hLn := Lib.hid (show D.vis.length = n by rw [HDO.out.len, HC.out.2.2.1])
        clear t1 t2 t3 t4 d5 k5 n5 x2 lx
        go_wp2_with fail
        refine (put_any gb n q D.vis s _ HR.out hLn.out hfit (by omega)).mono ?_
        rintro e w6 ⟨rfl, r4, k4⟩
        obtain ⟨t1, t2⟩ := row_turn HB.out hbw k4 HD.out HN.out
        have HW3 := Lib.hid (k4.own HW2.out (fun q' hq' hx => (HS2.out q' hq').2 (List.mem_singleton.1 hx)))
        replace HB := Lib.hid t1
        replace HD := Lib.hid t2
        replace HR := Lib.hid r4
        clear t1 t2 r4 k4 HW HW2
        have hown := HW3.out
        have hmin : min k c = k := by omega
        rw [hmin] at hown
        have Hown := Lib.hid hown
        have HS3 := Lib.hid hmin
        have hsz := HB.out.size
        clear hown hmin x0 x1 lx2
        go_wp2_with (at_builtin; go_must (refine wpList_append_lies _ rfl _ _ _ rfl w.heap.size 3 i0 _ 1 8 Try.underlying37 hi0 hz0 hz1 hz2 rfl (by omega) _ _ _ rfl (Hown.out.alloc _) ⟨w6.heap.size, 0, none⟩ 1 1 [.int .i64 ((k : Int))] rfl rfl (cell_one_new _ _ _) (by simp [Value.oneCell']) (by omega) (by unfold maxLen; omega) (by omega) (by simp; omega) (w6.heap.size + 1) (by simp) ?_); intro g' cp' wy hown' hgrow hat hlt')
        obtain ⟨t1, t2, t3, t4⟩ := grow_turn (below_alloc HB.out (.cells #[.int .i64 (k : Int)] 3)) (HD.out.below (below_alloc (Below.refl _ _) _)) (HR.out.kept (Kept.of_below (below_alloc (Below.refl _ _) _)) (fun h => by cases h)) HS2.out (fun q' hq' => (Hown.out.lt q' hq').1) hgrow hat (by simp)
        refine ⟨⟨_, k + 1, F1, Dsk.wr D q s, rfl, by omega, by omega, by go_num, t2, HC2.out, t3, HF.out, HN.out, ?_, ?_, t1⟩, by simp [intOf]; omega⟩
        · rw [show min (k + 1) c = k + 1 by omega, upI_succ, ivs_append]
          exact hown'
        · intro q' hq'
          obtain rfl : g' = q' := by simpa [Value.ownBlock] using hq'
          exact t4
      · have k1 : ¬ (k : Int) < (c : Int) := by omega
        have hoff := Lib.hid (show D.off = true by rw [HC.out.1, decide_eq_true (by omega)])
        go_wp2_with fail
        refine (write_off _ s g F D _ HD.out hoff.out).mono ?_
        rintro e w5 ⟨rfl, rfl⟩
        go_wp2_with fail
        exact ⟨⟨_, k + 1, F, D, rfl, by omega, by omega, by go_num, HD.out, cutP_out HC.out (by omega), HR.out, HF.out, HN.out, by rw [show min (k + 1) c = min k c by omega]; exact HW.out, HS1.out, HB.out⟩, by simp [intOf]; omega⟩
    · rcases (show ¬ (k : Int) < (l.length : Int) ∨ ((k : Int) < (l.length : Int) ∧ ¬ (k : Int) < 40) by omega) with h1 | ⟨h1, h2⟩
      all_goals
        clear hlt
        obtain ⟨O, oc, rfl, hI, hIl, -⟩ := own_ints HW.out
        have HI := Lib.hid hI
        clear hI hIl hB
        by_cases hkc : k < c
        · have m1 : (min k c : Nat) < c := by omega
          obtain ⟨mm, hmm⟩ : ∃ mm, min k c = mm := ⟨_, rfl⟩
          rw [hmm] at m1 ⊢
          have m2 : (mm : Int) < (c : Int) := by omega
          have hoff := Lib.hid (show D.off = false by rw [HC.out.1, decide_eq_false (by omega)])
          clear hmm HI HW HS1
          go_wp2_with fail
          refine (sync_ok g F D _ HD.out hoff.out).mono ?_
          rintro e w6 ⟨F6, rfl, d6, k6, n6⟩
          obtain ⟨t1, t2⟩ := turn_next HB.out HF.out k6 n6
          clear d6 k6 n6
          go_wp2_with fail
          go_ret
          exact ⟨rfl, t1⟩
        · have hmc : min k c = c := by omega
          rw [hmc] at HI ⊢
          have hoff := Lib.hid (show D.off = true by rw [HC.out.1, decide_eq_true (by omega)])
          have hpl := Lib.hid (show D.pend.length = c by rw [HC.out.2.2.2.1]; omega)
          have m2 : ¬ (c : Int) < (c : Int) := by omega
          have hvl := Lib.hid (show D.vis.length = n by rw [HD.out.ok.len, HC.out.2.2.1])
          clear hmc HW HS1
          go_wp2_with fail
          refine (read_off 0 0 g F D _ HD.out hoff.out).mono ?_
          rintro e w6 ⟨rfl, rfl⟩
          go_wp2_with fail
          refine (sync_off g F D _ HD.out hoff.out).mono ?_
          rintro e w6 ⟨rfl, rfl⟩
          go_wp2_with fail
          refine (cut_off 3 g F D _ HD.out hoff.out).mono ?_
          rintro e w6 ⟨rfl, rfl⟩
          go_wp2_with fail
          refine (pending_any g F D _ HD.out).mono ?_
          rintro e w6 ⟨rfl, rfl⟩
          rw [hpl.out]
          go_wp2_with fail
          refine (size_any g F D _ HD.out).mono ?_
          rintro e w6 ⟨rfl, rfl⟩
          rw [HC.out.2.2.1]
          go_wp2_with fail
          have hcc := crash_any g F D O oc (upI c) (-1) _ HD.out HI.out (by rw [upI_length]; omega) (by omega) (by rw [hpl.out]; omega)
          rw [upI_length] at hcc
          have hca := cr_all HC.out.2.2.2.2 (t := -1) (by omega)
          rw [hpl.out] at hca
          rw [hca] at hcc
          refine hcc.mono ?_
          rintro e w7 ⟨F7, rfl, d7, k7, n7⟩
          obtain ⟨t1, t2, t3, t4⟩ := turn_row HB.out HF.out k7 n7 HR.out HN.out
          have HD7 := Lib.hid d7
          have T1 := Lib.hid t1
          have T2 := Lib.hid t2
          have hcv := conv_row t3 0 n n (by rw [hvl.out]; omega)
          rw [show (D.vis.drop 0).take n = D.vis by rw [List.drop_zero, List.take_of_length_le (by rw [hvl.out]; exact Nat.le_refl _)]] at hcv
          obtain ⟨Z, hZ⟩ : ∃ Z, sof D.vis = Z := ⟨_, rfl⟩
          rw [hZ] at hcv
          have HZ := Lib.hid hZ
          clear d7 k7 n7 hcc hca hZ t1 t2 t3 t4
          go_wp2_with fail
          refine (read_in 0 n g F7 _ _ HD7.out rfl (by show 0 + n ≤ D.vis.length; rw [hvl.out]; omega)).mono ?_
          rintro e w8 ⟨rfl, rfl⟩
          rw [show ((D.vis.drop 0).take n) = D.vis by rw [List.drop_zero, List.take_of_length_le (by rw [hvl.out]; exact Nat.le_refl _)], HZ.out]
          go_wp2_with fail
          refine (write_in 0 ⟨#[120]⟩ g F7 _ _ HD7.out rfl (by show 0 + 1 ≤ D.vis.length; rw [hvl.out]; omega) (by simp)).mono ?_
          rintro e w8 ⟨F8, rfl, d8, k8, n8⟩
          obtain ⟨t1, t2⟩ := turn_next T1.out T2.out k8 n8
          have HD8 := Lib.hid d8
          clear d8 k8 n8 hcv
          go_wp2_with fail
          refine (sync_ok g F8 _ _ HD8.out rfl).mono ?_
          rintro e w9 ⟨F9, rfl, d9, k9, n9⟩
          obtain ⟨t3, t4⟩ := turn_next t1 t2 k9 n9
          clear d9 k9 n9
          go_wp2_with fail
          go_ret
          exact ⟨rfl, t3⟩
end Go.Proofs.Ytndfakbklfidhaa
