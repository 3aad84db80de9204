/- The law DiskAllSurvive. -/
import Derived.Test.YtndfakbklfidhaaDiskWs
namespace Go.Proofs.Ytndfakbklfidhaa
open Go.RowKit Dsk
set_option maxRecDepth 100000 in
set_option maxHeartbeats 2000000 in
theorem all_law (size : Int) (A : Option Addr) (cap : Nat) (l : List Wp) (w : World) (hs : I64 size) (hA : WsAt w A l) (hl : WsOk l) (_hc : l.length ≤ cap) (hcap : (cap : Int) ≤ 9223372036854775807) :
    Calls Try.prog 9 #[.int .i64 size, .slice A l.length cap] w fun e w' => e = .returned (.bool true) ∧ Below w.heap.size w w' := by
  obtain ⟨i0, hi0, hz0, hz1, hz2⟩ := info_parts int_info1
  have HA := Lib.hid hA
  have HL := Lib.hid hl
  have hll : (l.length : Int) ≤ 9223372036854775807 := by omega
  clear hA hl
  have hp := pk_lt size (n := 300) (by omega)
  obtain ⟨p, hpe⟩ : ∃ p, pk size 300 = p := ⟨_, rfl⟩
  rw [hpe] at hp
  have HP := Lib.hid hpe
  obtain ⟨n, hn⟩ : ∃ n, 1 + p = n := ⟨_, rfl⟩
  have e1 := Lib.hid (show (1 + (p : Int)) = ((n : Nat) : Int) by omega)
  have hn1 : 1 ≤ n := by omega
  have hn2 : n ≤ 300 := by omega
  clear hpe hn
  go_enter Try.func9, Try.ntmps9
  go_wp2_with fail
  refine (sane_any _).mono ?_
  rintro e w1 ⟨rfl, hB⟩
  go_wp2_with fail
  refine (pick_any size 300 _ hs (by omega) (by omega)).mono ?_
  rintro e w2 ⟨rfl, rfl⟩
  rw [HP.out]
  go_wp2_with fail
  rw [e1.out]

  refine (new_any n _ hn1 (by omega)).mono ?_
  rintro e w2 ⟨g, F, rfl, h0, hF, hb⟩
  have hB2 := below_next hB hb
  have hF2 : ∀ x ∈ F, w.heap.size ≤ x := fun x hx => Nat.le_trans hB.size (hF x hx)
  go_wp2_with fail
  have HD := Lib.hid h0
  have HF := Lib.hid hF2
  have HB := Lib.hid hB2
  clear h0 hF hF2 hb hB hB2
  go_loopw [8] (fun i wr => ∃ (k : Nat) (F : List Nat) (D : Dk), k ≤ l.length ∧ k ≤ 60 ∧ i = .int .i64 (k : Int) ∧ DiskAt wr g F D ∧ On D n k ∧ Vis D ∧ (∀ x ∈ F, w.heap.size ≤ x) ∧ Below w.heap.size w wr) (fun i _ => 60 - (intOf i).toNat)
  case atStart => exact ⟨0, F, nw n, by omega, by omega, rfl, HD.out, on_nw n, vis_nw n, HF.out, HB.out⟩
  case round =>
    clear HD HF HB
    obtain ⟨k, F, D, hk, hk2, rfl, hD, hon, hvis, hF, hB⟩ := hrel
    have HV := Lib.hid hvis
    clear hvis
    have HD := Lib.hid hD
    have HO := Lib.hid hon
    have HF := Lib.hid hF
    have HB := Lib.hid hB
    clear hD hon hF
    by_cases hlt : k < l.length ∧ k < 60
    · have tt : True := trivial
      obtain ⟨hlt1, hlt2⟩ := hlt
      obtain ⟨b, o, rfl, c0, c1, c2⟩ := HA.out.then_ hB k hlt1
      have hok := HL.out k hlt1
      obtain ⟨x, hx⟩ : ∃ x, l.getD k wp0 = x := ⟨_, rfl⟩
      rw [hx] at c0 c1 c2 hok
      obtain ⟨ho, hs⟩ := hok
      have i1 : (0 : Int) ≤ (k : Int) := by omega
      have i2 : (k : Int) < (l.length : Int) := by omega
      have i3 : (k : Int) < 60 := by omega
      have l1 := lt_size c0
      have hq := pk_lt x.off (n := n + 1) (by omega)
      obtain ⟨q, hqe⟩ : ∃ q, pk x.off (n + 1) = q := ⟨_, rfl⟩
      rw [hqe] at hq
      have hcs := cutS_size x.s (n - q)
      obtain ⟨s, hse⟩ : ∃ s, cutS x.s (n - q) = s := ⟨_, rfl⟩
      rw [hse] at hcs
      have hfit : q + s.size ≤ n := by omega
      have HQ := Lib.hid hqe
      have HS := Lib.hid hse
      have HXX := Lib.hid hx
      clear hx hqe hse hcs hB
      go_wp2_with fail
      refine (fits_any x.off x.s x.sync n _ ho hs hn1 (by omega)).mono ?_
      rintro e w3 ⟨rfl, b3⟩
      rw [HQ.out, HS.out]
      go_wp2_with fail
      obtain ⟨W, hW⟩ : ∃ W, w3.alloc (.cells #[.int .i64 (q : Int), .string s, .bool x.sync] 53) = W := ⟨_, rfl⟩
      have x0 : W.cell? ⟨w3.heap.size, 0, none⟩ = some (.int .i64 (q : Int)) := by rw [← hW]; exact new_cell rfl
      have x1 : W.cell? ⟨w3.heap.size, 1, none⟩ = some (.string s) := by rw [← hW]; exact new_cell rfl
      have x2 : W.cell? ⟨w3.heap.size, 2, none⟩ = some (.bool x.sync) := by rw [← hW]; exact new_cell rfl
      have bW : Below w3.heap.size w3 W := by rw [← hW]; exact below_alloc (Below.refl _ _) _
      have hxF : w3.heap.size ∉ F := fun h => by have h1 := HD.out.lt _ h; have h2 := b3.size; omega
      replace HB := Lib.hid (below_next HB.out (below_next b3 bW))
      replace HD := Lib.hid (HD.out.below (below_next b3 bW))
      obtain ⟨bx, hbx⟩ : ∃ bx, w3.heap.size = bx := ⟨_, rfl⟩
      rw [hbx] at x0 x1 x2 hxF ⊢
      rw [hW]
      replace hxF := Lib.hid hxF
      clear hW bW b3 hbx c0 c1 c2
      have lx := lt_size x0
      go_wp2_with fail
      refine (write_in q s g F (D) _ HD.out HO.out.1 (by rw [HO.out.2.2.1]; exact hfit) (by have := HO.out.2.2.2; omega)).mono ?_
      rintro e w5 ⟨F1, rfl, d5, k5, n5⟩

      obtain ⟨t1, t2⟩ := turn_next HB.out HF.out k5 n5
      have hxF1 : bx ∉ F1 := fun h => by
        rcases n5 bx h with h | h
        · exact hxF.out h
        · omega
      replace x0 := k5.cell x0 hxF.out
      replace x1 := k5.cell x1 hxF.out
      replace x2 := k5.cell x2 hxF.out
      have hoky := HD.out.ok
      replace HB := Lib.hid t1
      replace HF := Lib.hid t2
      replace HD := Lib.hid d5
      replace HO := Lib.hid (on_wr HO.out q s)
      replace hxF := Lib.hid hxF1
      replace lx := lt_size x0
      clear t1 t2 d5 k5 n5 hxF1 hoky
      cases hsy : x.sync with
      | true =>
        rw [hsy] at x2
        clear hsy
        go_wp2_with fail
        refine (sync_ok g F1 (Dsk.wr D q s) _ HD.out HO.out.1).mono ?_
        rintro e w6 ⟨F2, rfl, d5, k5, n5⟩

        obtain ⟨t1, t2⟩ := turn_next HB.out HF.out k5 n5
        have hxF1 : bx ∉ F2 := fun h => by
          rcases n5 bx h with h | h
          · exact hxF.out h
          · omega
        replace x0 := k5.cell x0 hxF.out
        replace x1 := k5.cell x1 hxF.out
        replace x2 := k5.cell x2 hxF.out
        have hoky := HD.out.ok
        replace HB := Lib.hid t1
        replace HF := Lib.hid t2
        replace HD := Lib.hid d5
        replace HO := Lib.hid (on_sy HO.out hoky)
        replace hxF := Lib.hid hxF1
        replace lx := lt_size x0
        clear t1 t2 d5 k5 n5 hxF1 hoky
        go_wp2_with fail
        exact ⟨⟨k + 1, F2, sy (Dsk.wr D q s), by omega, by omega, by go_num, HD.out, HO.out, vis_sy _, HF.out, HB.out⟩, by simp [intOf]; omega⟩
      | false =>
        rw [hsy] at x2
        clear hsy
        go_wp2_with fail
        exact ⟨⟨k + 1, F1, Dsk.wr D q s, by omega, by omega, by go_num, HD.out, HO.out, vis_wr HV.out q s, HF.out, HB.out⟩, by simp [intOf]; omega⟩
    · rcases (show ¬ (k : Int) < (l.length : Int) ∨ ((k : Int) < (l.length : Int) ∧ ¬ (k : Int) < 60) by omega) with h1 | ⟨h1, h2⟩
      all_goals
        clear hlt
        go_wp2_with fail
        refine (read_in 0 n g F D _ HD.out HO.out.1 (by rw [HO.out.2.2.1]; omega)).mono ?_
        rintro e w3 ⟨rfl, rfl⟩
        rw [read_all HD.out.ok HO.out.2.2.1]
        obtain ⟨Z, hZ⟩ : ∃ Z, sof D.vis = Z := ⟨_, rfl⟩
        rw [hZ]
        have HZ := Lib.hid hZ
        clear hZ hB
        have hpl : D.pend.length ≤ 60 := by have := HO.out.2.2.2; omega
        go_wp2_with fail
        obtain ⟨wl, rfl⟩ : ∃ x : World, x = wr := ⟨_, rfl⟩
        go_loopw [12, 13] (fun v i wr => ∃ (j : Nat), j ≤ D.pend.length ∧ i = .int .i64 (j : Int) ∧ wr.ownsRow wl.heap.size 3 1 v j (ivs (upI j)) ∧ Below wl.heap.size wl wr) (fun _ i _ => D.pend.length - (intOf i).toNat)
        case atStart => exact ⟨0, by omega, rfl, World.ownsRow_nil _ _ _ _, Below.refl _ _⟩
        case round =>
          obtain ⟨j, hj, rfl, hown, hBx⟩ := hrel
          have HDx := Lib.hid (HD.out.below hBx)
          have hBs := hBx.size
          by_cases hjl : j < D.pend.length
          · have HJ := Lib.hid hjl
            have j1 : (j : Int) < (D.pend.length : Int) := by omega
            have Hown := Lib.hid hown
            clear hown
            go_wp2_with fail
            refine (pending_any g F D _ HDx.out).mono ?_
            rintro e w5 ⟨rfl, rfl⟩
            have hown := Hown.out
            go_wp2_with (at_builtin; go_must (refine wpList_append_lies _ rfl _ _ _ rfl wl.heap.size 3 i0 _ 1 8 Try.underlying37 hi0 hz0 hz1 hz2 rfl (by omega) _ _ _ rfl (hown.alloc _) ⟨wr.heap.size, 0, none⟩ 1 1 [.int .i64 ((j : Int))] rfl rfl (cell_one_new _ _ _) (by simp [Value.oneCell']) (by omega) (by unfold maxLen; omega) (by omega) (by simp; omega) (wr.heap.size + 1) (by simp) ?_); intro g' cp' wy hown' hgrow hat hlt')
            refine ⟨⟨j + 1, by omega, by go_num, ?_, (below_alloc hBx _).grown hgrow (by simp; omega) (fun q hq => (hown.lt q hq).1)⟩, by simp [intOf]; omega⟩
            rw [upI_succ, ivs_append]
            exact hown'
          · obtain rfl : j = D.pend.length := by omega
            have j1 : ¬ (D.pend.length : Int) < (D.pend.length : Int) := by omega
            obtain ⟨O, oc, rfl, hI, -, -⟩ := own_ints hown
            have HI := Lib.hid hI
            clear hI hown hjl
            go_wp2_with fail
            refine (pending_any g F D _ HDx.out).mono ?_
            rintro e w5 ⟨rfl, rfl⟩
            go_wp2_with fail
            have hcc := crash_any g F D O oc (upI D.pend.length) (-1) _ HDx.out HI.out (by rw [upI_length]; omega) (by omega) (by omega)
            rw [upI_length, cr_all HV.out (by omega)] at hcc
            refine hcc.mono ?_
            rintro e w7 ⟨F7, rfl, d7, k7, n7⟩
            obtain ⟨t1, t2⟩ := turn_next (below_next HB.out hBx) HF.out k7 n7
            have HD7 := Lib.hid d7
            have hse : D.vis.length = n := by rw [HD.out.ok.len]; exact HO.out.2.2.1
            have HSE := Lib.hid hse
            clear d7 k7 n7 hse hcc
            go_wp2_with fail
            refine (read_in 0 n g F7 _ _ HD7.out rfl (by show 0 + n ≤ D.vis.length; rw [HSE.out]; omega)).mono ?_
            rintro e w8 ⟨rfl, rfl⟩
            rw [show ((D.vis.drop 0).take n) = D.vis by rw [List.drop_zero, List.take_of_length_le (by rw [HSE.out]; exact Nat.le_refl _)], HZ.out]
            go_wp2_with fail
            have hIn : IntsAt w7 none [] := fun i hi => absurd hi (by simp)
            have hc2 := crash_any g F7 _ none 0 [] 0 _ HD7.out hIn (by simp) (by omega) (by simp)
            rw [cr_nil] at hc2
            refine hc2.mono ?_
            rintro e w9 ⟨F9, rfl, d9, k9, n9⟩
            obtain ⟨t3, t4⟩ := turn_next t1 t2 k9 n9
            have HD9 := Lib.hid d9
            clear d9 k9 n9 hc2 hIn t1 t2
            go_wp2_with fail
            refine (read_in 0 n g F9 _ _ HD9.out rfl (by show 0 + n ≤ D.vis.length; rw [HSE.out]; omega)).mono ?_
            rintro e w8 ⟨rfl, rfl⟩
            rw [show ((D.vis.drop 0).take n) = D.vis by rw [List.drop_zero, List.take_of_length_le (by rw [HSE.out]; exact Nat.le_refl _)], HZ.out]
            go_wp2_with fail
            go_ret
            exact ⟨rfl, t3⟩
end Go.Proofs.Ytndfakbklfidhaa
