/- The law DiskSynced. -/
import Derived.Test.YtndfakbklfidhaaDiskWs
namespace Go.Proofs.Ytndfakbklfidhaa
open Go.RowKit Dsk
set_option maxRecDepth 100000 in
set_option maxHeartbeats 2000000 in
theorem synced_law (size t : Int) (A : Option Addr) (cap : Nat) (l : List Wp) (w : World) (hs : I64 size) (ht : I64 t) (hA : WsAt w A l) (hl : WsOk l) (_hc : l.length ≤ cap) (hcap : (cap : Int) ≤ 9223372036854775807) :
    Calls Try.prog 7 #[.int .i64 size, .slice A l.length cap, .int .i64 t] w fun e w' => e = .returned (.bool true) ∧ Below w.heap.size w w' := by
  have HA := Lib.hid hA
  have HL := Lib.hid hl
  have HT := Lib.hid ht
  have hll : (l.length : Int) ≤ 9223372036854775807 := by omega
  clear hA hl ht
  have hp := pk_lt size (n := 300) (by omega)
  obtain ⟨p, hpe⟩ : ∃ p, pk size 300 = p := ⟨_, rfl⟩
  rw [hpe] at hp
  have HP := Lib.hid hpe
  obtain ⟨n, hn⟩ : ∃ n, 1 + p = n := ⟨_, rfl⟩
  have e1 := Lib.hid (show (1 + (p : Int)) = ((n : Nat) : Int) by omega)
  have hn1 : 1 ≤ n := by omega
  have hn2 : n ≤ 300 := by omega
  clear hpe hn
  have hmk := make_bytes n (by omega)
  go_enter Try.func7, Try.ntmps7
  go_wp2_with fail
  refine (sane_any _).mono ?_
  rintro e w1 ⟨rfl, hB⟩
  go_wp2_with fail
  refine (pick_any size 300 _ hs (by omega) (by omega)).mono ?_
  rintro e w2 ⟨rfl, rfl⟩
  rw [HP.out]
  go_wp2_with fail
  rw [e1.out]
  refine (new_any n _ hn1 (by omega)).mono ?_
  rintro e w2 ⟨g, F, rfl, h0, hF, hb⟩
  have hB2 := below_next hB hb
  have hF2 : ∀ x ∈ F, w.heap.size ≤ x := fun x hx => Nat.le_trans hB.size (hF x hx)
  have hFl := h0.lt

  have r00 : RowB 5 (w2.alloc (.cells (bcs (List.replicate n 0)).toArray 5)) w2.heap.size (List.replicate n 0) := heap_alloc_new _ _
  have hcz := conv_row r00 0 n n (by simp)
  rw [show ((List.replicate n (0 : UInt8)).drop 0).take n = List.replicate n 0 by simp] at hcz
  obtain ⟨Z0, hZ0⟩ : ∃ Z, sof (List.replicate n (0 : UInt8)) = Z := ⟨_, rfl⟩
  rw [hZ0] at hcz
  have HZ0 := Lib.hid hZ0
  clear hZ0 r00
  go_wp2_with fail
  clear hcz

  obtain ⟨W, hW⟩ : ∃ W, w2.alloc (.cells (bcs (List.replicate n 0)).toArray 5) = W := ⟨_, rfl⟩
  have r0 : RowB 5 W w2.heap.size (List.replicate n 0) := by rw [← hW]; exact heap_alloc_new _ _
  have bW : Below w2.heap.size w2 W := by rw [← hW]; exact below_alloc (Below.refl _ _) _
  have hbw : w.heap.size ≤ w2.heap.size := hB2.size
  have HD := Lib.hid (h0.below bW)
  have HR := Lib.hid r0
  have hB3 := Lib.hid (below_next hB2 bW)
  have hnin := Lib.hid (show w2.heap.size ∉ F from fun h => by have := hFl _ h; omega)
  obtain ⟨gb, hgb⟩ : ∃ gb, w2.heap.size = gb := ⟨_, rfl⟩
  rw [hgb] at HR hnin hbw ⊢
  rw [hW]
  have hF3 := Lib.hid hF2
  clear hW r0 bW h0 hF hF2 hb hB hB2 hFl hgb hmk
  go_loopw [11, 12] (fun sv i wr => ∃ (k : Nat) (F : List Nat) (D : Dk), k ≤ l.length ∧ k ≤ 60 ∧ i = .int .i64 (k : Int) ∧ sv = .string (sof D.sure) ∧ DiskAt wr g F D ∧ On D n k ∧ RowB 5 wr gb D.vis ∧ (∀ x ∈ F, w.heap.size ≤ x) ∧ gb ∉ F ∧ Below w.heap.size w wr) (fun _ i _ => 60 - (intOf i).toNat)
  case atStart => exact ⟨0, F, nw n, by omega, by omega, rfl, by rw [← HZ0.out]; rfl, HD.out, on_nw n, HR.out, hF3.out, hnin.out, hB3.out⟩
  case round =>
    clear HD HR hB3 hnin hF3
    obtain ⟨k, F, D, hk, hk2, rfl, rfl, hD, hon, hr, hF, hn, hB⟩ := hrel
    have HD := Lib.hid hD
    have HO := Lib.hid hon
    have HR := Lib.hid hr
    have HF := Lib.hid hF
    have HN := Lib.hid hn
    have HB := Lib.hid hB
    clear hD hon hr hF hn
    by_cases hlt : k < l.length ∧ k < 60
    · have tt : True := trivial
      obtain ⟨hlt1, hlt2⟩ := hlt
      obtain ⟨b, o, rfl, c0, c1, c2⟩ := HA.out.then_ hB k hlt1
      have hok := HL.out k hlt1
      obtain ⟨x, hx⟩ : ∃ x, l.getD k wp0 = x := ⟨_, rfl⟩
      rw [hx] at c0 c1 c2 hok
      obtain ⟨ho, hs⟩ := hok
      have i1 : (0 : Int) ≤ (k : Int) := by omega
      have i2 : (k : Int) < (l.length : Int) := by omega
      have i3 : (k : Int) < 60 := by omega
      have l1 := lt_size c0
      have hq := pk_lt x.off (n := n + 1) (by omega)
      obtain ⟨q, hqe⟩ : ∃ q, pk x.off (n + 1) = q := ⟨_, rfl⟩
      rw [hqe] at hq
      have hcs := cutS_size x.s (n - q)
      obtain ⟨s, hse⟩ : ∃ s, cutS x.s (n - q) = s := ⟨_, rfl⟩
      rw [hse] at hcs
      have hfit : q + s.size ≤ n := by omega
      have HQ := Lib.hid hqe
      have HS := Lib.hid hse
      have HXX := Lib.hid hx
      clear hx hqe hse hcs hB
      go_wp2_with fail
      refine (fits_any x.off x.s x.sync n _ ho hs hn1 (by omega)).mono ?_
      rintro e w3 ⟨rfl, b3⟩
      rw [HQ.out, HS.out]
      go_wp2_with fail
      obtain ⟨W, hW⟩ : ∃ W, w3.alloc (.cells #[.int .i64 (q : Int), .string s, .bool x.sync] 53) = W := ⟨_, rfl⟩
      have x0 : W.cell? ⟨w3.heap.size, 0, none⟩ = some (.int .i64 (q : Int)) := by rw [← hW]; exact new_cell rfl
      have x1 : W.cell? ⟨w3.heap.size, 1, none⟩ = some (.string s) := by rw [← hW]; exact new_cell rfl
      have x2 : W.cell? ⟨w3.heap.size, 2, none⟩ = some (.bool x.sync) := by rw [← hW]; exact new_cell rfl
      have bW : Below w3.heap.size w3 W := by rw [← hW]; exact below_alloc (Below.refl _ _) _

      obtain ⟨t1, t2, t3⟩ := quiet_row HB.out (below_next b3 bW) HD.out HR.out
      have hgx : gb < w3.heap.size := Nat.lt_of_lt_of_le (hlt HR.out) b3.size
      have hxF : w3.heap.size ∉ F := fun h => by have h1 := HD.out.lt _ h; have h2 := b3.size; omega
      obtain ⟨bx, hbx⟩ : ∃ bx, w3.heap.size = bx := ⟨_, rfl⟩
      rw [hbx] at x0 x1 x2 hgx hxF ⊢
      rw [hW]
      replace HB := Lib.hid t1
      replace HD := Lib.hid t2
      replace HR := Lib.hid t3
      replace hxF := Lib.hid hxF
      clear hW bW b3 hbx t1 t2 t3 c0 c1 c2
      have lx := lt_size x0
      have hLn := Lib.hid (show D.vis.length = n by rw [HD.out.ok.len, HO.out.2.2.1])
      refine (put_any gb n q (D.vis) s _ HR.out hLn.out hfit (by omega)).mono ?_
      rintro e w4 ⟨rfl, r4, k4⟩
      obtain ⟨t1, t2⟩ := row_turn HB.out hbw k4 HD.out HN.out
      replace x0 := k4.cell x0 (by simp; omega)
      replace x1 := k4.cell x1 (by simp; omega)
      replace x2 := k4.cell x2 (by simp; omega)
      replace HB := Lib.hid t1
      replace HD := Lib.hid t2
      replace HR := Lib.hid r4
      replace lx := lt_size x0
      clear t1 t2 r4 k4
      go_wp2_with fail
      refine (write_in q s g F (D) _ HD.out HO.out.1 (by rw [HO.out.2.2.1]; exact hfit) (by have := HO.out.2.2.2; omega)).mono ?_
      rintro e w5 ⟨F1, rfl, d5, k5, n5⟩
      obtain ⟨t1, t2, t3, t4⟩ := turn_row HB.out HF.out k5 n5 HR.out HN.out
      have hxF1 : bx ∉ F1 := fun h => by
        rcases n5 bx h with h | h
        · exact hxF.out h
        · omega
      replace x0 := k5.cell x0 hxF.out
      replace x1 := k5.cell x1 hxF.out
      replace x2 := k5.cell x2 hxF.out
      replace HB := Lib.hid t1
      replace HF := Lib.hid t2
      replace HR := Lib.hid t3
      replace HN := Lib.hid t4
      replace HD := Lib.hid d5
      replace HO := Lib.hid (on_wr HO.out q s)
      replace hxF := Lib.hid hxF1
      replace lx := lt_size x0
      clear t1 t2 t3 t4 d5 k5 n5 hxF1
      cases hsy : x.sync with
      | true =>
        rw [hsy] at x2
        clear hsy hLn
        go_wp2_with fail
        refine (sync_ok g F1 (Dsk.wr D q s) _ HD.out HO.out.1).mono ?_
        rintro e w6 ⟨F2, rfl, d6, k6, n6⟩
        obtain ⟨t1, t2, t3, t4⟩ := turn_row HB.out HF.out k6 n6 HR.out HN.out
        have hxF2 : bx ∉ F2 := fun h => by
          rcases n6 bx h with h | h
          · exact hxF.out h
          · omega
        replace x0 := k6.cell x0 hxF.out
        replace x1 := k6.cell x1 hxF.out
        replace x2 := k6.cell x2 hxF.out
        have hoky := HD.out.ok
        replace HB := Lib.hid t1
        replace HF := Lib.hid t2
        replace HR := Lib.hid t3
        replace HN := Lib.hid t4
        replace HD := Lib.hid d6
        replace HO := Lib.hid (on_sy HO.out hoky)
        replace hxF := Lib.hid hxF2
        replace lx := lt_size x0
        clear t1 t2 t3 t4 d6 k6 n6 hxF2 hoky
        have hlm : (splice D.vis q (bts s)).length = n := by
          have := HD.out.ok.len
          rw [HO.out.2.2.1] at this
          exact this
        have hcv := conv_row HR.out 0 n n (by rw [hlm]; omega)
        rw [show ((splice D.vis q (bts s)).drop 0).take n = splice D.vis q (bts s) by rw [List.drop_zero, List.take_of_length_le (by rw [hlm]; exact Nat.le_refl _)]] at hcv
        obtain ⟨Z, hZ⟩ : ∃ Z, sof (splice D.vis q (bts s)) = Z := ⟨_, rfl⟩
        rw [hZ] at hcv
        have HZ := Lib.hid hZ
        clear hZ hlm
        go_wp2_with fail
        exact ⟨⟨k + 1, F2, sy (Dsk.wr D q s), by omega, by omega, by go_num, by rw [← HZ.out]; rfl, HD.out, HO.out, HR.out, HF.out, HN.out, HB.out⟩, by simp [intOf]; omega⟩
      | false =>
        rw [hsy] at x2
        clear hsy hLn
        go_wp2_with fail
        exact ⟨⟨k + 1, F1, Dsk.wr D q s, by omega, by omega, by go_num, rfl, HD.out, HO.out, HR.out, HF.out, HN.out, HB.out⟩, by simp [intOf]; omega⟩
    · rcases (show ¬ (k : Int) < (l.length : Int) ∨ ((k : Int) < (l.length : Int) ∧ ¬ (k : Int) < 60) by omega) with h1 | ⟨h1, h2⟩
      all_goals
        clear hlt
        have hIn : IntsAt wr none [] := fun i hi => absurd hi (by simp)
        go_wp2_with fail
        refine (crash_any g F D none 0 [] t _ HD.out hIn (by simp) HT.out.2 (by have := HO.out.2.2.2; omega)).mono ?_
        rintro e w7 ⟨F7, rfl, d7, k7, n7⟩
        obtain ⟨t1, -⟩ := turn_next HB.out HF.out k7 n7
        rw [cr_nil] at d7
        have HD7 := Lib.hid d7
        have hse : D.sure.length = n := HO.out.2.2.1
        have HSE := Lib.hid hse
        clear d7 k7 n7 hse hB
        go_wp2_with fail
        refine (read_in 0 n g F7 _ _ HD7.out rfl (by show 0 + n ≤ D.sure.length; rw [HSE.out]; omega)).mono ?_
        rintro e w8 ⟨rfl, rfl⟩
        rw [show ((D.sure.drop 0).take n) = D.sure by rw [List.drop_zero, List.take_of_length_le (by rw [HSE.out]; exact Nat.le_refl _)]]
        obtain ⟨Z, hZ⟩ : ∃ Z, sof D.sure = Z := ⟨_, rfl⟩
        rw [hZ]
        clear hZ
        go_wp2_with fail
        refine (pending_any g F7 _ _ HD7.out).mono ?_
        rintro e w8 ⟨rfl, rfl⟩
        go_wp2_with fail
        go_ret
        exact ⟨rfl, t1⟩
end Go.Proofs.Ytndfakbklfidhaa
