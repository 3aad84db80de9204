/- The law DiskCrashBytes. -/
import Derived.Test.YtndfakbklfidhaaDiskFront
namespace Go.Proofs.Ytndfakbklfidhaa
open Go.RowKit Dsk
set_option maxRecDepth 100000 in
set_option maxHeartbeats 2000000 in
theorem bytes_law (size t : Int) (A : Option Addr) (cap : Nat) (l : List Wp) (A2 : Option Addr) (cap2 : Nat) (kl : List Bool) (w : World) (hs : I64 size) (ht : I64 t) (hA : WsAt w A l) (hl : WsOk l) (_hc : l.length ≤ cap) (hcap : (cap : Int) ≤ 9223372036854775807)
    (hK : FlagsAt w A2 kl) (_hc2 : kl.length ≤ cap2) (hcap2 : (cap2 : Int) ≤ 9223372036854775807) :
    Calls Try.prog 8 #[.int .i64 size, .slice A l.length cap, .slice A2 kl.length cap2, .int .i64 t] w fun e w' => e = .returned (.bool true) ∧ Below w.heap.size w w' := by
  have HA := Lib.hid hA
  have HL := Lib.hid hl
  have hll : (l.length : Int) ≤ 9223372036854775807 := by omega
  clear hA hl
  have HT := Lib.hid ht
  have HK := Lib.hid hK
  have hkl : (kl.length : Int) ≤ 9223372036854775807 := by omega
  clear ht hK
  obtain ⟨kp, hkp⟩ : ∃ kp : Nat → Bool, ∀ i, kl.getD i false = kp i := ⟨_, fun _ => rfl⟩
  have HKP := Lib.hid hkp
  obtain ⟨L, hL⟩ : ∃ L, lst kp (min l.length 20) = L := ⟨_, rfl⟩
  have HLL := Lib.hid hL
  clear hkp hL
  have hp := pk_lt size (n := 100) (by omega)
  obtain ⟨p, hpe⟩ : ∃ p, pk size 100 = p := ⟨_, rfl⟩
  rw [hpe] at hp
  have HP := Lib.hid hpe
  obtain ⟨n, hn⟩ : ∃ n, 1 + p = n := ⟨_, rfl⟩
  have e1 := Lib.hid (show (1 + (p : Int)) = ((n : Nat) : Int) by omega)
  have hn1 : 1 ≤ n := by omega
  have hn2 : n ≤ 100 := by omega
  clear hpe hn
  have hmk := make_bytes n (by omega)
  obtain ⟨P, hP⟩ : ∃ P : Nat → Nat × ByteArray, ∀ i, ((pk (l.getD i wp0).off (n + 1), cutS (l.getD i wp0).s (n - pk (l.getD i wp0).off (n + 1))) : Nat × ByteArray) = P i := ⟨_, fun _ => rfl⟩
  have HPP := Lib.hid hP
  clear hP
  go_enter Try.func8, Try.ntmps8
  go_wp2_with fail
  refine (sane_any _).mono ?_
  rintro e w1 ⟨rfl, hB⟩
  go_wp2_with fail
  refine (pick_any size 100 _ hs (by omega) (by omega)).mono ?_
  rintro e w2 ⟨rfl, rfl⟩
  rw [HP.out]
  go_wp2_with fail
  rw [e1.out]

  refine (new_any n _ hn1 (by omega)).mono ?_
  rintro e w2 ⟨g, F, rfl, h0, hF, hb⟩
  have hB2 := below_next hB hb
  have hF2 : ∀ x ∈ F, w.heap.size ≤ x := fun x hx => Nat.le_trans hB.size (hF x hx)
  have hFl := h0.lt
  go_wp2_with fail

  obtain ⟨W, hW⟩ : ∃ W, w2.alloc (.cells (bcs (List.replicate n 0)).toArray 5) = W := ⟨_, rfl⟩
  have r0 : RowB 5 W w2.heap.size (List.replicate n 0) := by rw [← hW]; exact heap_alloc_new _ _
  have bW : Below w2.heap.size w2 W := by rw [← hW]; exact below_alloc (Below.refl _ _) _
  have hbw : w.heap.size ≤ w2.heap.size := hB2.size
  have HD := Lib.hid (h0.below bW)
  have HR := Lib.hid r0
  have hB3 := Lib.hid (below_next hB2 bW)
  have hnin := Lib.hid (show w2.heap.size ∉ F from fun h => by have := hFl _ h; omega)
  obtain ⟨gb, hgb⟩ : ∃ gb, w2.heap.size = gb := ⟨_, rfl⟩
  rw [hgb] at HR hnin hbw ⊢
  rw [hW]
  have hF3 := Lib.hid hF2
  clear hW r0 bW h0 hF hF2 hb hB hB2 hFl hgb hmk
  go_loopw [13] (fun i wr => ∃ (k : Nat) (L0 : List UInt8), k ≤ n ∧ i = .int .i64 (k : Int) ∧ L0.length = n ∧ RowB 5 wr gb L0 ∧ Kept [gb] W wr) (fun i _ => n - (intOf i).toNat)
  case atStart => exact ⟨0, _, by omega, rfl, by simp, HR.out, Kept.refl _ _⟩
  case round =>
    obtain ⟨k, L0, hk, rfl, hl0, hr, hkk⟩ := hrel
    clear HR
    have HR := Lib.hid hr
    have HL0 := Lib.hid hl0
    have HKK := Lib.hid hkk
    by_cases hlt : k < n
    · have c0 := hr.cell (i := k) (by omega)
      have f0 := frozen_of_row wr gb k _ _ hr
      have lg := lt_size c0
      have i0 : (0 : Int) ≤ (k : Int) := by omega
      have i1 : (k : Int) < (n : Int) := by omega
      obtain ⟨v, hv⟩ : ∃ v, wr.cell? ⟨gb, k, none⟩ = some v := ⟨_, c0⟩
      clear c0 hr hl0 hkk
      go_wp2_with fail
      have h := row_store HR.out (i := k) (b := UInt8.ofNat (48 + k % 10))
      rw [show ((UInt8.ofNat (48 + k % 10)).toNat : Int) = 48 + (k : Int) % 10 by rw [UInt8.toNat_ofNat']; omega] at h
      exact ⟨⟨k + 1, _, by omega, by go_num, by rw [List.length_set]; exact HL0.out, h, HKK.out.setCell (.inl (by simp)) _⟩, by simp [intOf]; omega⟩
    · obtain rfl : n = k := by omega
      have i1 : ¬ (n : Int) < (n : Int) := by omega
      obtain ⟨wl, rfl⟩ : ∃ x : World, x = wr := ⟨_, rfl⟩
      obtain ⟨t1, t2⟩ := row_turn hB3.out hbw HKK.out HD.out hnin.out
      replace HD := Lib.hid t2
      have HB := Lib.hid t1
      have HF := Lib.hid hF3.out
      have HN := Lib.hid hnin.out
      have hcv := conv_row HR.out 0 n n (by rw [HL0.out]; omega)
      rw [show (L0.drop 0).take n = L0 by rw [List.drop_zero, List.take_of_length_le (by rw [HL0.out]; exact Nat.le_refl _)]] at hcv
      obtain ⟨Z, hZ⟩ : ∃ Z, sof L0 = Z := ⟨_, rfl⟩
      rw [hZ] at hcv
      have hZs : Z.size = n := by rw [← hZ, ← HL0.out]; simp [sof, ByteArray.size]
      have hZb : bts Z = L0 := by rw [← hZ, bts_sof]
      have HZ := Lib.hid hZ
      have HZB := Lib.hid hZb
      clear t1 t2 hB3 hF3 hnin HKK hlt hZ hZb hr hl0 hkk hk
      go_wp2_with fail
      refine (write_in 0 Z g F (nw n) _ HD.out rfl (by show 0 + Z.size ≤ (List.replicate n (0 : UInt8)).length; rw [hZs, List.length_replicate]; omega) (by simp [nw])).mono ?_
      rintro e w5 ⟨F1, rfl, d5, k5, n5⟩
      obtain ⟨t1, t2, t3, t4⟩ := turn_row HB.out HF.out k5 n5 HR.out HN.out
      replace HB := Lib.hid t1
      replace HF := Lib.hid t2
      replace HR := Lib.hid t3
      replace HN := Lib.hid t4
      replace HD := Lib.hid d5
      clear t1 t2 t3 t4 d5 k5 n5 hcv
      go_wp2_with fail
      have hoky := HD.out.ok
      refine (sync_ok g F1 (Dsk.wr (nw n) 0 Z) _ HD.out rfl).mono ?_
      rintro e w6 ⟨F2, rfl, d6, k6, n6⟩
      obtain ⟨t1, t2, t3, t4⟩ := turn_row HB.out HF.out k6 n6 HR.out HN.out
      replace HB := Lib.hid t1
      replace HF := Lib.hid t2
      replace HR := Lib.hid t3
      replace HN := Lib.hid t4
      replace HD := Lib.hid d6
      have hsv : (sy (Dsk.wr (nw n) 0 Z)).sure = L0 := by
        show splice (List.replicate n (0 : UInt8)) 0 (bts Z) = L0
        rw [HZB.out, splice_all HL0.out]
      have hon : On (sy (Dsk.wr (nw n) 0 Z)) n 0 := ⟨rfl, rfl, by rw [hsv]; exact HL0.out, by simp [sy]⟩
      have hpn : (sy (Dsk.wr (nw n) 0 Z)).pend = [] := rfl
      obtain ⟨D0, hD0⟩ : ∃ D0, sy (Dsk.wr (nw n) 0 Z) = D0 := ⟨_, rfl⟩
      rw [hD0] at HD hsv hon hpn
      have HO := Lib.hid hon
      have HX := Lib.hid (show D0.sure = L0 ∧ D0.pend = [] from ⟨hsv, hpn⟩)
      clear t1 t2 t3 t4 d6 k6 n6 hoky hsv hon hpn hD0 HZ HZB hZs
      go_wp2_with fail
      go_loopw [14, 15] (fun la i wr => ∃ (j : Nat), j ≤ l.length ∧ j ≤ 20 ∧ i = .int .i64 (j : Int) ∧ la = .int .i64 (lst kp j) ∧ w6 = wr) (fun _ i _ => 20 - (intOf i).toNat)
      case atStart => exact ⟨0, by omega, by omega, rfl, rfl, rfl⟩
      case round =>
        obtain ⟨j, hj, hj2, rfl, rfl, rfl⟩ := hrel
        by_cases hlt : j < l.length ∧ j < 20
        · obtain ⟨hlt1, hlt2⟩ := hlt
          have i0 : (0 : Int) ≤ (j : Int) := by omega
          have i2 : (j : Int) < (l.length : Int) := by omega
          have i3 : (j : Int) < 20 := by omega
          cases hkk : kp j with
          | true =>
            have hlt3 := flag_lt (l := kl) (k := j) (by rw [HKP.out]; exact hkk)
            have j1 : (j : Int) < (kl.length : Int) := by omega
            obtain ⟨b2, o2, rfl, f0⟩ := HK.out.then_ HB.out j hlt3
            rw [HKP.out, hkk] at f0
            go_wp2_with fail
            exact ⟨⟨j + 1, by omega, by omega, by go_num, by rw [lst_in hkk], trivial⟩, by simp [intOf]; omega⟩
          | false =>
            by_cases hlt3 : j < kl.length
            · have j1 : (j : Int) < (kl.length : Int) := by omega
              obtain ⟨b2, o2, rfl, f0⟩ := HK.out.then_ HB.out j hlt3
              rw [HKP.out, hkk] at f0
              go_wp2_with fail
              exact ⟨⟨j + 1, by omega, by omega, by go_num, by rw [lst_out hkk], trivial⟩, by simp [intOf]; omega⟩
            · have j1 : ¬ (j : Int) < (kl.length : Int) := by omega
              go_wp2_with fail
              exact ⟨⟨j + 1, by omega, by omega, by go_num, by rw [lst_out hkk], trivial⟩, by simp [intOf]; omega⟩
        · have hla : lst kp j = L := by rw [← HLL.out, show min l.length 20 = j by omega]
          rw [hla]
          rcases (show ¬ (j : Int) < (l.length : Int) ∨ ((j : Int) < (l.length : Int) ∧ ¬ (j : Int) < 20) by omega) with h1 | ⟨h1, h2⟩
          all_goals
            clear hla hlt
            go_wp2_with fail
            clear h1
            try clear h2
            clear hj hj2
            go_loopw [16, 17] (fun v i wr => ∃ (vv : Value) (k : Nat) (F : List Nat) (D : Dk) (Lw : List UInt8), vv = v ∧ k ≤ l.length ∧ k ≤ 20 ∧ i = .int .i64 (k : Int) ∧ DiskAt wr g F D ∧ On D n k ∧ (D.sure = L0 ∧ D.pend = (List.range k).map P ∧ Lw = overs L0 (kts kp P L t k) ∧ Lw.length = n) ∧ RowB 5 wr gb Lw ∧ (∀ x ∈ F, w.heap.size ≤ x) ∧ gb ∉ F ∧ wr.ownsRow w.heap.size 3 1 v (dsc kp k).length (ivs (dsc kp k)) ∧ (dsc kp k = [] → v = .slice none 0 0) ∧ Beside v F gb ∧ Below w.heap.size w wr) (fun _ i _ => 20 - (intOf i).toNat)
            case atStart => exact ⟨_, 0, F2, D0, L0, rfl, by omega, by omega, rfl, HD.out, HO.out, ⟨HX.out.1, HX.out.2, rfl, HL0.out⟩, HR.out, HF.out, HN.out, World.ownsRow_nil _ _ _ _, fun _ => rfl, fun q hq => (by cases hq), HB.out⟩
            case round =>
              clear HD HO HX HR HF HN HB HL0
              obtain ⟨v, k, F, D, Lw, rfl, hk, hk2, rfl, hD, hon, hx, hr, hF, hn, hown, hnl, hbs, hB⟩ := hrel
              have HD := Lib.hid hD
              have HO := Lib.hid hon
              have HR := Lib.hid hr
              have HF := Lib.hid hF
              have HN := Lib.hid hn
              have HB := Lib.hid hB
              clear hD hon hr hF hn
              have HX := Lib.hid hx
              have HW := Lib.hid hown
              have HNL := Lib.hid hnl
              have HS1 := Lib.hid hbs
              clear hx hown hnl hbs
              by_cases hlt : k < l.length ∧ k < 20
              · have tt : True := trivial
                obtain ⟨hlt1, hlt2⟩ := hlt
                obtain ⟨b, o, rfl, c0, c1, c2⟩ := HA.out.then_ hB k hlt1
                have hok := HL.out k hlt1
                obtain ⟨x, hx⟩ : ∃ x, l.getD k wp0 = x := ⟨_, rfl⟩
                rw [hx] at c0 c1 c2 hok
                obtain ⟨ho, hs⟩ := hok
                have i1 : (0 : Int) ≤ (k : Int) := by omega
                have i2 : (k : Int) < (l.length : Int) := by omega
                have i3 : (k : Int) < 20 := by omega
                have l1 := lt_size c0
                have hq := pk_lt x.off (n := n + 1) (by omega)
                obtain ⟨q, hqe⟩ : ∃ q, pk x.off (n + 1) = q := ⟨_, rfl⟩
                rw [hqe] at hq
                have hcs := cutS_size x.s (n - q)
                obtain ⟨s, hse⟩ : ∃ s, cutS x.s (n - q) = s := ⟨_, rfl⟩
                rw [hse] at hcs
                have hfit : q + s.size ≤ n := by omega
                have HQ := Lib.hid hqe
                have HS := Lib.hid hse
                have HXX := Lib.hid hx
                clear hx hqe hse hcs hB
                go_wp2_with fail
                refine (fits_any x.off x.s x.sync n _ ho hs hn1 (by omega)).mono ?_
                rintro e w3 ⟨rfl, b3⟩
                rw [HQ.out, HS.out]
                go_wp2_with fail
                obtain ⟨W, hW⟩ : ∃ W, w3.alloc (.cells #[.int .i64 (q : Int), .string s, .bool x.sync] 53) = W := ⟨_, rfl⟩
                have x0 : W.cell? ⟨w3.heap.size, 0, none⟩ = some (.int .i64 (q : Int)) := by rw [← hW]; exact new_cell rfl
                have x1 : W.cell? ⟨w3.heap.size, 1, none⟩ = some (.string s) := by rw [← hW]; exact new_cell rfl
                have x2 : W.cell? ⟨w3.heap.size, 2, none⟩ = some (.bool x.sync) := by rw [← hW]; exact new_cell rfl
                have bW : Below w3.heap.size w3 W := by rw [← hW]; exact below_alloc (Below.refl _ _) _
                have b33 := below_next b3 bW
                obtain ⟨t1, t2, t3⟩ := quiet_row HB.out (below_next b3 bW) HD.out HR.out
                have hgx : gb < w3.heap.size := Nat.lt_of_lt_of_le (hlt HR.out) b3.size
                have hxF : w3.heap.size ∉ F := fun h => by have h1 := HD.out.lt _ h; have h2 := b3.size; omega
                obtain ⟨bx, hbx⟩ : ∃ bx, w3.heap.size = bx := ⟨_, rfl⟩
                rw [hbx] at x0 x1 x2 hgx hxF ⊢
                rw [hW]
                replace HB := Lib.hid t1
                replace HD := Lib.hid t2
                replace HR := Lib.hid t3
                replace HW := Lib.hid (own_then HW.out b33)
                replace hxF := Lib.hid hxF
                clear hW bW b3 b33 hbx t1 t2 t3 c0 c1 c2
                have lx := lt_size x0
                go_wp2_with fail
                refine (write_in q s g F (D) _ HD.out HO.out.1 (by rw [HO.out.2.2.1]; exact hfit) (by have := HO.out.2.2.2; omega)).mono ?_
                rintro e w5 ⟨F1, rfl, d5, k5, n5⟩
                obtain ⟨t1, t2, t3, t4⟩ := turn_row HB.out HF.out k5 n5 HR.out HN.out
                have hxF1 : bx ∉ F1 := fun h => by
                  rcases n5 bx h with h | h
                  · exact hxF.out h
                  · omega
                replace x0 := k5.cell x0 hxF.out
                replace x1 := k5.cell x1 hxF.out
                replace x2 := k5.cell x2 hxF.out
                replace HB := Lib.hid t1
                replace HF := Lib.hid t2
                replace HR := Lib.hid t3
                replace HN := Lib.hid t4
                replace HD := Lib.hid d5
                replace HO := Lib.hid (on_wr HO.out q s)
                replace hxF := Lib.hid hxF1
                replace lx := lt_size x0
                have HS2 := Lib.hid (HS1.out.new HW.out n5)
                have HW2 := Lib.hid (k5.own HW.out (fun q1 hq1 => (HS1.out q1 hq1).1))
                clear t1 t2 t3 t4 d5 k5 n5 hxF1
                have hPk : P k = (q, s) := by rw [← HPP.out k, HXX.out, HQ.out, HS.out]
                have hX2 : (Dsk.wr D q s).sure = L0 ∧ (Dsk.wr D q s).pend = (List.range (k + 1)).map P := ⟨HX.out.1, by
                  show D.pend ++ [(q, s)] = _
                  rw [List.range_succ, List.map_append, HX.out.2.1, List.map_singleton, hPk]⟩
                have HX2 := Lib.hid hX2
                have HPK := Lib.hid hPk
                have hdl := dsc_length kp k
                have hsz := HB.out.size
                clear hX2 hPk
                cases hkk : kp k with
                | true =>
                  have hlt3 := flag_lt (l := kl) (k := k) (by rw [HKP.out]; exact hkk)
                  have j1 : (k : Int) < (kl.length : Int) := by omega
                  obtain ⟨b2, o2, rfl, f0⟩ := HK.out.then_ HB.out k hlt3
                  rw [HKP.out, hkk] at f0
                  have hgl : gb < w5.heap.size := hlt HR.out
                  have HFl := Lib.hid HD.out.lt
                  rcases (show ((k : Int) = L ∧ 0 ≤ t) ∨ ((k : Int) = L ∧ ¬ 0 ≤ t) ∨ ¬ (k : Int) = L by omega) with ⟨hL1, ht0⟩ | ⟨hL1, ht0⟩ | hL1
                  · have tt2 : True := trivial
                    have hb1 : ((k : Int) == L) = true := by rw [beq_iff_eq]; exact hL1
                    have HL1 := Lib.hid hL1
                    clear hL1
                    go_wp2_with (at_builtin; go_must (refine front_step rfl _ _ rfl w.heap.size (k : Int) v (dsc kp k) rfl rfl HW2.out HNL.out hsz (by omega) ?_); intro g' c' wy hown' bG hgG; have y0 := cell_then bG x0; have y1 := cell_then bG x1)
                    refine (cut_wide s t _ (by omega) ht0 HT.out.2).mono ?_
                    rintro e w8 ⟨rfl, rfl⟩
                    go_wp2_with fail
                    obtain ⟨t1, t2, t3⟩ := quiet_row HB.out bG HD.out HR.out
                    have hts := torn_le t s
                    refine (put_any gb n q Lw (torn t s) _ t3 HX.out.2.2.2 (by omega) (by omega)).mono ?_
                    rintro e w9 ⟨rfl, r4, k4⟩
                    obtain ⟨u1, u2⟩ := row_turn t1 hbw k4 t2 HN.out
                    have hs9 : (bts (torn t s)).length = (torn t s).size := bts_length _
                    go_wp2_with fail
                    refine ⟨⟨_, k + 1, F1, Dsk.wr D q s, splice Lw q (bts (torn t s)), rfl, by omega, by omega, by go_num, u2, HO.out, ⟨HX2.out.1, HX2.out.2, ?_, ?_⟩, r4, HF.out, HN.out, ?_, ?_, ?_, u1⟩, by simp [intOf]; omega⟩
                    · rw [kts_in hkk, ← HX.out.2.2.1, HPK.out]
                      rw [if_pos HL1.out]; rfl
                    · rw [length_splice _ _ _ (by rw [hs9, HX.out.2.2.2]; omega)]; exact HX.out.2.2.2
                    · rw [dsc_in hkk]
                      exact k4.own hown' (fun q' hq' hx' => by
                        injection hq' with hq'
                        have := List.mem_singleton.1 hx'
                        simp only at hq'
                        omega)
                    · rw [dsc_in hkk]; intro h; cases h
                    · intro q' hq'
                      injection hq' with hq'
                      simp only at hq'
                      subst hq'
                      exact ⟨fun h => by have := HFl.out _ h; omega, by omega⟩
                  · have tt2 : True := trivial
                    have hb1 : ((k : Int) == L) = true := by rw [beq_iff_eq]; exact hL1
                    have HL1 := Lib.hid hL1
                    clear hL1
                    go_wp2_with (at_builtin; go_must (refine front_step rfl _ _ rfl w.heap.size (k : Int) v (dsc kp k) rfl rfl HW2.out HNL.out hsz (by omega) ?_); intro g' c' wy hown' bG hgG; have y0 := cell_then bG x0; have y1 := cell_then bG x1)
                    obtain ⟨t1, t2, t3⟩ := quiet_row HB.out bG HD.out HR.out
                    have hts := torn_le t s
                    refine (put_any gb n q Lw (s) _ t3 HX.out.2.2.2 (by omega) (by omega)).mono ?_
                    rintro e w9 ⟨rfl, r4, k4⟩
                    obtain ⟨u1, u2⟩ := row_turn t1 hbw k4 t2 HN.out
                    have hs9 : (bts (s)).length = (s).size := bts_length _
                    go_wp2_with fail
                    refine ⟨⟨_, k + 1, F1, Dsk.wr D q s, splice Lw q (bts (s)), rfl, by omega, by omega, by go_num, u2, HO.out, ⟨HX2.out.1, HX2.out.2, ?_, ?_⟩, r4, HF.out, HN.out, ?_, ?_, ?_, u1⟩, by simp [intOf]; omega⟩
                    · rw [kts_in hkk, ← HX.out.2.2.1, HPK.out]
                      rw [if_pos HL1.out, torn_not (by omega)]; rfl
                    · rw [length_splice _ _ _ (by rw [hs9, HX.out.2.2.2]; omega)]; exact HX.out.2.2.2
                    · rw [dsc_in hkk]
                      exact k4.own hown' (fun q' hq' hx' => by
                        injection hq' with hq'
                        have := List.mem_singleton.1 hx'
                        simp only at hq'
                        omega)
                    · rw [dsc_in hkk]; intro h; cases h
                    · intro q' hq'
                      injection hq' with hq'
                      simp only at hq'
                      subst hq'
                      exact ⟨fun h => by have := HFl.out _ h; omega, by omega⟩
                  · have tt2 : True := trivial
                    have hb1 : ((k : Int) == L) = false := by rw [beq_eq_false_iff_ne]; exact hL1
                    have HL1 := Lib.hid hL1
                    clear hL1
                    go_wp2_with (at_builtin; go_must (refine front_step rfl _ _ rfl w.heap.size (k : Int) v (dsc kp k) rfl rfl HW2.out HNL.out hsz (by omega) ?_); intro g' c' wy hown' bG hgG; have y0 := cell_then bG x0; have y1 := cell_then bG x1)
                    obtain ⟨t1, t2, t3⟩ := quiet_row HB.out bG HD.out HR.out
                    have hts := torn_le t s
                    refine (put_any gb n q Lw (s) _ t3 HX.out.2.2.2 (by omega) (by omega)).mono ?_
                    rintro e w9 ⟨rfl, r4, k4⟩
                    obtain ⟨u1, u2⟩ := row_turn t1 hbw k4 t2 HN.out
                    have hs9 : (bts (s)).length = (s).size := bts_length _
                    go_wp2_with fail
                    refine ⟨⟨_, k + 1, F1, Dsk.wr D q s, splice Lw q (bts (s)), rfl, by omega, by omega, by go_num, u2, HO.out, ⟨HX2.out.1, HX2.out.2, ?_, ?_⟩, r4, HF.out, HN.out, ?_, ?_, ?_, u1⟩, by simp [intOf]; omega⟩
                    · rw [kts_in hkk, ← HX.out.2.2.1, HPK.out]
                      rw [if_neg HL1.out]; rfl
                    · rw [length_splice _ _ _ (by rw [hs9, HX.out.2.2.2]; omega)]; exact HX.out.2.2.2
                    · rw [dsc_in hkk]
                      exact k4.own hown' (fun q' hq' hx' => by
                        injection hq' with hq'
                        have := List.mem_singleton.1 hx'
                        simp only at hq'
                        omega)
                    · rw [dsc_in hkk]; intro h; cases h
                    · intro q' hq'
                      injection hq' with hq'
                      simp only at hq'
                      subst hq'
                      exact ⟨fun h => by have := HFl.out _ h; omega, by omega⟩
                | false =>
                  by_cases hlt3 : k < kl.length
                  · have j1 : (k : Int) < (kl.length : Int) := by omega
                    obtain ⟨b2, o2, rfl, f0⟩ := HK.out.then_ HB.out k hlt3
                    rw [HKP.out, hkk] at f0
                    go_wp2_with fail
                    exact ⟨⟨_, k + 1, F1, Dsk.wr D q s, Lw, rfl, by omega, by omega, by go_num, HD.out, HO.out, ⟨HX2.out.1, HX2.out.2, by rw [kts_out hkk]; exact HX.out.2.2.1, HX.out.2.2.2⟩, HR.out, HF.out, HN.out, by rw [dsc_out hkk]; exact HW2.out, by rw [dsc_out hkk]; exact HNL.out, HS2.out, HB.out⟩, by simp [intOf]; omega⟩
                  · have j1 : ¬ (k : Int) < (kl.length : Int) := by omega
                    go_wp2_with fail
                    exact ⟨⟨_, k + 1, F1, Dsk.wr D q s, Lw, rfl, by omega, by omega, by go_num, HD.out, HO.out, ⟨HX2.out.1, HX2.out.2, by rw [kts_out hkk]; exact HX.out.2.2.1, HX.out.2.2.2⟩, HR.out, HF.out, HN.out, by rw [dsc_out hkk]; exact HW2.out, by rw [dsc_out hkk]; exact HNL.out, HS2.out, HB.out⟩, by simp [intOf]; omega⟩
              · rcases (show ¬ (k : Int) < (l.length : Int) ∨ ((k : Int) < (l.length : Int) ∧ ¬ (k : Int) < 20) by omega) with h1 | ⟨h1, h2⟩
                all_goals
                  have hLk : lst kp k = L := by rw [← HLL.out, show min l.length 20 = k by omega]
                  have HLK := Lib.hid hLk
                  clear hlt hB hLk
                  obtain ⟨O, oc, rfl, hI, -, -⟩ := own_ints HW.out
                  have HI := Lib.hid hI
                  have hdl := dsc_length kp k
                  clear hI
                  go_wp2_with fail
                  refine (crash_any g F D O oc (dsc kp k) t _ HD.out HI.out (by omega) HT.out.2 (by have := HO.out.2.2.2; omega)).mono ?_
                  rintro e w7 ⟨F7, rfl, d7, k7, n7⟩
                  obtain ⟨t1, t2, t3, t4⟩ := turn_row HB.out HF.out k7 n7 HR.out HN.out
                  have hse : (cr D (dsc kp k) t).sure.length = n := by rw [cr_length HD.out.ok]; exact HO.out.2.2.1
                  have hvv : (cr D (dsc kp k) t).vis = Lw := by
                    show overs D.sure (surv D (dsc kp k) t) = Lw
                    rw [surv_dsc HX.out.2.1, HX.out.1, HLK.out, ← HX.out.2.2.1]
                  obtain ⟨D7, hD7⟩ : ∃ D7, cr D (dsc kp k) t = D7 := ⟨_, rfl⟩
                  have hof : D7.off = false := by rw [← hD7]; rfl
                  rw [hD7] at d7 hse hvv
                  have HD7 := Lib.hid d7
                  have hcv := conv_row t3 0 n n (by rw [HX.out.2.2.2]; omega)
                  rw [show (Lw.drop 0).take n = Lw by rw [List.drop_zero, List.take_of_length_le (by rw [HX.out.2.2.2]; exact Nat.le_refl _)]] at hcv
                  have hrd : (D7.vis.drop 0).take n = Lw := by rw [hvv, List.drop_zero, List.take_of_length_le (by rw [HX.out.2.2.2]; exact Nat.le_refl _)]
                  obtain ⟨Z, hZ⟩ : ∃ Z, sof Lw = Z := ⟨_, rfl⟩
                  rw [hZ] at hcv
                  have HZ := Lib.hid hZ
                  have HRD := Lib.hid hrd
                  have HSE := Lib.hid hse
                  have HOF := Lib.hid hof
                  clear d7 k7 n7 hse hvv hZ hrd hD7 hof t2 t3 t4
                  go_wp2_with fail
                  refine (read_in 0 n g F7 _ _ HD7.out HOF.out (by rw [HSE.out]; omega)).mono ?_
                  rintro e w8 ⟨rfl, rfl⟩
                  rw [HRD.out, HZ.out]
                  go_wp2_with fail
                  go_ret
                  exact ⟨rfl, t1⟩
end Go.Proofs.Ytndfakbklfidhaa
